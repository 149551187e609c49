
/-
  Contracts of fence.count, Span, Blocks and of the reference's blocks, below, Block, Span, Blocks.
-/
import Derived.Test.YtndcjgkgkpkklaaFnD
import Derived.Test.YtndcjgkgkpkklaaKeysD
namespace Go.Proofs.Ytndcjgkgkpkklaa
open Go.RowKit
set_option linter.unusedSimpArgs false
set_option linter.unusedVariables false
set_option maxRecDepth 100000

def cnt (n s : Nat) : Nat := (n + s - 1) / s - 1
set_option maxHeartbeats 400000 in
theorem fenceCount (n s : Nat) (w : World) (hn : n ≤ 1000000) (hs : 1 ≤ s) (hs2 : s ≤ 1000000) :
    Calls Try.prog 75 #[.int .i64 (n : Int), .int .i64 (s : Int)] w (RD w (.int .i64 (cnt n s : Int))) := by
  have hd : (n + s - 1) / s ≤ n + s - 1 := Nat.div_le_self _ _
  have e : ((n : Int) + (s : Int) - 1) / (s : Int) = (((n + s - 1) / s : Nat) : Int) := by
    rw [show ((n : Int) + (s : Int) - 1) = ((n + s - 1 : Nat) : Int) by omega]; rfl
  unfold cnt
  generalize (n + s - 1) / s = q at *
  have hne : ((s : Int) == 0) = false := by simp; omega
  by_cases h : 1 ≤ q
  · have e2 : ((q - 1 : Nat) : Int) = (q : Int) - 1 := by omega
    rw [e2]
    go_enter Try.func75, Try.ntmps75
    go_wp2_with fail
    go_ret
    exact RD.mk (ival (by omega)) (by repeat (first | assumption | exact Dr.refl _ | apply Dr.drewN | apply Dr.drew | (refine Dr.trans ?_ (by assumption))))
  · have e2 : ((q - 1 : Nat) : Int) = 0 := by omega
    rw [e2]
    go_enter Try.func75, Try.ntmps75
    go_wp2_with fail
    go_ret
    exact RD.mk (ival (by omega)) (by repeat (first | assumption | exact Dr.refl _ | apply Dr.drewN | apply Dr.drew | (refine Dr.trans ?_ (by assumption))))

def spn (f : Fnc) (n : Int) (k : ByteArray) : Int × Int × Int :=
  if (if (fchk f).2 ≠ 0 then (fchk f).2 else kchk k) ≠ 0 then (0, 0, if (fchk f).2 ≠ 0 then (fchk f).2 else kchk k)
  else if n < 0 ∨ 5000 < n then (0, 0, 7) else if f.marks.length ≠ cnt n.toNat f.step.toNat then (0, 0, 6)
  else ((cntLe f.marks k : Int) * f.step, min ((cntLe f.marks k : Int) * f.step + f.step) n, 0)
theorem minInt (a b : Int) : (if b < a then b else a) = min a b := by omega

set_option maxRecDepth 100000 in
set_option maxHeartbeats 1000000 in
theorem fenceSpan (a : Option Addr) (c : Nat) (f : Fnc) (n : Int) (k : ByteArray) (w : World) (hf : FOk w a f) (hk : k.size ≤ maxLen) (hn1 : -9223372036854775808 ≤ n) (hn2 : n ≤ 9223372036854775807) :
    Calls Try.prog 73 #[f.v a c, .int .i64 n, .string k] w (RB w (.tuple #[.int .i64 (spn f n k).1, .int .i64 (spn f n k).2.1, .int .i64 (spn f n k).2.2])) := by
  have hA := fun g w h => fenceAsked a c f k g w h hk
  have hB := fun (hs : Asc f.marks) g w h => fenceBlockIn a c f.marks k g w h hf.len hs
  have ho : (if (fchk f).2 ≠ 0 then (fchk f).2 else kchk k) = 0 → (fchk f).2 = 0 := by
    intro h; by_cases h' : (fchk f).2 = 0
    · exact h'
    · simp [h'] at h
  unfold spn
  by_cases hq : (if (fchk f).2 ≠ 0 then (fchk f).2 else kchk k) = 0
  · obtain ⟨s1, s2, s3, s4, s5⟩ := fchk_ok (ho hq)
    rw [if_neg (by simp [hq])]
    rw [hq] at hA
    have hB' := hB s5
    have HF := Lib.hid hf
    obtain ⟨s, l⟩ := f
    unfold Fnc.v
    simp only at hA hB' s1 s2 s3 ⊢
    have HA := Lib.hid hA
    have HB := Lib.hid hB'
    clear hA hB hB' ho hq s4 s5 hf
    obtain ⟨s, rfl⟩ := Int.eq_ofNat_of_zero_le (show 0 ≤ s by omega)
    by_cases h1 : n < 0 ∨ 5000 < n
    · rw [if_pos h1]
      rcases h1 with h1 | h1
      · go_enter Try.func73, Try.ntmps73
        go_wp2_with fail
        refine (HA.out _ _ (HF.out.bl (by repeat (first | assumption | exact Bl.refl _ | apply Bl.drewN | apply Bl.drew | apply Bl.alloc | (refine Bl.dr ?_ (by assumption)) | (refine Bl.trans ?_ (by assumption))))) (by simp [go_sem]) (by simp [go_sem])).mono ?_; rintro e w1 ⟨rfl, hb1⟩
        go_wp2_with fail
        go_ret3
        exact rb_tuple3 rfl rfl rfl (by repeat (first | assumption | exact Bl.refl _ | apply Bl.drewN | apply Bl.drew | apply Bl.alloc | (refine Bl.dr ?_ (by assumption)) | (refine Bl.trans ?_ (by assumption))))
      · have h1' : ¬ n < 0 := by omega
        go_enter Try.func73, Try.ntmps73
        go_wp2_with fail
        refine (HA.out _ _ (HF.out.bl (by repeat (first | assumption | exact Bl.refl _ | apply Bl.drewN | apply Bl.drew | apply Bl.alloc | (refine Bl.dr ?_ (by assumption)) | (refine Bl.trans ?_ (by assumption))))) (by simp [go_sem]) (by simp [go_sem])).mono ?_; rintro e w1 ⟨rfl, hb1⟩
        go_wp2_with fail
        go_ret3
        exact rb_tuple3 rfl rfl rfl (by repeat (first | assumption | exact Bl.refl _ | apply Bl.drewN | apply Bl.drew | apply Bl.alloc | (refine Bl.dr ?_ (by assumption)) | (refine Bl.trans ?_ (by assumption))))
    · rw [if_neg h1]
      have h1' : ¬ n < 0 := by omega
      have h1'' : ¬ 5000 < n := by omega
      clear h1
      obtain ⟨n, rfl⟩ := Int.eq_ofNat_of_zero_le (show 0 ≤ n by omega)
      rw [Int.toNat_natCast, Int.toNat_natCast]
      have hC := fun w => fenceCount n s w (by omega) (by omega) (by omega)
      have hcl := cntLe_le l k
      generalize cntLe l k = r at *
      generalize cnt n s = q at *
      have HC := Lib.hid hC
      clear hC
      by_cases h2 : l.length = q
      · rw [if_neg (by omega)]
        have h2' : ((l.length : Int) != (q : Int)) = false := by simp [h2]
        have hrs : (r : Int) * (s : Int) ≤ 4999 * 64 := by
          have := Nat.mul_le_mul (show r ≤ 4999 by omega) (show s ≤ 64 by omega)
          have e : ((r * s : Nat) : Int) = (r : Int) * (s : Int) := by simp
          omega
        have hrs0 : 0 ≤ (r : Int) * (s : Int) := Int.mul_nonneg (by omega) (by omega)
        clear h2
        go_enter Try.func73, Try.ntmps73
        go_wp2_with fail
        refine (HA.out _ _ (HF.out.bl (by repeat (first | assumption | exact Bl.refl _ | apply Bl.drewN | apply Bl.drew | apply Bl.alloc | (refine Bl.dr ?_ (by assumption)) | (refine Bl.trans ?_ (by assumption))))) (by simp [go_sem]) (by simp [go_sem])).mono ?_; rintro e w1 ⟨rfl, hb1⟩
        have hb : Bl w w1 := (by repeat (first | assumption | exact Bl.refl _ | apply Bl.drewN | apply Bl.drew | apply Bl.alloc | (refine Bl.dr ?_ (by assumption)) | (refine Bl.trans ?_ (by assumption))))
        have c0 : w1.cell? ⟨w.heap.size, 0, none⟩ = some (.int .i64 (s : Int)) := hb1.cell (by simp [go_sem])
        have c1 : w1.cell? ⟨w.heap.size, 1, none⟩ = some (.slice a l.length c) := hb1.cell (by simp [go_sem])
        clear hb1
        go_wp2_with fail
        go_quiet (((go_at_call 75; first | with_reducible exact quietD (HC.out _) | with_reducible exact quietD2 (HC.out _))))
        go_wp2_with fail
        have c0' : ∀ x : BW w1, x.w.cell? ⟨w.heap.size, 0, none⟩ = some (.int .i64 (s : Int)) := BW.cell c0
        
        refine wp_region_quiet_bw w1 (by kernel_rfl) (by kernel_rfl) (by repeat (first | assumption | exact Bl.refl _ | apply Bl.drewN | apply Bl.drew | apply Bl.alloc | (refine Bl.dr ?_ (by assumption)) | (refine Bl.trans ?_ (by assumption)))) ?_
        repeat (go_big_quiet_step ((go_at_call 76; exact quietB (HB.out _ _ (HF.out.strs.bl (hb.trans (BW.h _))) (BW.cell c1 _)))))
        refine wpQuiet_nil ?_
        intro wq hw'
        have hwq : Bl w1 wq := by obtain ⟨x, hx⟩ := hw'; rw [hx]; exact x.h
        clear hw'
        have cq : wq.cell? ⟨w.heap.size, 0, none⟩ = some (.int .i64 (s : Int)) := hwq.cell c0
        by_cases hm : (n : Int) < (r : Int) * (s : Int) + (s : Int)
        all_goals
          go_wp2_with fail
          go_region
          go_wp2
          go_ret3
          exact rb_tuple3 rfl (ival (by omega)) rfl (by repeat (first | assumption | exact Bl.refl _ | apply Bl.drewN | apply Bl.drew | apply Bl.alloc | (refine Bl.dr ?_ (by assumption)) | (refine Bl.trans ?_ (by assumption))))
      · rw [if_pos h2]
        have h2' : ((l.length : Int) != (q : Int)) = true := by rw [bne_iff_ne]; omega
        clear h2
        go_enter Try.func73, Try.ntmps73
        go_wp2_with fail
        refine (HA.out _ _ (HF.out.bl (by repeat (first | assumption | exact Bl.refl _ | apply Bl.drewN | apply Bl.drew | apply Bl.alloc | (refine Bl.dr ?_ (by assumption)) | (refine Bl.trans ?_ (by assumption))))) (by simp [go_sem]) (by simp [go_sem])).mono ?_; rintro e w1 ⟨rfl, hb1⟩
        have hb : Bl w w1 := (by repeat (first | assumption | exact Bl.refl _ | apply Bl.drewN | apply Bl.drew | apply Bl.alloc | (refine Bl.dr ?_ (by assumption)) | (refine Bl.trans ?_ (by assumption))))
        have c0 : w1.cell? ⟨w.heap.size, 0, none⟩ = some (.int .i64 (s : Int)) := hb1.cell (by simp [go_sem])
        have c1 : w1.cell? ⟨w.heap.size, 1, none⟩ = some (.slice a l.length c) := hb1.cell (by simp [go_sem])
        clear hb1
        go_wp2_with fail
        go_quiet (((go_at_call 75; first | with_reducible exact quietD (HC.out _) | with_reducible exact quietD2 (HC.out _))))
        go_wp2_with fail
        go_ret3
        exact rb_tuple3 rfl rfl rfl (by repeat (first | assumption | exact Bl.refl _ | apply Bl.drewN | apply Bl.drew | apply Bl.alloc | (refine Bl.dr ?_ (by assumption)) | (refine Bl.trans ?_ (by assumption))))
  · rw [if_pos hq]
    have hq' : ((if (fchk f).2 ≠ 0 then (fchk f).2 else kchk k) != 0) = true := by simpa using hq
    generalize (if (fchk f).2 ≠ 0 then (fchk f).2 else kchk k) = q at *
    have HF := Lib.hid hf
    obtain ⟨s, l⟩ := f
    unfold Fnc.v
    simp only at hA ⊢
    have HA := Lib.hid hA
    clear hA hB ho hq hf
    go_enter Try.func73, Try.ntmps73
    go_wp2_with fail
    refine (HA.out _ _ (HF.out.bl (by repeat (first | assumption | exact Bl.refl _ | apply Bl.drewN | apply Bl.drew | apply Bl.alloc | (refine Bl.dr ?_ (by assumption)) | (refine Bl.trans ?_ (by assumption))))) (by simp [go_sem]) (by simp [go_sem])).mono ?_; rintro e w1 ⟨rfl, hb1⟩
    go_wp2_with fail
    go_ret3
    exact rb_tuple3 rfl rfl rfl (by repeat (first | assumption | exact Bl.refl _ | apply Bl.drewN | apply Bl.drew | apply Bl.alloc | (refine Bl.dr ?_ (by assumption)) | (refine Bl.trans ?_ (by assumption))))
end Go.Proofs.Ytndcjgkgkpkklaa

/-
  Contracts of the reference's Block, Span, Blocks and of fence.Blocks.
-/
import Derived.Test.YteafcbpogomioaaFnF
namespace Go.Proofs.Yteafcbpogomioaa
open Go.RowKit
set_option linter.unusedSimpArgs false
set_option linter.unusedVariables false

set_option maxHeartbeats 1000000 in
theorem refBlock (a : Option Addr) (c : Nat) (f : Fnc) (k : ByteArray) (w : World) (hf : FOk w a f) (hk : k.size ≤ maxLen) :
    Calls Try.prog 23 #[f.v a c, .string k] w (RB w (.tuple #[.int .i64 (fblk f k).1, .int .i64 (fblk f k).2])) := by
  have hC := fun w h => refFenceCheck a c f w h
  have hK := fun w => refCheck k w hk
  have hB := fun w h => refBelow a c f k w h hk
  unfold fblk
  generalize (fchk f).1 = q0 at *
  generalize (fchk f).2 = q1 at *
  generalize kchk k = q2 at *
  obtain ⟨s, l⟩ := f
  unfold Fnc.v at hC hB ⊢
  simp only at hC hB ⊢
  generalize cntLe l k = r2 at *
  generalize cntLt l k = r1 at *
  have HC := Lib.hid hC
  have HK := Lib.hid hK
  have HB := Lib.hid hB
  have HF := Lib.hid hf
  clear hC hK hB hf
  by_cases e1 : q1 = 0
  · have e1' : (q1 == 0) = true := by simp [e1]
    rw [if_neg (by simp [e1])]
    by_cases e2 : q2 = 0
    · have e2' : (q2 != 0) = false := by simp [e2]
      rw [if_neg (by simp [e2])]
      clear e1 e2
      go_enter Try.func23, Try.ntmps23
      go_wp2_with fail
      refine (HC.out _ (HF.out.bl (by repeat (first | assumption | exact Bl.refl _ | apply Bl.drewN | apply Bl.drew | apply Bl.alloc | (refine Bl.dr ?_ (by assumption)) | (refine Bl.trans ?_ (by assumption)))))).mono ?_; rintro e w1 ⟨rfl, hb1⟩
      have c0 : w1.cell? ⟨w.heap.size, 0, none⟩ = some (.int .i64 s) := hb1.cell (by simp [go_sem])
      have c1 : w1.cell? ⟨w.heap.size, 1, none⟩ = some (.slice a l.length c) := hb1.cell (by simp [go_sem])
      have hb : Bl w w1 := (by repeat (first | assumption | exact Bl.refl _ | apply Bl.drewN | apply Bl.drew | apply Bl.alloc | (refine Bl.dr ?_ (by assumption)) | (refine Bl.trans ?_ (by assumption))))
      go_wp2_with fail
      refine (HK.out _).mono ?_; rintro e w' ⟨rfl, n1, rfl⟩
      go_wp2_with fail
      refine (HB.out _ (HF.out.bl (hb.drewN _))).mono ?_; rintro e w2 ⟨rfl, hb2⟩
      go_wp2_with fail
      go_ret2
      exact rb_tuple rfl rfl (by repeat (first | assumption | exact Bl.refl _ | apply Bl.drewN | apply Bl.drew | apply Bl.alloc | (refine Bl.dr ?_ (by assumption)) | (refine Bl.trans ?_ (by assumption))))
    · have e2' : (q2 != 0) = true := by simp [e2]
      rw [if_pos e2]
      clear e1 e2
      go_enter Try.func23, Try.ntmps23
      go_wp2_with fail
      refine (HC.out _ (HF.out.bl (by repeat (first | assumption | exact Bl.refl _ | apply Bl.drewN | apply Bl.drew | apply Bl.alloc | (refine Bl.dr ?_ (by assumption)) | (refine Bl.trans ?_ (by assumption)))))).mono ?_; rintro e w1 ⟨rfl, hb1⟩
      go_wp2_with fail
      refine (HK.out _).mono ?_; rintro e w' ⟨rfl, n1, rfl⟩
      go_wp2_with fail
      go_ret2
      exact rb_tuple rfl rfl (by repeat (first | assumption | exact Bl.refl _ | apply Bl.drewN | apply Bl.drew | apply Bl.alloc | (refine Bl.dr ?_ (by assumption)) | (refine Bl.trans ?_ (by assumption))))
  · have e1' : (q1 == 0) = false := by simp [e1]
    have e2' : (q1 != 0) = true := by simp [e1]
    rw [if_pos e1]
    clear e1
    go_enter Try.func23, Try.ntmps23
    go_wp2_with fail
    refine (HC.out _ (HF.out.bl (by repeat (first | assumption | exact Bl.refl _ | apply Bl.drewN | apply Bl.drew | apply Bl.alloc | (refine Bl.dr ?_ (by assumption)) | (refine Bl.trans ?_ (by assumption)))))).mono ?_; rintro e w1 ⟨rfl, hb1⟩
    go_wp2_with fail
    go_ret2
    exact rb_tuple rfl rfl (by repeat (first | assumption | exact Bl.refl _ | apply Bl.drewN | apply Bl.drew | apply Bl.alloc | (refine Bl.dr ?_ (by assumption)) | (refine Bl.trans ?_ (by assumption))))

set_option maxRecDepth 100000 in
set_option maxHeartbeats 2000000 in
theorem refSpan (a : Option Addr) (c : Nat) (f : Fnc) (n : Int) (k : ByteArray) (w : World) (hf : FOk w a f) (hk : k.size ≤ maxLen) (hn1 : -9223372036854775808 ≤ n) (hn2 : n ≤ 9223372036854775807) :
    Calls Try.prog 30 #[f.v a c, .int .i64 n, .string k] w (RB w (.tuple #[.int .i64 (spn f n k).1, .int .i64 (spn f n k).2.1, .int .i64 (spn f n k).2.2])) := by
  have hC := fun w h => refFenceCheck a c f w h
  have hK := fun w => refCheck k w hk
  have hB := fun w h => refBelow a c f k w h hk
  unfold spn
  have hok := fchk_ok (f := f)
  generalize (fchk f).1 = q0 at *
  generalize (fchk f).2 = q1 at *
  generalize kchk k = q2 at *
  obtain ⟨s, l⟩ := f
  unfold Fnc.v at hC hB ⊢
  simp only at hC hB hok ⊢
  have HC := Lib.hid hC
  have HK := Lib.hid hK
  have HB := Lib.hid hB
  have HF := Lib.hid hf
  clear hC hK hB hf
  by_cases e1 : q1 = 0
  · obtain ⟨s1, s2, s3, s4, s5⟩ := hok e1
    clear hok s4 s5
    have e1' : (q1 == 0) = true := by simp [e1]
    rw [if_neg (show ¬ q1 ≠ 0 by simp [e1])]
    obtain ⟨s, rfl⟩ := Int.eq_ofNat_of_zero_le (show 0 ≤ s by omega)
    by_cases e2 : q2 = 0
    · have e2' : (q2 == 0) = true := by simp [e2]
      have e2'' : (q2 != 0) = false := by simp [e2]
      rw [if_neg (by simp [e2])]
      clear e1 e2
      by_cases h1 : n < 0 ∨ 5000 < n
      · rw [if_pos h1]
        rcases h1 with h1 | h1
        · go_enter Try.func30, Try.ntmps30
          go_wp2_with fail
          refine (HC.out _ (HF.out.bl (by repeat (first | assumption | exact Bl.refl _ | apply Bl.drewN | apply Bl.drew | apply Bl.alloc | (refine Bl.dr ?_ (by assumption)) | (refine Bl.trans ?_ (by assumption)))))).mono ?_; rintro e w1 ⟨rfl, hb1⟩
          go_wp2_with fail
          refine (HK.out _).mono ?_; rintro e w' ⟨rfl, n1, rfl⟩
          go_wp2_with fail
          go_quiet (fail)
          go_wp2_with fail
          go_ret3
          exact rb_tuple3 rfl rfl rfl (by repeat (first | assumption | exact Bl.refl _ | apply Bl.drewN | apply Bl.drew | apply Bl.alloc | (refine Bl.dr ?_ (by assumption)) | (refine Bl.trans ?_ (by assumption))))
        · have h1' : ¬ n < 0 := by omega
          go_enter Try.func30, Try.ntmps30
          go_wp2_with fail
          refine (HC.out _ (HF.out.bl (by repeat (first | assumption | exact Bl.refl _ | apply Bl.drewN | apply Bl.drew | apply Bl.alloc | (refine Bl.dr ?_ (by assumption)) | (refine Bl.trans ?_ (by assumption)))))).mono ?_; rintro e w1 ⟨rfl, hb1⟩
          go_wp2_with fail
          refine (HK.out _).mono ?_; rintro e w' ⟨rfl, n1, rfl⟩
          go_wp2_with fail
          go_quiet (fail)
          go_wp2_with fail
          go_ret3
          exact rb_tuple3 rfl rfl rfl (by repeat (first | assumption | exact Bl.refl _ | apply Bl.drewN | apply Bl.drew | apply Bl.alloc | (refine Bl.dr ?_ (by assumption)) | (refine Bl.trans ?_ (by assumption))))
      · rw [if_neg h1]
        have h1' : ¬ n < 0 := by omega
        have h1'' : ¬ 5000 < n := by omega
        clear h1
        obtain ⟨n, rfl⟩ := Int.eq_ofNat_of_zero_le (show 0 ≤ n by omega)
        rw [Int.toNat_natCast, Int.toNat_natCast]
        have hN := fun w => refBlocksN n s w (by omega) (by omega) (by omega)
        have hcl := cntLe_le l k
        have hq3 : (n + s - 1) / s ≤ n := (ceil_facts n s (by omega)).2.2
        unfold cnt
        generalize cntLe l k = r at *
        generalize cntLt l k = r1 at *
        generalize (n + s - 1) / s = q at *
        have HN := Lib.hid hN
        clear hN
        have hmx : (if (q : Int) - 1 < 0 then (0 : Int) else (q : Int) - 1) = ((q - 1 : Nat) : Int) := by split <;> omega
        by_cases h2 : l.length = q - 1
        · rw [if_neg (by omega)]
          have h2' : ((l.length : Int) != ((q - 1 : Nat) : Int)) = false := by simp [h2]
          have hrs : (r : Int) * (s : Int) ≤ 4999 * 64 := by
            have := Nat.mul_le_mul (show r ≤ 4999 by omega) (show s ≤ 64 by omega)
            have e : ((r * s : Nat) : Int) = (r : Int) * (s : Int) := by simp
            omega
          have hrs0 : 0 ≤ (r : Int) * (s : Int) := Int.mul_nonneg (by omega) (by omega)
          have hrs1 : ((r : Int) + 1) * (s : Int) = (r : Int) * (s : Int) + (s : Int) := by rw [Int.add_mul]; omega
          clear h2
          have hrs2 : 0 ≤ ((r : Int) + 1) * (s : Int) := by omega
          have hrs3 : ((r : Int) + 1) * (s : Int) ≤ 400000 := by omega
          have Hrs := Lib.hid hrs1
          clear hrs1
          by_cases hm : (q : Int) - 1 < 0
          all_goals
            first | have hz : ((l.length : Int) != 0) = false := (by rw [← h2']; congr 1; omega) | have hz : ((l.length : Int) != (q : Int) - 1) = false := (by rw [← h2']; congr 1; omega)
            clear h2' hmx
            by_cases hm3 : (n : Int) < ((r : Int) + 1) * (s : Int)
            all_goals
              go_enter Try.func30, Try.ntmps30
              go_wp2_with fail
              refine (HC.out _ (HF.out.bl (by repeat (first | assumption | exact Bl.refl _ | apply Bl.drewN | apply Bl.drew | apply Bl.alloc | (refine Bl.dr ?_ (by assumption)) | (refine Bl.trans ?_ (by assumption)))))).mono ?_; rintro e w1 ⟨rfl, hb1⟩
              have c0 : w1.cell? ⟨w.heap.size, 0, none⟩ = some (.int .i64 (s : Int)) := hb1.cell (by simp [go_sem])
              have c1 : w1.cell? ⟨w.heap.size, 1, none⟩ = some (.slice a l.length c) := hb1.cell (by simp [go_sem])
              have hb : Bl w w1 := (by repeat (first | assumption | exact Bl.refl _ | apply Bl.drewN | apply Bl.drew | apply Bl.alloc | (refine Bl.dr ?_ (by assumption)) | (refine Bl.trans ?_ (by assumption))))
              clear hb1
              go_wp2_with fail
              refine (HK.out _).mono ?_; rintro e w' ⟨rfl, n1, rfl⟩
              go_wp2_with fail
              go_quiet (((go_at_call 55; first | with_reducible exact quietD (HN.out _) | with_reducible exact quietD2 (HN.out _))))
              go_wp2_with fail
              refine (HB.out _ (HF.out.bl (by repeat (first | assumption | exact Bl.refl _ | apply Bl.drewN | apply Bl.drew | apply Bl.alloc | (refine Bl.dr ?_ (by assumption)) | (refine Bl.trans ?_ (by assumption)))))).mono ?_; rintro e w2 ⟨rfl, hb2⟩
              have d0 : w2.cell? ⟨w.heap.size, 0, none⟩ = some (.int .i64 (s : Int)) := hb2.cell c0
              go_wp2_with fail
              go_region
              go_wp2
              go_ret3
              exact rb_tuple3 rfl (ival (by have := Hrs.out; omega)) rfl (by repeat (first | assumption | exact Bl.refl _ | apply Bl.drewN | apply Bl.drew | apply Bl.alloc | (refine Bl.dr ?_ (by assumption)) | (refine Bl.trans ?_ (by assumption))))
        · rw [if_pos h2]
          have h2' : ((l.length : Int) != ((q - 1 : Nat) : Int)) = true := by rw [bne_iff_ne]; omega
          clear h2
          by_cases hm : (q : Int) - 1 < 0
          all_goals
            first | have hz : ((l.length : Int) != 0) = true := (by rw [← h2']; congr 1; omega) | have hz : ((l.length : Int) != (q : Int) - 1) = true := (by rw [← h2']; congr 1; omega)
            clear h2' hmx
            go_enter Try.func30, Try.ntmps30
            go_wp2_with fail
            refine (HC.out _ (HF.out.bl (by repeat (first | assumption | exact Bl.refl _ | apply Bl.drewN | apply Bl.drew | apply Bl.alloc | (refine Bl.dr ?_ (by assumption)) | (refine Bl.trans ?_ (by assumption)))))).mono ?_; rintro e w1 ⟨rfl, hb1⟩
            have c0 : w1.cell? ⟨w.heap.size, 0, none⟩ = some (.int .i64 (s : Int)) := hb1.cell (by simp [go_sem])
            have c1 : w1.cell? ⟨w.heap.size, 1, none⟩ = some (.slice a l.length c) := hb1.cell (by simp [go_sem])
            have hb : Bl w w1 := (by repeat (first | assumption | exact Bl.refl _ | apply Bl.drewN | apply Bl.drew | apply Bl.alloc | (refine Bl.dr ?_ (by assumption)) | (refine Bl.trans ?_ (by assumption))))
            clear hb1
            go_wp2_with fail
            refine (HK.out _).mono ?_; rintro e w' ⟨rfl, n1, rfl⟩
            go_wp2_with fail
            go_quiet (((go_at_call 55; first | with_reducible exact quietD (HN.out _) | with_reducible exact quietD2 (HN.out _))))
            go_wp2_with fail
            go_ret3
            exact rb_tuple3 rfl rfl rfl (by repeat (first | assumption | exact Bl.refl _ | apply Bl.drewN | apply Bl.drew | apply Bl.alloc | (refine Bl.dr ?_ (by assumption)) | (refine Bl.trans ?_ (by assumption))))
    · have e2' : (q2 == 0) = false := by simp [e2]
      have e2'' : (q2 != 0) = true := by simp [e2]
      rw [if_pos e2]
      clear e1 e2
      go_enter Try.func30, Try.ntmps30
      go_wp2_with fail
      refine (HC.out _ (HF.out.bl (by repeat (first | assumption | exact Bl.refl _ | apply Bl.drewN | apply Bl.drew | apply Bl.alloc | (refine Bl.dr ?_ (by assumption)) | (refine Bl.trans ?_ (by assumption)))))).mono ?_; rintro e w1 ⟨rfl, hb1⟩
      go_wp2_with fail
      refine (HK.out _).mono ?_; rintro e w' ⟨rfl, n1, rfl⟩
      go_wp2_with fail
      go_quiet (fail)
      go_wp2_with fail
      go_ret3
      exact rb_tuple3 rfl rfl rfl (by repeat (first | assumption | exact Bl.refl _ | apply Bl.drewN | apply Bl.drew | apply Bl.alloc | (refine Bl.dr ?_ (by assumption)) | (refine Bl.trans ?_ (by assumption))))
  · have e1' : (q1 == 0) = false := by simp [e1]
    have e2' : (q1 != 0) = true := by simp [e1]
    rw [if_pos e1, if_pos e1]
    clear e1 hok
    go_enter Try.func30, Try.ntmps30
    go_wp2_with fail
    refine (HC.out _ (HF.out.bl (by repeat (first | assumption | exact Bl.refl _ | apply Bl.drewN | apply Bl.drew | apply Bl.alloc | (refine Bl.dr ?_ (by assumption)) | (refine Bl.trans ?_ (by assumption)))))).mono ?_; rintro e w1 ⟨rfl, hb1⟩
    go_wp2_with fail
    go_quiet (fail)
    go_wp2_with fail
    go_ret3
    exact rb_tuple3 rfl rfl rfl (by repeat (first | assumption | exact Bl.refl _ | apply Bl.drewN | apply Bl.drew | apply Bl.alloc | (refine Bl.dr ?_ (by assumption)) | (refine Bl.trans ?_ (by assumption))))
end Go.Proofs.Yteafcbpogomioaa

/-
  Own texts laid together: KeysD FnE FnF FnG FnH FnI FnJ FnK FnL FnM.
-/
import Derived.Test.YtndcjgkgkpkklaaDoorZd
import Derived.Test.YtndcjgkgkpkklaaDoorZc
import Derived.Test.YtndcjgkgkpkklaaDoorZa
/-
  Contracts of keys.CheckRange, In, Empty and of the reference's CheckRange, Has, Empty.
-/
namespace Go.Proofs.YtndcjgkgkpkklaaDoor
open Go.RowKit
set_option linter.unusedSimpArgs false
set_option linter.unusedVariables false
set_option maxRecDepth 100000

structure Rng where
  lo : ByteArray
  hi : ByteArray
  bd : Bool
def Rng.v (r : Rng) : Value := .agg #[.string r.lo, .string r.hi, .bool r.bd]
def Rng.ok (r : Rng) : Prop := r.lo.size ≤ maxLen ∧ r.hi.size ≤ maxLen
def rchk (r : Rng) : Int := if ktwo r.lo r.hi ≠ 0 then 3 else if r.bd = false ∧ r.hi.size ≠ 0 then 6 else 0
def rhas (r : Rng) (k : ByteArray) : Bool := !slt k r.lo && (!r.bd || slt k r.hi)
theorem ktwo_cases (s t : ByteArray) : ktwo s t = 3 ∨ ktwo s t = 0 := by unfold ktwo; split <;> simp
theorem empty_iff (s : ByteArray) : (s.toList.isEmpty = true) ↔ s.size = 0 := by
  rw [toL, List.isEmpty_iff_length_eq_zero]; simp

set_option maxHeartbeats 400000 in
theorem keysCheckRange (r : Rng) (w : World) (hr : r.ok) : Calls Tryd.prog 17 #[r.v] w (RB w (.int .i64 (rchk r))) := by
  obtain ⟨s, t, b⟩ := r
  obtain ⟨hs, ht⟩ := hr
  simp only at hs ht
  unfold Rng.v rchk
  simp only
  have ha := fun a c w h => keysAll a c [s, t] w h (by unfold maxLen; simp)
  rw [kall_two] at ha
  have h2 := fun w => strs2 w s t hs ht 9
  have H2 := Lib.hid h2
  clear h2
  rcases ktwo_cases s t with hk | hk
  · rw [hk] at ha
    have Ha := Lib.hid ha
    rw [hk]
    clear ha hk
    go_enter Tryd.func17, Tryd.ntmps17
    go_wp2_with (go_at_call 24; refine (Ha.out _ _ _ (H2.out _ _ (by simp))).mono ?_; rintro e w' ⟨rfl, n1, rfl⟩)
    go_ret
    exact RB.mk rfl (by repeat (first | assumption | exact Bl.refl _ | apply Bl.drewN | apply Bl.drew | apply Bl.alloc | (refine Bl.dr ?_ (by assumption)) | (refine Bl.trans ?_ (by assumption))))
  · rw [hk] at ha
    have Ha := Lib.hid ha
    rw [hk]
    clear ha hk
    have he := empty_iff t
    cases b
    · by_cases h : t.size = 0
      · have he' := he.2 h
        rw [if_neg (by simp), if_neg (by simp [h])]
        clear he h
        go_enter Tryd.func17, Tryd.ntmps17
        go_wp2_with (go_at_call 24; refine (Ha.out _ _ _ (H2.out _ _ (by simp))).mono ?_; rintro e w' ⟨rfl, n1, rfl⟩)
        go_ret
        exact RB.mk rfl (by repeat (first | assumption | exact Bl.refl _ | apply Bl.drewN | apply Bl.drew | apply Bl.alloc | (refine Bl.dr ?_ (by assumption)) | (refine Bl.trans ?_ (by assumption))))
      · have he' : t.toList.isEmpty = false := by cases h' : t.toList.isEmpty; rfl; exact absurd (he.1 h') h
        rw [if_neg (by simp), if_pos (by simp [h])]
        clear he h
        go_enter Tryd.func17, Tryd.ntmps17
        go_wp2_with (go_at_call 24; refine (Ha.out _ _ _ (H2.out _ _ (by simp))).mono ?_; rintro e w' ⟨rfl, n1, rfl⟩)
        go_ret
        exact RB.mk rfl (by repeat (first | assumption | exact Bl.refl _ | apply Bl.drewN | apply Bl.drew | apply Bl.alloc | (refine Bl.dr ?_ (by assumption)) | (refine Bl.trans ?_ (by assumption))))
    · rw [if_neg (by simp), if_neg (by simp)]
      clear he
      go_enter Tryd.func17, Tryd.ntmps17
      go_wp2_with (go_at_call 24; refine (Ha.out _ _ _ (H2.out _ _ (by simp))).mono ?_; rintro e w' ⟨rfl, n1, rfl⟩)
      go_ret
      exact RB.mk rfl (by repeat (first | assumption | exact Bl.refl _ | apply Bl.drewN | apply Bl.drew | apply Bl.alloc | (refine Bl.dr ?_ (by assumption)) | (refine Bl.trans ?_ (by assumption))))

theorem cmpS_geq (a b : ByteArray) : decide (0 ≤ cmpS a b) = !slt a b := by
  unfold cmpS; cases h : slt a b
  · by_cases k : a.toList = b.toList <;> simp [k]
  · simp
theorem cmpS_lss (a b : ByteArray) : decide (cmpS a b < 0) = slt a b := by
  unfold cmpS; cases h : slt a b
  · by_cases k : a.toList = b.toList <;> simp [k]
  · simp
theorem cmpS_leq (a b : ByteArray) : decide (cmpS a b ≤ 0) = !slt b a := by
  rw [← cmpS_gt]; by_cases h : 0 < cmpS a b <;> simp [h] <;> omega

/-! ### Empty, In -/
def rin (r : Rng) (k : ByteArray) : Bool × Int := if rchk r ≠ 0 then (false, rchk r) else if kchk k ≠ 0 then (false, kchk k) else (rhas r k, 0)
def remp (r : Rng) : Bool × Int := if rchk r ≠ 0 then (false, rchk r) else (r.bd && !slt r.lo r.hi, 0)
theorem rchk_bd (r : Rng) : 0 ≤ rchk r ∧ rchk r ≤ 6 := by unfold rchk; split <;> (try split) <;> omega
theorem remp_in (r : Rng) : remp r = (decide ((rin r r.lo).2 = 0) && !(rin r r.lo).1, (rin r r.lo).2) := by
  unfold remp rin
  by_cases h : rchk r ≠ 0
  · simp [h]
  · have h0 : rchk r = 0 := by simpa using h
    have h1 : kchk r.lo = 0 := by
      unfold rchk ktwo at h0; unfold kchk
      split at h0
      · simp at h0
      · rename_i hh; simp at hh; rw [if_neg (by omega)]
    simp [h0, h1, rhas, slt_irrefl]


end Go.Proofs.YtndcjgkgkpkklaaDoor
/-
  Contracts of fence.count, Span, Blocks and of the reference's blocks, below, Block, Span, Blocks.
-/
namespace Go.Proofs.YtndcjgkgkpkklaaDoor
open Go.RowKit
set_option linter.unusedSimpArgs false
set_option linter.unusedVariables false
set_option maxRecDepth 100000

def cnt (n s : Nat) : Nat := (n + s - 1) / s - 1
set_option maxHeartbeats 400000 in
theorem fenceCount (n s : Nat) (w : World) (hn : n ≤ 1000000) (hs : 1 ≤ s) (hs2 : s ≤ 1000000) :
    Calls Tryd.prog 72 #[.int .i64 (n : Int), .int .i64 (s : Int)] w (RD w (.int .i64 (cnt n s : Int))) := by
  have hd : (n + s - 1) / s ≤ n + s - 1 := Nat.div_le_self _ _
  have e : ((n : Int) + (s : Int) - 1) / (s : Int) = (((n + s - 1) / s : Nat) : Int) := by
    rw [show ((n : Int) + (s : Int) - 1) = ((n + s - 1 : Nat) : Int) by omega]; rfl
  unfold cnt
  generalize (n + s - 1) / s = q at *
  have hne : ((s : Int) == 0) = false := by simp; omega
  by_cases h : 1 ≤ q
  · have e2 : ((q - 1 : Nat) : Int) = (q : Int) - 1 := by omega
    rw [e2]
    go_enter Tryd.func72, Tryd.ntmps72
    go_wp2_with fail
    go_ret
    exact RD.mk (ival (by omega)) (by repeat (first | assumption | exact Dr.refl _ | apply Dr.drewN | apply Dr.drew | (refine Dr.trans ?_ (by assumption))))
  · have e2 : ((q - 1 : Nat) : Int) = 0 := by omega
    rw [e2]
    go_enter Tryd.func72, Tryd.ntmps72
    go_wp2_with fail
    go_ret
    exact RD.mk (ival (by omega)) (by repeat (first | assumption | exact Dr.refl _ | apply Dr.drewN | apply Dr.drew | (refine Dr.trans ?_ (by assumption))))

def spn (f : Fnc) (n : Int) (k : ByteArray) : Int × Int × Int :=
  if (if (fchk f).2 ≠ 0 then (fchk f).2 else kchk k) ≠ 0 then (0, 0, if (fchk f).2 ≠ 0 then (fchk f).2 else kchk k)
  else if n < 0 ∨ 5000 < n then (0, 0, 7) else if f.marks.length ≠ cnt n.toNat f.step.toNat then (0, 0, 6)
  else ((cntLe f.marks k : Int) * f.step, min ((cntLe f.marks k : Int) * f.step + f.step) n, 0)
theorem minInt (a b : Int) : (if b < a then b else a) = min a b := by omega

set_option maxRecDepth 100000 in
set_option maxHeartbeats 1000000 in
theorem fenceSpan (a : Option Addr) (c : Nat) (f : Fnc) (n : Int) (k : ByteArray) (w : World) (hf : FOk w a f) (hk : k.size ≤ maxLen) (hn1 : -9223372036854775808 ≤ n) (hn2 : n ≤ 9223372036854775807) :
    Calls Tryd.prog 70 #[f.v a c, .int .i64 n, .string k] w (RB w (.tuple #[.int .i64 (spn f n k).1, .int .i64 (spn f n k).2.1, .int .i64 (spn f n k).2.2])) := by
  have hA := fun g w h => fenceAsked a c f k g w h hk
  have hB := fun (hs : Asc f.marks) g w h => fenceBlockIn a c f.marks k g w h hf.len hs
  have ho : (if (fchk f).2 ≠ 0 then (fchk f).2 else kchk k) = 0 → (fchk f).2 = 0 := by
    intro h; by_cases h' : (fchk f).2 = 0
    · exact h'
    · simp [h'] at h
  unfold spn
  by_cases hq : (if (fchk f).2 ≠ 0 then (fchk f).2 else kchk k) = 0
  · obtain ⟨s1, s2, s3, s4, s5⟩ := fchk_ok (ho hq)
    rw [if_neg (by simp [hq])]
    rw [hq] at hA
    have hB' := hB s5
    have HF := Lib.hid hf
    obtain ⟨s, l⟩ := f
    unfold Fnc.v
    simp only at hA hB' s1 s2 s3 ⊢
    have HA := Lib.hid hA
    have HB := Lib.hid hB'
    clear hA hB hB' ho hq s4 s5 hf
    obtain ⟨s, rfl⟩ := Int.eq_ofNat_of_zero_le (show 0 ≤ s by omega)
    by_cases h1 : n < 0 ∨ 5000 < n
    · rw [if_pos h1]
      rcases h1 with h1 | h1
      · go_enter Tryd.func70, Tryd.ntmps70
        go_wp2_with fail
        refine (HA.out _ _ (HF.out.bl (by repeat (first | assumption | exact Bl.refl _ | apply Bl.drewN | apply Bl.drew | apply Bl.alloc | (refine Bl.dr ?_ (by assumption)) | (refine Bl.trans ?_ (by assumption))))) (by simp [go_sem]) (by simp [go_sem])).mono ?_; rintro e w1 ⟨rfl, hb1⟩
        go_wp2_with fail
        go_ret3
        exact rb_tuple3 rfl rfl rfl (by repeat (first | assumption | exact Bl.refl _ | apply Bl.drewN | apply Bl.drew | apply Bl.alloc | (refine Bl.dr ?_ (by assumption)) | (refine Bl.trans ?_ (by assumption))))
      · have h1' : ¬ n < 0 := by omega
        go_enter Tryd.func70, Tryd.ntmps70
        go_wp2_with fail
        refine (HA.out _ _ (HF.out.bl (by repeat (first | assumption | exact Bl.refl _ | apply Bl.drewN | apply Bl.drew | apply Bl.alloc | (refine Bl.dr ?_ (by assumption)) | (refine Bl.trans ?_ (by assumption))))) (by simp [go_sem]) (by simp [go_sem])).mono ?_; rintro e w1 ⟨rfl, hb1⟩
        go_wp2_with fail
        go_ret3
        exact rb_tuple3 rfl rfl rfl (by repeat (first | assumption | exact Bl.refl _ | apply Bl.drewN | apply Bl.drew | apply Bl.alloc | (refine Bl.dr ?_ (by assumption)) | (refine Bl.trans ?_ (by assumption))))
    · rw [if_neg h1]
      have h1' : ¬ n < 0 := by omega
      have h1'' : ¬ 5000 < n := by omega
      clear h1
      obtain ⟨n, rfl⟩ := Int.eq_ofNat_of_zero_le (show 0 ≤ n by omega)
      rw [Int.toNat_natCast, Int.toNat_natCast]
      have hC := fun w => fenceCount n s w (by omega) (by omega) (by omega)
      have hcl := cntLe_le l k
      generalize cntLe l k = r at *
      generalize cnt n s = q at *
      have HC := Lib.hid hC
      clear hC
      by_cases h2 : l.length = q
      · rw [if_neg (by omega)]
        have h2' : ((l.length : Int) != (q : Int)) = false := by simp [h2]
        have hrs : (r : Int) * (s : Int) ≤ 4999 * 64 := by
          have := Nat.mul_le_mul (show r ≤ 4999 by omega) (show s ≤ 64 by omega)
          have e : ((r * s : Nat) : Int) = (r : Int) * (s : Int) := by simp
          omega
        have hrs0 : 0 ≤ (r : Int) * (s : Int) := Int.mul_nonneg (by omega) (by omega)
        clear h2
        go_enter Tryd.func70, Tryd.ntmps70
        go_wp2_with fail
        refine (HA.out _ _ (HF.out.bl (by repeat (first | assumption | exact Bl.refl _ | apply Bl.drewN | apply Bl.drew | apply Bl.alloc | (refine Bl.dr ?_ (by assumption)) | (refine Bl.trans ?_ (by assumption))))) (by simp [go_sem]) (by simp [go_sem])).mono ?_; rintro e w1 ⟨rfl, hb1⟩
        have hb : Bl w w1 := (by repeat (first | assumption | exact Bl.refl _ | apply Bl.drewN | apply Bl.drew | apply Bl.alloc | (refine Bl.dr ?_ (by assumption)) | (refine Bl.trans ?_ (by assumption))))
        have c0 : w1.cell? ⟨w.heap.size, 0, none⟩ = some (.int .i64 (s : Int)) := hb1.cell (by simp [go_sem])
        have c1 : w1.cell? ⟨w.heap.size, 1, none⟩ = some (.slice a l.length c) := hb1.cell (by simp [go_sem])
        clear hb1
        go_wp2_with fail
        go_quiet (((go_at_call 72; first | with_reducible exact quietD (HC.out _) | with_reducible exact quietD2 (HC.out _))))
        go_wp2_with fail
        have c0' : ∀ x : BW w1, x.w.cell? ⟨w.heap.size, 0, none⟩ = some (.int .i64 (s : Int)) := BW.cell c0
        
        refine wp_region_quiet_bw w1 (by kernel_rfl) (by kernel_rfl) (by repeat (first | assumption | exact Bl.refl _ | apply Bl.drewN | apply Bl.drew | apply Bl.alloc | (refine Bl.dr ?_ (by assumption)) | (refine Bl.trans ?_ (by assumption)))) ?_
        repeat (go_big_quiet_step ((go_at_call 73; exact quietB (HB.out _ _ (HF.out.strs.bl (hb.trans (BW.h _))) (BW.cell c1 _)))))
        refine wpQuiet_nil ?_
        intro wq hw'
        have hwq : Bl w1 wq := by obtain ⟨x, hx⟩ := hw'; rw [hx]; exact x.h
        clear hw'
        have cq : wq.cell? ⟨w.heap.size, 0, none⟩ = some (.int .i64 (s : Int)) := hwq.cell c0
        by_cases hm : (n : Int) < (r : Int) * (s : Int) + (s : Int)
        all_goals
          go_wp2_with fail
          go_region
          go_wp2
          go_ret3
          exact rb_tuple3 rfl (ival (by omega)) rfl (by repeat (first | assumption | exact Bl.refl _ | apply Bl.drewN | apply Bl.drew | apply Bl.alloc | (refine Bl.dr ?_ (by assumption)) | (refine Bl.trans ?_ (by assumption))))
      · rw [if_pos h2]
        have h2' : ((l.length : Int) != (q : Int)) = true := by rw [bne_iff_ne]; omega
        clear h2
        go_enter Tryd.func70, Tryd.ntmps70
        go_wp2_with fail
        refine (HA.out _ _ (HF.out.bl (by repeat (first | assumption | exact Bl.refl _ | apply Bl.drewN | apply Bl.drew | apply Bl.alloc | (refine Bl.dr ?_ (by assumption)) | (refine Bl.trans ?_ (by assumption))))) (by simp [go_sem]) (by simp [go_sem])).mono ?_; rintro e w1 ⟨rfl, hb1⟩
        have hb : Bl w w1 := (by repeat (first | assumption | exact Bl.refl _ | apply Bl.drewN | apply Bl.drew | apply Bl.alloc | (refine Bl.dr ?_ (by assumption)) | (refine Bl.trans ?_ (by assumption))))
        have c0 : w1.cell? ⟨w.heap.size, 0, none⟩ = some (.int .i64 (s : Int)) := hb1.cell (by simp [go_sem])
        have c1 : w1.cell? ⟨w.heap.size, 1, none⟩ = some (.slice a l.length c) := hb1.cell (by simp [go_sem])
        clear hb1
        go_wp2_with fail
        go_quiet (((go_at_call 72; first | with_reducible exact quietD (HC.out _) | with_reducible exact quietD2 (HC.out _))))
        go_wp2_with fail
        go_ret3
        exact rb_tuple3 rfl rfl rfl (by repeat (first | assumption | exact Bl.refl _ | apply Bl.drewN | apply Bl.drew | apply Bl.alloc | (refine Bl.dr ?_ (by assumption)) | (refine Bl.trans ?_ (by assumption))))
  · rw [if_pos hq]
    have hq' : ((if (fchk f).2 ≠ 0 then (fchk f).2 else kchk k) != 0) = true := by simpa using hq
    generalize (if (fchk f).2 ≠ 0 then (fchk f).2 else kchk k) = q at *
    have HF := Lib.hid hf
    obtain ⟨s, l⟩ := f
    unfold Fnc.v
    simp only at hA ⊢
    have HA := Lib.hid hA
    clear hA hB ho hq hf
    go_enter Tryd.func70, Tryd.ntmps70
    go_wp2_with fail
    refine (HA.out _ _ (HF.out.bl (by repeat (first | assumption | exact Bl.refl _ | apply Bl.drewN | apply Bl.drew | apply Bl.alloc | (refine Bl.dr ?_ (by assumption)) | (refine Bl.trans ?_ (by assumption))))) (by simp [go_sem]) (by simp [go_sem])).mono ?_; rintro e w1 ⟨rfl, hb1⟩
    go_wp2_with fail
    go_ret3
    exact rb_tuple3 rfl rfl rfl (by repeat (first | assumption | exact Bl.refl _ | apply Bl.drewN | apply Bl.drew | apply Bl.alloc | (refine Bl.dr ?_ (by assumption)) | (refine Bl.trans ?_ (by assumption))))
end Go.Proofs.YtndcjgkgkpkklaaDoor
/-
  Contracts of the reference's blocks, below, Block, Span.
-/
namespace Go.Proofs.YtndcjgkgkpkklaaDoor
open Go.RowKit
set_option linter.unusedSimpArgs false
set_option linter.unusedVariables false
set_option maxRecDepth 100000

theorem ceil_facts (n s : Nat) (hs : 1 ≤ s) : n ≤ (n + s - 1) / s * s ∧ (∀ m, m < (n + s - 1) / s → m * s < n) ∧ (n + s - 1) / s ≤ n := by
  have h1 := Nat.div_add_mod (n + s - 1) s
  have h2 := Nat.mod_lt (n + s - 1) (show 0 < s by omega)
  generalize hq : (n + s - 1) / s = q at *
  have h3 : s * q = q * s := Nat.mul_comm _ _
  refine ⟨by omega, fun m hm => ?_, ?_⟩
  · have h4 : (m + 1) * s ≤ q * s := Nat.mul_le_mul_right s (by omega)
    rw [Nat.add_mul] at h4; omega
  · rcases Nat.lt_or_ge n q with h | h
    · have h4 : (n + 1) * s ≤ q * s := Nat.mul_le_mul_right s (by omega)
      have h5 : n * 1 ≤ n * s := Nat.mul_le_mul_left n hs
      rw [Nat.add_mul] at h4; omega
    · exact h

/-- As the reference counts them. -/
theorem cntLt_take {l : List ByteArray} {j : Nat} {x : ByteArray} (h : l[j]? = some x) (k : ByteArray) : cntLt (l.take (j + 1)) k = cntLt (l.take j) k + if slt x k = true then 1 else 0 := by
  obtain ⟨hk, rfl⟩ := List.getElem?_eq_some_iff.1 h
  rw [List.take_succ_eq_append_getElem hk]; unfold cntLt; rw [List.filter_append, List.length_append]
  cases h : slt l[j] k <;> simp [h]
theorem cntLe_take {l : List ByteArray} {j : Nat} {x : ByteArray} (h : l[j]? = some x) (k : ByteArray) : cntLe (l.take (j + 1)) k = cntLe (l.take j) k + if slt k x = true then 0 else 1 := by
  obtain ⟨hk, rfl⟩ := List.getElem?_eq_some_iff.1 h
  rw [List.take_succ_eq_append_getElem hk]; unfold cntLe; rw [List.filter_append, List.length_append]
  cases h : slt k l[j] <;> simp [h]

end Go.Proofs.YtndcjgkgkpkklaaDoor
/-
  Contracts of the reference's Block, Span, Blocks and of fence.Blocks.
-/
namespace Go.Proofs.YtndcjgkgkpkklaaDoor
open Go.RowKit
set_option linter.unusedSimpArgs false
set_option linter.unusedVariables false
set_option maxRecDepth 100000

end Go.Proofs.YtndcjgkgkpkklaaDoor
/-
  Contracts of fence.Blocks and of the reference's Blocks.
-/
namespace Go.Proofs.YtndcjgkgkpkklaaDoor
open Go.RowKit
set_option linter.unusedSimpArgs false
set_option linter.unusedVariables false
set_option maxRecDepth 100000

def blks (f : Fnc) (r : Rng) : Int × Int × Int :=
  if (fchk f).2 ≠ 0 then (0, 0, (fchk f).2) else if (remp r).2 ≠ 0 then (0, 0, (remp r).2) else if (remp r).1 = true then (0, 0, 0)
  else ((cntLe f.marks r.lo : Int), (if r.bd = true then (cntLt f.marks r.hi : Int) else (f.marks.length : Int)) + 1, 0)

theorem remp_chk (r : Rng) : (remp r).2 = rchk r := by unfold remp; split <;> simp_all

end Go.Proofs.YtndcjgkgkpkklaaDoor
/-
  Contracts of fence.fits, Fits and of the reference's fits, Fits.
-/
namespace Go.Proofs.YtndcjgkgkpkklaaDoor
open Go.RowKit
set_option linter.unusedSimpArgs false
set_option linter.unusedVariables false
set_option maxRecDepth 100000

def fitAt (s : Nat) (m : List ByteArray) (l : List Ent) (i : Nat) : Bool :=
  match m[i]?, l[(i + 1) * s - 1]?, l[(i + 1) * s]? with
  | some m, some x, some y => slt x.key m && !slt y.key m
  | _, _, _ => false
def fitB (s : Nat) (m : List ByteArray) (l : List Ent) : Bool := decide (m.length = cnt l.length s) && (List.range m.length).all (fitAt s m l)
theorem fitB_len {s : Nat} {m : List ByteArray} {l : List Ent} (h : m.length ≠ cnt l.length s) : fitB s m l = false := by simp [fitB, h]
theorem fitB_no {s : Nat} {m : List ByteArray} {l : List Ent} {k : Nat} (hk : k < m.length) (h : fitAt s m l k = false) : fitB s m l = false := by
  unfold fitB
  rw [Bool.and_eq_false_iff]; right
  rw [List.all_eq_false]
  exact ⟨k, by simp [hk], by simp [h]⟩
theorem fitB_yes {s : Nat} {m : List ByteArray} {l : List Ent} (h0 : m.length = cnt l.length s) (h : ∀ k, k < m.length → fitAt s m l k = true) : fitB s m l = true := by
  unfold fitB
  rw [Bool.and_eq_true]
  exact ⟨by simp [h0], by rw [List.all_eq_true]; intro x hx; exact h x (by simpa using hx)⟩
theorem cnt_at {n s k : Nat} (hs : 1 ≤ s) (h : k < cnt n s) : (k + 1) * s < n := by
  unfold cnt at h
  exact (ceil_facts n s hs).2.1 _ (by omega)

end Go.Proofs.YtndcjgkgkpkklaaDoor
/-
  Contracts of fence.Fits, Find and of the reference's Fits, Find.
-/
namespace Go.Proofs.YtndcjgkgkpkklaaDoor
open Go.RowKit
set_option linter.unusedSimpArgs false
set_option linter.unusedVariables false
set_option maxRecDepth 100000

theorem clchk_len {l : List Ent} (h : (clchk l).2 = 0) : l.length ≤ 5000 := by
  unfold clchk at h; split at h
  · simp at h
  · omega
def ffits (f : Fnc) (l : List Ent) : Bool × Int := if (fchk f).2 ≠ 0 then (false, (fchk f).2) else if (clchk l).2 ≠ 0 then (false, (clchk l).2) else (fitB f.step.toNat f.marks l, 0)

end Go.Proofs.YtndcjgkgkpkklaaDoor
/-
  Contracts of fence.Find and of the reference's Find.
-/
namespace Go.Proofs.YtndcjgkgkpkklaaDoor
open Go.RowKit
set_option linter.unusedSimpArgs false
set_option linter.unusedVariables false
set_option maxRecDepth 100000

/-! ### What is looked for is in its span -/
abbrev AscE (l : List Ent) : Prop := l.Pairwise (fun a b => slt a.key b.key = true)
theorem clGo_ok : ∀ (l : List Ent) (i : Nat) (p : Option ByteArray), (clGo i p l).2 = 0 →
    (∀ m, m ∈ l → echk m = 0) ∧ (∀ q, p = some q → ∀ m, m ∈ l → slt q m.key = true) ∧ AscE l
  | [], _, _, _ => by simp
  | m :: r, i, p, h => by
    unfold clGo at h
    split at h
    · rename_i h1; exact absurd h h1
    · rename_i h1
      split at h
      · simp at h
      · rename_i h2
        obtain ⟨a, b, c⟩ := clGo_ok r (i + 1) (some m.key) h
        have hm := b m.key rfl
        refine ⟨?_, ?_, ?_⟩
        · intro x hx
          rcases List.mem_cons.1 hx with rfl | hx
          · simpa using h1
          · exact a x hx
        · rintro q rfl x hx
          have hq : slt q m.key = true := by simpa [pbad] using h2
          rcases List.mem_cons.1 hx with rfl | hx
          · exact hq
          · exact slt_trans hq (hm x hx)
        · exact List.pairwise_cons.2 ⟨hm, c⟩
theorem clchk_ok {l : List Ent} (h : (clchk l).2 = 0) : l.length ≤ 5000 ∧ (∀ m, m ∈ l → echk m = 0) ∧ AscE l := by
  have hl := clchk_len h
  unfold clchk at h; rw [if_neg (by omega)] at h
  obtain ⟨a, _, b⟩ := clGo_ok _ _ _ h
  exact ⟨hl, a, b⟩
theorem ascE_lt {l : List Ent} (h : AscE l) {i j : Nat} {x y : Ent} (hx : l[i]? = some x) (hy : l[j]? = some y) (hij : i < j) : slt x.key y.key = true := by
  obtain ⟨h1, rfl⟩ := List.getElem?_eq_some_iff.1 hx
  obtain ⟨h2, rfl⟩ := List.getElem?_eq_some_iff.1 hy
  exact List.pairwise_iff_getElem.1 h i j h1 h2 hij
theorem atGo_from : ∀ (l : List Ent) (n : Nat) (k : ByteArray) (i : Nat) (x : Ent), l[i]? = some x → x.key = k → (∀ j y, j < i → l[j]? = some y → y.key ≠ k) → atGo n k l = ((n + i : Nat) : Int)
  | [], _, _, _, _, h, _, _ => by simp at h
  | a :: l, n, k, i, x, h, hk, hj => by
    unfold atGo
    cases i with
    | zero => simp at h; subst h; subst hk; simp
    | succ i =>
      have h0 := hj 0 a (by omega) (by simp)
      have h1 : ¬ a.key.toList = k.toList := fun e => h0 (str_ext e)
      rw [if_neg h1, atGo_from l (n + 1) k i x (by simpa using h) hk (fun j y hji hy => hj (j + 1) y (by omega) (by simpa using hy))]
      congr 1; omega
theorem atGo_none : ∀ (l : List Ent) (n : Nat) (k : ByteArray), (∀ y, y ∈ l → y.key ≠ k) → atGo n k l = -1
  | [], _, _, _ => rfl
  | a :: l, n, k, h => by
    unfold atGo
    have h1 : ¬ a.key.toList = k.toList := fun e => h a (by simp) (str_ext e)
    rw [if_neg h1, atGo_none l (n + 1) k (fun y hy => h y (by simp [hy]))]
theorem fitB_spec {s : Nat} {m : List ByteArray} {l : List Ent} (h : fitB s m l = true) : m.length = cnt l.length s ∧ ∀ i x, m[i]? = some x → ∃ y z, l[(i + 1) * s - 1]? = some y ∧ l[(i + 1) * s]? = some z ∧ slt y.key x = true ∧ slt z.key x = false := by
  unfold fitB at h
  rw [Bool.and_eq_true] at h
  refine ⟨by simpa using h.1, fun i x hx => ?_⟩
  have h2 := List.all_eq_true.1 h.2 i (by simp; exact (List.getElem?_eq_some_iff.1 hx).1)
  unfold fitAt at h2
  rw [hx] at h2
  cases h3 : l[(i + 1) * s - 1]? with
  | none => simp [h3] at h2
  | some y =>
    cases h4 : l[(i + 1) * s]? with
    | none => simp [h3, h4] at h2
    | some z => simp [h3, h4] at h2; exact ⟨y, z, rfl, rfl, h2.1, h2.2⟩
/-- An entry of the key lies in the key's block. -/
theorem in_block {s : Nat} {m : List ByteArray} {l : List Ent} (hs : 1 ≤ s) (hm : Asc m) (hl : AscE l) (hf : fitB s m l = true) {i : Nat} {x : Ent} (hx : l[i]? = some x) :
    cntLe m x.key * s ≤ i ∧ i < cntLe m x.key * s + s := by
  obtain ⟨h1, h2⟩ := fitB_spec hf
  obtain ⟨p1, p2⟩ := cntLe_part hm x.key
  have hle := cntLe_le m x.key
  generalize cntLe m x.key = b at *
  have hi := (List.getElem?_eq_some_iff.1 hx).1
  constructor
  · rcases Nat.eq_zero_or_pos b with h0 | h0
    · rw [h0]; omega
    · obtain ⟨y, hy⟩ : ∃ y, m[b - 1]? = some y := ⟨_, List.getElem?_eq_getElem (by omega)⟩
      have q1 := p1 (b - 1) y hy (by omega)
      obtain ⟨u, v, hu, hv, q2, q3⟩ := h2 (b - 1) y hy
      rw [show b - 1 + 1 = b by omega] at hu hv
      rcases Nat.lt_or_ge i (b * s) with hlt | hge
      · exfalso
        have hk : slt x.key y = true := by
          rcases Nat.lt_or_ge i (b * s - 1) with h3 | h3
          · exact slt_trans (ascE_lt hl hx hu h3) q2
          · have : i = b * s - 1 := by omega
            rw [this, hu] at hx; injection hx with hx; rw [← hx]; exact q2
        rw [hk] at q1; cases q1
      · exact hge
  · rcases Nat.lt_or_ge b m.length with h0 | h0
    · obtain ⟨y, hy⟩ : ∃ y, m[b]? = some y := ⟨_, List.getElem?_eq_getElem h0⟩
      have q1 := p2 b y hy (Nat.le_refl _)
      obtain ⟨u, v, hu, hv, q2, q3⟩ := h2 b y hy
      rw [show (b + 1) * s = b * s + s by rw [Nat.add_mul]; omega] at hv
      rcases Nat.lt_or_ge i (b * s + s) with hlt | hge
      · exact hlt
      · exfalso
        have hvk : slt v.key x.key = true ∨ v = x := by
          rcases Nat.lt_or_ge (b * s + s) i with h3 | h3
          · exact .inl (ascE_lt hl hv hx h3)
          · have : i = b * s + s := by omega
            rw [this, hv] at hx; injection hx with hx; exact .inr hx
        have : slt v.key y = true := by
          rcases hvk with h3 | h3
          · exact slt_trans h3 q1
          · rw [h3]; exact q1
        rw [this] at q3; cases q3
    · have hb : b = m.length := by omega
      rw [hb, h1]
      have := (ceil_facts l.length s hs).1
      unfold cnt
      rcases Nat.eq_zero_or_pos ((l.length + s - 1) / s) with h3 | h3
      · rw [h3] at this; omega
      · have h4 : ((l.length + s - 1) / s - 1) * s + s = (l.length + s - 1) / s * s := by
          have h5 : ((l.length + s - 1) / s - 1 + 1) * s = ((l.length + s - 1) / s - 1) * s + s := by rw [Nat.add_mul]; omega
          rw [← h5]; congr 1; omega
        omega

def cntLtE (l : List Ent) (k : ByteArray) : Nat := (l.filter fun (x : Ent) => !!slt x.key k).length
theorem cntLtE_le (l : List Ent) (k : ByteArray) : cntLtE l k ≤ l.length := List.length_filter_le _ _
theorem cntLtE_part {l : List Ent} (h : AscE l) (k : ByteArray) :
    (∀ j x, l[j]? = some x → j < cntLtE l k → (!slt x.key k) = false) ∧ (∀ j x, l[j]? = some x → cntLtE l k ≤ j → (!slt x.key k) = true) :=
  part_point (fun (x : Ent) => !slt x.key k) (fun a b hab ha => by
    cases hb : slt b.key k
    · rfl
    · have := slt_trans hab hb; rw [this] at ha; cases ha) l h
/-- The search within a stretch that has the entry, if there is one. -/
theorem find_in {l : List Ent} (hl : AscE l) (k : ByteArray) (fr to : Nat) (h1 : fr ≤ to) (h2 : to ≤ l.length) (hin : ∀ i x, l[i]? = some x → x.key = k → fr ≤ i ∧ i < to) :
    (∃ x, l[fr + cntLtE ((l.drop fr).take (to - fr)) k]? = some x ∧ fr + cntLtE ((l.drop fr).take (to - fr)) k < to ∧ x.key = k ∧ atGo 0 k l = ((fr + cntLtE ((l.drop fr).take (to - fr)) k : Nat) : Int)) ∨
    ((fr + cntLtE ((l.drop fr).take (to - fr)) k = to ∨ ∃ x, l[fr + cntLtE ((l.drop fr).take (to - fr)) k]? = some x ∧ fr + cntLtE ((l.drop fr).take (to - fr)) k < to ∧ x.key ≠ k) ∧ atGo 0 k l = -1) := by
  have hL : AscE ((l.drop fr).take (to - fr)) := (hl.drop).take
  have hlen : ((l.drop fr).take (to - fr)).length = to - fr := by simp; omega
  have hget : ∀ j x, j < to - fr → (((l.drop fr).take (to - fr))[j]? = some x ↔ l[fr + j]? = some x) := by
    intro j x hj
    rw [List.getElem?_take_of_lt hj, List.getElem?_drop]
  have hcl := cntLtE_le ((l.drop fr).take (to - fr)) k
  obtain ⟨p1, p2⟩ := cntLtE_part hL k
  generalize cntLtE ((l.drop fr).take (to - fr)) k = r at *
  rw [hlen] at hcl
  by_cases he : ∃ (i : Nat) (x : Ent), l[i]? = some x ∧ x.key = k
  · obtain ⟨i, x, hx, hk⟩ := he
    obtain ⟨i1, i2⟩ := hin i x hx hk
    have hi : l[fr + (i - fr)]? = some x := by rw [show fr + (i - fr) = i by omega]; exact hx
    have hLi := (hget (i - fr) x (by omega)).2 hi
    have hr : r = i - fr := by
      rcases Nat.lt_trichotomy r (i - fr) with h | h | h
      · exfalso
        obtain ⟨y, hy⟩ : ∃ y, l[fr + r]? = some y := ⟨_, List.getElem?_eq_getElem (by omega)⟩
        have q := p2 r y ((hget r y (by omega)).2 hy) (Nat.le_refl _)
        have := ascE_lt hl hy hx (by omega)
        rw [← hk, this] at q; cases q
      · exact h
      · exfalso
        have q := p1 (i - fr) x hLi h
        rw [← hk, slt_irrefl] at q; cases q
    left
    refine ⟨x, by rw [hr]; exact hi, by omega, hk, ?_⟩
    rw [atGo_from l 0 k i x hx hk]
    · congr 1; omega
    · intro j y hj hy e
      have := ascE_lt hl hy hx hj
      rw [e, hk, slt_irrefl] at this; cases this
  · right
    refine ⟨?_, atGo_none l 0 k fun y hy e => by
      obtain ⟨i, hi, rfl⟩ := List.getElem_of_mem hy
      exact he ⟨i, _, List.getElem?_eq_getElem hi, e⟩⟩
    rcases Nat.lt_or_ge (fr + r) to with h | h
    · right
      obtain ⟨y, hy⟩ : ∃ y, l[fr + r]? = some y := ⟨_, List.getElem?_eq_getElem (by omega)⟩
      exact ⟨y, hy, h, fun e => he ⟨_, y, hy, e⟩⟩
    · left; omega

/-! ### Find -/
def ffind (f : Fnc) (l : List Ent) (k : ByteArray) : Int × Int :=
  if (ffits f l).2 ≠ 0 then (0, (ffits f l).2) else if kchk k ≠ 0 then (0, kchk k) else if (ffits f l).1 = false then (0, 6) else if atGo 0 k l < 0 then (0, 4) else (atGo 0 k l, 0)
theorem ffits_ok {f : Fnc} {l : List Ent} (h : (ffits f l).2 = 0) : (fchk f).2 = 0 ∧ (clchk l).2 = 0 ∧ (ffits f l).1 = fitB f.step.toNat f.marks l := by
  unfold ffits at h ⊢
  by_cases h1 : (fchk f).2 = 0
  · by_cases h2 : (clchk l).2 = 0
    · simp [h1, h2]
    · simp [h1, h2] at h
  · simp [h1] at h

/-- A part of a list in memory. -/
theorem Ents.cut {w : World} {b off : Nat} {l : List Ent} (h : Ents w (some ⟨b, off, none⟩) l) (fr to : Nat) : Ents w (some ⟨b, off + fr * 4, none⟩) ((l.drop fr).take (to - fr)) := by
  refine ⟨fun x hx => h.ok x (List.mem_of_mem_drop (List.mem_of_mem_take hx)), fun hn => ?_⟩
  refine ⟨b, off + fr * 4, rfl, fun i x hx => ?_⟩
  have hl : l ≠ [] := by rintro rfl; simp at hn
  obtain ⟨b', off', e, hat⟩ := h.at_ hl
  injection e with e; injection e with e1 e2
  subst e1 e2
  have hi : i < to - fr := by
    have := (List.getElem?_eq_some_iff.1 hx).1; simp at this; omega
  rw [List.getElem?_take_of_lt hi, List.getElem?_drop] at hx
  have := hat (fr + i) x hx
  rwa [show off + (fr + i) * 4 = off + fr * 4 + i * 4 by omega] at this


end Go.Proofs.YtndcjgkgkpkklaaDoor
/-
  Contracts of fence.blocks over entries.
-/
namespace Go.Proofs.YtndcjgkgkpkklaaDoor
open Go.RowKit
set_option linter.unusedSimpArgs false
set_option linter.unusedVariables false
set_option maxRecDepth 100000

/-- The block i of a list of n entries at b, off, with s entries a block. -/
def blkV (b off s n c i : Nat) : Value := .slice (some ⟨b, off + i * s * 4, none⟩) (min s (n - i * s)) (if (i + 1) * s < n then s else c - i * s)
def BlkOut (B b off s n c q : Nat) (w : World) (v : Value) : Prop := ∃ a' c', v = .slice a' q c' ∧ q ≤ c' ∧ (0 < q → ∃ g, a' = some ⟨g, 0, none⟩ ∧ B ≤ g ∧ ∀ i, i < q → w.cell? ⟨g, i, none⟩ = some (blkV b off s n c i))

set_option maxRecDepth 100000 in
set_option maxHeartbeats 2000000 in
theorem fenceBlocksE (b off c : Nat) (n s : Nat) (w : World) (hs1 : 1 ≤ s) (hs2 : s ≤ 64) (hn : n ≤ 5000) (hn0 : 0 < n) (hcap : n ≤ c) (hcap2 : c ≤ maxLen) :
    Calls Tryd.prog 34 #[.slice (some ⟨b, off, none⟩) n c, .int .i64 (s : Int)] w (RM w (BlkOut w.heap.size b off s n c ((n + s - 1) / s))) := by
  obtain ⟨i0, hi, hz0, hz1, hz2⟩ := info_parts inf_ents
  unfold maxLen at hcap2
  go_enter Tryd.func34, Tryd.ntmps34
  go_wp2_with fail
  go_loopg [0, 4] n (fun g l out wr => ∃ k : Nat, (0 < k → k * s < n) ∧ l = .slice (some ⟨b, off + k * s * 4, none⟩) (n - k * s) (c - k * s) ∧ wr.ownsRow w.heap.size 22 1 out k ((List.range k).map (blkV b off s n c)) ∧ Bl w wr ∧ g = n - k)
  case atStart => exact ⟨0, by omega, by simp, by simpa using own_nil _ _ _ _, Bl.refl _, rfl⟩
  case round =>
    obtain ⟨k, hk, rfl, hown, hb, hg⟩ := hrel
    have G := Lib.hid hg
    have hk' : k * s < n := by
      rcases Nat.eq_zero_or_pos k with h | h
      · rw [h]; omega
      · exact hk h
    have hkn : k ≤ k * s := Nat.le_mul_of_pos_right k (by omega)
    obtain ⟨t, ht⟩ : ∃ t, t = k * s := ⟨_, rfl⟩
    have hks : (k + 1) * s = k * s + s := by rw [Nat.add_mul]; omega
    have HO := Lib.hid hown
    clear hown hg
    by_cases h2 : s < n - k * s
    · go_wp2_with (at_builtin; refine wpList_append_own _ rfl _ _ 83 rfl w.heap.size 22 i0 (.slice none 0 0) 1 24 Tryd.underlying83 hi hz0 hz1 hz2 rfl (by decide) _ _ _ rfl (HO.out.alloc _) ⟨wr.heap.size, 0, none⟩ 1 1 [.slice (some ⟨b, off + k * s * 4, none⟩) s s] rfl rfl ?c1 ?c2 ?c3 ?c4 ?c5 ?_)
      case c1 => exact one_new _ _ _
      case c2 => intro u hu; simp at hu; subst hu; rfl
      case c3 => unfold maxLen; omega
      case c4 => omega
      case c5 => simp; have := hb.size; omega
      intro v' w1 hown1 hgrow _
      have hb1 : Bl w w1 := grown_bl (hb.alloc _) (HO.out.alloc _) hgrow (Nat.le_refl _)
      have hbv : blkV b off s n c k = .slice (some ⟨b, off + k * s * 4, none⟩) s s := by
        unfold blkV; rw [Nat.min_eq_left (by omega), if_pos (by omega)]
      rw [← hbv] at hown1
      have hown2 : w1.ownsRow w.heap.size 22 1 v' (k + 1) ((List.range (k + 1)).map (blkV b off s n c)) := by
        rw [List.range_succ, List.map_append]; exact hown1
      have HO2 := Lib.hid hown2
      have HKS := Lib.hid hks
      have hcs : ¬ c - k * s = s := by omega
      clear hown1 hown2 hgrow hbv hks
      go_wp2_with fail
      go_roundg (n - (k + 1))
      case rel =>
        refine ⟨k + 1, by intro _; rw [HKS.out]; omega, ?_, HO2.out, hb1, rfl⟩
        rw [HKS.out]
        congr 1
        · congr 2; omega
        · omega
        · omega
      case measure => rw [G.out]; omega
    · have hq : (n + s - 1) / s = k + 1 := by
        obtain ⟨f1, f2, f3⟩ := ceil_facts n s hs1
        rcases Nat.lt_trichotomy ((n + s - 1) / s) (k + 1) with h | h | h
        · have := Nat.mul_le_mul_right s (show (n + s - 1) / s ≤ k by omega); omega
        · exact h
        · have := f2 (k + 1) h; omega
      have HQ := Lib.hid hq
      have hpos : 0 < n - k * s := by omega
      clear hq
      go_wp2_with (at_builtin; refine wpList_append_own _ rfl _ _ 83 rfl w.heap.size 22 i0 (.slice none 0 0) 1 24 Tryd.underlying83 hi hz0 hz1 hz2 rfl (by decide) _ _ _ rfl (HO.out.alloc _) ⟨wr.heap.size, 0, none⟩ 1 1 [.slice (some ⟨b, off + k * s * 4, none⟩) (n - k * s) (c - k * s)] rfl rfl ?c1 ?c2 ?c3 ?c4 ?c5 ?_)
      case c1 => exact one_new _ _ _
      case c2 => intro u hu; simp at hu; subst hu; rfl
      case c3 => unfold maxLen; omega
      case c4 => omega
      case c5 => simp; have := hb.size; omega
      intro v' w1 hown1 hgrow _
      have hb1 : Bl w w1 := grown_bl (hb.alloc _) (HO.out.alloc _) hgrow (Nat.le_refl _)
      have hbv : blkV b off s n c k = .slice (some ⟨b, off + k * s * 4, none⟩) (n - k * s) (c - k * s) := by
        unfold blkV; rw [Nat.min_eq_right (by omega), if_neg (by omega)]
      rw [← hbv] at hown1
      have hown2 : w1.ownsRow w.heap.size 22 1 v' (k + 1) ((List.range (k + 1)).map (blkV b off s n c)) := by
        rw [List.range_succ, List.map_append]; exact hown1
      have HO2 := Lib.hid hown2
      clear hown1 hown2 hgrow hbv hks
      go_wp2_with fail
      go_ret
      refine RM.mk ?_ hb1
      obtain ⟨a', c', e, h1, h2, h3⟩ := own_form HO2.out
      refine ⟨a', c', by rw [e, HQ.out]; rfl, by rw [HQ.out]; exact h1, fun _ => ?_⟩
      obtain ⟨g, eg, hge, _, hc⟩ := h3 (by omega)
      refine ⟨g, eg, hge, fun i hi => hc i _ ?_⟩
      rw [HQ.out] at hi
      simp [hi]
end Go.Proofs.YtndcjgkgkpkklaaDoor
/-
  Contracts of fence.Make and of the reference's Make.
-/
namespace Go.Proofs.YtndcjgkgkpkklaaDoor
open Go.RowKit
set_option linter.unusedSimpArgs false
set_option linter.unusedVariables false
set_option maxRecDepth 100000

def mkM (l : List Ent) (s i : Nat) : ByteArray := match l[(i + 1) * s - 1]?, l[(i + 1) * s]? with
  | some x, some y => betS x.key y.key
  | _, _ => mt
def mkMs (l : List Ent) (s n : Nat) : List ByteArray := (List.range n).map (mkM l s)
def fmake (l : List Ent) (s : Int) : Fnc × Int := if (clchk l).2 ≠ 0 then (⟨0, []⟩, (clchk l).2) else if s < 1 ∨ 64 < s then (⟨0, []⟩, 7) else (⟨s, mkMs l s.toNat (cnt l.length s.toNat)⟩, 0)
theorem echk_key {x : Ent} (h : echk x = 0) : x.key.size ≤ 32 ∧ x.val.size ≤ 64 := by
  unfold echk at h
  split at h
  · simp at h
  · omega
theorem betS_size (s t : ByteArray) (hs : s.size ≤ 32) : (betS s t).size ≤ 33 := by
  have hle := (cmn_le s.data.toList t.data.toList).1
  simp only [Array.length_toList, ByteArray.size_data] at hle
  unfold betS
  rw [ByteArray.size_append, ByteArray.size_extract, show (⟨#[endB s (cmn s.data.toList t.data.toList)]⟩ : ByteArray).size = 1 from rfl]; omega
theorem betw_ok {s t : ByteArray} (hs : s.size ≤ 32) (ht : t.size ≤ 32) (h : slt s t = true) : betw s t = (betS s t, 0) := by
  unfold betw; rw [if_neg (by simp [ktwo]; omega), if_pos h]
def FOut (f : Fnc) (e : Int) (w : World) (v : Value) : Prop := ∃ a c, v = .tuple #[f.v a c, .int .i64 e] ∧ Strs w a f.marks ∧ f.marks.length ≤ c ∧ c ≤ maxLen
theorem mkMs_size {l : List Ent} (h : ∀ m, m ∈ l → echk m = 0) (s n : Nat) : ∀ x, x ∈ mkMs l s n → x.size ≤ 33 := by
  intro x hx
  obtain ⟨i, _, rfl⟩ := List.mem_map.1 hx
  unfold mkM
  split
  · rename_i x y h1 h2
    exact betS_size _ _ (echk_key (h _ (List.mem_of_getElem? h1))).1
  · show (0 : Nat) ≤ 33; omega
theorem mkMs_len (l : List Ent) (s n : Nat) : (mkMs l s n).length = n := by simp [mkMs]
theorem mkMs_succ (l : List Ent) (s n : Nat) : mkMs l s (n + 1) = mkMs l s n ++ [mkM l s n] := by simp [mkMs, List.range_succ]

theorem cnt_lt {n s k : Nat} (hs : 1 ≤ s) (h : (k + 1) * s < n) : k < cnt n s := by
  have h1 := (ceil_facts n s hs).1
  unfold cnt
  rcases Nat.lt_or_ge k ((n + s - 1) / s - 1) with h2 | h2
  · exact h2
  · have := Nat.mul_le_mul_right s (show (n + s - 1) / s ≤ k + 1 by omega); omega

end Go.Proofs.YtndcjgkgkpkklaaDoor


/-
  Contracts of keys.CheckRange, In, Empty and of the reference's CheckRange, Has, Empty.
-/
import Derived.Test.YtldccffbjohokaaDoorKeysC
namespace Go.Proofs.YtldccffbjohokaaDoor
open Go.RowKit
set_option linter.unusedSimpArgs false
set_option linter.unusedVariables false
set_option maxRecDepth 100000

structure Rng where
  lo : ByteArray
  hi : ByteArray
  bd : Bool
def Rng.v (r : Rng) : Value := .agg #[.string r.lo, .string r.hi, .bool r.bd]
def Rng.ok (r : Rng) : Prop := r.lo.size ≤ maxLen ∧ r.hi.size ≤ maxLen
def rchk (r : Rng) : Int := if ktwo r.lo r.hi ≠ 0 then 3 else if r.bd = false ∧ r.hi.size ≠ 0 then 6 else 0
def rhas (r : Rng) (k : ByteArray) : Bool := !slt k r.lo && (!r.bd || slt k r.hi)
theorem ktwo_cases (s t : ByteArray) : ktwo s t = 3 ∨ ktwo s t = 0 := by unfold ktwo; split <;> simp
theorem empty_iff (s : ByteArray) : (s.toList.isEmpty = true) ↔ s.size = 0 := by
  rw [toL, List.isEmpty_iff_length_eq_zero]; simp

set_option maxHeartbeats 400000 in
theorem keysCheckRange (r : Rng) (w : World) (hr : r.ok) : Calls Tryd.prog 36 #[r.v] w (RB w (.int .i64 (rchk r))) := by
  obtain ⟨s, t, b⟩ := r
  obtain ⟨hs, ht⟩ := hr
  simp only at hs ht
  unfold Rng.v rchk
  simp only
  have ha := fun a c w h => keysAll a c [s, t] w h (by unfold maxLen; simp)
  rw [kall_two] at ha
  have h2 := fun w => strs2 w s t hs ht 9
  have H2 := Lib.hid h2
  clear h2
  rcases ktwo_cases s t with hk | hk
  · rw [hk] at ha
    have Ha := Lib.hid ha
    rw [hk]
    clear ha hk
    go_enter Tryd.func36, Tryd.ntmps36
    go_wp2_with (go_at_call 43; refine (Ha.out _ _ _ (H2.out _ _ (by simp))).mono ?_; rintro e w' ⟨rfl, n1, rfl⟩)
    go_ret
    exact RB.mk rfl (by repeat (first | assumption | exact Bl.refl _ | apply Bl.drewN | apply Bl.drew | apply Bl.alloc | (refine Bl.dr ?_ (by assumption)) | (refine Bl.trans ?_ (by assumption))))
  · rw [hk] at ha
    have Ha := Lib.hid ha
    rw [hk]
    clear ha hk
    have he := empty_iff t
    cases b
    · by_cases h : t.size = 0
      · have he' := he.2 h
        rw [if_neg (by simp), if_neg (by simp [h])]
        clear he h
        go_enter Tryd.func36, Tryd.ntmps36
        go_wp2_with (go_at_call 43; refine (Ha.out _ _ _ (H2.out _ _ (by simp))).mono ?_; rintro e w' ⟨rfl, n1, rfl⟩)
        go_ret
        exact RB.mk rfl (by repeat (first | assumption | exact Bl.refl _ | apply Bl.drewN | apply Bl.drew | apply Bl.alloc | (refine Bl.dr ?_ (by assumption)) | (refine Bl.trans ?_ (by assumption))))
      · have he' : t.toList.isEmpty = false := by cases h' : t.toList.isEmpty; rfl; exact absurd (he.1 h') h
        rw [if_neg (by simp), if_pos (by simp [h])]
        clear he h
        go_enter Tryd.func36, Tryd.ntmps36
        go_wp2_with (go_at_call 43; refine (Ha.out _ _ _ (H2.out _ _ (by simp))).mono ?_; rintro e w' ⟨rfl, n1, rfl⟩)
        go_ret
        exact RB.mk rfl (by repeat (first | assumption | exact Bl.refl _ | apply Bl.drewN | apply Bl.drew | apply Bl.alloc | (refine Bl.dr ?_ (by assumption)) | (refine Bl.trans ?_ (by assumption))))
    · rw [if_neg (by simp), if_neg (by simp)]
      clear he
      go_enter Tryd.func36, Tryd.ntmps36
      go_wp2_with (go_at_call 43; refine (Ha.out _ _ _ (H2.out _ _ (by simp))).mono ?_; rintro e w' ⟨rfl, n1, rfl⟩)
      go_ret
      exact RB.mk rfl (by repeat (first | assumption | exact Bl.refl _ | apply Bl.drewN | apply Bl.drew | apply Bl.alloc | (refine Bl.dr ?_ (by assumption)) | (refine Bl.trans ?_ (by assumption))))

set_option maxHeartbeats 400000 in
theorem refCheckRange (r : Rng) (w : World) (hr : r.ok) : Calls Tryd.prog 37 #[r.v] w (RB w (.int .i64 (rchk r))) := by
  obtain ⟨s, t, b⟩ := r
  obtain ⟨hs, ht⟩ := hr
  simp only at hs ht
  unfold Rng.v rchk
  simp only
  have ha := fun w => refTwo s t w hs ht
  rcases ktwo_cases s t with hk | hk
  · rw [hk] at ha
    have Ha := Lib.hid ha
    rw [hk]
    clear ha hk
    go_enter Tryd.func37, Tryd.ntmps37
    go_wp2_with (go_at_call 45; refine (Ha.out _).mono ?_; rintro e w' ⟨rfl, n1, rfl⟩)
    go_ret
    exact RB.mk rfl (by repeat (first | assumption | exact Bl.refl _ | apply Bl.drewN | apply Bl.drew | apply Bl.alloc | (refine Bl.dr ?_ (by assumption)) | (refine Bl.trans ?_ (by assumption))))
  · rw [hk] at ha
    have Ha := Lib.hid ha
    rw [hk]
    clear ha hk
    have he := empty_iff t
    cases b
    · by_cases h : t.size = 0
      · have he' := he.2 h
        rw [if_neg (by simp), if_neg (by simp [h])]
        clear he h
        go_enter Tryd.func37, Tryd.ntmps37
        go_wp2_with (go_at_call 45; refine (Ha.out _).mono ?_; rintro e w' ⟨rfl, n1, rfl⟩)
        go_ret
        exact RB.mk rfl (by repeat (first | assumption | exact Bl.refl _ | apply Bl.drewN | apply Bl.drew | apply Bl.alloc | (refine Bl.dr ?_ (by assumption)) | (refine Bl.trans ?_ (by assumption))))
      · have he' : t.toList.isEmpty = false := by cases h' : t.toList.isEmpty; rfl; exact absurd (he.1 h') h
        rw [if_neg (by simp), if_pos (by simp [h])]
        clear he h
        go_enter Tryd.func37, Tryd.ntmps37
        go_wp2_with (go_at_call 45; refine (Ha.out _).mono ?_; rintro e w' ⟨rfl, n1, rfl⟩)
        go_ret
        exact RB.mk rfl (by repeat (first | assumption | exact Bl.refl _ | apply Bl.drewN | apply Bl.drew | apply Bl.alloc | (refine Bl.dr ?_ (by assumption)) | (refine Bl.trans ?_ (by assumption))))
    · rw [if_neg (by simp), if_neg (by simp)]
      clear he
      go_enter Tryd.func37, Tryd.ntmps37
      go_wp2_with (go_at_call 45; refine (Ha.out _).mono ?_; rintro e w' ⟨rfl, n1, rfl⟩)
      go_ret
      exact RB.mk rfl (by repeat (first | assumption | exact Bl.refl _ | apply Bl.drewN | apply Bl.drew | apply Bl.alloc | (refine Bl.dr ?_ (by assumption)) | (refine Bl.trans ?_ (by assumption))))

theorem cmpS_geq (a b : ByteArray) : decide (0 ≤ cmpS a b) = !slt a b := by
  unfold cmpS; cases h : slt a b
  · by_cases k : a.toList = b.toList <;> simp [k]
  · simp
theorem cmpS_lss (a b : ByteArray) : decide (cmpS a b < 0) = slt a b := by
  unfold cmpS; cases h : slt a b
  · by_cases k : a.toList = b.toList <;> simp [k]
  · simp
theorem cmpS_leq (a b : ByteArray) : decide (cmpS a b ≤ 0) = !slt b a := by
  rw [← cmpS_gt]; by_cases h : 0 < cmpS a b <;> simp [h] <;> omega

set_option maxHeartbeats 400000 in
theorem refHas (r : Rng) (k : ByteArray) (w : World) (hr : r.ok) (hk : k.size ≤ maxLen) : Calls Tryd.prog 54 #[r.v, .string k] w (RB w (.bool (rhas r k))) := by
  obtain ⟨s, t, b⟩ := r
  obtain ⟨hs, ht⟩ := hr
  simp only at hs ht
  unfold Rng.v rhas
  simp only
  have h1 := fun w => refOrder k s w hk hs
  have h2 := fun w => refOrder k t w hk ht
  have g1 := cmpS_geq k s
  have g2 := cmpS_lss k t
  generalize cmpS k s = q1 at *
  generalize cmpS k t = q2 at *
  rw [← g2, show slt k s = !(decide (0 ≤ q1)) from by rw [g1]; simp]
  clear g1 g2
  have H1 := Lib.hid h1
  have H2 := Lib.hid h2
  clear h1 h2
  cases b
  · go_enter Tryd.func54, Tryd.ntmps54
    go_wp2_with (go_at_call 46; refine (H1.out _).mono ?_; rintro e w' ⟨rfl, n1, rfl⟩)
    all_goals (go_ret; exact RB.mk (bval (by simp; omega)) (by repeat (first | assumption | exact Bl.refl _ | apply Bl.drewN | apply Bl.drew | apply Bl.alloc | (refine Bl.dr ?_ (by assumption)) | (refine Bl.trans ?_ (by assumption)))))
  · go_enter Tryd.func54, Tryd.ntmps54
    go_wp2_with fail
    refine (H1.out _).mono ?_; rintro e w' ⟨rfl, n1, rfl⟩
    go_wp2_with fail
    · refine (H2.out _).mono ?_; rintro e w' ⟨rfl, n2, rfl⟩
      go_wp2_with fail
      all_goals (go_ret; exact RB.mk (bval (by simp; omega)) (by repeat (first | assumption | exact Bl.refl _ | apply Bl.drewN | apply Bl.drew | apply Bl.alloc | (refine Bl.dr ?_ (by assumption)) | (refine Bl.trans ?_ (by assumption)))))
    · go_ret
      exact RB.mk (bval (by simp; omega)) (by repeat (first | assumption | exact Bl.refl _ | apply Bl.drewN | apply Bl.drew | apply Bl.alloc | (refine Bl.dr ?_ (by assumption)) | (refine Bl.trans ?_ (by assumption))))

/-! ### Empty, In -/
def rin (r : Rng) (k : ByteArray) : Bool × Int := if rchk r ≠ 0 then (false, rchk r) else if kchk k ≠ 0 then (false, kchk k) else (rhas r k, 0)
def remp (r : Rng) : Bool × Int := if rchk r ≠ 0 then (false, rchk r) else (r.bd && !slt r.lo r.hi, 0)
theorem rchk_bd (r : Rng) : 0 ≤ rchk r ∧ rchk r ≤ 6 := by unfold rchk; split <;> (try split) <;> omega
theorem remp_in (r : Rng) : remp r = (decide ((rin r r.lo).2 = 0) && !(rin r r.lo).1, (rin r r.lo).2) := by
  unfold remp rin
  by_cases h : rchk r ≠ 0
  · simp [h]
  · have h0 : rchk r = 0 := by simpa using h
    have h1 : kchk r.lo = 0 := by
      unfold rchk ktwo at h0; unfold kchk
      split at h0
      · simp at h0
      · rename_i hh; simp at hh; rw [if_neg (by omega)]
    simp [h0, h1, rhas, slt_irrefl]


set_option maxHeartbeats 400000 in
theorem keysIn (r : Rng) (k : ByteArray) (w : World) (hr : r.ok) (hk : k.size ≤ maxLen) : Calls Tryd.prog 30 #[r.v, .string k] w (RB w (.tuple #[.bool (rin r k).1, .int .i64 (rin r k).2])) := by
  have h1 := fun w => keysCheckRange r w hr
  have h2 := fun w => keysCheck k w hk
  unfold rin
  obtain ⟨s, t, b⟩ := r
  unfold Rng.v at h1 ⊢
  simp only at h1 ⊢
  unfold rhas
  generalize rchk { lo := s, hi := t, bd := b } = q1 at *
  generalize kchk k = q2 at *
  have H1 := Lib.hid h1
  have H2 := Lib.hid h2
  clear h1 h2 hr hk
  by_cases e1 : q1 = 0
  · by_cases e2 : q2 = 0
    · rw [if_neg (by simp [e1]), if_neg (by simp [e2])]
      have e1' : (q1 == 0) = true := by simp [e1]
      have e1'' : (q2 != 0) = false := by simp [e2]
      clear e1 e2
      cases b
      · go_enter Tryd.func30, Tryd.ntmps30
        go_wp2_with fail
        refine (H1.out _).mono ?_; rintro e w1 ⟨rfl, hb⟩
        have c0 := hb.cell (p := ⟨w.heap.size, 0, none⟩) (v := .string s) (by simp [go_sem])
        have c1 := hb.cell (p := ⟨w.heap.size, 1, none⟩) (v := .string t) (by simp [go_sem])
        have c2 := hb.cell (p := ⟨w.heap.size, 2, none⟩) (v := .bool false) (by simp [go_sem])
        go_wp2_with fail
        refine (H2.out _).mono ?_; rintro e w' ⟨rfl, n2, rfl⟩
        go_wp2_with fail
        all_goals (go_ret2; exact rb_tuple (bval (by simp [slt, *])) (ival (by simp_all)) (by repeat (first | assumption | exact Bl.refl _ | apply Bl.drewN | apply Bl.drew | apply Bl.alloc | (refine Bl.dr ?_ (by assumption)) | (refine Bl.trans ?_ (by assumption)))))
      · go_enter Tryd.func30, Tryd.ntmps30
        go_wp2_with fail
        refine (H1.out _).mono ?_; rintro e w1 ⟨rfl, hb⟩
        have c0 := hb.cell (p := ⟨w.heap.size, 0, none⟩) (v := .string s) (by simp [go_sem])
        have c1 := hb.cell (p := ⟨w.heap.size, 1, none⟩) (v := .string t) (by simp [go_sem])
        have c2 := hb.cell (p := ⟨w.heap.size, 2, none⟩) (v := .bool true) (by simp [go_sem])
        go_wp2_with fail
        refine (H2.out _).mono ?_; rintro e w' ⟨rfl, n2, rfl⟩
        go_wp2_with fail
        all_goals (go_ret2; exact rb_tuple (bval (by simp [slt, *])) (ival (by simp_all)) (by repeat (first | assumption | exact Bl.refl _ | apply Bl.drewN | apply Bl.drew | apply Bl.alloc | (refine Bl.dr ?_ (by assumption)) | (refine Bl.trans ?_ (by assumption)))))
    · rw [if_neg (by simp [e1]), if_pos e2]
      have e1' : (q1 == 0) = true := by simp [e1]
      have e1'' : (q2 != 0) = true := by simp [e2]
      clear e1 e2
      go_enter Tryd.func30, Tryd.ntmps30
      go_wp2_with fail
      refine (H1.out _).mono ?_; rintro e w1 ⟨rfl, hb⟩
      go_wp2_with fail
      refine (H2.out _).mono ?_; rintro e w' ⟨rfl, n2, rfl⟩
      go_wp2_with fail
      go_ret2
      exact rb_tuple rfl rfl (by repeat (first | assumption | exact Bl.refl _ | apply Bl.drewN | apply Bl.drew | apply Bl.alloc | (refine Bl.dr ?_ (by assumption)) | (refine Bl.trans ?_ (by assumption))))
  · rw [if_pos e1]
    have e1' : (q1 == 0) = false := by simp [e1]
    have e1'' : (q1 != 0) = true := by simp [e1]
    clear e1
    go_enter Tryd.func30, Tryd.ntmps30
    go_wp2_with fail
    refine (H1.out _).mono ?_; rintro e w1 ⟨rfl, hb⟩
    go_wp2_with fail
    go_ret2
    exact rb_tuple rfl rfl (by repeat (first | assumption | exact Bl.refl _ | apply Bl.drewN | apply Bl.drew | apply Bl.alloc | (refine Bl.dr ?_ (by assumption)) | (refine Bl.trans ?_ (by assumption))))

set_option maxHeartbeats 400000 in
theorem keysEmpty (r : Rng) (w : World) (hr : r.ok) : Calls Tryd.prog 32 #[r.v] w (RB w (.tuple #[.bool (remp r).1, .int .i64 (remp r).2])) := by
  have h1 := fun w => keysIn r r.lo w hr hr.1
  rw [remp_in]
  obtain ⟨s, t, b⟩ := r
  unfold Rng.v at h1 ⊢
  simp only at h1 ⊢
  generalize (rin { lo := s, hi := t, bd := b } s).2 = q at *
  generalize (rin { lo := s, hi := t, bd := b } s).1 = c at *
  have H1 := Lib.hid h1
  clear h1 hr
  by_cases e1 : q = 0
  · have e1' : (q == 0) = true := by simp [e1]
    go_enter Tryd.func32, Tryd.ntmps32
    go_wp2_with fail
    refine (H1.out _).mono ?_; rintro e w1 ⟨rfl, hb⟩
    go_wp2_with fail
    all_goals (go_ret2; exact rb_tuple (bval (by simp [*])) (ival (by simp_all)) (by repeat (first | assumption | exact Bl.refl _ | apply Bl.drewN | apply Bl.drew | apply Bl.alloc | (refine Bl.dr ?_ (by assumption)) | (refine Bl.trans ?_ (by assumption)))))
  · have e1' : (q == 0) = false := by simp [e1]
    go_enter Tryd.func32, Tryd.ntmps32
    go_wp2_with fail
    refine (H1.out _).mono ?_; rintro e w1 ⟨rfl, hb⟩
    go_wp2_with fail
    all_goals (go_ret2; exact rb_tuple (bval (by simp [*])) rfl (by repeat (first | assumption | exact Bl.refl _ | apply Bl.drewN | apply Bl.drew | apply Bl.alloc | (refine Bl.dr ?_ (by assumption)) | (refine Bl.trans ?_ (by assumption)))))

set_option maxHeartbeats 400000 in
theorem refEmpty (r : Rng) (w : World) (hr : r.ok) : Calls Tryd.prog 33 #[r.v] w (RB w (.tuple #[.bool (remp r).1, .int .i64 (remp r).2])) := by
  have h1 := fun w => refCheckRange r w hr
  have h2 := fun w => refOrder r.hi r.lo w hr.2 hr.1
  have g2 := cmpS_leq r.hi r.lo
  unfold remp
  obtain ⟨s, t, b⟩ := r
  unfold Rng.v at h1 ⊢
  simp only at h1 h2 g2 ⊢
  generalize rchk { lo := s, hi := t, bd := b } = q1 at *
  generalize cmpS t s = q2 at *
  rw [← g2]
  have H1 := Lib.hid h1
  have H2 := Lib.hid h2
  clear h1 h2 hr g2
  by_cases e1 : q1 = 0
  · have e1' : (q1 == 0) = true := by simp [e1]
    rw [if_neg (by simp [e1])]
    clear e1
    cases b
    all_goals
      go_enter Tryd.func33, Tryd.ntmps33
      go_wp2_with fail
      refine (H1.out _).mono ?_; rintro e w1 ⟨rfl, hb⟩
      have c0 := hb.cell (p := ⟨w.heap.size, 0, none⟩) (v := .string s) (by simp [go_sem])
      have c1 := hb.cell (p := ⟨w.heap.size, 1, none⟩) (v := .string t) (by simp [go_sem])
    · have c2 := hb.cell (p := ⟨w.heap.size, 2, none⟩) (v := .bool false) (by simp [go_sem])
      go_wp2_with fail
      go_ret2
      exact rb_tuple (bval (by simp [*])) (ival (by simp_all)) (by repeat (first | assumption | exact Bl.refl _ | apply Bl.drewN | apply Bl.drew | apply Bl.alloc | (refine Bl.dr ?_ (by assumption)) | (refine Bl.trans ?_ (by assumption))))
    · have c2 := hb.cell (p := ⟨w.heap.size, 2, none⟩) (v := .bool true) (by simp [go_sem])
      go_wp2_with fail
      refine (H2.out _).mono ?_; rintro e w' ⟨rfl, n2, rfl⟩
      go_wp2_with fail
      all_goals (go_ret2; exact rb_tuple (bval (by simp [*])) (ival (by simp_all)) (by repeat (first | assumption | exact Bl.refl _ | apply Bl.drewN | apply Bl.drew | apply Bl.alloc | (refine Bl.dr ?_ (by assumption)) | (refine Bl.trans ?_ (by assumption)))))
  · have e1' : (q1 == 0) = false := by simp [e1]
    rw [if_pos e1]
    go_enter Tryd.func33, Tryd.ntmps33
    go_wp2_with fail
    refine (H1.out _).mono ?_; rintro e w1 ⟨rfl, hb⟩
    go_wp2_with fail
    all_goals (go_ret2; exact rb_tuple (bval (by simp [*])) rfl (by repeat (first | assumption | exact Bl.refl _ | apply Bl.drewN | apply Bl.drew | apply Bl.alloc | (refine Bl.dr ?_ (by assumption)) | (refine Bl.trans ?_ (by assumption)))))
end Go.Proofs.YtldccffbjohokaaDoor

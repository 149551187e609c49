
/-
  Contracts of entries.Check, CheckList and of the reference's Check, CheckList, at, Find.
-/
import Derived.Test.YtcgpkcaaojkpcaaGreatDoorKeysB
namespace Go.Proofs.YtcgpkcaaojkpcaaGreatDoor
open Go.RowKit
set_option linter.unusedSimpArgs false
set_option linter.unusedVariables false
set_option maxRecDepth 100000

def echk (x : Ent) : Int := if 32 < x.key.size ∨ 64 < x.val.size then 3 else if x.dead = true ∧ x.val.size ≠ 0 then 6 else if x.seq < 1 ∨ 1000000000 < x.seq then 7 else 0
theorem empty_iff' (s : ByteArray) : (s.toList.isEmpty = true) ↔ s.size = 0 := by
  rw [toL, List.isEmpty_iff_length_eq_zero]; simp
theorem nonempty_of {s : ByteArray} (h : s.size ≠ 0) : s.toList.isEmpty = false := by
  cases h' : s.toList.isEmpty; rfl; exact absurd ((empty_iff' s).1 h') h


set_option maxHeartbeats 1000000 in
theorem entCheck (x : Ent) (w : World) (hx : x.ok) : Calls Tryz.prog 35 #[x.v] w (RB w (.int .i64 (echk x))) := by
  obtain ⟨s, t, d, q⟩ := x
  obtain ⟨hs, ht, hq1, hq2⟩ := hx
  simp only at hs ht hq1 hq2
  have hk := fun w => keysCheck s w hs
  unfold maxLen at hs ht
  unfold Ent.v echk
  unfold kchk at hk
  simp only
  by_cases h1 : 32 < s.size
  · rw [if_pos h1] at hk
    rw [if_pos (.inl h1)]
    have Hk := Lib.hid hk
    clear hk
    go_enter Tryz.func35, Tryz.ntmps35
    go_wp2_with (go_at_call 58; refine (Hk.out _).mono ?_; rintro e w' ⟨rfl, n1, rfl⟩)
    go_ret
    exact RB.mk rfl (by repeat (first | assumption | exact Bl.refl _ | apply Bl.drewN | apply Bl.drew | apply Bl.alloc | (refine Bl.dr ?_ (by assumption)) | (refine Bl.trans ?_ (by assumption))))
  · rw [if_neg h1] at hk
    have Hk := Lib.hid hk
    clear hk
    by_cases h2 : 64 < t.size
    · rw [if_pos (.inr h2)]
      go_enter Tryz.func35, Tryz.ntmps35
      go_wp2_with (go_at_call 58; refine (Hk.out _).mono ?_; rintro e w' ⟨rfl, n1, rfl⟩)
      go_ret
      exact RB.mk rfl (by repeat (first | assumption | exact Bl.refl _ | apply Bl.drewN | apply Bl.drew | apply Bl.alloc | (refine Bl.dr ?_ (by assumption)) | (refine Bl.trans ?_ (by assumption))))
    · rw [if_neg (by omega)]
      have he := empty_iff' t
      cases d
      · rw [if_neg (by simp)]
        clear he
        by_cases h3 : q < 1 ∨ 1000000000 < q
        · rw [if_pos h3]
          rcases h3 with h3 | h3
          · go_enter Tryz.func35, Tryz.ntmps35
            go_wp2_with (go_at_call 58; refine (Hk.out _).mono ?_; rintro e w' ⟨rfl, n1, rfl⟩)
            go_ret
            exact RB.mk rfl (by repeat (first | assumption | exact Bl.refl _ | apply Bl.drewN | apply Bl.drew | apply Bl.alloc | (refine Bl.dr ?_ (by assumption)) | (refine Bl.trans ?_ (by assumption))))
          · have h3' : ¬ q < 1 := by omega
            go_enter Tryz.func35, Tryz.ntmps35
            go_wp2_with (go_at_call 58; refine (Hk.out _).mono ?_; rintro e w' ⟨rfl, n1, rfl⟩)
            go_ret
            exact RB.mk rfl (by repeat (first | assumption | exact Bl.refl _ | apply Bl.drewN | apply Bl.drew | apply Bl.alloc | (refine Bl.dr ?_ (by assumption)) | (refine Bl.trans ?_ (by assumption))))
        · rw [if_neg h3]
          have h3' : ¬ q < 1 := by omega
          have h3'' : ¬ 1000000000 < q := by omega
          clear h3
          go_enter Tryz.func35, Tryz.ntmps35
          go_wp2_with (go_at_call 58; refine (Hk.out _).mono ?_; rintro e w' ⟨rfl, n1, rfl⟩)
          go_ret
          exact RB.mk rfl (by repeat (first | assumption | exact Bl.refl _ | apply Bl.drewN | apply Bl.drew | apply Bl.alloc | (refine Bl.dr ?_ (by assumption)) | (refine Bl.trans ?_ (by assumption))))
      · by_cases h5 : t.size = 0
        · rw [if_neg (by simp [h5])]
          have he' := he.2 h5
          clear he h5
          by_cases h3 : q < 1 ∨ 1000000000 < q
          · rw [if_pos h3]
            rcases h3 with h3 | h3
            · go_enter Tryz.func35, Tryz.ntmps35
              go_wp2_with (go_at_call 58; refine (Hk.out _).mono ?_; rintro e w' ⟨rfl, n1, rfl⟩)
              go_ret
              exact RB.mk rfl (by repeat (first | assumption | exact Bl.refl _ | apply Bl.drewN | apply Bl.drew | apply Bl.alloc | (refine Bl.dr ?_ (by assumption)) | (refine Bl.trans ?_ (by assumption))))
            · have h3' : ¬ q < 1 := by omega
              go_enter Tryz.func35, Tryz.ntmps35
              go_wp2_with (go_at_call 58; refine (Hk.out _).mono ?_; rintro e w' ⟨rfl, n1, rfl⟩)
              go_ret
              exact RB.mk rfl (by repeat (first | assumption | exact Bl.refl _ | apply Bl.drewN | apply Bl.drew | apply Bl.alloc | (refine Bl.dr ?_ (by assumption)) | (refine Bl.trans ?_ (by assumption))))
          · rw [if_neg h3]
            have h3' : ¬ q < 1 := by omega
            have h3'' : ¬ 1000000000 < q := by omega
            clear h3
            go_enter Tryz.func35, Tryz.ntmps35
            go_wp2_with (go_at_call 58; refine (Hk.out _).mono ?_; rintro e w' ⟨rfl, n1, rfl⟩)
            go_ret
            exact RB.mk rfl (by repeat (first | assumption | exact Bl.refl _ | apply Bl.drewN | apply Bl.drew | apply Bl.alloc | (refine Bl.dr ?_ (by assumption)) | (refine Bl.trans ?_ (by assumption))))
        · rw [if_pos (by simp [h5])]
          have he' := nonempty_of h5
          clear he h5
          go_enter Tryz.func35, Tryz.ntmps35
          go_wp2_with (go_at_call 58; refine (Hk.out _).mono ?_; rintro e w' ⟨rfl, n1, rfl⟩)
          go_ret
          exact RB.mk rfl (by repeat (first | assumption | exact Bl.refl _ | apply Bl.drewN | apply Bl.drew | apply Bl.alloc | (refine Bl.dr ?_ (by assumption)) | (refine Bl.trans ?_ (by assumption))))

set_option maxHeartbeats 1000000 in
theorem refEntCheck (x : Ent) (w : World) (hx : x.ok) : Calls Tryz.prog 40 #[x.v] w (RB w (.int .i64 (echk x))) := by
  obtain ⟨s, t, d, q⟩ := x
  obtain ⟨hs, ht, hq1, hq2⟩ := hx
  simp only at hs ht hq1 hq2
  have hk := fun w => keysCheck s w hs
  unfold maxLen at hs ht
  unfold Ent.v echk
  unfold kchk at hk
  simp only
  by_cases h1 : 32 < s.size
  · rw [if_pos h1] at hk
    rw [if_pos (.inl h1)]
    have Hk := Lib.hid hk
    clear hk
    go_enter Tryz.func40, Tryz.ntmps40
    go_wp2_with fail
    go_ret
    exact RB.mk rfl (by repeat (first | assumption | exact Bl.refl _ | apply Bl.drewN | apply Bl.drew | apply Bl.alloc | (refine Bl.dr ?_ (by assumption)) | (refine Bl.trans ?_ (by assumption))))
  · rw [if_neg h1] at hk
    have Hk := Lib.hid hk
    clear hk
    by_cases h2 : 64 < t.size
    · rw [if_pos (.inr h2)]
      go_enter Tryz.func40, Tryz.ntmps40
      go_wp2_with fail
      go_ret
      exact RB.mk rfl (by repeat (first | assumption | exact Bl.refl _ | apply Bl.drewN | apply Bl.drew | apply Bl.alloc | (refine Bl.dr ?_ (by assumption)) | (refine Bl.trans ?_ (by assumption))))
    · rw [if_neg (by omega)]
      have he := empty_iff' t
      cases d
      · rw [if_neg (by simp)]
        clear he
        by_cases h3 : q < 1 ∨ 1000000000 < q
        · rw [if_pos h3]
          rcases h3 with h3 | h3
          · go_enter Tryz.func40, Tryz.ntmps40
            go_wp2_with fail
            go_ret
            exact RB.mk rfl (by repeat (first | assumption | exact Bl.refl _ | apply Bl.drewN | apply Bl.drew | apply Bl.alloc | (refine Bl.dr ?_ (by assumption)) | (refine Bl.trans ?_ (by assumption))))
          · have h3' : ¬ q < 1 := by omega
            go_enter Tryz.func40, Tryz.ntmps40
            go_wp2_with fail
            go_ret
            exact RB.mk rfl (by repeat (first | assumption | exact Bl.refl _ | apply Bl.drewN | apply Bl.drew | apply Bl.alloc | (refine Bl.dr ?_ (by assumption)) | (refine Bl.trans ?_ (by assumption))))
        · rw [if_neg h3]
          have h3' : ¬ q < 1 := by omega
          have h3'' : ¬ 1000000000 < q := by omega
          clear h3
          go_enter Tryz.func40, Tryz.ntmps40
          go_wp2_with fail
          go_ret
          exact RB.mk rfl (by repeat (first | assumption | exact Bl.refl _ | apply Bl.drewN | apply Bl.drew | apply Bl.alloc | (refine Bl.dr ?_ (by assumption)) | (refine Bl.trans ?_ (by assumption))))
      · by_cases h5 : t.size = 0
        · rw [if_neg (by simp [h5])]
          have he' := he.2 h5
          clear he h5
          by_cases h3 : q < 1 ∨ 1000000000 < q
          · rw [if_pos h3]
            rcases h3 with h3 | h3
            · go_enter Tryz.func40, Tryz.ntmps40
              go_wp2_with fail
              go_ret
              exact RB.mk rfl (by repeat (first | assumption | exact Bl.refl _ | apply Bl.drewN | apply Bl.drew | apply Bl.alloc | (refine Bl.dr ?_ (by assumption)) | (refine Bl.trans ?_ (by assumption))))
            · have h3' : ¬ q < 1 := by omega
              go_enter Tryz.func40, Tryz.ntmps40
              go_wp2_with fail
              go_ret
              exact RB.mk rfl (by repeat (first | assumption | exact Bl.refl _ | apply Bl.drewN | apply Bl.drew | apply Bl.alloc | (refine Bl.dr ?_ (by assumption)) | (refine Bl.trans ?_ (by assumption))))
          · rw [if_neg h3]
            have h3' : ¬ q < 1 := by omega
            have h3'' : ¬ 1000000000 < q := by omega
            clear h3
            go_enter Tryz.func40, Tryz.ntmps40
            go_wp2_with fail
            go_ret
            exact RB.mk rfl (by repeat (first | assumption | exact Bl.refl _ | apply Bl.drewN | apply Bl.drew | apply Bl.alloc | (refine Bl.dr ?_ (by assumption)) | (refine Bl.trans ?_ (by assumption))))
        · rw [if_pos (by simp [h5])]
          have he' := nonempty_of h5
          clear he h5
          go_enter Tryz.func40, Tryz.ntmps40
          go_wp2_with fail
          go_ret
          exact RB.mk rfl (by repeat (first | assumption | exact Bl.refl _ | apply Bl.drewN | apply Bl.drew | apply Bl.alloc | (refine Bl.dr ?_ (by assumption)) | (refine Bl.trans ?_ (by assumption))))

/-! ### Ascending lists -/
def pbad (p : Option ByteArray) (k : ByteArray) : Bool := match p with
  | some q => !slt q k
  | none => false
def clGo : Nat → Option ByteArray → List Ent → Int × Int
  | _, _, [] => (0, 0)
  | i, p, x :: r => if echk x ≠ 0 then ((i : Int), echk x) else if pbad p x.key = true then ((i : Int), 6) else clGo (i + 1) (some x.key) r
def clchk (l : List Ent) : Int × Int := if 5000 < l.length then (-1, 3) else clGo 0 none l
def prevK (l : List Ent) (k : Nat) : Option ByteArray := if k = 0 then none else (l[k - 1]?).map (·.key)
theorem clGo_drop {l : List Ent} {k : Nat} {x : Ent} (h : l[k]? = some x) (p : Option ByteArray) : clGo k p (l.drop k) = if echk x ≠ 0 then ((k : Int), echk x) else if pbad p x.key = true then ((k : Int), 6) else clGo (k + 1) (some x.key) (l.drop (k + 1)) := by
  obtain ⟨hk, rfl⟩ := List.getElem?_eq_some_iff.1 h
  rw [List.drop_eq_getElem_cons hk]; rfl
theorem prevK_succ {l : List Ent} {k : Nat} {x : Ent} (h : l[k]? = some x) : prevK l (k + 1) = some x.key := by simp [prevK, h]

end Go.Proofs.YtcgpkcaaojkpcaaGreatDoor

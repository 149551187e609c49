
/-
  The law's far, of lists of entries.
-/
import Derived.Test.YtbdiiopmjaeaaaaDoorLeA
namespace Go.Proofs.YtbdiiopmjaeaaaaDoor
open Go.RowKit Go.Sort
set_option linter.unusedSimpArgs false
set_option linter.unusedVariables false
set_option maxRecDepth 100000

def efar (l : List Ent) : Bool := if 60 < l.length then (decide (l.length ≤ 5000) || decide (5010 < l.length)) else l.any elarge
theorem any_drop {l : List Ent} {k : Nat} {x : Ent} (h : l[k]? = some x) : (l.drop k).any elarge = (elarge x || (l.drop (k + 1)).any elarge) := by
  obtain ⟨hk, rfl⟩ := List.getElem?_eq_some_iff.1 h
  rw [List.drop_eq_getElem_cons hk, List.any_cons]
set_option maxHeartbeats 2000000 in
theorem lawFarE (a : Option Addr) (c : Nat) (l : List Ent) (w : World) (hl : Ents w a l) (hn : l.length ≤ maxLen) : Calls Tryd.prog 18 #[.slice a l.length c] w (RB w (.bool (efar l))) := by
  unfold maxLen at hn
  unfold efar
  by_cases h6 : 60 < l.length
  · rw [if_pos h6]
    have i0 : (60 : Int) < (l.length : Int) := by omega
    clear h6 hl
    by_cases h5 : l.length ≤ 5000
    · rw [decide_eq_true h5, Bool.true_or]
      have i1 : (l.length : Int) ≤ 5000 := by omega
      clear h5
      go_enter Tryd.func18, Tryd.ntmps18
      go_wp2_with fail
      go_ret
      exact RB.mk rfl (by repeat (first | assumption | exact Bl.refl _ | apply Bl.drewN | apply Bl.drew | apply Bl.alloc | (refine Bl.dr ?_ (by assumption)) | (refine Bl.trans ?_ (by assumption))))
    · rw [decide_eq_false h5, Bool.false_or]
      have i1 : ¬ (l.length : Int) ≤ 5000 := by omega
      clear h5
      by_cases h7 : 5010 < l.length
      · rw [decide_eq_true h7]
        have i2 : (5010 : Int) < (l.length : Int) := by omega
        clear h7
        go_enter Tryd.func18, Tryd.ntmps18
        go_wp2_with fail
        go_ret
        exact RB.mk rfl (by repeat (first | assumption | exact Bl.refl _ | apply Bl.drewN | apply Bl.drew | apply Bl.alloc | (refine Bl.dr ?_ (by assumption)) | (refine Bl.trans ?_ (by assumption))))
      · rw [decide_eq_false h7]
        have i2 : ¬ (5010 : Int) < (l.length : Int) := by omega
        clear h7
        go_enter Tryd.func18, Tryd.ntmps18
        go_wp2_with fail
        go_ret
        exact RB.mk rfl (by repeat (first | assumption | exact Bl.refl _ | apply Bl.drewN | apply Bl.drew | apply Bl.alloc | (refine Bl.dr ?_ (by assumption)) | (refine Bl.trans ?_ (by assumption))))
  · rw [if_neg h6]
    have i0 : ¬ (60 : Int) < (l.length : Int) := by omega
    have HL := Lib.hid hl
    have HG := Lib.hid (fun x w => lawLarge x w)
    obtain ⟨R, hR⟩ : ∃ R, l.any elarge = R := ⟨_, rfl⟩
    rw [hR]
    have HR := Lib.hid hR
    clear hl hR h6
    go_enter Tryd.func18, Tryd.ntmps18
    go_wp2_with fail
    go_loopg [3] l.length (fun g i wr => ∃ k : Nat, i = .int .i64 k ∧ Hid (R = (l.drop k).any elarge ∧ k ≤ l.length ∧ g = l.length - k) ∧ Bl w wr)
    case atStart => exact ⟨0, rfl, Lib.hid ⟨by rw [List.drop_zero]; exact HR.out.symm, by omega, rfl⟩, Bl.refl _⟩
    case round =>
      obtain ⟨k, rfl, H, hb⟩ := hrel
      by_cases hk : k < l.length
      · obtain ⟨g1, o1, rfl, hat⟩ := HL.out.get hk
        obtain ⟨x, hx⟩ : ∃ x, l[k]? = some x := ⟨_, List.getElem?_eq_getElem hk⟩
        obtain ⟨x0, x1, x2, x3⟩ := (hat k x hx).bl hb
        have hG := HG.out x
        unfold Ent.v at hG
        obtain ⟨b, hbx⟩ : ∃ b, elarge x = b := ⟨_, rfl⟩
        rw [hbx] at hG
        have HGx := Lib.hid hG
        have HX := Lib.hid (And.intro hx hbx)
        have HMs := Lib.hid (show l.length - (k + 1) < gk by have := H.out; omega)
        clear hat hx hbx hG
        cases b with
        | true =>
          go_wp2_with fail
          refine (HGx.out _).mono ?_; rintro e w1 ⟨rfl, hb1⟩
          go_wp2_with fail
          go_ret
          exact RB.mk (bval (by rw [H.out.1, any_drop HX.out.1, HX.out.2]; rfl)) (hb.trans hb1)
        | false =>
          go_wp2_with fail
          refine (HGx.out _).mono ?_; rintro e w1 ⟨rfl, hb1⟩
          go_wp2_with fail
          go_roundg (l.length - (k + 1))
          case rel => exact ⟨k + 1, by go_num, Lib.hid ⟨by rw [H.out.1, any_drop HX.out.1, HX.out.2]; rfl, by omega, rfl⟩, hb.trans hb1⟩
          case measure => exact HMs.out
      · have hk' : ¬ (k : Int) < (l.length : Int) := by omega
        have hR : R = false := by rw [H.out.1, List.drop_of_length_le (by omega)]; rfl
        subst hR
        clear H
        go_wp2_with fail
        go_ret
        exact RB.mk rfl hb
end Go.Proofs.YtbdiiopmjaeaaaaDoor

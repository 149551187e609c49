
/-
  The laws WordsJoins and WordsBoth walked.
-/
import Derived.Test.YtfjdcfmoodlnaaaGreatDoorWoX
import Derived.Test.YtfjdcfmoodlnaaaGreatDoorWoT
import Derived.Deep.AppendSrc
namespace Go.Proofs.YtfjdcfmoodlnaaaGreatDoor
open Go.RowKit
set_option linter.unusedSimpArgs false
set_option linter.unusedVariables false
set_option maxRecDepth 100000

def FarV (l : List Fld) (w : World) (e : Ending) (w' : World) : Prop := ∃ b, e = .returned (.bool b) ∧ (b = false → l.length ≤ 70 ∧ ∀ x ∈ l, x.s.length ≤ 2100) ∧ Bl w w'
set_option maxHeartbeats 4000000 in
theorem lawFar (a : Option Addr) (c : Nat) (l : List Fld) (w : World) (hF : Flds w a l) (hln : l.length ≤ maxLen) : Calls Tryz.prog 16 #[.slice a l.length c] w (FarV l w) := by
  by_cases h70 : 70 < l.length
  · have i1 : (70 : Int) < (l.length : Int) := by omega
    clear hF h70
    go_enter Tryz.func16, Tryz.ntmps16
    go_wp2_with fail
    go_ret
    exact ⟨true, rfl, (fun h => by cases h), (by repeat (first | assumption | exact Bl.refl _ | apply Bl.drewN | apply Bl.drew | apply Bl.alloc | (refine Bl.dr ?_ (by assumption)) | (refine Bl.trans ?_ (by assumption))))⟩
  · have i1 : ¬ (70 : Int) < (l.length : Int) := by omega
    have hl70 : l.length ≤ 70 := by omega
    have HF := Lib.hid hF
    clear hF hln
    go_enter Tryz.func16, Tryz.ntmps16
    go_wp2_with fail
    go_loopg [3, 4] l.length (fun g n i wr => ∃ (k q : Nat), k ≤ l.length ∧ i = .int .i64 k ∧ n = .int .i64 q ∧ q ≤ 2100 * k ∧ Bl w wr ∧ (∀ (j : Nat) x, j < k → l[j]? = some x → x.s.length ≤ 2100) ∧ g = l.length - k)
    case atStart => exact ⟨0, 0, by omega, rfl, rfl, by omega, Bl.refl _, by intro j x hj; omega, rfl⟩
    case round =>
      obtain ⟨k, q, hk, rfl, rfl, hq, hbw, hno, hg⟩ := hrel
      have G := Lib.hid hg
      have HNo := Lib.hid hno
      clear hg hno
      by_cases hkl : k < l.length
      · obtain ⟨b, off, rfl, hat⟩ := (HF.out.bl hbw).get hkl
        obtain ⟨x, hx⟩ : ∃ x, l[k]? = some x := ⟨_, List.getElem?_eq_getElem hkl⟩
        obtain ⟨d0, d1⟩ := hat k x hx
        have j0 : (0 : Int) ≤ (k : Int) := by omega
        have j1 : (k : Int) < (l.length : Int) := by omega
        obtain ⟨xs, hxs⟩ : ∃ xs : ByteArray, (⟨x.s.toArray⟩ : ByteArray) = xs := ⟨_, rfl⟩
        have hxl : xs.size = x.s.length := by rw [← hxs]; rfl
        rw [hxs] at d0
        by_cases hlong : 2100 < xs.size
        · have t1 : (2100 : Int) < (xs.size : Int) := by omega
          clear hat hx hxs hxl hlong
          go_wp2_with fail
          go_ret
          exact ⟨true, rfl, (fun h => by cases h), (by repeat (first | assumption | exact Bl.refl _ | apply Bl.drewN | apply Bl.drew | apply Bl.alloc | (refine Bl.dr ?_ (by assumption)) | (refine Bl.trans ?_ (by assumption))))⟩
        · have t1 : ¬ (2100 : Int) < (xs.size : Int) := by omega
          have hno2 : ∀ (j : Nat) y, j < k + 1 → l[j]? = some y → y.s.length ≤ 2100 := by
            intro j y hj hy
            by_cases e : j = k
            · subst e; rw [hx] at hy; injection hy with hy; subst hy; omega
            · exact HNo.out j y (by omega) hy
          have HN2 := Lib.hid hno2
          clear hat hx hxs hxl hno2
          go_wp2_with fail
          go_roundg (l.length - (k + 1))
          case rel => exact ⟨k + 1, q + xs.size, by omega, by go_num, by go_num, by omega, (by repeat (first | assumption | exact Bl.refl _ | apply Bl.drewN | apply Bl.drew | apply Bl.alloc | (refine Bl.dr ?_ (by assumption)) | (refine Bl.trans ?_ (by assumption)))), HN2.out, rfl⟩
          case measure => rw [G.out]; omega
      · obtain rfl : k = l.length := by omega
        have hall : ∀ x ∈ l, x.s.length ≤ 2100 := by
          intro x hx
          obtain ⟨j, hj, rfl⟩ := List.getElem_of_mem hx
          exact HNo.out j _ hj (List.getElem?_eq_getElem hj)
        have HAll := Lib.hid hall
        clear hall
        go_wp2_with fail
        go_ret
        exact ⟨_, rfl, fun _ => ⟨hl70, HAll.out⟩, hbw⟩
end Go.Proofs.YtfjdcfmoodlnaaaGreatDoor

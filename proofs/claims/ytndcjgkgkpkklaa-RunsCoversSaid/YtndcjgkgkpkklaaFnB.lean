
/-
  The closures of fence.first, and fence.first itself, over strings and over entries.
-/
import Derived.Test.YtndcjgkgkpkklaaSearch
import Derived.Test.YtndcjgkgkpkklaaEntA
import Derived.StillTailTactics
namespace Go.Proofs.Ytndcjgkgkpkklaa
open Go.RowKit
set_option linter.unusedSimpArgs false
set_option linter.unusedVariables false
set_option maxRecDepth 100000

/-- The closure of first over strings: block g holds the predicate, block g2 the slice. -/
theorem firstS1 (F : Nat) (cs : Array Value) (g g2 : Nat) (a : Option Addr) (c : Nat) (l : List ByteArray) (i : Nat) (x : ByteArray) (r : Bool) (w : World)
    (hcf : ∀ args W, (callFunc F args).run Try.prog W = .ok (.enter F args) W)
    (h1 : w.cell? ⟨g, 0, none⟩ = some (.func (.func F) #[] cs)) (h2 : w.cell? ⟨g2, 0, none⟩ = some (.slice a l.length c)) (hl : Strs w a l) (hn : l.length ≤ maxLen) (hx : l[i]? = some x)
    (hp : ∀ w', Bl w w' → Calls Try.prog F (#[.string x] ++ cs) w' (RB w' (.bool r))) :
    Calls Try.prog 81 #[.int .i64 (i : Int), .pointer (some ⟨g, 0, none⟩), .pointer (some ⟨g2, 0, none⟩)] w (RB w (.bool r)) := by
  unfold maxLen at hn
  have hi := (List.getElem?_eq_some_iff.1 hx).1
  obtain ⟨b, off, rfl, hat⟩ := hl.get hi
  have hc := hat i x hx
  have HP := Lib.hid hp
  clear hat hx hp hl
  go_enter Try.func81, Try.ntmps81
  go_wp2_with fail
  go_still_tail 5, (by kernel_rfl)
  change wpList _ _ _ _ _ w.drew
  go_wp2_with fail
  refine (HP.out _ (Bl.refl w).drew).mono ?_; rintro e w1 ⟨rfl, hb1⟩
  go_wp2_with fail
  go_ret
  exact RB.mk rfl (by repeat (first | assumption | exact Bl.refl _ | apply Bl.drewN | apply Bl.drew | apply Bl.alloc | (refine Bl.dr ?_ (by assumption)) | (refine Bl.trans ?_ (by assumption))))

theorem cfS1 : ∀ args W, (callFunc 81 args).run Try.prog W = .ok (.enter 81 args) W := by
  intro args W; simp [go_sem]
set_option maxHeartbeats 400000 in
theorem firstS (F : Nat) (cs : Array Value) (a : Option Addr) (c : Nat) (l : List ByteArray) (p : ByteArray → Bool) (r : Nat) (w : World)
    (hcf : ∀ args W, (callFunc F args).run Try.prog W = .ok (.enter F args) W)
    (hl : Strs w a l) (hn : l.length ≤ 4611686018427387904)
    (hp : ∀ x w', x ∈ l → Bl w w' → Calls Try.prog F (#[.string x] ++ cs) w' (RB w' (.bool (p x))))
    (hr : r ≤ l.length) (h0 : ∀ j x, l[j]? = some x → j < r → p x = false) (h1 : ∀ j x, l[j]? = some x → r ≤ j → p x = true) :
    Calls Try.prog 78 #[.slice a l.length c, .func (.func F) #[] cs] w (RB w (.int .i64 (r : Int))) := by
  have hS := fun W (hb : Bl w W) g g2 (e1 : W.cell? ⟨g, 0, none⟩ = some (.func (.func F) #[] cs)) (e2 : W.cell? ⟨g2, 0, none⟩ = some (.slice a l.length c)) =>
    sortSearch 81 (.pointer (some ⟨g, 0, none⟩)) (.pointer (some ⟨g2, 0, none⟩)) l.length (fun i => (l[i]?.map p).getD false) r W hn cfS1
      (fun w' i hw' hi => by
        obtain ⟨x, hx⟩ : ∃ x, l[i]? = some x := ⟨_, List.getElem?_eq_getElem hi⟩
        simp only [hx, Option.map_some, Option.getD_some]
        exact firstS1 F cs g g2 a c l i x (p x) w' hcf (hw'.cell e1) (hw'.cell e2) (hl.bl (hb.trans hw')) (by unfold maxLen; omega) hx
          (fun w'' hw'' => hp x w'' (List.mem_of_getElem? hx) ((hb.trans hw').trans hw'')))
      hr (fun j hj => by
        obtain ⟨x, hx⟩ : ∃ x, l[j]? = some x := ⟨_, List.getElem?_eq_getElem (by omega)⟩
        simp only [hx, Option.map_some, Option.getD_some]; exact h0 j x hx hj)
      (fun j hj hj2 => by
        obtain ⟨x, hx⟩ : ∃ x, l[j]? = some x := ⟨_, List.getElem?_eq_getElem hj2⟩
        simp only [hx, Option.map_some, Option.getD_some]; exact h1 j x hx hj)
  have HS := Lib.hid hS
  clear hS hp h0 h1 hl
  have hn' : l.length ≤ 9223372036854775807 := by omega
  go_enter Try.func78, Try.ntmps78
  go_wp2_with fail
  refine (HS.out _ (by repeat (first | assumption | exact Bl.refl _ | apply Bl.drewN | apply Bl.drew | apply Bl.alloc | (refine Bl.dr ?_ (by assumption)) | (refine Bl.trans ?_ (by assumption)))) _ _ (by simp [go_sem]) (by simp [go_sem])).mono ?_; rintro e w1 ⟨rfl, hb1⟩
  go_wp2_with fail
  go_ret
  exact RB.mk rfl (by repeat (first | assumption | exact Bl.refl _ | apply Bl.drewN | apply Bl.drew | apply Bl.alloc | (refine Bl.dr ?_ (by assumption)) | (refine Bl.trans ?_ (by assumption))))

/-! ### The predicates -/
theorem cfBlock1 : ∀ args W, (callFunc 79 args).run Try.prog W = .ok (.enter 79 args) W := by
  intro args W; simp [go_sem]
theorem gt_slt (m k : ByteArray) : (!(Op.bytesLess m.toList k.toList || m.toList == k.toList)) = slt k m := by
  cases h : Op.bytesLess m.toList k.toList
  · cases h2 : Op.bytesLess k.toList m.toList
    · have := slt_tri h h2; subst this; simp [slt, h2]
    · have : (m.toList == k.toList) = false := by
        rw [beq_eq_false_iff_ne]; intro e; have := str_ext e; subst this; rw [bl_irrefl] at h2; cases h2
      simp [slt, h2, this]
  · have := slt_asymm (a := m) (b := k) h; simp [this]
theorem le_slt (m k : ByteArray) : (Op.bytesLess m.toList k.toList || m.toList == k.toList) = !slt k m := by
  rw [← gt_slt]; simp

theorem block1 (m k : ByteArray) (g : Nat) (w : World) (h : w.cell? ⟨g, 0, none⟩ = some (.string k)) :
    Calls Try.prog 79 #[.string m, .pointer (some ⟨g, 0, none⟩)] w (RB w (.bool (slt k m))) := by
  rw [← gt_slt]
  go_enter Try.func79, Try.ntmps79
  go_wp2_with fail
  go_ret
  exact RB.mk (bval (by simp)) (by repeat (first | assumption | exact Bl.refl _ | apply Bl.drewN | apply Bl.drew | apply Bl.alloc | (refine Bl.dr ?_ (by assumption)) | (refine Bl.trans ?_ (by assumption))))
end Go.Proofs.Ytndcjgkgkpkklaa


/-
  A scope with two labels, 0 ahead and 1 behind: what holds at every jump, and a measure that every pass from label 1 lowers.
-/
import Derived.ScopeJumps
import Derived.ControlIn
import Derived.Test.YtkbfjficmdgjpaaGreatDoorLib
namespace Go.Proofs.YtkbfjficmdgjpaaGreatDoor
open Go Go.RowKit
set_option linter.unusedVariables false

/-- As Q; by a goto to label 0: J0; to label 1: J1; by any other goto: no way out. -/
def Jmp (J0 J1 : Act → World → Prop) (Q : Exit → Act → World → Prop) : Exit → Act → World → Prop
  | .goto l, a, w => (l = 0 ∧ J0 a w) ∨ (l = 1 ∧ J1 a w)
  | e, a, w => Q e a w
theorem jmp_ret {J0 J1 : Act → World → Prop} {Q : Exit → Act → World → Prop} {a : Act} {w : World} (h : Q .ret a w) : Jmp J0 J1 Q .ret a w := h
theorem jmp_mono {J0 J1 J0' J1' : Act → World → Prop} {Q : Exit → Act → World → Prop} (h0 : ∀ a w, J0 a w → J0' a w) (h1 : ∀ a w, J1 a w → J1' a w) : ∀ e a w, Jmp J0 J1 Q e a w → Jmp J0' J1' Q e a w
  | .goto _, a, w, h => h.elim (fun x => .inl ⟨x.1, h0 a w x.2⟩) (fun x => .inr ⟨x.1, h1 a w x.2⟩)
  | .normal, _, _, h => h
  | .exit _, _, _, h => h
  | .ret, _, _, h => h
  | .panic _, _, _, h => h
  | .outgrown, _, _, h => h
theorem wp_scope2 {P : Program} {a : Act} {w : World} {Q : Exit → Act → World → Prop} {c r0 r1 : Code} (J0 J1 : Act → World → Prop) (μ : Act → World → Nat)
    (hf0 : findLabel c 0 = some (.seq .skip r0)) (hf1 : findLabel c 1 = some (.seq .skip r1))
    (found : ∀ a w, J0 a w → r0.wp P (Jmp (fun _ _ => False) (fun a' w' => J1 a' w' ∧ μ a' w' < μ a w) Q) a w)
    (pass : ∀ a w, J1 a w → r1.wp P (Jmp (fun a' w' => J0 a' w' ∧ μ a' w' ≤ μ a w) (fun a' w' => J1 a' w' ∧ μ a' w' < μ a w) Q) a w)
    (first : c.wp P (Jmp J0 J1 Q) a w) : (Code.scope c).wp P Q a w := by
  intro b k cs
  have g0 : gotoIn 0 (.inScope c :: k) = some (.code (.seq .skip r0) :: .inScope c :: k) := by simp [gotoIn, hf0]
  have g1 : gotoIn 1 (.inScope c :: k) = some (.code (.seq .skip r1) :: .inScope c :: k) := by simp [gotoIn, hf1]
  have end_ : ∀ (m : Machine) e a' w' (J0 J1 : Act → World → Prop), (∀ l, e ≠ .goto l) → Jmp J0 J1 Q e a' w' → Arrives P m b (.inScope c :: k) cs e a' w' → ∃ e a' w', Q e a' w' ∧ Arrives P m b k cs e a' w' := by
    intro m e a' w' J0 J1 hn hq harr
    cases e with
    | normal => exact ⟨.normal, a', w', hq, Steps.trans harr (.one step_inScope)⟩
    | exit id => exact ⟨.exit id, a', w', hq, fun k' hk => harr k' (by simp [exitTo, hk])⟩
    | goto l => exact absurd rfl (hn l)
    | ret => exact ⟨_, a', w', hq, harr⟩
    | panic ch => exact ⟨_, a', w', hq, harr⟩
    | outgrown => exact ⟨_, a', w', hq, harr⟩
  have key : ∀ n a w, μ a w = n → J1 a w → ∃ e a' w', Q e a' w' ∧ Arrives P (lone (b.at a (.code (.seq .skip r1) :: .inScope c :: k)) cs w) b k cs e a' w' := by
    intro n
    induction n using Nat.strongRecOn with
    | _ n ih =>
      intro a w hn hJ
      obtain ⟨e, a₁, w₁, hq, harr⟩ := (wp_seq (wp_skip (pass a w hJ))) b (.inScope c :: k) cs
      by_cases hg : ∃ l, e = .goto l
      · obtain ⟨l, rfl⟩ := hg
        rcases hq with ⟨rfl, hJ0, hle⟩ | ⟨rfl, hJ1, hlt⟩
        · obtain ⟨e, a₂, w₂, hq, harr₂⟩ := (wp_seq (wp_skip (found a₁ w₁ hJ0))) b (.inScope c :: k) cs
          by_cases hg : ∃ l, e = .goto l
          · obtain ⟨l, rfl⟩ := hg
            rcases hq with ⟨rfl, hF⟩ | ⟨rfl, hJ1, hlt⟩
            · exact hF.elim
            · obtain ⟨e₃, a₃, w₃, hq₃, harr₃⟩ := ih _ (by omega) a₂ w₂ rfl hJ1
              exact ⟨e₃, a₃, w₃, hq₃, .of_steps (harr _ g0) (.of_steps (harr₂ _ g1) harr₃)⟩
          · obtain ⟨e₃, a₃, w₃, hq₃, harr₃⟩ := end_ _ e a₂ w₂ _ _ (fun l h => hg ⟨l, h⟩) hq harr₂
            exact ⟨e₃, a₃, w₃, hq₃, .of_steps (harr _ g0) harr₃⟩
        · obtain ⟨e₂, a₂, w₂, hq₂, harr₂⟩ := ih _ (by omega) a₁ w₁ rfl hJ1
          exact ⟨e₂, a₂, w₂, hq₂, .of_steps (harr _ g1) harr₂⟩
      · exact end_ _ e a₁ w₁ _ _ (fun l h => hg ⟨l, h⟩) hq harr
  have key0 : ∀ a w, J0 a w → ∃ e a' w', Q e a' w' ∧ Arrives P (lone (b.at a (.code (.seq .skip r0) :: .inScope c :: k)) cs w) b k cs e a' w' := by
    intro a w hJ
    obtain ⟨e, a₁, w₁, hq, harr⟩ := (wp_seq (wp_skip (found a w hJ))) b (.inScope c :: k) cs
    by_cases hg : ∃ l, e = .goto l
    · obtain ⟨l, rfl⟩ := hg
      rcases hq with ⟨rfl, hF⟩ | ⟨rfl, hJ1, hlt⟩
      · exact hF.elim
      · obtain ⟨e₂, a₂, w₂, hq₂, harr₂⟩ := key _ a₁ w₁ rfl hJ1
        exact ⟨e₂, a₂, w₂, hq₂, .of_steps (harr _ g1) harr₂⟩
    · exact end_ _ e a₁ w₁ _ _ (fun l h => hg ⟨l, h⟩) hq harr
  have fin : ∃ e a' w', Q e a' w' ∧ Arrives P (lone (b.at a (.code c :: .inScope c :: k)) cs w) b k cs e a' w' := by
    obtain ⟨e, a₁, w₁, hq, harr⟩ := first b (.inScope c :: k) cs
    by_cases hg : ∃ l, e = .goto l
    · obtain ⟨l, rfl⟩ := hg
      rcases hq with ⟨rfl, hJ0⟩ | ⟨rfl, hJ1⟩
      · obtain ⟨e₂, a₂, w₂, hq₂, harr₂⟩ := key0 a₁ w₁ hJ0
        exact ⟨e₂, a₂, w₂, hq₂, .of_steps (harr _ g0) harr₂⟩
      · obtain ⟨e₂, a₂, w₂, hq₂, harr₂⟩ := key _ a₁ w₁ rfl hJ1
        exact ⟨e₂, a₂, w₂, hq₂, .of_steps (harr _ g1) harr₂⟩
    · exact end_ _ e a₁ w₁ _ _ (fun l h => hg ⟨l, h⟩) hq harr
  obtain ⟨e, a', w', hq, harr⟩ := fin
  exact ⟨e, a', w', hq, .of_steps (.one step_scope) harr⟩
/-- The same in the wide fence; what follows a label is walked once. -/
theorem wpIn_scope2 {P : Program} {n : Nat} {a : Act} {w : World} {Q : Exit → Act → World → Prop} {c r0 r1 : Code} (J0 J1 : Act → World → Prop) (μ : Act → World → Nat)
    (hf0 : findLabel c 0 = some (.seq .skip r0)) (hf1 : findLabel c 1 = some (.seq .skip r1))
    (found : ∀ a w, J0 a w → r0.wpIn Fence.wide n P (Jmp (fun _ _ => False) (fun a' w' => J1 a' w' ∧ μ a' w' < μ a w) Q) a w)
    (pass : (∀ a w, J0 a w → r0.wpIn Fence.wide n P (Jmp (fun _ _ => False) (fun a' w' => J1 a' w' ∧ μ a' w' < μ a w) Q) a w) →
      ∀ a w, J1 a w → r1.wpIn Fence.wide n P (Jmp (fun a' w' => J0 a' w' ∧ μ a' w' ≤ μ a w) (fun a' w' => J1 a' w' ∧ μ a' w' < μ a w) Q) a w)
    (first : (∀ a w, J1 a w → r1.wpIn Fence.wide n P (Jmp J0 J1 Q) a w) → c.wpIn Fence.wide n P (Jmp J0 J1 Q) a w) : (Code.scope c).wpIn Fence.wide n P Q a w :=
  wpIn_wide.2 (wp_scope2 J0 J1 μ hf0 hf1 (fun a w h => wpIn_wide.1 (found a w h)) (fun a w h => wpIn_wide.1 (pass found a w h))
    (wpIn_wide.1 (first (fun a w h => wpIn_mono (pass found a w h) (jmp_mono (fun _ _ x => x.1) (fun _ _ x => x.1))))))
end Go.Proofs.YtkbfjficmdgjpaaGreatDoor

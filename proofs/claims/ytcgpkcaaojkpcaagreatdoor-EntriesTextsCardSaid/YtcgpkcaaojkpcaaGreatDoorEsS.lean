
/-
  Plain facts of entries: the reference for two lists; what the functions answer; what is ascending.
-/
import Derived.Test.YtcgpkcaaojkpcaaGreatDoorEsR
import Derived.Test.YtcgpkcaaojkpcaaGreatDoorEpA
namespace Go.Proofs.YtcgpkcaaojkpcaaGreatDoor
set_option linter.unusedSimpArgs false
set_option linter.unusedVariables false

/-! ### The reference's answer for two lists -/
def kcmp (x y : Ent) : Int := cmpS x.key y.key
theorem insb_ascK : ∀ (n : Nat) (A : List Ent) (x : Ent), A.length = n → AscK A → (∀ y ∈ A, y.key ≠ x.key) → AscK (insb kcmp A x)
  | n, A, x, hn, hA, hx => by
    rcases List.eq_nil_or_concat A with rfl | ⟨A', z, rfl⟩
    · simp [insb_nil]
    · rw [List.concat_eq_append] at *
      cases n with
      | zero => simp at hn
      | succ n =>
        have hp := List.pairwise_append.1 hA
        by_cases h : kcmp x z < 0
        · rw [insb_snoc_lt _ _ _ h]
          have ih := insb_ascK n A' x (by simpa using hn) hp.1 (fun y hy => hx y (by simp [hy]))
          refine List.pairwise_append.2 ⟨ih, by simp, fun u hu v hv => ?_⟩
          rcases List.mem_singleton.1 hv with rfl
          rcases List.mem_append.1 ((insb_perm A' x).mem_iff.1 hu) with hu | hu
          · exact hp.2.2 u hu v (by simp)
          · rcases List.mem_singleton.1 hu with rfl; exact cmpS_lt.1 h
        · rw [insb_snoc_ge _ _ _ h]
          have hzx : slt z.key x.key = true := by
            cases e : slt z.key x.key
            · have h2 : slt x.key z.key = false := by
                cases e2 : slt x.key z.key
                · rfl
                · exact absurd (cmpS_lt.2 e2) h
              exact absurd (slt_tri e h2) (hx z (by simp))
            · rfl
          refine List.pairwise_append.2 ⟨hp.1, by simp [hzx], fun u hu v hv => ?_⟩
          have hz := hp.2.2 u hu z (by simp)
          rcases List.mem_cons.1 hv with rfl | hv
          · exact hz
          · rcases List.mem_singleton.1 hv with rfl; exact slt_trans hz hzx
def rover (o f : List Ent) : List Ent := (o.filter fun x => !f.any fun y => decide (y.key = x.key)).foldl (insb kcmp) f
theorem foldl_insb_ascK : ∀ (o f : List Ent), AscK f → AscK o → (∀ x ∈ o, ∀ y ∈ f, y.key ≠ x.key) → AscK (o.foldl (insb kcmp) f)
  | [], f, hf, _, _ => hf
  | x :: o, f, hf, ho, h => by
    have ho' := List.pairwise_cons.1 ho
    rw [List.foldl_cons]
    refine foldl_insb_ascK o _ (insb_ascK _ f x rfl hf (fun y hy => h x (by simp) y hy)) ho'.2 (fun z hz y hy e => ?_)
    rcases List.mem_append.1 ((insb_perm f x).mem_iff.1 hy) with hy | hy
    · exact h z (by simp [hz]) y hy e
    · rcases List.mem_singleton.1 hy with rfl
      have := ho'.1 z hz; rw [e, slt_irrefl] at this; cases this
theorem rover_eq {o f : List Ent} (ho : AscK o) (hf : AscK f) : rover o f = emerge o f := by
  have hm : ∀ x, x ∈ (o.filter fun x => !f.any fun y => decide (y.key = x.key)) ↔ x ∈ o ∧ ∀ y ∈ f, y.key ≠ x.key := by
    intro x; simp [List.mem_filter]
  unfold rover
  refine ascK_ext (foldl_insb_ascK _ f hf (ho.sublist List.filter_sublist) (fun x hx => ((hm x).1 hx).2)) (emerge_asc ho hf) (fun x => ?_)
  rw [emerge_mem ho hf, (foldl_insb_perm _ f).mem_iff, List.mem_append, hm x]
/-! ### What the functions answer -/
def esort (l : List Ent) : List Ent × Int := if 5000 < l.length then ([], 3) else if eall l ≠ 0 then ([], eall l) else (isort ocmp l, 0)
def enewest (l : List Ent) : List Ent × Int := if 5000 < l.length then ([], 3) else if eall l ≠ 0 then ([], eall l) else (newest l, 0)
def eover (o f : List Ent) : List Ent × Int := if (clchk o).2 ≠ 0 then ([], (clchk o).2) else if (clchk f).2 ≠ 0 then ([], (clchk f).2) else if 5000 < (emerge o f).length then ([], 3) else (emerge o f, 0)
def elive (l : List Ent) : List Ent × Int := if (clchk l).2 ≠ 0 then ([], (clchk l).2) else (l.filter (fun x => !x.dead), 0)
theorem clGo_ok : ∀ (l : List Ent) (i : Nat) (p : Option ByteArray), (clGo i p l).2 = 0 ↔ (∀ x ∈ l, echk x = 0) ∧ AscK l ∧ ∀ q, p = some q → ∀ x ∈ l.head?, slt q x.key = true
  | [], _, _ => by simp [clGo]
  | x :: r, i, p => by
    unfold clGo
    by_cases h1 : echk x ≠ 0
    · rw [if_pos h1]
      simp only [List.mem_cons, forall_eq_or_imp]
      exact ⟨fun h => absurd h h1, fun h => absurd h.1.1 h1⟩
    · rw [if_neg h1]
      have h1' : echk x = 0 := by omega
      by_cases h2 : pbad p x.key = true
      · rw [if_pos h2]
        refine ⟨fun h => by simp at h, fun h => ?_⟩
        exfalso
        cases p with
        | none => simp [pbad] at h2
        | some q =>
          have := h.2.2 q rfl x (by simp)
          simp [pbad, this] at h2
      · rw [if_neg h2, clGo_ok r (i + 1) (some x.key)]
        simp only [List.mem_cons, forall_eq_or_imp, h1', true_and, List.pairwise_cons]
        constructor
        · rintro ⟨a, b, c⟩
          refine ⟨a, ⟨fun y hy => ?_, b⟩, fun q hq y hy => ?_⟩
          · cases r with
            | nil => cases hy
            | cons z r =>
              have hz := c x.key rfl z (by simp)
              rcases List.mem_cons.1 hy with rfl | hy
              · exact hz
              · exact slt_trans hz ((List.pairwise_cons.1 b).1 y hy)
          · subst hq
            simp at hy; subst hy
            simpa [pbad] using h2
        · rintro ⟨a, ⟨b, c⟩, d⟩
          refine ⟨a, c, fun q hq y hy => ?_⟩
          injection hq with hq; subst hq
          cases r with
          | nil => simp at hy
          | cons z r => simp at hy; subst hy; exact b z (by simp)
theorem clchk_ok (l : List Ent) : (clchk l).2 = 0 ↔ l.length ≤ 5000 ∧ (∀ x ∈ l, echk x = 0) ∧ AscK l := by
  unfold clchk
  split
  · rename_i h; exact ⟨fun h => by simp at h, fun k => by omega⟩
  · rename_i h
    rw [clGo_ok]; simp; omega
theorem clGo_zero : ∀ (l : List Ent) (i : Nat) (p : Option ByteArray), (clGo i p l).2 = 0 → (clGo i p l).1 = 0
  | [], _, _, _ => rfl
  | x :: r, i, p, h => by
    unfold clGo at h ⊢
    split
    · rename_i h1; rw [if_pos h1] at h; exact absurd h h1
    · rename_i h1; rw [if_neg h1] at h
      split
      · rename_i h2; rw [if_pos h2] at h; simp at h
      · rename_i h2; rw [if_neg h2] at h; exact clGo_zero r _ _ h
theorem eall_iff (l : List Ent) : eall l = 0 ↔ ∀ x ∈ l, echk x = 0 := by
  induction l with
  | nil => simp [eall]
  | cons x r ih =>
    unfold eall
    simp only [List.mem_cons, forall_eq_or_imp]
    split
    · rename_i h; exact ⟨fun k => absurd k h, fun k => absurd k.1 h⟩
    · rename_i h; rw [ih]; exact ⟨fun k => ⟨by omega, k⟩, fun k => k.2⟩
end Go.Proofs.YtcgpkcaaojkpcaaGreatDoor


/-
  Plain facts of stable sorting: insertion, blocks, the split of a symmetric merge.
-/
import Derived.Sort.WalkA
namespace Go.Proofs.YtcgpkcaaojkpcaaGreatDoor
set_option linter.unusedSimpArgs false
set_option linter.unusedVariables false

/-! ### A total preorder as a number; the same with places: a strict order -/
structure Pre {α : Type} (cf : α → α → Int) : Prop where
  neg : ∀ x y, cf x y = - cf y x
  tr : ∀ x y z, cf x y ≤ 0 → cf y z ≤ 0 → cf x z ≤ 0 ∧ (cf x z = 0 → cf x y = 0 ∧ cf y z = 0)
section
variable {α : Type} {cf : α → α → Int}
def lt2 (cf : α → α → Int) (x y : α × Nat) : Prop := cf x.1 y.1 < 0 ∨ (cf x.1 y.1 = 0 ∧ x.2 < y.2)
theorem lt2_trans (H : Pre cf) {x y z : α × Nat} (h : lt2 cf x y) (k : lt2 cf y z) : lt2 cf x z := by
  unfold lt2 at *
  have t := H.tr x.1 y.1 z.1 (by omega) (by omega)
  by_cases e : cf x.1 z.1 = 0
  · have := t.2 e; omega
  · exact .inl (by omega)
theorem lt2_asymm (H : Pre cf) {x y : α × Nat} (h : lt2 cf x y) (k : lt2 cf y x) : False := by
  unfold lt2 at *
  have := H.neg x.1 y.1
  omega
/-- The test of the sort, of one behind against one ahead. -/
theorem lt2_yes {x y : α × Nat} (h : cf y.1 x.1 < 0) : lt2 cf y x := .inl h
theorem lt2_no (H : Pre cf) {x y : α × Nat} (hi : x.2 < y.2) (h : ¬ cf y.1 x.1 < 0) : lt2 cf x y := by
  unfold lt2
  have := H.neg x.1 y.1
  omega

abbrev Srt (cf : α → α → Int) (l : List (α × Nat)) : Prop := l.Pairwise (lt2 cf)
theorem srt_get (l : List (α × Nat)) (h : Srt cf l) {i j : Nat} {x y : α × Nat} (hij : i < j) (hx : l[i]? = some x) (hy : l[j]? = some y) : lt2 cf x y := by
  obtain ⟨hi, rfl⟩ := List.getElem?_eq_some_iff.1 hx
  obtain ⟨hj, rfl⟩ := List.getElem?_eq_some_iff.1 hy
  exact List.pairwise_iff_getElem.1 h i j hi hj hij
theorem sym_split (H : Pre cf) {L R S1 S2 : List (α × Nat)} (hL : Srt cf L) (hR : Srt cf R) (s t : Nat) (hsL : s ≤ L.length) (htR : t ≤ R.length)
    (h1 : ∀ x y, 0 < s → L[s - 1]? = some x → R[t]? = some y → lt2 cf x y)
    (h2 : ∀ x y, 0 < t → R[t - 1]? = some x → L[s]? = some y → lt2 cf x y)
    (p1 : S1.Perm (L.take s ++ R.take t)) (q1 : Srt cf S1) (p2 : S2.Perm (L.drop s ++ R.drop t)) (q2 : Srt cf S2) :
    (S1 ++ S2).Perm (L ++ R) ∧ Srt cf (S1 ++ S2) := by
  constructor
  · refine (p1.append p2).trans ?_
    conv => rhs; rw [← List.take_append_drop s L, ← List.take_append_drop t R]
    simp only [List.append_assoc]
    refine List.Perm.append_left _ ?_
    simp only [← List.append_assoc]
    exact List.Perm.append_right _ List.perm_append_comm
  · refine List.pairwise_append.2 ⟨q1, q2, fun x hx y hy => ?_⟩
    have hx := List.mem_append.1 (p1.mem_iff.1 hx)
    have hy := List.mem_append.1 (p2.mem_iff.1 hy)
    have tk : ∀ (l : List (α × Nat)) (n : Nat) (x : α × Nat), x ∈ l.take n → ∃ i, i < n ∧ l[i]? = some x := by
      intro l n x h
      obtain ⟨i, hi, rfl⟩ := List.getElem_of_mem h
      have : i < n ∧ i < l.length := by simpa [Nat.lt_min] using hi
      refine ⟨i, this.1, ?_⟩
      rw [List.getElem?_eq_getElem this.2, List.getElem_take]
    have dp : ∀ (l : List (α × Nat)) (n : Nat) (x : α × Nat), x ∈ l.drop n → ∃ i, n ≤ i ∧ l[i]? = some x := by
      intro l n x h
      obtain ⟨i, hi, rfl⟩ := List.getElem_of_mem h
      have h2 : n + i < l.length := by simp at hi; omega
      refine ⟨n + i, by omega, ?_⟩
      rw [List.getElem?_eq_getElem h2, List.getElem_drop]
    have le : ∀ (l : List (α × Nat)), Srt cf l → ∀ (i j : Nat) (x y : α × Nat), i ≤ j → l[i]? = some x → l[j]? = some y → lt2 cf x y ∨ x = y := by
      intro l h i j x y hij hx hy
      rcases Nat.lt_or_ge i j with h' | h'
      · exact .inl (srt_get l h h' hx hy)
      · obtain rfl : i = j := by omega
        rw [hx] at hy; injection hy with hy; exact .inr hy
    have nxt : ∀ (l : List (α × Nat)) (i j : Nat) (x : α × Nat), i ≤ j → l[j]? = some x → ∃ y, l[i]? = some y := by
      intro l i j x hij hx
      have := (List.getElem?_eq_some_iff.1 hx).1
      exact ⟨_, List.getElem?_eq_getElem (by omega)⟩
    rcases hx with hx | hx <;> rcases hy with hy | hy
    · obtain ⟨i, hi, ex⟩ := tk _ _ _ hx
      obtain ⟨j, hj, ey⟩ := dp _ _ _ hy
      exact srt_get L hL (by omega) ex ey
    · obtain ⟨i, hi, ex⟩ := tk _ _ _ hx
      obtain ⟨j, hj, ey⟩ := dp _ _ _ hy
      obtain ⟨v, hv⟩ := nxt R t j y hj ey
      obtain ⟨u, hu⟩ : ∃ u, L[s - 1]? = some u := ⟨_, List.getElem?_eq_getElem (by omega)⟩
      have a1 := le L hL i (s - 1) x u (by omega) ex hu
      have a2 := h1 u v (by omega) hu hv
      have a3 := le R hR t j v y hj hv ey
      have a4 : lt2 cf x v := by
        rcases a1 with a1 | rfl
        · exact lt2_trans H a1 a2
        · exact a2
      rcases a3 with a3 | rfl
      · exact lt2_trans H a4 a3
      · exact a4
    · obtain ⟨i, hi, ex⟩ := tk _ _ _ hx
      obtain ⟨j, hj, ey⟩ := dp _ _ _ hy
      obtain ⟨v, hv⟩ := nxt L s j y hj ey
      obtain ⟨u, hu⟩ : ∃ u, R[t - 1]? = some u := ⟨_, List.getElem?_eq_getElem (by omega)⟩
      have a1 := le R hR i (t - 1) x u (by omega) ex hu
      have a2 := h2 u v (by omega) hu hv
      have a3 := le L hL s j v y hj hv ey
      have a4 : lt2 cf x v := by
        rcases a1 with a1 | rfl
        · exact lt2_trans H a1 a2
        · exact a2
      rcases a3 with a3 | rfl
      · exact lt2_trans H a4 a3
      · exact a4
    · obtain ⟨i, hi, ex⟩ := tk _ _ _ hx
      obtain ⟨j, hj, ey⟩ := dp _ _ _ hy
      exact srt_get R hR (by omega) ex ey
theorem ins_mid (H : Pre cf) {A B : List (α × Nat)} {x : α × Nat} (h : Srt cf (A ++ B)) (h1 : ∀ y, A.getLast? = some y → lt2 cf y x) (h2 : ∀ y, B.head? = some y → lt2 cf x y) : Srt cf (A ++ x :: B) := by
  obtain ⟨hA, hB, hAB⟩ := List.pairwise_append.1 h
  have hb : ∀ y ∈ B, lt2 cf x y := by
    intro y hy
    cases B with
    | nil => cases hy
    | cons z B =>
      have hz := h2 z rfl
      rcases List.mem_cons.1 hy with rfl | hy
      · exact hz
      · exact lt2_trans H hz (List.rel_of_pairwise_cons hB hy)
  have ha : ∀ y ∈ A, lt2 cf y x := by
    intro y hy
    rcases List.eq_nil_or_concat A with rfl | ⟨A', z, rfl⟩
    · cases hy
    · have hz := h1 z (by simp)
      simp only [List.concat_eq_append] at hy hA
      rcases List.mem_append.1 hy with hy | hy
      · exact lt2_trans H ((List.pairwise_append.1 hA).2.2 y hy z (by simp)) hz
      · rcases List.mem_singleton.1 hy with rfl; exact hz
  refine List.pairwise_append.2 ⟨hA, List.pairwise_cons.2 ⟨hb, hB⟩, fun u hu v hv => ?_⟩
  rcases List.mem_cons.1 hv with rfl | hv
  · exact ha u hu
  · exact hAB u hu v hv
theorem srt_uniq (H : Pre cf) {S T : List (α × Nat)} (hS : Srt cf S) (hT : Srt cf T) (hp : S.Perm T) : S = T :=
  hp.eq_of_pairwise (fun a b _ _ h k => (lt2_asymm H h k).elim) hS hT

/-! ### Insertion -/
def insR (cf : α → α → Int) (x : α) : List α → List α
  | [] => [x]
  | y :: r => if cf x y < 0 then y :: insR cf x r else x :: y :: r
def insb (cf : α → α → Int) (A : List α) (x : α) : List α := (insR cf x A.reverse).reverse
def isort (cf : α → α → Int) (l : List α) : List α := l.foldl (insb cf) []
theorem insb_snoc_lt (A : List α) (x y : α) (h : cf x y < 0) : insb cf (A ++ [y]) x = insb cf A x ++ [y] := by simp [insb, insR, h]
theorem insb_snoc_ge (A : List α) (x y : α) (h : ¬ cf x y < 0) : insb cf (A ++ [y]) x = A ++ [y, x] := by simp [insb, insR, h]
theorem insb_nil (x : α) : insb cf [] x = [x] := rfl
theorem insR_len (x : α) : ∀ l : List α, (insR cf x l).length = l.length + 1
  | [] => rfl
  | y :: r => by unfold insR; split <;> simp [insR_len x r]
theorem insb_len (A : List α) (x : α) : (insb cf A x).length = A.length + 1 := by simp [insb, insR_len]
theorem foldl_insb_len : ∀ (B A : List α), (B.foldl (insb cf) A).length = A.length + B.length
  | [], A => rfl
  | x :: B, A => by rw [List.foldl_cons, foldl_insb_len B, insb_len, List.length_cons]; omega
theorem isort_len (l : List α) : (isort cf l).length = l.length := by rw [isort, foldl_insb_len]; simp
theorem insR_map (x : α × Nat) : ∀ l : List (α × Nat), (insR (fun a b : α × Nat => cf a.1 b.1) x l).map Prod.fst = insR cf x.1 (l.map Prod.fst)
  | [] => rfl
  | y :: r => by
    unfold insR
    split
    · rename_i h; simp [h, insR_map x r]
    · rename_i h; simp [h]
theorem insb_map (A : List (α × Nat)) (x : α × Nat) : (insb (fun a b : α × Nat => cf a.1 b.1) A x).map Prod.fst = insb cf (A.map Prod.fst) x.1 := by
  rw [insb, List.map_reverse, insR_map, List.map_reverse]; rfl
theorem foldl_insb_map : ∀ (B A : List (α × Nat)), (B.foldl (insb (fun a b : α × Nat => cf a.1 b.1)) A).map Prod.fst = (B.map Prod.fst).foldl (insb cf) (A.map Prod.fst)
  | [], A => rfl
  | x :: B, A => by rw [List.foldl_cons, foldl_insb_map B, insb_map, List.map_cons, List.foldl_cons]
theorem isort_map (l : List (α × Nat)) : (isort (fun a b : α × Nat => cf a.1 b.1) l).map Prod.fst = isort cf (l.map Prod.fst) := foldl_insb_map l []
theorem insR_perm (x : α) : ∀ l : List α, (insR cf x l).Perm (x :: l)
  | [] => .refl _
  | y :: r => by
    unfold insR
    split
    · exact ((insR_perm x r).cons y).trans (List.Perm.swap x y r)
    · exact .refl _
theorem insb_perm (A : List α) (x : α) : (insb cf A x).Perm (A ++ [x]) := by
  unfold insb
  refine (List.reverse_perm _).trans ((insR_perm x _).trans ?_)
  refine ((List.reverse_perm A).cons x).trans ?_
  exact (List.perm_append_comm (l₁ := [x]) (l₂ := A))
theorem foldl_insb_perm : ∀ (B A : List α), (B.foldl (insb cf) A).Perm (A ++ B)
  | [], A => by simp
  | x :: B, A => by
    rw [List.foldl_cons]
    refine (foldl_insb_perm B _).trans ?_
    refine ((insb_perm A x).append_right B).trans ?_
    simp
theorem isort_perm (l : List α) : (isort cf l).Perm l := by simpa [isort] using foldl_insb_perm (cf := cf) l []
/-- One that is behind all, put in from behind. -/
theorem insb_srt (H : Pre cf) (x : α × Nat) : ∀ (n : Nat) (A : List (α × Nat)), A.length = n → Srt cf A → (∀ y ∈ A, y.2 < x.2) → Srt cf (insb (fun a b : α × Nat => cf a.1 b.1) A x)
  | n, A, hn, hA, hi => by
    rcases List.eq_nil_or_concat A with rfl | ⟨A', z, rfl⟩
    · simp [insb_nil]
    · rw [List.concat_eq_append] at *
      cases n with
      | zero => simp at hn
      | succ n =>
        have hA' := (List.pairwise_append.1 hA).1
        by_cases h : cf x.1 z.1 < 0
        · rw [insb_snoc_lt (cf := fun a b : α × Nat => cf a.1 b.1) _ _ _ h]
          have ih := insb_srt H x n A' (by simpa using hn) hA' (fun y hy => hi y (by simp [hy]))
          refine List.pairwise_append.2 ⟨ih, by simp, fun u hu v hv => ?_⟩
          rcases List.mem_singleton.1 hv with rfl
          rcases List.mem_append.1 ((insb_perm A' x).mem_iff.1 hu) with hu | hu
          · exact (List.pairwise_append.1 hA).2.2 u hu v (by simp)
          · rcases List.mem_singleton.1 hu with rfl; exact .inl h
        · rw [insb_snoc_ge (cf := fun a b : α × Nat => cf a.1 b.1) _ _ _ h]
          refine List.pairwise_append.2 ⟨hA', ?_, fun u hu v hv => ?_⟩
          · simp only [List.pairwise_cons, List.mem_singleton, List.not_mem_nil, List.Pairwise.nil, forall_eq, and_true]
            exact ⟨lt2_no H (hi z (by simp)) h, by simp⟩
          · have hz := (List.pairwise_append.1 hA).2.2 u hu z (by simp)
            rcases List.mem_cons.1 hv with rfl | hv
            · exact hz
            · rcases List.mem_singleton.1 hv with rfl
              exact lt2_trans H hz (lt2_no H (hi z (by simp)) h)
theorem foldl_insb_srt (H : Pre cf) : ∀ (B A : List (α × Nat)), Srt cf A → (∀ y ∈ A, ∀ x ∈ B, y.2 < x.2) → B.Pairwise (fun x y => x.2 < y.2) → Srt cf (B.foldl (insb (fun a b : α × Nat => cf a.1 b.1)) A)
  | [], A, hA, _, _ => hA
  | x :: B, A, hA, hi, hB => by
    rw [List.foldl_cons]
    refine foldl_insb_srt H B _ (insb_srt H x _ A rfl hA (fun y hy => hi y hy x (by simp))) (fun y hy z hz => ?_) (List.pairwise_cons.1 hB).2
    rcases List.mem_append.1 ((insb_perm A x).mem_iff.1 hy) with hy | hy
    · exact hi y hy z (by simp [hz])
    · rcases List.mem_singleton.1 hy with rfl; exact (List.pairwise_cons.1 hB).1 z hz
theorem isort_srt (H : Pre cf) {l : List (α × Nat)} (hl : l.Pairwise (fun x y => x.2 < y.2)) : Srt cf (isort (fun a b : α × Nat => cf a.1 b.1) l) :=
  foldl_insb_srt H l [] (by simp) (by simp) hl

/-! ### The kit's rows as lists -/
variable [Inhabited α]
open Go.Sort
theorem swp_list (X M Y : List α) (x y : α) (i j : Nat) (hi : i = X.length) (hj : j = X.length + 1 + M.length) : swp (X ++ x :: (M ++ y :: Y)).toArray i j = (X ++ y :: (M ++ x :: Y)).toArray := by
  subst hi hj
  have e1 : (X ++ x :: (M ++ y :: Y)).toArray[X.length + 1 + M.length]! = y := by
    simp only [List.getElem!_toArray]
    rw [List.getElem!_eq_getElem?_getD, List.getElem?_append_right (by omega), show X.length + 1 + M.length - X.length = M.length + 1 by omega, List.getElem?_cons_succ, List.getElem?_append_right (by omega)]
    simp
  have e2 : (X ++ x :: (M ++ y :: Y)).toArray[X.length]! = x := by
    simp only [List.getElem!_toArray]
    rw [List.getElem!_eq_getElem?_getD, List.getElem?_append_right (by omega)]
    simp
  unfold swp
  rw [e1, e2, List.setIfInBounds_toArray, List.setIfInBounds_toArray]
  congr 1
  rw [List.set_append_right _ _ (by omega), Nat.sub_self, List.set_cons_zero, List.set_append_right _ _ (by omega), show X.length + 1 + M.length - X.length = M.length + 1 by omega, List.set_cons_succ, List.set_append_right _ _ (by omega), Nat.sub_self, List.set_cons_zero]
theorem swp_comm (d : Array α) (i j : Nat) (hi : i < d.size) (hj : j < d.size) : swp d i j = swp d j i := by
  unfold swp
  by_cases e : i = j
  · subst e; rfl
  · exact Array.setIfInBounds_comm _ _ e
theorem get_list (X Y : List α) (x : α) (i : Nat) (hi : i = X.length) : (X ++ x :: Y).toArray[i]! = x := by
  subst hi
  simp only [List.getElem!_toArray]
  rw [List.getElem!_eq_getElem?_getD, List.getElem?_append_right (by omega)]
  simp
theorem insInner_list : ∀ (n : Nat) (X A B : List α) (x : α) (a j : Nat), A.length = n → a = X.length → j = a + A.length → insInner (fun x y => decide (cf x y < 0)) a j (X ++ A ++ x :: B).toArray = (X ++ insb cf A x ++ B).toArray
  | n, X, A, B, x, a, j, hn, ha, hj => by
    rcases List.eq_nil_or_concat A with rfl | ⟨A', z, rfl⟩
    · rw [insInner_stop _ _ _ _ (.inl (by simp at hj; omega))]; simp [insb_nil]
    · rw [List.concat_eq_append] at *
      cases n with
      | zero => simp at hn
      | succ n =>
        simp only [List.length_append, List.length_cons, List.length_nil] at hj hn
        have g1 : (X ++ (A' ++ [z]) ++ x :: B).toArray[j]! = x := get_list _ _ _ _ (by simp; omega)
        have g2 : (X ++ (A' ++ [z]) ++ x :: B).toArray[j - 1]! = z := by
          rw [show X ++ (A' ++ [z]) ++ x :: B = (X ++ A') ++ z :: (x :: B) by simp]
          exact get_list _ _ _ _ (by simp; omega)
        by_cases h : cf x z < 0
        · rw [insInner_go _ _ _ _ (by omega) (by rw [g1, g2]; exact decide_eq_true h), insb_snoc_lt _ _ _ h]
          rw [show swp (X ++ (A' ++ [z]) ++ x :: B).toArray j (j - 1) = (X ++ A' ++ x :: (z :: B)).toArray by
            rw [swp_comm _ _ _ (by simp; omega) (by simp; omega), show X ++ (A' ++ [z]) ++ x :: B = (X ++ A') ++ z :: ([] ++ x :: B) by simp]
            exact swp_list (X ++ A') [] B z x _ _ (by simp; omega) (by simp; omega)]
          rw [insInner_list n X A' (z :: B) x a (j - 1) (by omega) ha (by omega)]
          simp
        · rw [insInner_stop _ _ _ _ (.inr (by rw [g1, g2]; exact decide_eq_false h)), insb_snoc_ge _ _ _ h]
          simp
theorem insOuter_list : ∀ (B X A Y : List α) (a b i : Nat), a = X.length → i = a + A.length → b = i + B.length → insOuter (fun x y => decide (cf x y < 0)) a b i (X ++ A ++ B ++ Y).toArray = (X ++ B.foldl (insb cf) A ++ Y).toArray
  | [], X, A, Y, a, b, i, ha, hi, hb => by rw [insOuter_stop _ _ _ _ _ (by simp at hb; omega)]; simp
  | x :: B, X, A, Y, a, b, i, ha, hi, hb => by
    simp only [List.length_cons] at hb
    rw [insOuter_go _ _ _ _ _ (by omega), show X ++ A ++ x :: B ++ Y = X ++ A ++ x :: (B ++ Y) by simp, insInner_list _ X A (B ++ Y) x a i rfl ha hi, List.foldl_cons, ← List.append_assoc]
    exact insOuter_list B X (insb cf A x) Y a b (i + 1) ha (by rw [insb_len]; omega) (by omega)
/-- The kit's insertion sort of a part of a row. -/
theorem insertionSort_list (X B Y : List α) (a b : Nat) (ha : a = X.length) (hb : b = a + B.length) : insertionSort (fun x y => decide (cf x y < 0)) (X ++ B ++ Y).toArray a b = (X ++ isort cf B ++ Y).toArray := by
  unfold insertionSort
  cases B with
  | nil => rw [insOuter_stop _ _ _ _ _ (by simp at hb; omega)]; rfl
  | cons x B =>
    have := insOuter_list (cf := cf) B X [x] Y a b (a + 1) ha rfl (by simp at hb; omega)
    simp only [List.append_assoc, List.cons_append, List.nil_append] at this ⊢
    rw [this]; simp [isort, insb_nil]
end
section
set_option linter.unusedSectionVars false
variable {α : Type} [Inhabited α]
open Go.Sort
/-! ### Ranges that change places -/
def srow (X A M B Y : List α) (i : Nat) : List α := X ++ B.take i ++ A.drop i ++ M ++ A.take i ++ B.drop i ++ Y
theorem srow_start (X A M B Y : List α) : srow X A M B Y 0 = X ++ A ++ M ++ B ++ Y := by simp [srow]
theorem srow_end (X A M B Y : List α) (n : Nat) (hA : A.length = n) (hB : B.length = n) : srow X A M B Y n = X ++ B ++ M ++ A ++ Y := by
  unfold srow
  rw [List.take_of_length_le (by omega), List.drop_of_length_le (by omega), List.take_of_length_le (by omega), List.drop_of_length_le (by omega)]; simp
theorem srow_len (X A M B Y : List α) (n i : Nat) (hA : A.length = n) (hB : B.length = n) (hi : i ≤ n) : (srow X A M B Y i).length = X.length + n + M.length + n + Y.length := by
  simp [srow]; omega
theorem srow_step (X A M B Y : List α) (n i p q : Nat) (hA : A.length = n) (hB : B.length = n) (hi : i < n) (hp : p = X.length + i) (hq : q = X.length + n + M.length + i) :
    swp (srow X A M B Y i).toArray p q = (srow X A M B Y (i + 1)).toArray := by
  unfold srow
  rw [List.drop_eq_getElem_cons (l := A) (by omega), List.drop_eq_getElem_cons (l := B) (by omega), List.take_succ_eq_append_getElem (l := A) (by omega), List.take_succ_eq_append_getElem (l := B) (by omega)]
  have := swp_list (X ++ B.take i) (A.drop (i + 1) ++ M ++ A.take i) (B.drop (i + 1) ++ Y) A[i] B[i] p q (by simp; omega) (by simp; omega)
  simp only [List.append_assoc, List.cons_append, List.nil_append] at this ⊢
  exact this
/-! ### One that wanders -/
theorem wup_step (X R Y : List α) (x : α) (t k : Nat) (ht : t < R.length) (hk : k = X.length + t) : swp (X ++ R.take t ++ x :: R.drop t ++ Y).toArray k (k + 1) = (X ++ R.take (t + 1) ++ x :: R.drop (t + 1) ++ Y).toArray := by
  rw [List.drop_eq_getElem_cons (l := R) ht, List.take_succ_eq_append_getElem (l := R) ht]
  have := swp_list (X ++ R.take t) [] (R.drop (t + 1) ++ Y) x R[t] k (k + 1) (by simp; omega) (by simp; omega)
  simp only [List.append_assoc, List.cons_append, List.nil_append] at this ⊢
  exact this
theorem wdn_step (X L Y : List α) (x : α) (t k : Nat) (ht : t < L.length) (hk : k = X.length + t) : swp (X ++ L.take (t + 1) ++ x :: L.drop (t + 1) ++ Y).toArray (k + 1) k = (X ++ L.take t ++ x :: L.drop t ++ Y).toArray := by
  rw [swp_comm _ _ _ (by simp; omega) (by simp; omega), List.drop_eq_getElem_cons (l := L) ht, List.take_succ_eq_append_getElem (l := L) ht]
  have := swp_list (X ++ L.take t) [] (L.drop (t + 1) ++ Y) L[t] x k (k + 1) (by simp; omega) (by simp; omega)
  simp only [List.append_assoc, List.cons_append, List.nil_append] at this ⊢
  exact this
theorem get_at (X L Y : List α) (i s : Nat) (x : α) (hi : i = X.length + s) (hs : L[s]? = some x) : (X ++ L ++ Y).toArray[i]! = x := by
  obtain ⟨h, rfl⟩ := List.getElem?_eq_some_iff.1 hs
  have e : L = L.take s ++ L[s] :: L.drop (s + 1) := by rw [← List.drop_eq_getElem_cons h, List.take_append_drop]
  have := get_list (X ++ L.take s) (L.drop (s + 1) ++ Y) L[s] i (by simp; omega)
  rw [← this, show X ++ L ++ Y = X ++ L.take s ++ L[s] :: (L.drop (s + 1) ++ Y) by
    rw [List.append_assoc X L Y, show L ++ Y = L.take s ++ L[s] :: (L.drop (s + 1) ++ Y) by
      rw [← List.cons_append, ← List.append_assoc, ← List.drop_eq_getElem_cons h, List.take_append_drop], List.append_assoc]]
end
section
variable {α : Type} {cf : α → α → Int}
theorem srt_sub {A B C : List (α × Nat)} (h : Srt cf (A ++ B ++ C)) : Srt cf B := (List.pairwise_append.1 (List.pairwise_append.1 h).1).2.1
theorem srt_take {L : List (α × Nat)} (h : Srt cf L) (n : Nat) : Srt cf (L.take n) := h.sublist (List.take_sublist n L)
theorem srt_drop {L : List (α × Nat)} (h : Srt cf L) (n : Nat) : Srt cf (L.drop n) := h.sublist (List.drop_sublist n L)
/-! ### Rows of sorted blocks -/
inductive Blk (cf : α → α → Int) (bs : Nat) : List (α × Nat) → List (α × Nat) → Prop
  | last {A0 A : List (α × Nat)} : A.length ≤ bs → A.Perm A0 → Srt cf A → Blk cf bs A0 A
  | cons {A0 A B0 B : List (α × Nat)} : A.length = bs → A.Perm A0 → Srt cf A → Blk cf bs B0 B → Blk cf bs (A0 ++ B0) (A ++ B)
theorem Blk.perm {bs : Nat} {D0 D : List (α × Nat)} (h : Blk cf bs D0 D) : D.Perm D0 := by
  induction h with
  | last _ h _ => exact h
  | cons _ h _ _ ih => exact h.append ih
theorem Blk.whole {bs : Nat} {D0 D : List (α × Nat)} (h : Blk cf bs D0 D) (hn : D.length ≤ bs) : Srt cf D := by
  induction h with
  | last _ _ h => exact h
  | cons hl _ hs _ ih =>
    rename_i A0 A B0 B _ _
    have : B = [] := List.length_eq_zero_iff.1 (by simp at hn; omega)
    subst this; simpa using hs
theorem Blk.short {bs : Nat} {D0 D : List (α × Nat)} (h : Blk cf bs D0 D) (hn : D.length ≤ bs) : Blk cf (2 * bs) D0 D := .last (by omega) h.perm (h.whole hn)
/-- A row of blocks that is longer than a block begins with one. -/
theorem Blk.first {bs : Nat} {D0 D : List (α × Nat)} (h : Blk cf bs D0 D) (hn : bs < D.length) : ∃ A0 A B0 B, D0 = A0 ++ B0 ∧ D = A ++ B ∧ A.length = bs ∧ A.Perm A0 ∧ Srt cf A ∧ Blk cf bs B0 B := by
  cases h with
  | last h _ _ => omega
  | cons h1 h2 h3 h4 => exact ⟨_, _, _, _, rfl, rfl, h1, h2, h3, h4⟩
/-- .. and one of at least two with two. -/
theorem Blk.first_le {bs : Nat} {D0 D : List (α × Nat)} (h : Blk cf bs D0 D) (hn : bs ≤ D.length) : ∃ A0 A B0 B, D0 = A0 ++ B0 ∧ D = A ++ B ∧ A.length = bs ∧ A.Perm A0 ∧ Srt cf A ∧ Blk cf bs B0 B := by
  cases h with
  | last h1 h2 h3 => exact ⟨_, _, [], [], (List.append_nil _).symm, (List.append_nil _).symm, by omega, h2, h3, .last (by simp) (.refl _) (by simp)⟩
  | cons h1 h2 h3 h4 => exact ⟨_, _, _, _, rfl, rfl, h1, h2, h3, h4⟩
/-- What is behind is behind: the places ascend in the row that came in. -/
abbrev Asc (l : List (α × Nat)) : Prop := l.Pairwise (fun x y => x.2 < y.2)
theorem asc_cross {A0 B0 A B : List (α × Nat)} (h : Asc (A0 ++ B0)) (hA : A.Perm A0) (hB : B.Perm B0) : ∀ x ∈ A, ∀ y ∈ B, x.2 < y.2 :=
  fun x hx y hy => (List.pairwise_append.1 h).2.2 x (hA.mem_iff.1 hx) y (hB.mem_iff.1 hy)
theorem stable_end (H : Pre cf) {D0 D : List (α × Nat)} (ha : Asc D0) (hp : D.Perm D0) (hs : Srt cf D) : D.map Prod.fst = isort cf (D0.map Prod.fst) := by
  rw [← isort_map, srt_uniq H hs (isort_srt H ha) (hp.trans (isort_perm D0).symm)]
end
end Go.Proofs.YtcgpkcaaojkpcaaGreatDoor


/-
  Plain facts of the laws of handles.
-/
import Derived.Test.YtidclkojekodpaaGreatDoorHnP
namespace Go.Proofs.YtidclkojekodpaaGreatDoor
open Go.RowKit
set_option linter.unusedSimpArgs false
set_option linter.unusedVariables false

theorem getD_lt {l : List Slot} {i : Nat} (h : i < l.length) : l.getD i s0 = l[i] := by rw [List.getD_eq_getElem?_getD, List.getElem?_eq_getElem h]; rfl
theorem getD_ge {l : List Slot} {i : Nat} (h : l.length ≤ i) : l.getD i s0 = s0 := by rw [List.getD_eq_getElem?_getD, List.getElem?_eq_none h]; rfl
theorem getD_some {l : List Slot} {i : Nat} (h : i < l.length) : l[i]? = some (l.getD i s0) := by rw [getD_lt h, List.getElem?_eq_getElem h]
theorem getD_set (l : List Slot) (i : Nat) (s : Slot) (j : Nat) : (l.set i s).getD j s0 = if i = j ∧ i < l.length then s else l.getD j s0 := by
  simp only [List.getD_eq_getElem?_getD, List.getElem?_set]
  by_cases e : i = j
  · subst e
    by_cases h : i < l.length
    · simp [h]
    · simp [h, List.getElem?_eq_none (by omega : l.length ≤ i)]
  · simp [e]
theorem sset_len {l : List Slot} {i : Nat} (s : Slot) (h : i ≤ l.length) : (sset l i s).length = if i = l.length then l.length + 1 else l.length := by
  unfold sset; split <;> simp
theorem sset_getD {l : List Slot} {i : Nat} (s : Slot) (h : i ≤ l.length) (j : Nat) : (sset l i s).getD j s0 = if i = j then s else l.getD j s0 := by
  unfold sset
  by_cases e : i = l.length
  · rw [if_pos e]
    simp only [List.getD_eq_getElem?_getD]
    rcases Nat.lt_trichotomy j l.length with h1 | h1 | h1
    · rw [List.getElem?_append_left h1, if_neg (by omega)]
    · rw [List.getElem?_append_right (by omega), if_pos (by omega)]; simp [h1]
    · rw [List.getElem?_append_right (by omega), if_neg (by omega), List.getElem?_eq_none (by omega : l.length ≤ j), List.getElem?_eq_none (by simp; omega)]
  · rw [if_neg e, getD_set]
    by_cases k : i = j
    · rw [if_pos ⟨k, by omega⟩, if_pos k]
    · rw [if_neg (by omega), if_neg k]
theorem sfree_here {l : List Slot} (h : sfree l < l.length) : (l.getD (sfree l) s0).used = false := sfree_free (getD_some h)
theorem sfree_before {l : List Slot} {j : Nat} (h : j < sfree l) : (l.getD j s0).used = true := sfree_used l j _ h (getD_some (Nat.lt_of_lt_of_le h (sfree_le l)))
theorem hl_mem {l : List Slot} {h : Int × Int} : ∀ {k : Nat}, h ∈ hl l k ↔ ∃ i, i < k ∧ (l.getD i s0).used = true ∧ h = ((i : Int) + 1, (l.getD i s0).gen)
  | 0 => by simp [hl]
  | k + 1 => by
    simp only [hl, List.mem_append]
    rw [hl_mem (k := k)]
    constructor
    · rintro (⟨i, h1, h2, h3⟩ | h1)
      · exact ⟨i, by omega, h2, h3⟩
      · split at h1
        · rename_i hu; simp at h1; exact ⟨k, by omega, hu, h1⟩
        · simp at h1
    · rintro ⟨i, h1, h2, h3⟩
      by_cases e : i = k
      · subst e; right; rw [if_pos h2]; simp [h3]
      · left; exact ⟨i, by omega, h2, h3⟩
theorem hl_asc (l : List Slot) : ∀ k, (hl l k).Pairwise (fun a b => a.1 < b.1)
  | 0 => by simp [hl]
  | k + 1 => by
    simp only [hl]
    rw [List.pairwise_append]
    refine ⟨hl_asc l k, by split <;> simp, ?_⟩
    intro a ha b hb
    obtain ⟨i, h1, -, rfl⟩ := hl_mem.1 ha
    split at hb
    · simp at hb; subst hb; simp; omega
    · simp at hb
theorem hl_get {l : List Slot} {k j : Nat} {h : Int × Int} (hj : (hl l k)[j]? = some h) : ∃ i, i < k ∧ (l.getD i s0).used = true ∧ h = ((i : Int) + 1, (l.getD i s0).gen) := hl_mem.1 (List.mem_of_getElem? hj)
theorem hl_lt {l : List Slot} {k i j : Nat} {a b : Int × Int} (ha : (hl l k)[i]? = some a) (hb : (hl l k)[j]? = some b) (hij : i < j) : a.1 < b.1 := by
  obtain ⟨h1, rfl⟩ := List.getElem?_eq_some_iff.1 ha
  obtain ⟨h2, rfl⟩ := List.getElem?_eq_some_iff.1 hb
  exact List.pairwise_iff_getElem.1 (hl_asc l k) i j h1 h2 hij
theorem used_lt {l : List Slot} {i : Nat} (h : (l.getD i s0).used = true) : i < l.length := by
  rcases Nat.lt_or_ge i l.length with k | k
  · exact k
  · rw [getD_ge k] at h; simp [s0] at h
/-- How the least index is counted. -/
def lst (h : List (Int × Int)) : Nat → Int
  | 0 => 1
  | k + 1 => if (h.getD k (0, 0)).1 = lst h k then lst h k + 1 else lst h k
theorem lst_app (h r : List (Int × Int)) : ∀ k, k ≤ h.length → lst (h ++ r) k = lst h k
  | 0, _ => rfl
  | k + 1, hk => by
    have e : (h ++ r).getD k (0, 0) = h.getD k (0, 0) := by simp [List.getD_eq_getElem?_getD, List.getElem?_append_left (by omega : k < h.length)]
    simp only [lst]
    rw [lst_app h r k (by omega), e]
theorem lst_hl (l : List Slot) : ∀ k, k ≤ l.length → lst (hl l k) (hl l k).length = ((min (sfree l) k : Nat) : Int) + 1
  | 0, _ => by simp [hl, lst]
  | k + 1, hk => by
    have ih := lst_hl l k (by omega)
    simp only [hl]
    by_cases hu : (l.getD k s0).used = true
    · rw [if_pos hu, List.length_append]
      simp only [List.length_cons, List.length_nil, Nat.zero_add, lst]
      have e : (hl l k ++ [((k : Int) + 1, (l.getD k s0).gen)]).getD (hl l k).length (0, 0) = ((k : Int) + 1, (l.getD k s0).gen) := by simp [List.getD_eq_getElem?_getD]
      rw [lst_app _ _ _ (Nat.le_refl _), ih, e]
      rcases Nat.lt_trichotomy k (sfree l) with h | h | h
      · rw [if_pos (by simp only; omega)]; omega
      · exfalso
        have := sfree_here (l := l) (by omega)
        rw [← h] at this; rw [this] at hu; cases hu
      · rw [if_neg (by simp only; omega)]; omega
    · rw [if_neg hu, List.append_nil, ih]
      have : sfree l ≤ k := by
        rcases Nat.lt_or_ge k (sfree l) with h | h
        · exact absurd (sfree_before h) hu
        · exact h
      omega
theorem lst_all (l : List Slot) : lst (hl l l.length) (hl l l.length).length = (sfree l : Int) + 1 := by
  rw [lst_hl l _ (Nat.le_refl _)]; have := sfree_le l; omega

/-! ### Give, Look, Drop -/
theorem tchk_zero {t : Tb} (h : (tchk t).2 = 0) : tchk t = (0, 0) := good_tchk (tchk_good h)
structure Gave (t : Tb) (i : Nat) (g : Int) : Prop where
  good : Good t
  le : i ≤ t.slots.length
  most : (i : Int) < t.most
  free : i < t.slots.length → (t.slots.getD i s0).used = false
  before : ∀ j, j < i → (t.slots.getD j s0).used = true
  gen : (t.slots.getD i s0).gen = g
  g0 : 0 ≤ g
  g1 : g < 1000000000
  is : sfree t.slots = i
  out : tgive t = (⟨t.most, sset t.slots i ⟨g + 1, true⟩⟩, ((i : Int) + 1, g + 1), 0)
theorem tgive_cases {t : Tb} (h : Good t) : ((tgive t).2.2 = 5 ∧ tgive t = (tnil, (0, 0), 5) ∧ (t.slots.length : Int) = t.most ∧ ∀ j, j < t.slots.length → (t.slots.getD j s0).used = true) ∨
    ((tgive t).2.2 = 9 ∧ tgive t = (tnil, (0, 0), 9) ∧ ∃ i, i < t.slots.length ∧ (t.slots.getD i s0).gen = 1000000000) ∨ (∃ i g, Gave t i g) := by
  have hl := h.len
  have hs := sfree_le t.slots
  unfold tgive
  rw [good_tchk h, if_neg (by simp)]
  by_cases e : (sfree t.slots : Int) = t.most
  · left
    rw [if_pos e]
    have e2 : sfree t.slots = t.slots.length := by omega
    exact ⟨rfl, rfl, by omega, fun j hj => sfree_before (by omega)⟩
  · right
    rw [if_neg e]
    by_cases f : (t.slots.getD (sfree t.slots) s0).gen = 1000000000
    · left
      rw [if_pos f]
      refine ⟨rfl, rfl, _, ?_, f⟩
      rcases Nat.lt_or_ge (sfree t.slots) t.slots.length with k | k
      · exact k
      · rw [getD_ge k] at f; simp [s0] at f
    · right
      refine ⟨sfree t.slots, (t.slots.getD (sfree t.slots) s0).gen, h, hs, by omega, sfree_here, fun j hj => sfree_before hj, rfl, ?_, ?_, rfl, ?_⟩
      · rcases Nat.lt_or_ge (sfree t.slots) t.slots.length with k | k
        · have := h.get k; omega
        · rw [getD_ge k]; simp [s0]
      · rcases Nat.lt_or_ge (sfree t.slots) t.slots.length with k | k
        · have := h.get k; omega
        · rw [getD_ge k]; simp [s0]
      · unfold tgive
        rw [good_tchk h, if_neg (by simp), if_neg e, if_neg f]
theorem tgive_bad {t : Tb} (h : (tchk t).2 ≠ 0) : tgive t = (tnil, (0, 0), (tchk t).2) := by unfold tgive; rw [if_pos h]
theorem gens_of {t : Tb} (h : ∀ j, j < t.slots.length → 1 ≤ (t.slots.getD j s0).gen ∧ (t.slots.getD j s0).gen ≤ 1000000000) : ∀ s, s ∈ t.slots → 1 ≤ s.gen ∧ s.gen ≤ 1000000000 := by
  intro s hs
  obtain ⟨j, hj, rfl⟩ := List.getElem_of_mem hs
  have := h j hj
  rwa [getD_lt hj] at this
theorem Gave.good' {t : Tb} {i : Nat} {g : Int} (h : Gave t i g) : Good ⟨t.most, sset t.slots i ⟨g + 1, true⟩⟩ := by
  have h1 := h.le; have h2 := h.most; have h3 := h.good.len; have h4 := h.g0; have h5 := h.g1
  refine ⟨h.good.most1, h.good.most2, ?_, gens_of fun j hj => ?_⟩
  · simp only; rw [sset_len _ h1]; split <;> omega
  · simp only at hj ⊢
    rw [sset_getD _ h1]
    split
    · simp only; omega
    · rename_i e
      rw [sset_len _ h1] at hj
      have hj2 : j < t.slots.length := by split at hj <;> omega
      exact h.good.get hj2
theorem tlook_hit {t : Tb} {i : Nat} {h : Int × Int} (hg : Good t) (hi : i < t.slots.length) (hu : (t.slots.getD i s0).used = true) (e : h = ((i : Int) + 1, (t.slots.getD i s0).gen)) : tlook t h = ((i : Int), 0) := by
  subst e
  have := hg.get hi
  unfold tlook
  rw [good_tchk hg, if_neg (by simp)]
  simp only
  rw [show ((i : Int) + 1 - 1).toNat = i by omega, if_neg (by omega), if_neg (by omega), if_neg (by rw [hu]; simp)]
  rw [show (i : Int) + 1 - 1 = i by omega]
theorem tlook_stale {t : Tb} {i : Nat} {h : Int × Int} (hg : Good t) (hi : i < t.slots.length) (e : h.1 = (i : Int) + 1) (h1 : 1 ≤ h.2) (h2 : h.2 ≤ (t.slots.getD i s0).gen) (hu : ¬ (h.2 = (t.slots.getD i s0).gen ∧ (t.slots.getD i s0).used = true)) : tlook t h = (0, 11) := by
  have := hg.get hi
  unfold tlook
  rw [good_tchk hg, if_neg (by simp)]
  rw [e, show ((i : Int) + 1 - 1).toNat = i by omega, if_neg (by omega), if_neg (by omega), if_pos ?_]
  by_cases k : h.2 < (t.slots.getD i s0).gen
  · exact .inl k
  · right
    cases u : (t.slots.getD i s0).used
    · rfl
    · exact absurd ⟨by omega, u⟩ hu
theorem tdrop_hit {t : Tb} {i : Nat} {h : Int × Int} (hg : Good t) (hi : i < t.slots.length) (hu : (t.slots.getD i s0).used = true) (e : h = ((i : Int) + 1, (t.slots.getD i s0).gen)) :
    tdrop t h = (⟨t.most, t.slots.set i ⟨(t.slots.getD i s0).gen, false⟩⟩, 0) := by
  unfold tdrop
  rw [tlook_hit hg hi hu e, if_neg (by simp)]
  subst e
  simp only
  rw [show ((i : Int) + 1 - 1).toNat = i by omega]
theorem drop_good {t : Tb} {i : Nat} (hg : Good t) (hi : i < t.slots.length) : Good ⟨t.most, t.slots.set i ⟨(t.slots.getD i s0).gen, false⟩⟩ := by
  refine ⟨hg.most1, hg.most2, by simpa using hg.len, gens_of fun j hj => ?_⟩
  simp only at hj ⊢
  rw [getD_set]
  split
  · exact hg.get hi
  · exact hg.get (by simpa using hj)

/-! ### HandlesLeast -/
structure LeastLaw (t : Tb) (i : Nat) (g : Int) : Prop where
  least : lst (hl t.slots t.slots.length) (hl t.slots t.slots.length).length = (i : Int) + 1
  asc : ∀ (j : Nat) (a b : Int × Int), (hl t.slots t.slots.length)[j]? = some a → (hl t.slots t.slots.length)[j + 1]? = some b → a.1 < b.1
  drop : ∃ v, tdrop ⟨t.most, sset t.slots i ⟨g + 1, true⟩⟩ ((i : Int) + 1, g + 1) = (v, 0) ∧
    (g + 1 = 1000000000 → tgive v = (tnil, (0, 0), 9)) ∧ (g + 1 ≠ 1000000000 → ∃ x, tgive v = (x, ((i : Int) + 1, g + 2), 0) ∧ tlook x ((i : Int) + 1, g + 1) = (0, 11))
theorem least_law {t : Tb} {i : Nat} {g : Int} (h : Gave t i g) : LeastLaw t i g := by
  have h1 := h.le; have h2 := h.most; have h3 := h.good.len; have h4 := h.g0; have h5 := h.g1
  refine ⟨?_, fun j a b ha hb => hl_lt ha hb (by omega), ?_⟩
  · rw [lst_all, h.is]
  · have hg := h.good'
    have hlen := sset_len (⟨g + 1, true⟩ : Slot) h1
    have hi : i < (sset t.slots i ⟨g + 1, true⟩).length := by rw [hlen]; split <;> omega
    have hd : (sset t.slots i ⟨g + 1, true⟩).getD i s0 = ⟨g + 1, true⟩ := by rw [sset_getD _ h1, if_pos rfl]
    have e := tdrop_hit (t := ⟨t.most, sset t.slots i ⟨g + 1, true⟩⟩) (h := ((i : Int) + 1, g + 1)) hg hi (by rw [hd]) (by rw [hd])
    have hgv := drop_good (t := ⟨t.most, sset t.slots i ⟨g + 1, true⟩⟩) hg hi
    simp only at e hgv
    rw [hd] at e hgv
    simp only at e hgv
    have hvd : ((sset t.slots i ⟨g + 1, true⟩).set i ⟨g + 1, false⟩).getD i s0 = ⟨g + 1, false⟩ := by rw [getD_set, if_pos ⟨rfl, hi⟩]
    have hvl : ((sset t.slots i ⟨g + 1, true⟩).set i ⟨g + 1, false⟩).length = (sset t.slots i ⟨g + 1, true⟩).length := by simp
    have hsf : sfree ((sset t.slots i ⟨g + 1, true⟩).set i ⟨g + 1, false⟩) = i := by
      refine sfree_eq _ i ⟨g + 1, false⟩ ?_ (fun j s hj hs => ?_) rfl
      · rw [getD_some (by rw [hvl]; exact hi), hvd]
      · have hjl : j < ((sset t.slots i ⟨g + 1, true⟩).set i ⟨g + 1, false⟩).length := by rw [hvl]; omega
        rw [getD_some hjl] at hs
        injection hs with hs
        rw [← hs, getD_set, if_neg (by omega), sset_getD _ h1, if_neg (by omega)]
        exact h.before j hj
    refine ⟨_, e, fun hm => ?_, fun hm => ?_⟩
    · unfold tgive
      rw [good_tchk hgv, if_neg (by simp)]
      simp only
      rw [hsf, if_neg (by omega), hvd, if_pos hm]
    · have hx : tgive ⟨t.most, (sset t.slots i ⟨g + 1, true⟩).set i ⟨g + 1, false⟩⟩ = (⟨t.most, sset ((sset t.slots i ⟨g + 1, true⟩).set i ⟨g + 1, false⟩) i ⟨g + 2, true⟩⟩, ((i : Int) + 1, g + 2), 0) := by
        unfold tgive
        rw [good_tchk hgv, if_neg (by simp)]
        simp only
        rw [hsf, if_neg (by omega), hvd, if_neg hm]
        simp only
        rw [show g + 1 + 1 = g + 2 by omega]
      refine ⟨_, hx, ?_⟩
      have hle : i ≤ ((sset t.slots i ⟨g + 1, true⟩).set i ⟨g + 1, false⟩).length := by rw [hvl]; omega
      have hgx : Good ⟨t.most, sset ((sset t.slots i ⟨g + 1, true⟩).set i ⟨g + 1, false⟩) i ⟨g + 2, true⟩⟩ := by
        have hG : Gave ⟨t.most, (sset t.slots i ⟨g + 1, true⟩).set i ⟨g + 1, false⟩⟩ i (g + 1) := by
          refine ⟨hgv, hle, h2, fun _ => by simp only; rw [hvd], fun j hj => ?_, by simp only; rw [hvd], by omega, by omega, hsf, ?_⟩
          · simp only; rw [getD_set, if_neg (by omega), sset_getD _ h1, if_neg (by omega)]; exact h.before j hj
          · rw [hx]; simp only; rw [show g + 1 + 1 = g + 2 by omega]
        have := hG.good'
        simp only at this
        rwa [show g + 1 + 1 = g + 2 by omega] at this
      have hxd : (sset ((sset t.slots i ⟨g + 1, true⟩).set i ⟨g + 1, false⟩) i ⟨g + 2, true⟩).getD i s0 = ⟨g + 2, true⟩ := by rw [sset_getD _ hle, if_pos rfl]
      refine tlook_stale (i := i) hgx ?_ rfl (by simp only; omega) ?_ ?_
      · simp only; rw [sset_len _ hle]; split <;> omega
      · simp only; rw [hxd]; simp only; omega
      · simp only; rw [hxd]; simp only; omega

/-! ### HandlesApart -/
structure ApartLaw (t : Tb) (k : Nat) (h : Int × Int) : Prop where
  drop : ∃ u, tdrop t h = (u, 0) ∧ u.slots.length = t.slots.length ∧ u.most = t.most ∧
    (∀ (i : Nat) (a : Int × Int), (hl t.slots t.slots.length)[i]? = some a → (i = k → tlook u a = (0, 11)) ∧ (i ≠ k → tlook u a = (a.1 - 1, 0)))
  give : (∃ e, e ≠ 0 ∧ tgive t = (tnil, (0, 0), e)) ∨ ∃ v b, tgive t = (v, b, 0) ∧ (v.slots.length = t.slots.length ∨ v.slots.length = t.slots.length + 1) ∧ b.1 ≤ (v.slots.length : Int) ∧
    (∀ (i : Nat) (a : Int × Int), (hl t.slots t.slots.length)[i]? = some a → tlook v a = (a.1 - 1, 0) ∧ b ≠ a)
theorem apart_law {t : Tb} (hg : Good t) {k : Nat} {h : Int × Int} (hk : (hl t.slots t.slots.length)[k]? = some h) : ApartLaw t k h := by
  refine ⟨?_, ?_⟩
  · obtain ⟨m, h1, h2, h3⟩ := hl_get hk
    refine ⟨_, tdrop_hit hg h1 h2 h3, by simp, rfl, fun i a ha => ?_⟩
    have hd := drop_good hg h1
    obtain ⟨j, j1, j2, j3⟩ := hl_get ha
    constructor
    · intro e
      subst e
      rw [hk] at ha; injection ha with ha
      subst ha
      refine tlook_stale (i := m) hd (by simpa using h1) (by rw [h3]) (by rw [h3]; exact (hg.get h1).1) ?_ ?_
      · simp only; rw [getD_set, if_pos ⟨rfl, h1⟩, h3]; simp
      · simp only; rw [getD_set, if_pos ⟨rfl, h1⟩]; simp
    · intro e
      have hne : m ≠ j := by
        rintro rfl
        have haa : a = h := by rw [h3, j3]
        subst haa
        rcases Nat.lt_or_ge i k with hik | hik
        · have := hl_lt ha hk hik; omega
        · have := hl_lt hk ha (by omega); omega
      rw [tlook_hit (i := j) hd (by simpa using j1) (by simp only; rw [getD_set, if_neg (by omega)]; exact j2) (by simp only; rw [getD_set, if_neg (by omega)]; exact j3), j3]
      simp
  · rcases tgive_cases hg with ⟨-, e, -⟩ | ⟨-, e, -⟩ | ⟨i, g, hG⟩
    · exact .inl ⟨5, by decide, e⟩
    · exact .inl ⟨9, by decide, e⟩
    · right
      have h1 := hG.le
      have hlen := sset_len (⟨g + 1, true⟩ : Slot) h1
      refine ⟨_, _, hG.out, ?_, ?_, fun j a ha => ?_⟩
      · simp only; rw [hlen]; split <;> omega
      · simp only; rw [hlen]; split <;> omega
      · obtain ⟨m, m1, m2, m3⟩ := hl_get ha
        have hne : i ≠ m := by
          rintro rfl
          have := hG.free m1
          rw [this] at m2; cases m2
        refine ⟨?_, ?_⟩
        · rw [tlook_hit (i := m) hG.good' (by simp only; rw [hlen]; split <;> omega) (by simp only; rw [sset_getD _ h1, if_neg hne]; exact m2) (by simp only; rw [sset_getD _ h1, if_neg hne]; exact m3), m3]
          simp
        · rw [m3]; simp; omega
end Go.Proofs.YtidclkojekodpaaGreatDoor

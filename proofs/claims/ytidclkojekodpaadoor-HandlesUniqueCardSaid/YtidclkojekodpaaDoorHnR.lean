
/-
  Plain facts of handles: what stays true while handles are given and dropped.
-/
import Derived.Test.YtidclkojekodpaaDoorHnQ
namespace Go.Proofs.YtidclkojekodpaaDoor
open Go.RowKit
set_option linter.unusedSimpArgs false
set_option linter.unusedVariables false

/-- A sum over the first k slots. -/
def sm (f : Slot → Int) (l : List Slot) : Nat → Int
  | 0 => 0
  | k + 1 => sm f l k + f (l.getD k s0)
def usd (s : Slot) : Int := if s.used then 1 else 0
theorem sg_sm (l : List Slot) : ∀ k, sg l k = sm (·.gen) l k
  | 0 => rfl
  | k + 1 => by simp only [sg, sm]; rw [sg_sm l k]
theorem hl_sm (l : List Slot) : ∀ k, ((hl l k).length : Int) = sm usd l k
  | 0 => rfl
  | k + 1 => by
    simp only [hl, sm, List.length_append, usd]
    rw [← hl_sm l k]
    split <;> simp
theorem sm_turn (f : Slot → Int) (l l' : List Slot) (i : Nat) (h : ∀ j, j ≠ i → l'.getD j s0 = l.getD j s0) : ∀ k, sm f l' k = sm f l k + if i < k then f (l'.getD i s0) - f (l.getD i s0) else 0
  | 0 => by simp [sm]
  | k + 1 => by
    have ih := sm_turn f l l' i h k
    simp only [sm]
    rw [ih]
    rcases Nat.lt_trichotomy i k with e | e | e
    · rw [if_pos e, if_pos (by omega), h k (by omega)]; omega
    · subst e; rw [if_neg (by omega), if_pos (by omega)]; omega
    · rw [if_neg (by omega), if_neg (by omega), h k (by omega)]; omega
theorem sm_more (f : Slot → Int) (l : List Slot) (h0 : f s0 = 0) : sm f l (l.length + 1) = sm f l l.length := by
  simp only [sm]; rw [getD_ge (Nat.le_refl _), h0]; omega
theorem sm_ge {l : List Slot} (h : ∀ j, j < l.length → 1 ≤ (l.getD j s0).gen) {i : Nat} : ∀ k, k ≤ l.length → 0 ≤ sm (·.gen) l k ∧ (i < k → (l.getD i s0).gen ≤ sm (·.gen) l k)
  | 0, _ => by simp [sm]
  | k + 1, hk => by
    have ih := sm_ge h (i := i) k (by omega)
    have h1 := h k (by omega)
    simp only [sm]
    refine ⟨by omega, fun hi => ?_⟩
    by_cases e : i = k
    · subst e; omega
    · have := ih.2 (by omega); omega
/-- How many of the first k were not dropped. -/
def fl (g : List Bool) : Nat → Int
  | 0 => 0
  | k + 1 => fl g k + if g.getD k true then 0 else 1
theorem fl_eq (g g' : List Bool) : ∀ k, (∀ j, j < k → g'.getD j true = g.getD j true) → fl g' k = fl g k
  | 0, _ => rfl
  | k + 1, h => by
    simp only [fl]
    rw [fl_eq g g' k (fun j hj => h j (by omega)), h k (by omega)]
theorem gD_set (g : List Bool) (k : Nat) (b : Bool) (j : Nat) : (g.set k b).getD j true = if k = j ∧ k < g.length then b else g.getD j true := by
  simp only [List.getD_eq_getElem?_getD, List.getElem?_set]
  by_cases e : k = j
  · subst e
    by_cases h : k < g.length
    · simp [h]
    · simp [h, List.getElem?_eq_none (by omega : g.length ≤ k)]
  · simp [e]
theorem fl_set (g : List Bool) (i : Nat) (hi : i < g.length) (hf : g.getD i true = false) : ∀ k, fl (g.set i true) k = fl g k - if i < k then 1 else 0
  | 0 => by simp [fl]
  | k + 1 => by
    have ih := fl_set g i hi hf k
    simp only [fl]
    rw [ih]
    rcases Nat.lt_trichotomy i k with e | e | e
    · have : (g.set i true).getD k true = g.getD k true := by rw [gD_set, if_neg (by omega)]
      rw [this, if_pos e, if_pos (by omega : i < k + 1)]; split <;> omega
    · subst e
      have : (g.set i true).getD i true = true := by rw [gD_set, if_pos ⟨rfl, hi⟩]
      rw [this, hf, if_pos (by omega : i < i + 1), if_neg (by omega : ¬ i < i)]; simp
    · have : (g.set i true).getD k true = g.getD k true := by rw [gD_set, if_neg (by omega)]
      rw [this, if_neg (by omega : ¬ i < k), if_neg (by omega : ¬ i < k + 1)]; split <;> omega
theorem fl_bound (g : List Bool) : ∀ k, 0 ≤ fl g k ∧ fl g k ≤ k
  | 0 => by simp [fl]
  | k + 1 => by have := fl_bound g k; simp only [fl]; split <;> omega

structure UInv (most : Int) (t : Tb) (all : List (Int × Int)) (gone : List Bool) : Prop where
  good : Good t
  most : t.most = most
  len : gone.length = all.length
  each : ∀ (k : Nat) (h : Int × Int), all[k]? = some h → ∃ i, i < t.slots.length ∧ h.1 = (i : Int) + 1 ∧ 1 ≤ h.2 ∧ h.2 ≤ (t.slots.getD i s0).gen ∧ (gone.getD k true = false ↔ (h.2 = (t.slots.getD i s0).gen ∧ (t.slots.getD i s0).used = true))
  nodup : ∀ (j k : Nat) (a b : Int × Int), j < k → all[j]? = some a → all[k]? = some b → a ≠ b
  sum : sg t.slots t.slots.length = all.length
  live : fl gone gone.length = ((hl t.slots t.slots.length).length : Int)
theorem uinv_new {most : Int} (h1 : 1 ≤ most) (h2 : most ≤ 16) : UInv most ⟨most, []⟩ [] [] :=
  ⟨⟨h1, h2, by simp; omega, by simp⟩, rfl, rfl, by simp, by simp, rfl, rfl⟩
theorem ugive {most : Int} {t : Tb} {all : List (Int × Int)} {gone : List Bool} (h : UInv most t all gone) (hn : all.length < 1000000000) :
    (tgive t = (tnil, (0, 0), 5) ∧ ((hl t.slots t.slots.length).length : Int) = most) ∨ ∃ u b, tgive t = (u, b, 0) ∧ UInv most u (all ++ [b]) (gone ++ [false]) := by
  have hsum := h.sum
  have hlive := h.live
  rw [hl_sm] at hlive
  rw [sg_sm] at hsum
  rcases tgive_cases h.good with ⟨-, e, e2, e3⟩ | ⟨-, e, i, i1, i2⟩ | ⟨i, g, hG⟩
  · left
    refine ⟨e, ?_⟩
    rw [← h.most, ← e2, hl_sm]
    have : ∀ k, k ≤ t.slots.length → sm usd t.slots k = k := by
      intro k
      induction k with
      | zero => intro _; rfl
      | succ k ih => intro hk; simp only [sm, usd]; rw [ih (by omega), e3 k (by omega)]; simp
    exact this _ (Nat.le_refl _)
  · exfalso
    have := (sm_ge (fun j hj => (h.good.get hj).1) (i := i) _ (Nat.le_refl _)).2 i1
    omega
  · right
    refine ⟨_, _, hG.out, ?_⟩
    have h1 := hG.le
    have hlen := sset_len (⟨g + 1, true⟩ : Slot) h1
    have hoth : ∀ j, j ≠ i → (sset t.slots i ⟨g + 1, true⟩).getD j s0 = t.slots.getD j s0 := fun j hj => by rw [sset_getD _ h1, if_neg (by omega)]
    have hi : (sset t.slots i ⟨g + 1, true⟩).getD i s0 = ⟨g + 1, true⟩ := by rw [sset_getD _ h1, if_pos rfl]
    have hsl : i < (sset t.slots i ⟨g + 1, true⟩).length := by rw [hlen]; split <;> omega
    have hu0 : (t.slots.getD i s0).used = false := by
      rcases Nat.lt_or_ge i t.slots.length with k | k
      · exact hG.free k
      · rw [getD_ge k]; rfl
    have hsm : ∀ f : Slot → Int, f s0 = 0 → sm f (sset t.slots i ⟨g + 1, true⟩) (sset t.slots i ⟨g + 1, true⟩).length = sm f t.slots t.slots.length + (f ⟨g + 1, true⟩ - f (t.slots.getD i s0)) := by
      intro f h0
      rw [sm_turn f t.slots _ i hoth, if_pos hsl, hi, hlen]
      split
      · rw [sm_more f _ h0]
      · rfl
    refine ⟨hG.good', h.most, by simp [h.len], ?_, ?_, ?_, ?_⟩
    · intro k b hk
      rcases Nat.lt_or_ge k all.length with hlt | hge
      · rw [List.getElem?_append_left hlt] at hk
        obtain ⟨m, m1, m2, m3, m4, m5⟩ := h.each k b hk
        have hgo : (gone ++ [false]).getD k true = gone.getD k true := by simp [List.getD_eq_getElem?_getD, List.getElem?_append_left (show k < gone.length by rw [h.len]; exact hlt)]
        rw [hgo]
        refine ⟨m, by simp only; rw [hlen]; split <;> omega, m2, m3, ?_, ?_⟩
        · simp only
          by_cases e : m = i
          · subst e; rw [hi]; simp only; have := hG.gen; omega
          · rw [hoth m e]; exact m4
        · simp only
          by_cases e : m = i
          · subst e
            rw [hi]; simp only
            rw [hu0] at m5
            have := hG.gen
            constructor
            · intro k2; exact absurd (m5.1 k2).2 (by simp)
            · intro ⟨k2, _⟩; omega
          · rw [hoth m e]; exact m5
      · rw [List.getElem?_append_right hge] at hk
        have : k - all.length = 0 := by
          rcases Nat.eq_zero_or_pos (k - all.length) with z | z
          · exact z
          · rw [List.getElem?_eq_none (by simp; omega)] at hk; cases hk
        rw [this] at hk
        simp at hk
        subst hk
        have hk2 : k = gone.length := by rw [h.len]; omega
        refine ⟨i, hsl, rfl, by simp only; have := hG.g0; omega, by simp only; rw [hi]; simp, ?_⟩
        simp only
        rw [hi, hk2]
        simp
    · intro j k a b hjk ha hb
      rcases Nat.lt_or_ge k all.length with hlt | hge
      · rw [List.getElem?_append_left (by omega)] at ha hb
        exact h.nodup j k a b hjk ha hb
      · have hk : k = all.length := by
          have := (List.getElem?_eq_some_iff.1 hb).1
          simp at this; omega
        subst hk
        rw [List.getElem?_append_left hjk] at ha
        simp at hb
        subst hb
        obtain ⟨m, m1, m2, m3, m4, -⟩ := h.each j a ha
        rintro rfl
        simp only at m2 m4
        have hmi : m = i := by omega
        subst hmi
        have := hG.gen; omega
    · simp only
      rw [sg_sm, hsm (·.gen) rfl, hsum, hG.gen]
      simp; omega
    · simp only
      rw [hl_sm, hsm usd rfl, ← hlive]
      rw [List.length_append]
      simp only [List.length_cons, List.length_nil, Nat.zero_add, fl]
      rw [fl_eq gone (gone ++ [false]) _ (fun j hj => by simp [List.getD_eq_getElem?_getD, List.getElem?_append_left hj])]
      simp only [usd, hu0]
      simp
theorem udrop {most : Int} {t : Tb} {all : List (Int × Int)} {gone : List Bool} (h : UInv most t all gone) {k : Nat} {b : Int × Int} (hk : all[k]? = some b) :
    (gone.getD k true = false ∧ ∃ u, tdrop t b = (u, 0) ∧ UInv most u all (gone.set k true)) ∨ (gone.getD k true = true ∧ tdrop t b = (tnil, 11) ∧ UInv most t all (gone.set k true)) := by
  obtain ⟨i, i1, i2, i3, i4, i5⟩ := h.each k b hk
  have hkl : k < gone.length := by rw [h.len]; exact (List.getElem?_eq_some_iff.1 hk).1
  cases hgk : gone.getD k true
  · left
    obtain ⟨e1, e2⟩ := i5.1 hgk
    refine ⟨rfl, _, tdrop_hit h.good i1 e2 (Prod.ext i2 e1), ?_⟩
    have hoth : ∀ j, j ≠ i → (t.slots.set i ⟨(t.slots.getD i s0).gen, false⟩).getD j s0 = t.slots.getD j s0 := fun j hj => by rw [getD_set, if_neg (by omega)]
    have hi : (t.slots.set i ⟨(t.slots.getD i s0).gen, false⟩).getD i s0 = ⟨(t.slots.getD i s0).gen, false⟩ := by rw [getD_set, if_pos ⟨rfl, i1⟩]
    have hsm : ∀ f : Slot → Int, sm f (t.slots.set i ⟨(t.slots.getD i s0).gen, false⟩) t.slots.length = sm f t.slots t.slots.length + (f ⟨(t.slots.getD i s0).gen, false⟩ - f (t.slots.getD i s0)) := by
      intro f
      rw [sm_turn f t.slots _ i hoth, if_pos i1, hi]
    refine ⟨drop_good h.good i1, h.most, by simp [h.len], ?_, h.nodup, ?_, ?_⟩
    · intro j a ha
      obtain ⟨m, m1, m2, m3, m4, m5⟩ := h.each j a ha
      refine ⟨m, by simpa using m1, m2, m3, ?_, ?_⟩
      · simp only
        by_cases e : m = i
        · subst e; rw [hi]; exact m4
        · rw [hoth m e]; exact m4
      · simp only
        rw [gD_set]
        by_cases e : m = i
        · subst e
          rw [hi]
          simp only
          constructor
          · intro hh
            exfalso
            by_cases ejk : k = j
            · rw [if_pos ⟨ejk, hkl⟩] at hh; cases hh
            · rw [if_neg (fun z => ejk z.1)] at hh
              have hab : a = b := Prod.ext (by rw [m2, i2]) (by rw [(m5.1 hh).1, e1])
              rcases Nat.lt_or_ge j k with c | c
              · exact h.nodup j k a b c ha hk hab
              · exact h.nodup k j b a (by omega) hk ha hab.symm
          · intro ⟨_, hh⟩; cases hh
        · rw [hoth m e]
          have hne : k ≠ j := by
            rintro rfl
            rw [hk] at ha; injection ha with ha; subst ha
            omega
          rw [if_neg (fun z => hne z.1)]
          exact m5
    · simp only [List.length_set]
      rw [sg_sm, hsm, ← sg_sm, h.sum]; simp only; omega
    · simp only [List.length_set]
      rw [hl_sm, hsm, ← hl_sm, ← h.live, fl_set gone k hkl hgk, if_pos hkl]
      simp only [usd, e2]
      simp; omega
  · right
    refine ⟨rfl, ?_, ?_⟩
    · have := tlook_stale (h := b) h.good i1 i2 i3 i4 (fun hh => by have := i5.2 hh; rw [this] at hgk; cases hgk)
      unfold tdrop
      rw [this, if_pos (by simp)]
    · have hs : gone.set k true = gone := by
        refine List.ext_getElem? fun j => ?_
        rw [List.getElem?_set]
        split
        · rename_i e
          subst e
          rw [List.getD_eq_getElem?_getD, List.getElem?_eq_getElem hkl] at hgk
          rw [List.getElem?_eq_getElem hkl]
          simp at hgk; rw [hgk]
        · rfl
      rw [hs]; exact h
theorem ulook {most : Int} {t : Tb} {all : List (Int × Int)} {gone : List Bool} (h : UInv most t all gone) {k : Nat} {b : Int × Int} (hk : all[k]? = some b) :
    (gone.getD k true = true → tlook t b = (0, 11)) ∧ (gone.getD k true = false → tlook t b = (b.1 - 1, 0)) := by
  obtain ⟨i, i1, i2, i3, i4, i5⟩ := h.each k b hk
  constructor
  · intro hg
    exact tlook_stale h.good i1 i2 i3 i4 (fun hh => by have := i5.2 hh; rw [this] at hg; cases hg)
  · intro hg
    obtain ⟨e1, e2⟩ := i5.1 hg
    rw [tlook_hit h.good i1 e2 (Prod.ext i2 e1), i2]; simp
theorem utold {most : Int} {t : Tb} {all : List (Int × Int)} {gone : List Bool} (h : UInv most t all gone) :
    tlive t = (hl t.slots t.slots.length, 0) ∧ tgiven t = ((all.length : Int), 0) := by
  have := good_tchk h.good
  unfold tlive tgiven
  rw [this, if_neg (by simp), if_neg (by simp), h.sum]
  exact ⟨rfl, rfl⟩
end Go.Proofs.YtidclkojekodpaaDoor

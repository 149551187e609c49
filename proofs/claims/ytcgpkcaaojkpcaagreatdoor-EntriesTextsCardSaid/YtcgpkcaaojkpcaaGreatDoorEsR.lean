
/-
  Plain facts of entries: their order, sorted lists, the newest of each key, two lists as one.
-/
import Derived.Test.YtcgpkcaaojkpcaaGreatDoorEntA
import Derived.Test.YtcgpkcaaojkpcaaGreatDoorEsP
namespace Go.Proofs.YtcgpkcaaojkpcaaGreatDoor
set_option linter.unusedSimpArgs false
set_option linter.unusedVariables false

/-! ### The order of entries -/
def ocmp (x y : Ent) : Int := if cmpS x.key y.key ≠ 0 then cmpS x.key y.key else if y.seq < x.seq then -1 else if x.seq < y.seq then 1 else 0
theorem cmpS_lt {a b : ByteArray} : cmpS a b < 0 ↔ slt a b = true := by
  unfold cmpS
  constructor
  · intro h
    cases e : slt a b
    · rw [e] at h; simp only [Bool.false_eq_true, if_false] at h; split at h <;> omega
    · rfl
  · intro h; rw [if_pos h]; omega
theorem cmpS_zero {a b : ByteArray} : cmpS a b = 0 ↔ a = b := by
  unfold cmpS
  constructor
  · intro h
    split at h
    · omega
    · split at h
      · rename_i e; exact str_ext e
      · omega
  · rintro rfl; rw [if_neg (by rw [slt_irrefl]; decide), if_pos rfl]
theorem cmpS_gt {a b : ByteArray} : 0 < cmpS a b ↔ slt b a = true := by
  constructor
  · intro h
    cases e : slt b a
    · exfalso
      cases e2 : slt a b
      · have := slt_tri e2 e; rw [cmpS_zero.2 this] at h; omega
      · have := cmpS_lt.2 e2; omega
    · rfl
  · intro h
    have h1 := slt_asymm h
    unfold cmpS
    rw [if_neg (by rw [h1]; decide), if_neg]
    · omega
    · intro e; have := str_ext e; subst this; rw [slt_irrefl] at h; cases h
theorem cmpS_neg (a b : ByteArray) : cmpS a b = - cmpS b a := by
  have v : ∀ a b, cmpS a b = -1 ∨ cmpS a b = 0 ∨ cmpS a b = 1 := by intro a b; unfold cmpS; split <;> (try split) <;> simp
  have h1 := @cmpS_lt a b; have h2 := @cmpS_gt b a
  have h3 := @cmpS_lt b a; have h4 := @cmpS_gt a b
  have v1 := v a b; have v2 := v b a
  have k1 : cmpS a b < 0 ↔ 0 < cmpS b a := h1.trans h2.symm
  have k2 : cmpS b a < 0 ↔ 0 < cmpS a b := h3.trans h4.symm
  omega
theorem ocmp_pre : Pre ocmp where
  neg x y := by
    unfold ocmp
    by_cases h : cmpS y.key x.key = 0
    · rw [cmpS_neg x.key y.key, h]
      simp only [Int.neg_zero, ne_eq, not_true, if_false]
      by_cases h1 : y.seq < x.seq
      · rw [if_pos h1, if_neg (by omega), if_pos h1]
      · rw [if_neg h1]
        by_cases h2 : x.seq < y.seq
        · rw [if_pos h2, if_pos h2]; rfl
        · rw [if_neg h2, if_neg h2, if_neg h1]; rfl
    · rw [cmpS_neg x.key y.key, if_pos (by omega), if_pos h]
  tr x y z h1 h2 := by
    have key : ∀ x y : Ent, ocmp x y ≤ 0 → slt x.key y.key = true ∨ (x.key = y.key ∧ y.seq ≤ x.seq) := by
      intro x y h
      unfold ocmp at h
      split at h
      · exact .inl (cmpS_lt.1 (by omega))
      · rename_i e
        refine .inr ⟨cmpS_zero.1 (by omega), ?_⟩
        split at h
        · omega
        · split at h <;> omega
    have keylt : ∀ x y : Ent, slt x.key y.key = true → ocmp x y < 0 := by
      intro x y h
      have := cmpS_lt.2 h
      unfold ocmp
      rw [if_pos (by omega)]; exact this
    have same : ∀ x y : Ent, x.key = y.key → ocmp x y = if y.seq < x.seq then -1 else if x.seq < y.seq then 1 else 0 := by
      intro x y h
      unfold ocmp
      rw [if_neg (by rw [cmpS_zero.2 h]; simp)]
    rcases key x y h1 with a | ⟨a, a'⟩ <;> rcases key y z h2 with b | ⟨b, b'⟩
    · have := keylt x z (slt_trans a b); omega
    · have := keylt x z (by rw [← b]; exact a); omega
    · have := keylt x z (by rw [a]; exact b); omega
    · rw [same x z (a.trans b), same x y a, same y z b]
      constructor
      · split
        · omega
        · split <;> omega
      · intro h
        constructor
        · split at h
          · omega
          · split at h
            · omega
            · rw [if_neg (by omega), if_neg (by omega)]
        · split at h
          · omega
          · split at h
            · omega
            · rw [if_neg (by omega), if_neg (by omega)]
theorem ocmp_le {x y : Ent} : ocmp x y ≤ 0 ↔ slt x.key y.key = true ∨ (x.key = y.key ∧ y.seq ≤ x.seq) := by
  unfold ocmp
  constructor
  · intro h
    split at h
    · exact .inl (cmpS_lt.1 (by omega))
    · rename_i e
      refine .inr ⟨cmpS_zero.1 (by omega), ?_⟩
      split at h
      · omega
      · split at h <;> omega
  · rintro (h | ⟨h, h'⟩)
    · have := cmpS_lt.2 h
      rw [if_pos (by omega)]; omega
    · rw [if_neg (by rw [cmpS_zero.2 h]; simp)]
      split
      · omega
      · rw [if_neg (by omega)]; omega
theorem ocmp_zero {x y : Ent} : ocmp x y = 0 ↔ x.key = y.key ∧ x.seq = y.seq := by
  have h1 := @ocmp_le x y; have h2 := @ocmp_le y x; have h3 := ocmp_pre.neg x y
  constructor
  · intro h
    have a := h1.1 (by omega); have b := h2.1 (by omega)
    rcases a with a | a <;> rcases b with b | b
    · rw [slt_asymm a] at b; cases b
    · rw [b.1, slt_irrefl] at a; cases a
    · rw [a.1, slt_irrefl] at b; cases b
    · obtain ⟨a1, a2⟩ := a; obtain ⟨b1, b2⟩ := b
      exact ⟨a1, Int.le_antisymm b2 a2⟩
  · rintro ⟨a, b⟩
    have := h1.2 (.inr ⟨a, Int.le_of_eq b.symm⟩); have := h2.2 (.inr ⟨a.symm, Int.le_of_eq b⟩); omega

/-! ### Sorted lists -/
theorem places_asc : ∀ (l : List Ent) (n : Nat), (l.zipIdx n).Pairwise (fun x y => x.2 < y.2)
  | [], _ => by simp
  | x :: l, n => by
    rw [List.zipIdx_cons, List.pairwise_cons]
    refine ⟨fun y hy => ?_, places_asc l (n + 1)⟩
    have := List.le_snd_of_mem_zipIdx hy
    exact this
theorem isort_le (l : List Ent) : (isort ocmp l).Pairwise (fun x y => ocmp x y ≤ 0) := by
  have h := isort_srt ocmp_pre (l := l.zipIdx) (places_asc l 0)
  have e : isort ocmp l = (isort (fun a b : Ent × Nat => ocmp a.1 b.1) l.zipIdx).map Prod.fst := by rw [isort_map]; simp
  rw [e, List.pairwise_map]
  refine h.imp ?_
  intro a b hab
  unfold lt2 at hab; omega
/-- What is sorted stays. -/
theorem isort_of (l : List Ent) (h : l.Pairwise (fun x y => ocmp x y ≤ 0)) : isort ocmp l = l := by
  have go : ∀ (B A : List Ent), (A ++ B).Pairwise (fun x y => ocmp x y ≤ 0) → B.foldl (insb ocmp) A = A ++ B := by
    intro B
    induction B with
    | nil => intro A _; simp
    | cons x B ih =>
      intro A hA
      have e : insb ocmp A x = A ++ [x] := by
        rcases List.eq_nil_or_concat A with rfl | ⟨A', z, rfl⟩
        · rfl
        · rw [List.concat_eq_append] at *
          have hz := (List.pairwise_append.1 hA).2.2 z (by simp) x (by simp)
          have := ocmp_pre.neg x z
          rw [insb_snoc_ge _ _ _ (by omega)]; simp
      rw [List.foldl_cons, e, ih (A ++ [x]) (by simpa using hA)]; simp
  simpa [isort] using go l [] (by simpa using h)
/-- Ascending keys. -/
abbrev AscK (l : List Ent) : Prop := l.Pairwise (fun x y => slt x.key y.key = true)
theorem ascK_ext : ∀ {l m : List Ent}, AscK l → AscK m → (∀ x, x ∈ l ↔ x ∈ m) → l = m
  | [], [], _, _, _ => rfl
  | [], y :: m, _, _, h => by have := (h y).2 (by simp); cases this
  | x :: l, [], _, _, h => by have := (h x).1 (by simp); cases this
  | x :: l, y :: m, hl, hm, h => by
    have hl' := List.pairwise_cons.1 hl; have hm' := List.pairwise_cons.1 hm
    have e : x = y := by
      rcases List.mem_cons.1 ((h x).1 (by simp)) with e | e
      · exact e
      · rcases List.mem_cons.1 ((h y).2 (by simp)) with e' | e'
        · exact e'.symm
        · have a := hm'.1 x e; have b := hl'.1 y e'
          rw [slt_asymm a] at b; cases b
    subst e
    congr 1
    refine ascK_ext hl'.2 hm'.2 (fun z => ⟨fun hz => ?_, fun hz => ?_⟩)
    · rcases List.mem_cons.1 ((h z).1 (by simp [hz])) with e | e
      · subst e; have := hl'.1 z hz; rw [slt_irrefl] at this; cases this
      · exact e
    · rcases List.mem_cons.1 ((h z).2 (by simp [hz])) with e | e
      · subst e; have := hm'.1 z hz; rw [slt_irrefl] at this; cases this
      · exact e
theorem ascK_le {l : List Ent} (h : AscK l) : l.Pairwise (fun x y => ocmp x y ≤ 0) := h.imp fun h => ocmp_le.2 (.inl h)
theorem ascK_inj : ∀ {l : List Ent}, AscK l → ∀ x ∈ l, ∀ y ∈ l, x.key = y.key → x = y
  | [], _, x, h, _, _, _ => by cases h
  | z :: l, hl, x, hx, y, hy, he => by
    have hl' := List.pairwise_cons.1 hl
    rcases List.mem_cons.1 hx with e1 | hx1 <;> rcases List.mem_cons.1 hy with e2 | hy1
    · rw [e1, e2]
    · have := hl'.1 y hy1; rw [← e1, he, slt_irrefl] at this; cases this
    · have := hl'.1 x hx1; rw [← e2, he, slt_irrefl] at this; cases this
    · exact ascK_inj hl'.2 x hx1 y hy1 he

/-! ### The newest of each key -/
def cmpct : List Ent → List Ent
  | [] => []
  | x :: r => x :: (cmpctGo x.key r)
where cmpctGo : ByteArray → List Ent → List Ent
  | _, [] => []
  | k, y :: r => if y.key = k then cmpctGo k r else y :: cmpctGo y.key r
theorem cmpctGo_mem : ∀ (r : List Ent) (k : ByteArray) (x : Ent), x ∈ cmpct.cmpctGo k r → x ∈ r
  | [], _, _, h => by simp [cmpct.cmpctGo] at h
  | y :: r, k, x, h => by
    unfold cmpct.cmpctGo at h
    split at h
    · exact List.mem_cons_of_mem _ (cmpctGo_mem r k x h)
    · rcases List.mem_cons.1 h with rfl | h
      · simp
      · exact List.mem_cons_of_mem _ (cmpctGo_mem r _ x h)
theorem cmpctGo_asc : ∀ (r : List Ent) (k : ByteArray), (∀ y ∈ r, slt k y.key = true ∨ k = y.key) → r.Pairwise (fun x y => ocmp x y ≤ 0) → AscK (cmpct.cmpctGo k r) ∧ ∀ x ∈ cmpct.cmpctGo k r, slt k x.key = true
  | [], _, _, _ => by simp [cmpct.cmpctGo]
  | y :: r, k, hk, hp => by
    have hp' := List.pairwise_cons.1 hp
    unfold cmpct.cmpctGo
    split
    · rename_i e
      exact cmpctGo_asc r k (fun z hz => hk z (by simp [hz])) hp'.2
    · rename_i e
      have hky := (hk y (by simp)).resolve_right (fun h => e h.symm)
      have ih := cmpctGo_asc r y.key (fun z hz => by rcases ocmp_le.1 (hp'.1 z hz) with h | h; exact .inl h; exact .inr h.1) hp'.2
      refine ⟨List.pairwise_cons.2 ⟨ih.2, ih.1⟩, fun x hx => ?_⟩
      rcases List.mem_cons.1 hx with rfl | hx
      · exact hky
      · exact slt_trans hky (ih.2 x hx)
theorem cmpctGo_key : ∀ (r : List Ent) (k : ByteArray), ∀ y ∈ r, y.key = k ∨ ∃ x ∈ cmpct.cmpctGo k r, x.key = y.key
  | [], _, _, h => by cases h
  | z :: r, k, y, h => by
    unfold cmpct.cmpctGo
    rcases List.mem_cons.1 h with rfl | h
    · split
      · rename_i e; exact .inl e
      · exact .inr ⟨_, by simp, rfl⟩
    · split
      · exact cmpctGo_key r k y h
      · rcases cmpctGo_key r z.key y h with e | ⟨x, hx, e⟩
        · exact .inr ⟨z, by simp, e.symm⟩
        · exact .inr ⟨x, by simp [hx], e⟩
theorem cmpctGo_max : ∀ (r : List Ent) (k : ByteArray), r.Pairwise (fun x y => ocmp x y ≤ 0) → (∀ y ∈ r, slt k y.key = true ∨ k = y.key) → ∀ x ∈ cmpct.cmpctGo k r, ∀ y ∈ r, y.key = x.key → y.seq ≤ x.seq
  | [], _, _, _, _, h, _, _, _ => by simp [cmpct.cmpctGo] at h
  | z :: r, k, hp, hk, x, hx, y, hy, e => by
    have hp' := List.pairwise_cons.1 hp
    have hz : ∀ w ∈ r, slt z.key w.key = true ∨ z.key = w.key := fun w hw => by rcases ocmp_le.1 (hp'.1 w hw) with h | h; exact .inl h; exact .inr h.1
    have up : ∀ w ∈ r, z.key = w.key → w.seq ≤ z.seq := fun w hw ek => by
      rcases ocmp_le.1 (hp'.1 w hw) with h | h
      · rw [ek, slt_irrefl] at h; cases h
      · exact h.2
    unfold cmpct.cmpctGo at hx
    split at hx
    · rename_i ez
      have hxk := (cmpctGo_asc r k (fun w hw => hk w (by simp [hw])) hp'.2).2 x hx
      rcases List.mem_cons.1 hy with rfl | hy
      · rw [← e, ez, slt_irrefl] at hxk; cases hxk
      · exact cmpctGo_max r k hp'.2 (fun w hw => hk w (by simp [hw])) x hx y hy e
    · rcases List.mem_cons.1 hx with rfl | hx
      · rcases List.mem_cons.1 hy with rfl | hy
        · exact Int.le_refl _
        · exact up y hy e.symm
      · have hxk := (cmpctGo_asc r z.key hz hp'.2).2 x hx
        rcases List.mem_cons.1 hy with rfl | hy
        · rw [← e, slt_irrefl] at hxk; cases hxk
        · exact cmpctGo_max r z.key hp'.2 hz x hx y hy e
theorem cmpct_asc {l : List Ent} (h : l.Pairwise (fun x y => ocmp x y ≤ 0)) : AscK (cmpct l) := by
  cases l with
  | nil => simp [cmpct]
  | cons x r =>
    have hp := List.pairwise_cons.1 h
    have := cmpctGo_asc r x.key (fun y hy => by rcases ocmp_le.1 (hp.1 y hy) with h | h; exact .inl h; exact .inr h.1) hp.2
    exact List.pairwise_cons.2 ⟨this.2, this.1⟩
theorem cmpct_mem {l : List Ent} {x : Ent} (h : x ∈ cmpct l) : x ∈ l := by
  cases l with
  | nil => cases h
  | cons y r =>
    rcases List.mem_cons.1 h with rfl | h
    · simp
    · exact List.mem_cons_of_mem _ (cmpctGo_mem r _ x h)
theorem cmpct_key {l : List Ent} {y : Ent} (h : y ∈ l) : ∃ x ∈ cmpct l, x.key = y.key := by
  cases l with
  | nil => cases h
  | cons z r =>
    rcases List.mem_cons.1 h with rfl | h
    · exact ⟨y, by simp [cmpct], rfl⟩
    · rcases cmpctGo_key r z.key y h with e | ⟨x, hx, e⟩
      · exact ⟨z, by simp [cmpct], e.symm⟩
      · exact ⟨x, by simp [cmpct, hx], e⟩
theorem cmpct_max {l : List Ent} (h : l.Pairwise (fun x y => ocmp x y ≤ 0)) : ∀ x ∈ cmpct l, ∀ y ∈ l, y.key = x.key → y.seq ≤ x.seq := by
  cases l with
  | nil => intro x hx; cases hx
  | cons z r =>
    intro x hx y hy e
    have hp := List.pairwise_cons.1 h
    have hz : ∀ w ∈ r, slt z.key w.key = true ∨ z.key = w.key := fun w hw => by rcases ocmp_le.1 (hp.1 w hw) with h | h; exact .inl h; exact .inr h.1
    rcases List.mem_cons.1 hx with rfl | hx
    · rcases List.mem_cons.1 hy with rfl | hy
      · exact Int.le_refl _
      · rcases ocmp_le.1 (hp.1 y hy) with h | h
        · rw [e, slt_irrefl] at h; cases h
        · exact h.2
    · have hxk := (cmpctGo_asc r z.key hz hp.2).2 x hx
      rcases List.mem_cons.1 hy with rfl | hy
      · rw [← e, slt_irrefl] at hxk; cases hxk
      · exact cmpctGo_max r z.key hp.2 hz x hx y hy e
theorem cmpctGo_of : ∀ (r : List Ent) (k : ByteArray), AscK r → (∀ y ∈ r, slt k y.key = true) → cmpct.cmpctGo k r = r
  | [], _, _, _ => rfl
  | y :: r, k, h, hk => by
    have h' := List.pairwise_cons.1 h
    unfold cmpct.cmpctGo
    rw [if_neg (by intro e; have := hk y (by simp); rw [e, slt_irrefl] at this; cases this), cmpctGo_of r y.key h'.2 h'.1]
theorem cmpct_of {l : List Ent} (h : AscK l) : cmpct l = l := by
  cases l with
  | nil => rfl
  | cons x r =>
    have h' := List.pairwise_cons.1 h
    show x :: _ = _
    rw [cmpctGo_of r x.key h'.2 h'.1]
def newest (l : List Ent) : List Ent := cmpct (isort ocmp l)
theorem newest_asc (l : List Ent) : AscK (newest l) := cmpct_asc (isort_le l)
theorem newest_mem {l : List Ent} {x : Ent} (h : x ∈ newest l) : x ∈ l := (isort_perm l).mem_iff.1 (cmpct_mem h)
theorem newest_key {l : List Ent} {y : Ent} (h : y ∈ l) : ∃ x ∈ newest l, x.key = y.key := cmpct_key ((isort_perm l).mem_iff.2 h)
theorem newest_max {l : List Ent} {x y : Ent} (h : x ∈ newest l) (hy : y ∈ l) (e : y.key = x.key) : y.seq ≤ x.seq := cmpct_max (isort_le l) x h y ((isort_perm l).mem_iff.2 hy) e
theorem newest_of {l : List Ent} (h : AscK l) : newest l = l := by rw [newest, isort_of l (ascK_le h), cmpct_of h]
/-- Where no two have the same key and number, the newest are known. -/
theorem newest_uniq {l m : List Ent} (hm : ∀ x, x ∈ l ↔ x ∈ m) (hu : ∀ x ∈ l, ∀ y ∈ l, x.key = y.key → x.seq = y.seq → x = y) : newest l = newest m := by
  refine ascK_ext (newest_asc l) (newest_asc m) (fun x => ⟨fun h => ?_, fun h => ?_⟩)
  · have hx := newest_mem h
    obtain ⟨y, hy, e⟩ := newest_key ((hm x).1 hx)
    have hyl := (hm y).2 (newest_mem hy)
    have a := newest_max h hyl e
    have b := newest_max hy ((hm x).1 hx) e.symm
    rw [hu x hx y hyl e.symm (by omega)]; exact hy
  · have hx := newest_mem h
    obtain ⟨y, hy, e⟩ := newest_key ((hm x).2 hx)
    have hyl := newest_mem hy
    have a := newest_max h ((hm y).1 hyl) e
    have b := newest_max hy ((hm x).2 hx) e.symm
    rw [hu x ((hm x).2 hx) y hyl e.symm (by omega)]; exact hy

/-! ### Two lists as one -/
def emerge : List Ent → List Ent → List Ent
  | [], f => f
  | o, [] => o
  | x :: o, y :: f => if slt x.key y.key = true then x :: emerge o (y :: f) else if x.key = y.key then y :: emerge o f else y :: emerge (x :: o) f
termination_by o f => o.length + f.length
theorem emerge_nil1 (f : List Ent) : emerge [] f = f := by unfold emerge; rfl
theorem emerge_nil2 (o : List Ent) : emerge o [] = o := by cases o <;> (unfold emerge; rfl)
theorem emerge_cons (x y : Ent) (o f : List Ent) : emerge (x :: o) (y :: f) = if slt x.key y.key = true then x :: emerge o (y :: f) else if x.key = y.key then y :: emerge o f else y :: emerge (x :: o) f := by
  rw [emerge]
theorem emerge_spec : ∀ (n : Nat) (o f : List Ent), o.length + f.length = n → AscK o → AscK f →
    AscK (emerge o f) ∧ ∀ x, x ∈ emerge o f ↔ x ∈ f ∨ (x ∈ o ∧ ∀ y ∈ f, y.key ≠ x.key) := by
  intro n
  induction n using Nat.strongRecOn with
  | ind n ih =>
    intro o f hn ho hf
    cases o with
    | nil => rw [emerge_nil1]; exact ⟨hf, by simp⟩
    | cons x o =>
      cases f with
      | nil => rw [emerge_nil2]; exact ⟨ho, by simp⟩
      | cons y f =>
        simp only [List.length_cons] at hn
        have ho' := List.pairwise_cons.1 ho; have hf' := List.pairwise_cons.1 hf
        rw [emerge_cons]
        by_cases h1 : slt x.key y.key = true
        · rw [if_pos h1]
          obtain ⟨i1, i2⟩ := ih (o.length + (f.length + 1)) (by omega) o (y :: f) rfl ho'.2 hf
          have low : ∀ z ∈ y :: f, slt x.key z.key = true := by
            intro z hz
            rcases List.mem_cons.1 hz with rfl | hz
            · exact h1
            · exact slt_trans h1 (hf'.1 z hz)
          refine ⟨List.pairwise_cons.2 ⟨fun z hz => ?_, i1⟩, fun z => ?_⟩
          · rcases (i2 z).1 hz with hz | ⟨hz, _⟩
            · exact low z hz
            · exact ho'.1 z hz
          · rw [List.mem_cons, i2 z]
            constructor
            · rintro (rfl | h | ⟨h, k⟩)
              · exact .inr ⟨by simp, fun w hw e => by have := low w hw; rw [e, slt_irrefl] at this; cases this⟩
              · exact .inl h
              · exact .inr ⟨by simp [h], k⟩
            · rintro (h | ⟨h, k⟩)
              · exact .inr (.inl h)
              · rcases List.mem_cons.1 h with rfl | h
                · exact .inl rfl
                · exact .inr (.inr ⟨h, k⟩)
        · rw [if_neg h1]
          by_cases h2 : x.key = y.key
          · rw [if_pos h2]
            obtain ⟨i1, i2⟩ := ih (o.length + f.length) (by omega) o f rfl ho'.2 hf'.2
            refine ⟨List.pairwise_cons.2 ⟨fun z hz => ?_, i1⟩, fun z => ?_⟩
            · rcases (i2 z).1 hz with hz | ⟨hz, _⟩
              · exact hf'.1 z hz
              · rw [← h2]; exact ho'.1 z hz
            · rw [List.mem_cons, i2 z]
              constructor
              · rintro (rfl | h | ⟨h, k⟩)
                · exact .inl (by simp)
                · exact .inl (by simp [h])
                · refine .inr ⟨by simp [h], fun w hw e => ?_⟩
                  rcases List.mem_cons.1 hw with rfl | hw
                  · have := ho'.1 z h; rw [h2, e, slt_irrefl] at this; cases this
                  · exact k w hw e
              · rintro (h | ⟨h, k⟩)
                · rcases List.mem_cons.1 h with rfl | h
                  · exact .inl rfl
                  · exact .inr (.inl h)
                · rcases List.mem_cons.1 h with rfl | h
                  · exact absurd h2.symm (k y (by simp))
                  · exact .inr (.inr ⟨h, fun w hw => k w (by simp [hw])⟩)
          · rw [if_neg h2]
            have h3 : slt y.key x.key = true := by
              cases e : slt y.key x.key
              · exact absurd (slt_tri (by simpa using h1) e) h2
              · rfl
            obtain ⟨i1, i2⟩ := ih (o.length + 1 + f.length) (by omega) (x :: o) f (by simp) ho hf'.2
            have low : ∀ z ∈ x :: o, slt y.key z.key = true := by
              intro z hz
              rcases List.mem_cons.1 hz with rfl | hz
              · exact h3
              · exact slt_trans h3 (ho'.1 z hz)
            refine ⟨List.pairwise_cons.2 ⟨fun z hz => ?_, i1⟩, fun z => ?_⟩
            · rcases (i2 z).1 hz with hz | ⟨hz, _⟩
              · exact hf'.1 z hz
              · exact low z hz
            · rw [List.mem_cons, i2 z]
              constructor
              · rintro (rfl | h | ⟨h, k⟩)
                · exact .inl (by simp)
                · exact .inl (by simp [h])
                · refine .inr ⟨h, fun w hw e => ?_⟩
                  rcases List.mem_cons.1 hw with rfl | hw
                  · have := low z h; rw [e, slt_irrefl] at this; cases this
                  · exact k w hw e
              · rintro (h | ⟨h, k⟩)
                · rcases List.mem_cons.1 h with rfl | h
                  · exact .inl rfl
                  · exact .inr (.inl h)
                · exact .inr (.inr ⟨h, fun w hw => k w (by simp [hw])⟩)
theorem emerge_asc {o f : List Ent} (ho : AscK o) (hf : AscK f) : AscK (emerge o f) := (emerge_spec _ o f rfl ho hf).1
theorem emerge_mem {o f : List Ent} (ho : AscK o) (hf : AscK f) (x : Ent) : x ∈ emerge o f ↔ x ∈ f ∨ (x ∈ o ∧ ∀ y ∈ f, y.key ≠ x.key) := (emerge_spec _ o f rfl ho hf).2 x
theorem emerge_key {o f : List Ent} (ho : AscK o) (hf : AscK f) (k : ByteArray) : (∃ x ∈ emerge o f, x.key = k) ↔ (∃ x ∈ o, x.key = k) ∨ (∃ x ∈ f, x.key = k) := by
  constructor
  · rintro ⟨x, hx, e⟩
    rcases (emerge_mem ho hf x).1 hx with h | ⟨h, _⟩
    · exact .inr ⟨x, h, e⟩
    · exact .inl ⟨x, h, e⟩
  · rintro (⟨x, hx, e⟩ | ⟨x, hx, e⟩)
    · by_cases h : ∃ y ∈ f, y.key = k
      · obtain ⟨y, hy, e'⟩ := h
        exact ⟨y, (emerge_mem ho hf y).2 (.inl hy), e'⟩
      · exact ⟨x, (emerge_mem ho hf x).2 (.inr ⟨hx, fun y hy e' => h ⟨y, hy, e'.trans e⟩⟩), e⟩
    · exact ⟨x, (emerge_mem ho hf x).2 (.inl hx), e⟩
theorem emerge_self {o : List Ent} (h : AscK o) : emerge o o = o :=
  ascK_ext (emerge_asc h h) h (fun x => by rw [emerge_mem h h]; exact ⟨fun k => k.elim id (fun k => k.1), .inl⟩)
theorem emerge_assoc {x y z : List Ent} (hx : AscK x) (hy : AscK y) (hz : AscK z) : emerge (emerge x y) z = emerge x (emerge y z) := by
  refine ascK_ext (emerge_asc (emerge_asc hx hy) hz) (emerge_asc hx (emerge_asc hy hz)) (fun a => ?_)
  rw [emerge_mem (emerge_asc hx hy) hz, emerge_mem hx hy, emerge_mem hx (emerge_asc hy hz), emerge_mem hy hz]
  constructor
  · rintro (h | ⟨h | ⟨h, k⟩, k'⟩)
    · exact .inl (.inl h)
    · exact .inl (.inr ⟨h, k'⟩)
    · refine .inr ⟨h, fun w hw e => ?_⟩
      rcases (emerge_mem hy hz w).1 hw with hw | ⟨hw, _⟩
      · exact k' w hw e
      · exact k w hw e
  · rintro ((h | ⟨h, k⟩) | ⟨h, k⟩)
    · exact .inl h
    · exact .inr ⟨.inl h, k⟩
    · by_cases hzz : ∃ w ∈ z, w.key = a.key
      · obtain ⟨w, hw, e⟩ := hzz
        exact absurd e (k w ((emerge_mem hy hz w).2 (.inl hw)))
      · have hz' : ∀ w ∈ z, w.key ≠ a.key := fun w hw e => hzz ⟨w, hw, e⟩
        refine .inr ⟨.inr ⟨h, fun w hw e => k w ((emerge_mem hy hz w).2 (.inr ⟨hw, fun v hv e' => hz' v hv (e'.trans e)⟩)) e⟩, hz'⟩
theorem emerge_newest {x y : List Ent} (hx : AscK x) (hy : AscK y) (hn : ∀ a ∈ x, ∀ b ∈ y, a.seq < b.seq) : newest (x ++ y) = emerge x y := by
  refine ascK_ext (newest_asc _) (emerge_asc hx hy) (fun a => ?_)
  rw [emerge_mem hx hy]
  constructor
  · intro h
    rcases List.mem_append.1 (newest_mem h) with ha | ha
    · refine .inr ⟨ha, fun b hb e => ?_⟩
      have := newest_max h (y := b) (by simp [hb]) e
      have := hn a ha b hb
      omega
    · exact .inl ha
  · intro h
    have ha : a ∈ x ++ y := by rcases h with h | ⟨h, _⟩ <;> simp [h]
    obtain ⟨b, hb, e⟩ := newest_key ha
    have : b = a := by
      rcases h with h | ⟨h, k⟩
      · rcases List.mem_append.1 (newest_mem hb) with h' | h'
        · have h1 := newest_max hb (y := a) (by simp [h]) e.symm
          have h2 := hn b h' a h
          omega
        · exact ascK_inj hy b h' a h e
      · rcases List.mem_append.1 (newest_mem hb) with h' | h'
        · exact ascK_inj hx b h' a h e
        · exact absurd e (k b h')
    rw [← this]; exact hb
end Go.Proofs.YtcgpkcaaojkpcaaGreatDoor

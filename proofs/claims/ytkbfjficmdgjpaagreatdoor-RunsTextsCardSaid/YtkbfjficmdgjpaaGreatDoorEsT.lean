
/-
  Plain facts of entries: a line of text, as the program and as the reference read it.
-/
import Derived.Test.YtkbfjficmdgjpaaGreatDoorEntA
import Derived.Test.YtkbfjficmdgjpaaGreatDoorWoI
import Derived.Test.YtkbfjficmdgjpaaGreatDoorWoL
namespace Go.Proofs.YtkbfjficmdgjpaaGreatDoor
set_option linter.unusedSimpArgs false
set_option linter.unusedVariables false

/-! ### The end of a quoted form, by its look alone -/
def qs : List UInt8 → Option Nat
  | [] => none
  | [c] => if c = 34 then some 1 else none
  | c :: d :: r => if c = 34 then some 1 else if c = 92 then (qs r).map (· + 2) else (qs (d :: r)).map (· + 1)
theorem qs_end (r : List UInt8) : qs (34 :: r) = some 1 := by cases r <;> simp [qs]
theorem qs_one {c : UInt8} {r : List UInt8} (h : c ≠ 34) (k : c ≠ 92) : qs (c :: r) = (qs r).map (· + 1) := by cases r <;> simp [qs, h, k]
theorem qs_two (d : UInt8) (r : List UInt8) : qs (92 :: d :: r) = (qs r).map (· + 2) := by simp [qs]
theorem hxd_ne : ∀ n : Fin 16, hxd n.val ≠ 34 ∧ hxd n.val ≠ 92 := by decide +kernel
theorem qs_esc (c : UInt8) (r : List UInt8) : qs (escW c ++ r) = (qs r).map (· + (escW c).length) := by
  unfold escW
  by_cases hp : plainB c = true
  · rw [if_pos hp]
    have := plain_ne c hp
    simp only [List.cons_append, List.nil_append, List.length_cons, List.length_nil]
    exact qs_one this.2 this.1
  · rw [if_neg hp]
    by_cases hl : letB c ≠ 0
    · rw [if_pos hl]; exact qs_two _ _
    · rw [if_neg hl]
      have h1 := hxd_ne ⟨c.toNat / 16, by have := c.toNat_lt; omega⟩
      have h2 := hxd_ne ⟨c.toNat % 16, by omega⟩
      simp only [List.cons_append, List.nil_append, List.length_cons, List.length_nil]
      rw [qs_two, qs_one h1.1 h1.2, qs_one h2.1 h2.2]
      simp only [Option.map_map]
      rfl
theorem qs_quote : ∀ (l r : List UInt8), qs (l.flatMap escW ++ 34 :: r) = some ((l.flatMap escW).length + 1)
  | [], r => qs_end r
  | c :: l, r => by
    rw [List.flatMap_cons, List.append_assoc, qs_esc, qs_quote l r]
    simp only [Option.map_some, List.length_append]
    congr 1; omega
theorem unq1_qs {t v : List UInt8} {n : Nat} (h : unq1 (34 :: t) = some (v, n)) : qs t = some (n - 1) ∧ 1 ≤ n := by
  obtain ⟨h1, h2⟩ := unq1_inv h
  unfold quoteW at h1 h2
  simp only [List.cons_append, List.cons.injEq, true_and, List.append_assoc, List.nil_append, List.length_cons, List.length_append, List.length_nil] at h1 h2
  rw [h1, qs_quote]
  exact ⟨by congr 1; omega, by omega⟩
theorem qs_le : ∀ (m : Nat) (t : List UInt8) (n : Nat), t.length = m → qs t = some n → 1 ≤ n ∧ n ≤ t.length := by
  intro m
  induction m using Nat.strongRecOn with
  | ind m ih =>
    intro t n hm h
    match t with
    | [] => simp [qs] at h
    | [c] =>
      simp only [qs] at h
      split at h
      · injection h with h; subst h; simp
      · cases h
    | c :: d :: r =>
      simp only [List.length_cons] at hm
      unfold qs at h
      split at h
      · injection h with h; subst h; simp
      · split at h
        · cases hq : qs r with
          | none => rw [hq] at h; cases h
          | some k =>
            rw [hq] at h; simp at h
            have := ih r.length (by omega) r k rfl hq
            simp only [List.length_cons]; omega
        · cases hq : qs (d :: r) with
          | none => rw [hq] at h; cases h
          | some k =>
            rw [hq] at h; simp at h
            have := ih (d :: r).length (by simp; omega) (d :: r) k rfl hq
            simp only [List.length_cons] at this ⊢; omega
/-! ### A quoted form ahead: the reference's word -/
def rquoted : List UInt8 → List UInt8 × Nat × Bool
  | [] => ([], 0, false)
  | c :: t => if c = 34 then (match qs t with
    | some n => ((unqR ((c :: t).take (n + 1))).1, n + 1, (unqR ((c :: t).take (n + 1))).2 == 0)
    | none => ([], 0, false)) else ([], 0, false)
theorem rquoted_cons (c : UInt8) (t : List UInt8) : rquoted (c :: t) = if c = 34 then (match qs t with
    | some n => ((unqR ((c :: t).take (n + 1))).1, n + 1, (unqR ((c :: t).take (n + 1))).2 == 0)
    | none => ([], 0, false)) else ([], 0, false) := rfl
theorem unqR_take {l v : List UInt8} {n : Nat} (h : unq1 l = some (v, n)) : unqR (l.take n) = (v, 0) := by
  obtain ⟨h1, h2⟩ := unq1_inv h
  have hl := (unq1_len h).2
  have e : l.take n = quoteW v := by
    conv => lhs; rw [h1, h2]
    rw [List.take_left]
  have := unq1_quote v []
  rw [List.append_nil] at this
  unfold unqR
  rw [e, this]
  simp
theorem unqR_none {l : List UInt8} (h : unq1 l = none) (m : Nat) : (unqR (l.take m)).2 = 6 := by
  unfold unqR
  cases hu : unq1 (l.take m) with
  | none => rfl
  | some p =>
    obtain ⟨v, n⟩ := p
    obtain ⟨h1, h2⟩ := unq1_inv hu
    exfalso
    have : l = quoteW v ++ ((l.take m).drop n ++ l.drop m) := by
      rw [← List.append_assoc, ← h1, List.take_append_drop]
    rw [this, unq1_quote] at h; cases h
theorem rquoted_some {l v : List UInt8} {n : Nat} (h : unq1 l = some (v, n)) : rquoted l = (v, n, true) := by
  match l with
  | [] => cases h
  | c :: t =>
    by_cases hc : c = 34
    · subst hc
      obtain ⟨h1, h2⟩ := unq1_qs h
      rw [rquoted_cons, if_pos rfl, h1]
      simp only
      rw [show n - 1 + 1 = n by omega, unqR_take h]; rfl
    · simp [unq1, hc] at h
theorem rquoted_none {l : List UInt8} (h : unq1 l = none) : (rquoted l).2.2 = false := by
  match l with
  | [] => rfl
  | c :: t =>
    rw [rquoted_cons]
    split
    · split
      · simp only
        rw [unqR_none h]; rfl
      · rfl
    · rfl
/-! ### A line: what both answer -/
def e0 : Ent := ⟨⟨#[]⟩, ⟨#[]⟩, false, 0⟩
def pfin (dead : Bool) (key val num : List UInt8) : Ent × Int :=
  if (wint num 1 1000000000).2 = 6 then (e0, 6)
  else if echk ⟨⟨key.toArray⟩, ⟨val.toArray⟩, dead, (wint num 1 1000000000).1⟩ ≠ 0 then (e0, echk ⟨⟨key.toArray⟩, ⟨val.toArray⟩, dead, (wint num 1 1000000000).1⟩)
  else (⟨⟨key.toArray⟩, ⟨val.toArray⟩, dead, (wint num 1 1000000000).1⟩, 0)
def pnum (dead : Bool) (key val : List UInt8) : List UInt8 → Ent × Int
  | [] => (e0, 6)
  | c :: r => if c = 32 then pfin dead key val r else (e0, 6)
def pval (key : List UInt8) : List UInt8 → Ent × Int
  | [] => (e0, 6)
  | c :: r => if c = 32 then (match unq1 r with
    | some (v, n) => pnum false key v (r.drop n)
    | none => (e0, 6)) else (e0, 6)
theorem pnum_cons (dead : Bool) (key val : List UInt8) (c : UInt8) (r : List UInt8) : pnum dead key val (c :: r) = if c = 32 then pfin dead key val r else (e0, 6) := rfl
theorem pval_cons (key : List UInt8) (c : UInt8) (r : List UInt8) : pval key (c :: r) = if c = 32 then (match unq1 r with
    | some (v, n) => pnum false key v (r.drop n)
    | none => (e0, 6)) else (e0, 6) := rfl
def putW : List UInt8 := [112, 117, 116]
def delW : List UInt8 := [100, 101, 108]
def pone (s : List UInt8) : Ent × Int :=
  if s.take 4 = putW ++ [32] then (match unq1 (s.drop 4) with
    | some (k, n) => pval k ((s.drop 4).drop n)
    | none => (e0, 6))
  else if s.take 4 = delW ++ [32] then (match unq1 (s.drop 4) with
    | some (k, n) => pnum true k [] ((s.drop 4).drop n)
    | none => (e0, 6))
  else (e0, 6)
/-! ### .. by the program's fields -/
def pend : List UInt8 → Nat
  | [] => 0
  | c :: r => if c = 34 then (match qs r with
    | some n => n + 1
    | none => r.length + 1) else (wordOf (c :: r)).length
theorem pend_cons (c : UInt8) (r : List UInt8) : pend (c :: r) = if c = 34 then (match qs r with
    | some n => n + 1
    | none => r.length + 1) else (wordOf (c :: r)).length := rfl
def pf1 (t : List UInt8) : Fld := if (unqR (t.take (pend t))).2 = 0 then ⟨(unqR (t.take (pend t))).1, true⟩ else ⟨t.take (pend t), false⟩
def pfG : Nat → List Fld → List UInt8 → List Fld
  | 0, _, _ => [⟨[], false⟩]
  | f + 1, acc, t => match t.drop (pend t) with
    | [] => acc ++ [pf1 t]
    | c :: r => if c = 32 then pfG f (acc ++ [pf1 t]) r else [⟨[], false⟩]
theorem pfG_succ (f : Nat) (acc : List Fld) (t : List UInt8) : pfG (f + 1) acc t = match t.drop (pend t) with
    | [] => acc ++ [pf1 t]
    | c :: r => if c = 32 then pfG f (acc ++ [pf1 t]) r else [⟨[], false⟩] := rfl
def pfs (t : List UInt8) : List Fld := pfG (t.length + 1) [] t
theorem pend_le (t : List UInt8) : pend t ≤ t.length := by
  cases t with
  | nil => exact Nat.le_refl _
  | cons c r =>
    rw [pend_cons]
    split
    · split
      · rename_i n hn
        have := qs_le _ r n rfl hn
        show n + 1 ≤ r.length + 1
        omega
      · simp
    · exact (List.takeWhile_sublist _).length_le
theorem pfG_fuel : ∀ (f g : Nat) (acc : List Fld) (t : List UInt8), t.length < f → t.length < g → pfG f acc t = pfG g acc t
  | 0, _, _, _, h, _ => by omega
  | _, 0, _, _, _, h => by omega
  | f + 1, g + 1, acc, t, h1, h2 => by
    unfold pfG
    split
    · rfl
    · rename_i c r e
      have hl := congrArg List.length e
      simp only [List.length_drop, List.length_cons] at hl
      split
      · exact pfG_fuel f g _ r (by omega) (by omega)
      · rfl
/-- Bad, or what was before and at least one more. -/
theorem pfG_form : ∀ (f : Nat) (acc : List Fld) (t : List UInt8), pfG f acc t = [⟨[], false⟩] ∨ ∃ m, pfG f acc t = acc ++ pf1 t :: m
  | 0, _, _ => .inl rfl
  | f + 1, acc, t => by
    unfold pfG
    split
    · exact .inr ⟨[], rfl⟩
    · split
      · rename_i r _ _
        rcases pfG_form f (acc ++ [pf1 t]) r with h | ⟨m, h⟩
        · exact .inl h
        · exact .inr ⟨pf1 r :: m, by rw [h]; simp⟩
      · exact .inl rfl
theorem pf1_some {t v : List UInt8} {n : Nat} (h : unq1 t = some (v, n)) : pend t = n ∧ pf1 t = ⟨v, true⟩ := by
  match t with
  | [] => cases h
  | c :: r =>
    by_cases hc : c = 34
    · subst hc
      obtain ⟨h1, h2⟩ := unq1_qs h
      have hp : pend (34 :: r) = n := by
        rw [pend_cons, if_pos rfl, h1]; simp only; omega
      refine ⟨hp, ?_⟩
      unfold pf1
      rw [hp, unqR_take h]; rfl
    · simp [unq1, hc] at h
theorem pf1_none {t : List UInt8} (h : unq1 t = none) : pf1 t = ⟨t.take (pend t), false⟩ := by
  unfold pf1
  rw [if_neg (by rw [unqR_none h]; decide)]
/-- What the program makes of the fields. -/
def pparse : List Fld → Ent × Int
  | [⟨k, false⟩, ⟨key, true⟩, ⟨num, false⟩] => if k = delW then pfin true key [] num else (e0, 6)
  | [⟨k, false⟩, ⟨key, true⟩, ⟨val, true⟩, ⟨num, false⟩] => if k = putW then pfin false key val num else (e0, 6)
  | _ => (e0, 6)
theorem pend_word {t : List UInt8} (h : ∀ r, t ≠ 34 :: r) : pend t = (wordOf t).length := by
  match t, h with
  | [], _ => rfl
  | c :: r, h => rw [pend_cons, if_neg (by rintro rfl; exact h r rfl)]
theorem isDec_no {l : List UInt8} (h : ∃ c ∈ l, digB c = false ∧ c ≠ 45) : isDec l = false := by
  obtain ⟨c, hc, h1, h2⟩ := h
  cases e : isDec l
  · rfl
  · exfalso
    match l with
    | [] => cases hc
    | d :: r =>
      have e : (if d = 45 then isNat r && r != [48] else isNat (d :: r)) = true := e
      split at e
      · rename_i hd
        have := (isNat_iff.1 (Bool.and_eq_true_iff.1 e).1).2.1
        rcases List.mem_cons.1 hc with rfl | hc
        · exact h2 hd
        · rw [this c hc] at h1; cases h1
      · have := (isNat_iff.1 e).2.1 c hc
        rw [this] at h1; cases h1
theorem wint_no {l : List UInt8} (h : isDec l = false) (a b : Int) : (wint l a b).2 = 6 := by unfold wint; rw [h]; rfl
theorem pbad_line (k key val num : List UInt8) : pparse [⟨[], false⟩] = (e0, 6) := rfl
theorem pf1_q {t : List UInt8} (h : (pf1 t).q = true) : ∃ v, unq1 t = some (v, pend t) ∧ (pf1 t).s = v := by
  cases hu : unq1 t with
  | none => rw [pf1_none hu] at h; cases h
  | some p =>
    obtain ⟨v, n⟩ := p
    obtain ⟨h1, h2⟩ := pf1_some hu
    exact ⟨v, by rw [h1], by rw [h2]⟩
theorem pfG_one (f : Nat) (acc : List Fld) (t : List UInt8) (h : t.drop (pend t) = []) : pfG (f + 1) acc t = acc ++ [pf1 t] := by rw [pfG_succ, h]
theorem pfG_sp (f : Nat) (acc : List Fld) (t r : List UInt8) (h : t.drop (pend t) = 32 :: r) : pfG (f + 1) acc t = pfG f (acc ++ [pf1 t]) r := by rw [pfG_succ, h]; simp
theorem pfG_no (f : Nat) (acc : List Fld) (t r : List UInt8) (c : UInt8) (h : t.drop (pend t) = c :: r) (hc : c ≠ 32) : pfG (f + 1) acc t = [⟨[], false⟩] := by rw [pfG_succ, h]; simp [hc]
/-- The last field, a number. -/
theorem last_num (f : Nat) (acc : List Fld) (r : List UInt8) (dead : Bool) (key val : List UInt8) (hf : r.length < f) (G : List Fld → Ent × Int)
    (h1 : ∀ x : Fld, G (acc ++ [x]) = if x.q = false then pfin dead key val x.s else (e0, 6))
    (h2 : ∀ x y m, G (acc ++ x :: y :: m) = (e0, 6)) (h3 : G [⟨[], false⟩] = (e0, 6)) : G (pfG f acc r) = pfin dead key val r := by
  obtain ⟨f, rfl⟩ : ∃ g, f = g + 1 := ⟨f - 1, by omega⟩
  have bad : (∃ c ∈ r, digB c = false ∧ c ≠ 45) → pfin dead key val r = (e0, 6) := fun h => by unfold pfin; rw [if_pos (wint_no (isDec_no h) _ _)]
  cases hd : r.drop (pend r) with
  | nil =>
    rw [pfG_one _ _ _ hd, h1]
    cases hu : unq1 r with
    | none =>
      rw [pf1_none hu]
      have : r.take (pend r) = r := by
        have := List.take_append_drop (pend r) r
        rw [hd, List.append_nil] at this; exact this
      rw [this]; rfl
    | some p =>
      obtain ⟨v, n⟩ := p
      rw [(pf1_some hu).2]
      rw [if_neg (by simp)]
      rw [bad]
      obtain ⟨e1, _⟩ := unq1_inv hu
      exact ⟨34, by rw [e1]; simp [quoteW], by decide, by decide⟩
  | cons c t =>
    by_cases hc : c = 32
    · subst hc
      rw [pfG_sp _ _ _ _ hd]
      have hg : G (pfG f (acc ++ [pf1 r]) t) = (e0, 6) := by
        rcases pfG_form f (acc ++ [pf1 r]) t with h | ⟨m, h⟩
        · rw [h, h3]
        · rw [h, List.append_assoc]; exact h2 _ _ _
      rw [hg, bad]
      exact ⟨32, by rw [← List.take_append_drop (pend r) r, hd]; simp, by decide, by decide⟩
    · rw [pfG_no _ _ _ _ _ hd hc, h3, bad]
      match r, hd with
      | [], hd => simp at hd
      | d :: r', hd =>
        by_cases h34 : d = 34
        · exact ⟨34, by rw [h34]; simp, by decide, by decide⟩
        · exfalso
          have hw := word_drop (d :: r')
          rw [pend_word (by intro r'' e; injection e with e _; exact h34 e)] at hd
          rcases hw.2 with h | ⟨s, h⟩
          · rw [h] at hd; cases hd
          · rw [h] at hd; injection hd with hd _; exact hc hd.symm
theorem pval_num (f : Nat) (r : List UInt8) (k key : List UInt8) (hk : k = putW) (hf : r.length < f) : pparse (pfG f [⟨k, false⟩, ⟨key, true⟩] r) = match unq1 r with
    | some (v, n) => pnum false key v (r.drop n)
    | none => (e0, 6) := by
  subst hk
  obtain ⟨f, rfl⟩ : ∃ g, f = g + 1 := ⟨f - 1, by omega⟩
  cases hu : unq1 r with
  | none =>
    simp only
    rcases pfG_form (f + 1) [⟨putW, false⟩, ⟨key, true⟩] r with h | ⟨m, h⟩
    · rw [h]; rfl
    · rw [h, pf1_none hu]
      match m with
      | [] => simp [pparse]; intro h; exact absurd h (by decide)
      | [_] => rfl
      | _ :: _ :: _ => rfl
  | some p =>
    obtain ⟨v, n⟩ := p
    simp only
    obtain ⟨e1, e2⟩ := pf1_some hu
    cases hd : r.drop n with
    | nil => rw [pfG_one _ _ _ (by rw [e1]; exact hd), e2]; rfl
    | cons c t =>
      have hlt : t.length < f := by
        have := congrArg List.length hd
        simp only [List.length_drop, List.length_cons] at this; omega
      by_cases hc : c = 32
      · subst hc
        rw [pfG_sp _ _ _ t (by rw [e1]; exact hd), e2]
        rw [pnum_cons, if_pos rfl]
        refine last_num f _ t false key v hlt pparse (fun x => ?_) (fun x y m => by obtain ⟨s, q⟩ := x; cases q <;> rfl) rfl
        obtain ⟨s, q⟩ := x
        cases q <;> simp [pparse]
      · rw [pfG_no _ _ _ _ _ (by rw [e1]; exact hd) hc]
        rw [pnum_cons, if_neg hc]; rfl
theorem pkey_num (f : Nat) (r : List UInt8) (hf : r.length < f) : pparse (pfG f [⟨putW, false⟩] r) = (match unq1 r with
    | some (k, n) => pval k (r.drop n)
    | none => (e0, 6)) ∧ pparse (pfG f [⟨delW, false⟩] r) = (match unq1 r with
    | some (k, n) => pnum true k [] (r.drop n)
    | none => (e0, 6)) := by
  obtain ⟨f, rfl⟩ : ∃ g, f = g + 1 := ⟨f - 1, by omega⟩
  cases hu : unq1 r with
  | none =>
    simp only
    have no : ∀ w, pparse (pfG (f + 1) [⟨w, false⟩] r) = (e0, 6) := by
      intro w
      rcases pfG_form (f + 1) [⟨w, false⟩] r with h | ⟨m, h⟩
      · rw [h]; rfl
      · rw [h, pf1_none hu]; rfl
    exact ⟨no _, no _⟩
  | some p =>
    obtain ⟨k, n⟩ := p
    simp only
    obtain ⟨e1, e2⟩ := pf1_some hu
    cases hd : r.drop n with
    | nil => rw [pfG_one _ _ _ (by rw [e1]; exact hd), pfG_one _ _ _ (by rw [e1]; exact hd), e2]; exact ⟨rfl, rfl⟩
    | cons c t =>
      have hlt : t.length < f := by
        have := congrArg List.length hd
        simp only [List.length_drop, List.length_cons] at this; omega
      by_cases hc : c = 32
      · subst hc
        rw [pfG_sp _ _ _ t (by rw [e1]; exact hd), pfG_sp _ _ _ t (by rw [e1]; exact hd), e2]
        constructor
        · rw [pval_cons, if_pos rfl]
          exact pval_num f t putW k rfl hlt
        · rw [pnum_cons, if_pos rfl]
          refine last_num f _ t true k [] hlt pparse (fun x => ?_) (fun x y m => ?_) rfl
          · obtain ⟨s, q⟩ := x
            cases q <;> simp [pparse]
          · obtain ⟨s, q⟩ := x
            obtain ⟨s', q'⟩ := y
            cases m with
            | nil => cases q <;> cases q' <;> simp [pparse]; intro h; exact absurd h (by decide)
            | cons z m => simp [pparse]
      · rw [pfG_no _ _ _ _ _ (by rw [e1]; exact hd) hc, pfG_no _ _ _ _ _ (by rw [e1]; exact hd) hc]
        constructor
        · rw [pval_cons, if_neg hc]; rfl
        · rw [pnum_cons, if_neg hc]; rfl
/-- The program's line is the reference's. -/
theorem pparse_pone (s : List UInt8) : pparse (pfs s) = pone s := by
  have first : ∀ w : List UInt8, (w = putW ∨ w = delW) → s.take 4 = w ++ [32] → pfs s = pfG s.length [⟨w, false⟩] (s.drop 4) ∧ (s.drop 4).length < s.length := by
    intro w hw h
    have hs : s = w ++ 32 :: s.drop 4 := by
      conv => lhs; rw [← List.take_append_drop 4 s, h]
      simp
    have hw3 : w.length = 3 := by rcases hw with rfl | rfl <;> rfl
    have hwd : wordOf (w ++ 32 :: s.drop 4) = w := word_stop (by rcases hw with rfl | rfl <;> decide) (.inr ⟨_, rfl⟩)
    have h34 : ∀ r, s ≠ 34 :: r := by intro r e; rw [e] at hs; rcases hw with rfl | rfl <;> cases hs
    have hp : pend s = 3 := by rw [pend_word h34]; rw [hs, hwd, hw3]
    have hu : unq1 s = none := by
      match s, h34 with
      | [], _ => rfl
      | c :: r, h34 => have : c ≠ 34 := by rintro rfl; exact h34 r rfl
                       simp [unq1, this]
    have ht : s.take 3 = w := by
      conv => lhs; rw [hs]
      rw [← hw3, List.take_left]
    have hdr : s.drop 3 = 32 :: s.drop 4 := by
      conv => lhs; rw [hs]
      rw [← hw3, List.drop_left]
    have hl := congrArg List.length hdr
    simp only [List.length_drop, List.length_cons] at hl
    refine ⟨?_, by simp only [List.length_drop]; omega⟩
    unfold pfs
    rw [pfG_sp _ _ _ (s.drop 4) (by rw [hp]; exact hdr), pf1_none hu, hp, ht]; rfl
  unfold pone
  by_cases h1 : s.take 4 = putW ++ [32]
  · rw [if_pos h1]
    obtain ⟨e, hl⟩ := first _ (.inl rfl) h1
    rw [e]; exact (pkey_num _ _ hl).1
  · rw [if_neg h1]
    by_cases h2 : s.take 4 = delW ++ [32]
    · rw [if_pos h2]
      obtain ⟨e, hl⟩ := first _ (.inr rfl) h2
      rw [e]; exact (pkey_num _ _ hl).2
    · rw [if_neg h2]
      -- the first field is no known word, or nothing comes behind it
      have bad0 : ∀ x m, (∀ w, (w = putW ∨ w = delW) → x = (⟨w, false⟩ : Fld) → m = []) → pparse (x :: m) = (e0, 6) := by
        intro x m h
        obtain ⟨k, q⟩ := x
        by_cases hk : (k = putW ∨ k = delW) ∧ q = false
        · obtain ⟨hk, rfl⟩ := hk
          rw [h k hk rfl]; rfl
        · unfold pparse
          split
          · rename_i e
            injection e with e _
            injection e with e e'
            subst e e'
            rw [if_neg (by intro h; exact hk ⟨.inr h, rfl⟩)]
          · rename_i e
            injection e with e _
            injection e with e e'
            subst e e'
            rw [if_neg (by intro h; exact hk ⟨.inl h, rfl⟩)]
          · rfl
      rcases pfG_form (s.length + 1) [] s with h | ⟨m, h⟩
      · unfold pfs; rw [h]; rfl
      · have hf := h
        unfold pfs; rw [h, List.nil_append]
        refine bad0 _ _ (fun w hw hx => ?_)
        have hu : unq1 s = none := by
          cases hu : unq1 s with
          | none => rfl
          | some p => obtain ⟨v, n⟩ := p; rw [(pf1_some hu).2] at hx; cases hx
        rw [pf1_none hu] at hx
        injection hx with hx
        cases hd : s.drop (pend s) with
        | nil =>
          rw [pfG_one _ _ _ hd, List.nil_append, List.nil_append] at hf
          injection hf with _ hf; exact hf.symm
        | cons c t =>
          exfalso
          have hw3 : w.length = 3 := by rcases hw with rfl | rfl <;> rfl
          have hp3 : pend s = 3 := by
            have := congrArg List.length hx
            rw [List.length_take, hw3] at this
            have h2 := pend_le s
            omega
          rw [hp3] at hd hx
          by_cases hc : c = 32
          · subst hc
            have : s.take 4 = w ++ [32] := by
              rw [List.take_add_one, hx]
              have : s[3]? = some 32 := by
                have := congrArg (fun l => l[0]?) hd
                simpa using this
              rw [this]; rfl
            rcases hw with rfl | rfl
            · exact h1 this
            · exact h2 this
          · rw [pfG_no _ _ _ _ _ (by rw [hp3]; exact hd) hc] at hf
            rw [pf1_none hu, hp3, hx] at hf
            injection hf with hf _
            injection hf with hf _
            rcases hw with rfl | rfl <;> cases hf
end Go.Proofs.YtkbfjficmdgjpaaGreatDoor

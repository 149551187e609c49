
/-
  Plain facts of handles: texts of tables read.
-/
import Derived.Test.YtidclkojekodpaaGreatDoorHnM
import Derived.Test.YtidclkojekodpaaGreatDoorWpG
import Derived.Test.YtidclkojekodpaaGreatDoorWlB
namespace Go.Proofs.YtidclkojekodpaaGreatDoor
set_option linter.unusedSimpArgs false
set_option linter.unusedVariables false

abbrev tableW : List UInt8 := [116, 97, 98, 108, 101]
/-- A line of a word and a number. -/
def rowR (s : List UInt8) : List UInt8 × Int × Bool := match (wsplit s).1 with
  | [f, g] => if (f.q || g.q) = true then ([], 0, false) else (f.s, (wint g.s 0 1000000000).1, (wint g.s 0 1000000000).2 == 0)
  | _ => ([], 0, false)
def tstep (i : Nat) (t : Tb) (s : List UInt8) : Option Tb :=
  if (rowR s).2.2 = false then none
  else if i = 0 then (if (rowR s).1 = tableW then some ⟨(rowR s).2.1, t.slots⟩ else none)
  else if (rowR s).1 = wordB true then some ⟨t.most, t.slots ++ [⟨(rowR s).2.1, true⟩]⟩
  else if (rowR s).1 = wordB false then some ⟨t.most, t.slots ++ [⟨(rowR s).2.1, false⟩]⟩ else none
def tgo : Nat → Tb → List (List UInt8) → Tb × Int × Int
  | _, t, [] => if (tchk t).2 ≠ 0 then (tnil, 0, (tchk t).2) else (t, 0, 0)
  | i, t, s :: r => match tstep i t s with
    | none => (tnil, (i : Int) + 1, 6)
    | some u => tgo (i + 1) u r
def tparse (s : List UInt8) : Tb × Int × Int :=
  if (wlines s).2 ≠ 0 then (tnil, 0, (wlines s).2) else if (wlines s).1 = [] then (tnil, 1, 6) else tgo 0 tnil (wlines s).1
theorem row_nil : rowR [] = ([], 0, false) := by kernel_rfl
theorem tparse_nil {s : List UInt8} (h : (wlines s).2 = 0) (h2 : (wlines s).1 = []) : tparse s = tgo 0 tnil [[]] := by
  unfold tparse
  rw [if_neg (by simpa using h), if_pos h2]
  unfold tgo tstep
  rw [row_nil]
  rfl
theorem wint_range {s : List UInt8} {lo hi : Int} : (wint s lo hi).2 = 0 → lo ≤ (wint s lo hi).1 ∧ (wint s lo hi).1 ≤ hi := by
  unfold wint
  split
  · split
    · rename_i h
      simp only [Bool.and_eq_true, decide_eq_true_eq] at h
      intro _; exact ⟨h.1.2, h.2⟩
    · intro h; cases h
  · intro h; cases h
theorem wint_zero {s : List UInt8} {lo hi : Int} (h : (wint s lo hi).2 ≠ 0) : (wint s lo hi).1 = 0 := by
  unfold wint at h ⊢
  split
  · split
    · rename_i h1 h2; rw [if_pos h1, if_pos h2] at h; exact absurd rfl h
    · rfl
  · rfl
theorem row_range (s : List UInt8) : 0 ≤ (rowR s).2.1 ∧ (rowR s).2.1 ≤ 1000000000 := by
  unfold rowR
  split
  · split
    · simp
    · rename_i f g _ _
      simp only
      by_cases h : (wint g.s 0 1000000000).2 = 0
      · exact wint_range h
      · rw [wint_zero h]; omega
  · simp

/-! ### Lines joined -/
def joinL (l : List (List UInt8)) : List UInt8 := l.flatMap (· ++ [10])
theorem spl_no : ∀ (s cur r : List UInt8), (∀ c ∈ s, c ≠ 10) → spl cur (s ++ 10 :: r) = (cur ++ s) :: spl [] r
  | [], cur, r, _ => by simp [spl]
  | c :: s, cur, r, h => by
    rw [List.cons_append, spl, if_neg (h c (by simp)), spl_no s _ r (fun d hd => h d (by simp [hd]))]; simp
theorem spl_joinL : ∀ (l : List (List UInt8)), (∀ x ∈ l, ∀ c ∈ x, c ≠ 10) → spl [] (joinL l) = l
  | [], _ => rfl
  | x :: l, h => by
    have ih := spl_joinL l (fun y hy => h y (by simp [hy]))
    have e : joinL (x :: l) = x ++ 10 :: joinL l := by simp [joinL]
    rw [e, spl_no _ _ _ (h x (by simp)), ih]; rfl
theorem joinL_spl : ∀ (s cur : List UInt8), joinL (spl cur (s ++ [10])) = cur ++ s ++ [10]
  | [], cur => by simp [spl, joinL]
  | c :: s, cur => by
    by_cases h : c = 10
    · subst h
      have ih := joinL_spl s []
      rw [List.cons_append, spl, if_pos rfl]
      unfold joinL at ih ⊢
      rw [List.flatMap_cons, ih]; simp
    · rw [List.cons_append, spl, if_neg h, joinL_spl s]; simp
theorem wlines_ok {s : List UInt8} {l : List (List UInt8)} (h : wlines s = (l, 0)) : joinL l = s := by
  unfold wlines at h
  split at h
  · injection h with _ h; cases h
  · split at h
    · rename_i hz
      injection h with h _
      subst h hz; rfl
    · split at h
      · injection h with _ h; cases h
      · rename_i hs
        split at h
        · injection h with _ h; cases h
        · injection h with h _
          subst h
          have hs : Lib.hasSuffix s [10] = true := by simpa using hs
          unfold Lib.hasSuffix at hs
          obtain ⟨t, ht⟩ := List.isSuffixOf_iff_suffix.1 hs
          rw [← ht, joinL_spl]; simp
theorem wlines_join {l : List (List UInt8)} (h1 : (joinL l).length ≤ 1048576) (h2 : l.length ≤ 5000) (h : ∀ x ∈ l, ∀ c ∈ x, c ≠ 10) : wlines (joinL l) = (l, 0) := by
  unfold wlines
  rw [if_neg (by omega)]
  cases l with
  | nil => rfl
  | cons x l =>
    have hne : joinL (x :: l) ≠ [] := by simp [joinL]
    have hsuf : ∀ y : List (List UInt8), y ≠ [] → Lib.hasSuffix (joinL y) [10] = true := by
      intro y hy
      unfold Lib.hasSuffix
      rw [List.isSuffixOf_iff_suffix]
      obtain ⟨z, q, rfl⟩ : ∃ z q, y = z ++ [q] := ⟨y.dropLast, y.getLast hy, (List.dropLast_concat_getLast hy).symm⟩
      refine ⟨joinL z ++ q, ?_⟩
      simp [joinL]
    rw [if_neg hne, if_neg (by rw [hsuf _ (by simp)]; simp), spl_joinL _ h, if_neg (by omega)]

/-! ### A line and its row -/
def lineB (w : List UInt8) (n : Int) : List UInt8 := w ++ 32 :: Lib.itoa n
theorem itoa_bare (n : Int) (h : 0 ≤ n) : bareW (Lib.itoa n) = true := by
  have hd := dd_facts n.toNat
  obtain ⟨h1, h2, -⟩ := isNat_iff.1 hd.1
  have e : Lib.itoa n = Lib.decDigits n.toNat := by unfold Lib.itoa; rw [if_neg (by omega)]
  rw [e]
  unfold bareW
  rw [Bool.and_eq_true, List.all_eq_true]
  refine ⟨by simpa using h1, fun c hc => ?_⟩
  have := digB_iff.1 (h2 c hc)
  unfold plainB
  have e1 : c ≠ 34 := by rintro rfl; simp at this
  have e2 : c ≠ 92 := by rintro rfl; simp at this
  have e3 : c ≠ 32 := by rintro rfl; simp at this
  simp [e1, e2, e3]; omega
theorem itoa_short (n : Int) (h0 : 0 ≤ n) (h1 : n ≤ 1000000000) : (Lib.itoa n).length ≤ 21 := Lib.itoa_length_le n (by omega) (by omega)
theorem row_of {w : List UInt8} {n : Int} (hw : bareW w = true) (hl : w.length ≤ 100) (h0 : 0 ≤ n) (h1 : n ≤ 1000000000) : rowR (lineB w n) = (w, n, true) := by
  have hi := itoa_short n h0 h1
  have hj : wjoin [⟨w, false⟩, ⟨Lib.itoa n, false⟩] = (lineB w n, 0) := by
    rw [join_mk (by simp) (by simp [tooL]; omega) (by simp [Fld.val, hw, itoa_bare n h0]) (by simp [joinW, Fld.txt]; omega)]
    simp [joinW, Fld.txt, lineB]
  have hs := join_splitR hj
  have hv : wint (Lib.itoa n) 0 1000000000 = (n, 0) := by
    obtain ⟨i1, i2⟩ := itoa_facts n
    unfold wint inI64
    rw [if_pos i1, i2, decide_eq_true (show -9223372036854775808 ≤ n by omega), decide_eq_true (show n ≤ 9223372036854775807 by omega), decide_eq_true h0, decide_eq_true h1]
    rfl
  unfold rowR
  rw [hs]
  simp [hv]
theorem row_back {s w : List UInt8} {n : Int} (h : rowR s = (w, n, true)) : s = lineB w n ∧ 0 ≤ n ∧ n ≤ 1000000000 := by
  unfold rowR at h
  split at h
  · rename_i f g hfg
    split at h
    · simp at h
    · rename_i hq
      simp only [Prod.mk.injEq] at h
      obtain ⟨h1, h2, h3⟩ := h
      have hz : (wint g.s 0 1000000000).2 = 0 := by simpa using h3
      have hr := wint_range hz
      rw [h2] at hr
      have hw : wint g.s 0 1000000000 = (n, 0) := Prod.ext h2 hz
      have hd := (digits_int hw).1
      have he : (wsplit s).2 = 0 := by
        unfold wsplit at hfg ⊢
        split
        · rename_i h; rw [if_pos h] at hfg; cases hfg
        · rename_i h
          rw [if_neg h] at hfg
          split
          · rfl
          · rename_i h2
            rw [if_neg h2] at hfg
            split
            · rename_i e; rw [e] at hfg; cases hfg
            · rename_i fs e
              rw [e] at hfg
              simp only at hfg ⊢
              split
              · rename_i h3; rw [if_pos h3] at hfg; cases hfg
              · rfl
      have hs : wsplit s = ([f, g], 0) := Prod.ext hfg he
      have hj := split_joinR hs
      have hb : (wjoin [f, g]).1 = joinW [f, g] := by
        unfold wjoin at hj ⊢
        split at hj
        · injection hj with _ hj; cases hj
        · split at hj
          · injection hj with _ hj; cases hj
          · split at hj
            · injection hj with _ hj; cases hj
            · split at hj
              · injection hj with _ hj; cases hj
              · rename_i a b c d
                rw [if_neg a, if_neg b, if_neg c, if_neg d]
      rw [hj] at hb
      simp only at hb
      have q1 : f.q = false := by simp at hq; exact hq.1
      have q2 : g.q = false := by simp at hq; exact hq.2
      refine ⟨?_, hr⟩
      rw [hb, ← h1]
      simp [joinW, Fld.txt, q1, q2, lineB, hd]
  · simp at h

/-! ### Tables and their texts are inverse to each other -/
def linesT (t : Tb) : List (List UInt8) := lineB tableW t.most :: t.slots.map (fun s => lineB (wordB s.used) s.gen)
theorem print_join (t : Tb) : printB t = joinL (linesT t) := by
  unfold printB linesT joinL rowsB
  have e : ∀ l : List Slot, l.flatMap rowB = (l.map (fun s => lineB (wordB s.used) s.gen)).flatMap (· ++ [10]) := by
    intro l
    induction l with
    | nil => rfl
    | cons s l ih => rw [List.flatMap_cons, List.map_cons, List.flatMap_cons, ih]; simp [rowB, lineB]
  rw [List.flatMap_cons, e]
  simp [headB, lineB]
theorem line_no10 {w : List UInt8} {n : Int} (hw : ∀ c ∈ w, c ≠ 10) (h : 0 ≤ n) : ∀ c ∈ lineB w n, c ≠ 10 := by
  intro c hc e
  subst e
  unfold lineB at hc
  rcases List.mem_append.1 hc with hc | hc
  · exact hw _ hc rfl
  · rcases List.mem_cons.1 hc with hc | hc
    · cases hc
    · have := (bare_pos (itoa_bare n h)).2 _ hc
      have h2 : plainB 10 = false := by decide
      rw [h2] at this; cases this.1
theorem word_bare (u : Bool) : bareW (wordB u) = true := by cases u <;> decide
theorem word_no10 (u : Bool) : ∀ c ∈ wordB u, c ≠ 10 := by cases u <;> decide
theorem tgo_rows : ∀ (l pre : List Slot) (m : Int) (i : Nat), 1 ≤ i → (∀ s ∈ l, 0 ≤ s.gen ∧ s.gen ≤ 1000000000) → (tchk ⟨m, pre ++ l⟩).2 = 0 → tgo i ⟨m, pre⟩ (l.map (fun s => lineB (wordB s.used) s.gen)) = (⟨m, pre ++ l⟩, 0, 0)
  | [], pre, m, i, _, _, h => by
    rw [List.append_nil] at h ⊢
    simp only [List.map_nil, tgo]
    rw [if_neg (by simpa using h)]
  | s :: l, pre, m, i, hi, hg, h => by
    have hs := hg s (by simp)
    have hr := row_of (word_bare s.used) (by cases s.used <;> decide) hs.1 hs.2
    have ih := tgo_rows l (pre ++ [s]) m (i + 1) (by omega) (fun x hx => hg x (by simp [hx])) (by simpa using h)
    simp only [List.map_cons, tgo]
    have e : tstep i ⟨m, pre⟩ (lineB (wordB s.used) s.gen) = some ⟨m, pre ++ [s]⟩ := by
      unfold tstep
      rw [hr]
      obtain ⟨g, u⟩ := s
      have : i ≠ 0 := by omega
      cases u <;> simp [this, wordB]
    rw [e]
    simp only
    rw [ih]; simp
theorem print_parse {t : Tb} (h : Good t) : tparse (printB t) = (t, 0, 0) := by
  have hc := good_tchk h
  have h16 : t.slots.length ≤ 16 := by have := h.len; have := h.most2; omega
  have hm := h.most1
  have hm2 := h.most2
  have hl : (linesT t).length ≤ 17 := by simp [linesT]; omega
  have hno : ∀ x ∈ linesT t, ∀ c ∈ x, c ≠ 10 := by
    intro x hx
    unfold linesT at hx
    rcases List.mem_cons.1 hx with rfl | hx
    · exact line_no10 (by decide) (by omega)
    · obtain ⟨s, hs, rfl⟩ := List.mem_map.1 hx
      have := h.gens s hs
      exact line_no10 (word_no10 _) (by omega)
  have hlen : (joinL (linesT t)).length ≤ 1048576 := by
    rw [← print_join]
    have h1 := rowsB_len (l := t.slots) (fun s hs => by have := h.gens s hs; unfold Slot.ok; omega)
    have h2 := itoa_short t.most (by omega) (by omega)
    unfold printB headB
    simp only [List.length_append, List.length_cons, List.length_nil]
    omega
  have hw := wlines_join hlen (by omega) hno
  rw [print_join]
  unfold tparse
  rw [hw, if_neg (by simp), if_neg (by simp [linesT])]
  unfold linesT
  simp only [tgo]
  have hr := row_of (w := tableW) (n := t.most) (by decide) (by decide) (by omega) (by omega)
  have e : tstep 0 tnil (lineB tableW t.most) = some ⟨t.most, []⟩ := by unfold tstep; rw [hr]; rfl
  rw [e]
  simp only
  rw [tgo_rows t.slots [] t.most 1 (by omega) (fun s hs => by have := h.gens s hs; omega) (by rw [List.nil_append]; rw [show (⟨t.most, t.slots⟩ : Tb) = t from rfl, hc])]
  rfl
theorem tgo_back : ∀ (ls : List (List UInt8)) (i : Nat) (t u : Tb), 1 ≤ i → tgo i t ls = (u, 0, 0) → (tchk u).2 = 0 ∧ u.most = t.most ∧ ∃ l, u.slots = t.slots ++ l ∧ ls = l.map (fun s => lineB (wordB s.used) s.gen)
  | [], i, t, u, _, h => by
    simp only [tgo] at h
    split at h
    · rename_i hc
      simp only [Prod.mk.injEq] at h
      exact absurd h.2.2 hc
    · rename_i hc
      injection h with h _
      subst h
      exact ⟨by simpa using hc, rfl, [], by simp, rfl⟩
  | s :: r, i, t, u, hi, h => by
    simp only [tgo] at h
    cases hs : tstep i t s with
    | none =>
      rw [hs] at h
      simp only [Prod.mk.injEq] at h
      have := h.2.2; omega
    | some v =>
      rw [hs] at h
      simp only at h
      obtain ⟨h1, h2, l, h3, h4⟩ := tgo_back r (i + 1) v u (by omega) h
      unfold tstep at hs
      obtain ⟨⟨w, n, b⟩, hr⟩ : ∃ r, rowR s = r := ⟨_, rfl⟩
      rw [hr] at hs
      simp only at hs
      cases b with
      | false => simp at hs
      | true =>
        obtain ⟨k1, k2, k3⟩ := row_back hr
        have hi0 : i ≠ 0 := by omega
        simp only [Bool.true_eq_false, if_false, if_neg hi0] at hs
        split at hs
        · rename_i hw
          injection hs with hs
          subst hs
          refine ⟨h1, h2, ⟨n, true⟩ :: l, by rw [h3]; simp, ?_⟩
          rw [List.map_cons, ← h4, k1, hw]
        · split at hs
          · rename_i hw
            injection hs with hs
            subst hs
            refine ⟨h1, h2, ⟨n, false⟩ :: l, by rw [h3]; simp, ?_⟩
            rw [List.map_cons, ← h4, k1, hw]
          · cases hs
theorem parse_print {s : List UInt8} {t : Tb} (h : tparse s = (t, 0, 0)) : printB t = s ∧ (tchk t).2 = 0 := by
  unfold tparse at h
  split at h
  · rename_i hc
    simp only [Prod.mk.injEq] at h
    exact absurd h.2.2 hc
  · rename_i hc
    split at h
    · simp only [Prod.mk.injEq] at h
      have := h.2.2; omega
    · rename_i hne
      have hw : wlines s = ((wlines s).1, 0) := by
        have : (wlines s).2 = 0 := by simpa using hc
        exact Prod.ext rfl this
      generalize (wlines s).1 = ls at h hne hw
      have hj := wlines_ok hw
      cases ls with
      | nil => exact absurd rfl hne
      | cons x r =>
        simp only [tgo] at h
        cases hs : tstep 0 tnil x with
        | none =>
          rw [hs] at h
          simp only [Prod.mk.injEq] at h
          have := h.2.2; omega
        | some v =>
          rw [hs] at h
          simp only at h
          obtain ⟨h1, h2, l, h3, h4⟩ := tgo_back r 1 v t (by omega) h
          refine ⟨?_, h1⟩
          unfold tstep at hs
          obtain ⟨⟨w, n, b⟩, hr⟩ : ∃ r, rowR x = r := ⟨_, rfl⟩
          rw [hr] at hs
          simp only at hs
          cases b with
          | false => simp at hs
          | true =>
            obtain ⟨k1, k2, k3⟩ := row_back hr
            simp only [Bool.true_eq_false, if_false, if_true] at hs
            split at hs
            · rename_i hw2
              injection hs with hs
              subst hs
              rw [print_join, ← hj]
              unfold linesT
              rw [h2, h3, show tnil.slots = [] from rfl, List.nil_append, ← h4, k1, hw2]
            · cases hs
end Go.Proofs.YtidclkojekodpaaGreatDoor

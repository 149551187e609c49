
/-
  Contracts of words (over 01.ZD): plain facts of ParseList; strconv.Atoi.
-/
import Derived.Test.YtfjdcfmoodlnaaaGreatDoorWpJ
import Derived.Test.YtfjdcfmoodlnaaaGreatDoorWoR
import Derived.Test.YtfjdcfmoodlnaaaGreatDoorWoI
import Derived.Test.YtfjdcfmoodlnaaaGreatDoorWpF
namespace Go.Proofs.YtfjdcfmoodlnaaaGreatDoor
open Go.RowKit
set_option linter.unusedSimpArgs false
set_option linter.unusedVariables false
set_option maxRecDepth 100000

theorem pcs_cutG (b : UInt8) : ∀ (r cur : List UInt8), pcs b cur r = if r.contains b then (cur ++ r.takeWhile (fun x => x != b)) :: pcs b [] ((r.dropWhile (fun x => x != b)).drop 1) else [cur ++ r]
  | [], cur => by simp [pcs]
  | c :: r, cur => by
    have ih := pcs_cutG b r (cur ++ [c])
    by_cases h : c = b
    · subst h; simp [pcs]
    · have h' : ¬ b = c := fun e => h e.symm
      rw [pcs, if_neg h, ih]
      have e : (c :: r).contains b = r.contains b := by simp [h']
      rw [e]
      simp [h]
theorem no_in_take (b : UInt8) : ∀ (r : List UInt8), ∀ c ∈ r.takeWhile (fun x => x != b), c ≠ b
  | [], c, h => by simp at h
  | d :: r, c, h => by
    by_cases e : d = b
    · simp [e] at h
    · simp [e] at h
      rcases h with rfl | h
      · exact e
      · exact no_in_take b r c h
theorem isDec_no {l : List UInt8} (h : ∀ c ∈ l, c ≠ 45) : isDec l = isNat l := by
  cases l with
  | nil => rfl
  | cons c r => simp only [isDec, if_neg (h c (by simp))]
theorem isDec_hd {l : List UInt8} (h : isDec l = true) (h2 : l.headD 0 ≠ 45) : isNat l = true := by
  cases l with
  | nil => cases h
  | cons c r =>
    have h2 : c ≠ 45 := by simpa using h2
    simp only [isDec, if_neg h2] at h
    exact h
theorem isNat_no45 {l : List UInt8} (h : isNat l = true) : ∀ c ∈ l, c ≠ 45 := by
  intro c hc e
  subst e
  have := (isNat_iff.1 h).2.1 45 hc
  cases this
theorem isNat_hd {l : List UInt8} (h : isNat l = true) : l.headD 0 ≠ 45 := by
  obtain ⟨h1, -, -⟩ := isNat_iff.1 h
  cases l with
  | nil => exact absurd rfl h1
  | cons c r => simpa using isNat_no45 h c (by simp)
theorem isNat_dec {l : List UInt8} (h : isNat l = true) : isDec l = true := by rw [isDec_no (isNat_no45 h)]; exact h
def runQ (a e : List UInt8) (d : Bool) : Option (Nat × Nat) := if (isDec a && isDec e && e.headD 0 != 45 && (!d || decide (natV 0 a < natV 0 e))) = true then some (natV 0 a, natV 0 e) else none
theorem runP_cut (r : List UInt8) : runP r = runQ (cutL 45 r).1 (if (cutL 45 r).2.2 = true then (cutL 45 r).2.1 else (cutL 45 r).1) (cutL 45 r).2.2 := by
  unfold runP
  rw [pcs_cutG]
  cases hc : r.contains 45 with
  | false =>
    obtain ⟨e1, e2⟩ := word_all 45 r hc
    have e : cutL 45 r = (r, [], false) := by unfold cutL; rw [e1, e2, hc]; rfl
    rw [e, if_neg (by simp)]
    simp only [List.nil_append, Bool.false_eq_true, if_false]
    have hno : ∀ c ∈ r, c ≠ 45 := by
      intro c h1 h2
      subst h2
      have : r.contains 45 = true := by simpa using h1
      rw [hc] at this; cases this
    unfold runQ
    rw [isDec_no hno]
    cases hn : isNat r with
    | false => simp
    | true =>
      have := isNat_hd hn
      have q : (r.headD 0 != 45) = true := by simpa using this
      rw [q]
      simp
  | true =>
    have e : cutL 45 r = (r.takeWhile (fun x => x != 45), (r.dropWhile (fun x => x != 45)).drop 1, true) := by unfold cutL; rw [hc]
    rw [e, if_pos rfl]
    have hno := no_in_take 45 r
    generalize (r.takeWhile (fun x => x != 45)) = a at hno ⊢
    generalize ((r.dropWhile (fun x => x != 45)).drop 1) = b
    simp only [List.nil_append, if_true]
    rw [pcs_cutG]
    unfold runQ
    rw [isDec_no hno]
    cases hb : b.contains 45 with
    | false =>
      rw [if_neg (by simp)]
      simp only [List.nil_append]
      have hno2 : ∀ c ∈ b, c ≠ 45 := by
        intro c h1 h2
        subst h2
        have : b.contains 45 = true := by simpa using h1
        rw [hb] at this; cases this
      rw [isDec_no hno2]
      cases hn : isNat b with
      | false => simp
      | true =>
        have := isNat_hd hn
        have q : (b.headD 0 != 45) = true := by simpa using this
        rw [q]
        simp
    | true =>
      rw [if_pos rfl]
      have q : (isDec b && b.headD 0 != 45) = false := by
        cases h1 : isDec b with
        | false => rfl
        | true =>
          rw [Bool.true_and]
          by_cases h2 : b.headD 0 = 45
          · rw [h2]; rfl
          · exfalso
            have := isNat_no45 (isDec_hd h1 h2) 45 (by simpa using hb)
            exact this rfl
      rw [if_neg]
      · split
        · rename_i h; simp at h
        · rename_i h
          exfalso
          simp only [List.cons.injEq] at h
          exact pcs_ne 45 _ _ h.2.2
        · rfl
      · rw [Bool.and_assoc (isNat a), q]; simp
theorem pcs_len (b : UInt8) : ∀ (s cur : List UInt8), ∀ p ∈ pcs b cur s, p.length ≤ cur.length + s.length
  | [], cur, p, h => by simp [pcs] at h; subst h; simp
  | c :: s, cur, p, h => by
    rw [pcs] at h
    split at h
    · rcases List.mem_cons.1 h with rfl | h
      · omega
      · have := pcs_len b s [] p h; simp at this ⊢; omega
    · have := pcs_len b s _ p h; simp at this ⊢; omega
theorem pcs_num (b : UInt8) : ∀ (s cur : List UInt8), (pcs b cur s).length ≤ s.length + 1
  | [], cur => by simp [pcs]
  | c :: s, cur => by
    rw [pcs]
    split
    · have := pcs_num b s []; simp; omega
    · have := pcs_num b s (cur ++ [c]); simp; omega
/-! ### Cells of the ends of runs, of numbers -/
def endCells (l : List (Nat × Nat)) : List Value := l.flatMap fun x => [.string ⟨(Lib.decDigits x.1).toArray⟩, .string ⟨(Lib.decDigits x.2).toArray⟩]
theorem endCells_snoc (l : List (Nat × Nat)) (x : Nat × Nat) : endCells (l ++ [x]) = endCells l ++ [.string ⟨(Lib.decDigits x.1).toArray⟩, .string ⟨(Lib.decDigits x.2).toArray⟩] := by simp [endCells]
theorem endCells_get : ∀ (l : List (Nat × Nat)) (i : Nat) (x : Nat × Nat), l[i]? = some x → (endCells l)[i * 2]? = some (.string ⟨(Lib.decDigits x.1).toArray⟩) ∧ (endCells l)[i * 2 + 1]? = some (.string ⟨(Lib.decDigits x.2).toArray⟩)
  | [], i, x, h => by simp at h
  | y :: l, 0, x, h => by simp at h; subst h; simp [endCells]
  | y :: l, i + 1, x, h => by
    have ih := endCells_get l i x (by simpa using h)
    have e : endCells (y :: l) = [.string ⟨(Lib.decDigits y.1).toArray⟩, .string ⟨(Lib.decDigits y.2).toArray⟩] ++ endCells l := by simp [endCells]
    rw [e, show (i + 1) * 2 = i * 2 + 2 by omega]
    simpa using ih
theorem inf_ends : (Tryz.prog.info? 67).map (fun i => (i.zero, i.size, i.bytes)) = some (some (.agg #[.string ⟨#[]⟩, .string ⟨#[]⟩]), 2, 32) := by kernel_rfl
theorem inf_int : (Tryz.prog.info? 3).map (fun i => (i.zero, i.size, i.bytes)) = some (some (.int .i64 0), 1, 8) := by kernel_rfl
def intCells (l : List Int) : List Value := l.map (Value.int .i64)
/-- Numbers as a result. -/
def NumsV (r : List Int × Int) (w : World) (v : Value) : Prop := ∃ a c, v = .tuple #[.slice a r.1.length c, .int .i64 r.2] ∧ Nums w a r.1
theorem nums_none (w : World) (k : Int) : NumsV ([], k) w (.tuple #[.slice none 0 0, .int .i64 k]) := ⟨none, 0, rfl, ⟨fun h => absurd rfl h⟩⟩
theorem own_nums {w : World} {base : Nat} {v : Value} {l : List Int} (h : w.ownsRow base 3 1 v l.length (intCells l)) :
    ∃ a c, v = .slice a l.length c ∧ Nums w a l ∧ l.length ≤ c ∧ c ≤ maxLen := by
  obtain ⟨a, c, rfl, h1, h2, h3⟩ := own_form h
  refine ⟨a, c, rfl, ⟨fun hn => ?_⟩, h1, h2⟩
  obtain ⟨g, rfl, _, _, hc⟩ := h3 (List.length_pos_iff.2 hn)
  exact ⟨g, 0, rfl, fun i x hx => by rw [Nat.zero_add]; exact hc i _ (by simp [intCells, hx])⟩
theorem tot_take {l : List (Nat × Nat)} {k : Nat} {x : Nat × Nat} (h : l[k]? = some x) : tot (l.take (k + 1)) = tot (l.take k) + (x.2 - x.1 + 1) := by
  obtain ⟨hk, he⟩ := List.getElem?_eq_some_iff.1 h
  rw [List.take_succ_eq_append_getElem hk, he, tot_app, tot_one]
theorem tot_le (l : List (Nat × Nat)) (k : Nat) : tot (l.take k) ≤ tot l := by
  have := tot_app (l.take k) (l.drop k)
  rw [List.take_append_drop] at this; omega
theorem expd_take {l : List (Nat × Nat)} {k : Nat} {x : Nat × Nat} (h : l[k]? = some x) : expd (l.take (k + 1)) = expd (l.take k) ++ upT x.1 (x.2 - x.1 + 1) := by
  obtain ⟨hk, he⟩ := List.getElem?_eq_some_iff.1 h
  rw [List.take_succ_eq_append_getElem hk, he, expd_app, expd_one]
/-- The end of the last run, as a string. -/
def LastIs (pre : List (Nat × Nat)) (L : ByteArray) : Prop := (pre = [] ∧ L = ⟨#[]⟩) ∨ ∃ m, lastE pre = some m ∧ L = ⟨(Lib.decDigits m).toArray⟩
theorem lastE_snoc (pre : List (Nat × Nat)) (x : Nat × Nat) : lastE (pre ++ [x]) = some x.2 := by unfold lastE; simp
theorem str_dd {a : ByteArray} (h : isNat a.data.toList = true) : a = ⟨(Lib.decDigits (natV 0 a.data.toList)).toArray⟩ := by
  rw [dd_natV _ h]
theorem woAtoi (m : Nat) (hm : m ≤ 1000000000) (w : World) : Calls Tryz.prog 32 #[.string ⟨(Lib.decDigits m).toArray⟩] w (RB w (.tuple #[.int .i64 (m : Nat), .nilIface])) := by
  obtain ⟨h1, h2, -⟩ := dd_facts m
  have hl := dd_len hm
  have hp := parse_dec (isNat_dec h1)
  have hv : intV (Lib.decDigits m) = (m : Int) := by
    have := (itoa_facts (m : Int)).2
    rwa [itoa_nat] at this
  rw [hv, if_pos (by omega), Lib.parseIntB_64] at hp
  refine (Tryz.strconv_Atoi_ok ⟨(Lib.decDigits m).toArray⟩ (by show (Lib.decDigits m).toArray.size ≤ _; simp; omega) (m : Int) hp w).mono ?_
  rintro e w' ⟨rfl, rfl | ⟨t, rfl⟩⟩
  · exact ⟨rfl, Bl.refl _⟩
  · exact ⟨rfl, bl_bytes _ _⟩
end Go.Proofs.YtfjdcfmoodlnaaaGreatDoor

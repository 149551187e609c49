
/-
  Plain facts of words: texts of lists of numbers read.
-/
import Derived.Test.YtfjdcfmoodlnaaaGreatDoorWpA
import Derived.Test.YtfjdcfmoodlnaaaGreatDoorWdQ
import Derived.Test.YtfjdcfmoodlnaaaGreatDoorWdR
namespace Go.Proofs.YtfjdcfmoodlnaaaGreatDoor
set_option linter.unusedSimpArgs false
set_option linter.unusedVariables false

/-! ### Decimal forms compared -/
def lessD (a b : List UInt8) : Bool := if a.length = b.length then Op.bytesLess a b else decide (a.length < b.length)
theorem natV_shift (l : List UInt8) : ∀ x : Nat, natV x l = x * 10 ^ l.length + natV 0 l := by
  induction l with
  | nil => intro x; simp [natV_nil]
  | cons c r ih =>
    intro x
    rw [natV_cons, natV_cons, ih, ih (natS 0 c)]
    unfold natS
    rw [List.length_cons, Nat.pow_succ, Nat.zero_mul, Nat.zero_add, Nat.add_mul, Nat.mul_assoc, Nat.mul_comm 10, Nat.add_assoc]
theorem natV_lt {l : List UInt8} (h : ∀ c ∈ l, digB c = true) : natV 0 l < 10 ^ l.length := by
  induction l with
  | nil => simp [natV_nil]
  | cons c r ih =>
    have h1 := digB_iff.1 (h c (by simp))
    have h2 := ih (fun d hd => h d (by simp [hd]))
    rw [natV_cons, natV_shift]
    unfold natS
    rw [List.length_cons, Nat.pow_succ]
    have h3 : (0 * 10 + (c.toNat - 48)) * 10 ^ r.length ≤ 9 * 10 ^ r.length := Nat.mul_le_mul_right _ (by omega)
    omega
theorem natV_lex {a b : List UInt8} (hl : a.length = b.length) (ha : ∀ c ∈ a, digB c = true) (hb : ∀ c ∈ b, digB c = true) : Op.bytesLess a b = decide (natV 0 a < natV 0 b) := by
  induction a generalizing b with
  | nil =>
    match b, hl with
    | [], _ => rfl
  | cons c r ih =>
    match b, hl with
    | d :: s, hl =>
      have hl2 : r.length = s.length := by simpa using hl
      have i := ih hl2 (fun x hx => ha x (by simp [hx])) (fun x hx => hb x (by simp [hx]))
      have c1 := digB_iff.1 (ha c (by simp))
      have d1 := digB_iff.1 (hb d (by simp))
      have r1 := natV_lt (l := r) (fun x hx => ha x (by simp [hx]))
      have s1 := natV_lt (l := s) (fun x hx => hb x (by simp [hx]))
      rw [hl2] at r1
      simp only [Op.bytesLess]
      rw [i, natV_cons, natV_cons, natV_shift r (natS 0 c), natV_shift s (natS 0 d), hl2]
      unfold natS
      generalize 10 ^ s.length = K at *
      generalize natV 0 r = R at *
      generalize natV 0 s = S at *
      rw [Bool.eq_iff_iff]
      simp only [Bool.or_eq_true, Bool.and_eq_true, decide_eq_true_eq, beq_iff_eq, UInt8.lt_iff_toNat_lt, Nat.zero_mul, Nat.zero_add]
      rcases Nat.lt_trichotomy c.toNat d.toNat with h | h | h
      · have := Nat.mul_le_mul_right K (show c.toNat - 48 + 1 ≤ d.toNat - 48 by omega)
        rw [Nat.add_mul, Nat.one_mul] at this
        exact ⟨fun _ => by omega, fun _ => .inl h⟩
      · have e : c = d := UInt8.toNat_inj.1 h
        subst e
        constructor
        · rintro (q | ⟨_, q⟩)
          · omega
          · omega
        · intro q; exact .inr ⟨rfl, by omega⟩
      · have := Nat.mul_le_mul_right K (show d.toNat - 48 + 1 ≤ c.toNat - 48 by omega)
        rw [Nat.add_mul, Nat.one_mul] at this
        constructor
        · rintro (q | ⟨q, _⟩)
          · omega
          · subst q; omega
        · intro q; omega
theorem isNat_lo {l : List UInt8} (h : isNat l = true) (h2 : 2 ≤ l.length) : 10 ^ (l.length - 1) ≤ natV 0 l := by
  obtain ⟨h1, hd, h3⟩ := isNat_iff.1 h
  match l, h1 with
  | c :: r, _ =>
    have c1 := digB_iff.1 (hd c (by simp))
    have h4 : ¬ c = 48 := by
      rcases h3 with h3 | h3
      · simpa using h3
      · injection h3 with _ h3; subst h3; simp at h2
    have h5 : ¬ c.toNat = 48 := fun e => h4 (UInt8.toNat_inj.1 e)
    rw [natV_cons, natV_shift]
    unfold natS
    have := Nat.mul_le_mul_right (10 ^ r.length) (show 1 ≤ 0 * 10 + (c.toNat - 48) by omega)
    simp only [List.length_cons, Nat.add_sub_cancel]
    omega
theorem lessD_is {a b : List UInt8} (ha : isNat a = true) (hb : isNat b = true) : lessD a b = decide (natV 0 a < natV 0 b) := by
  obtain ⟨a1, a2, a3⟩ := isNat_iff.1 ha
  obtain ⟨b1, b2, b3⟩ := isNat_iff.1 hb
  have key : ∀ {x y : List UInt8}, isNat x = true → isNat y = true → x.length < y.length → natV 0 x < natV 0 y := by
    intro x y hx hy hl
    obtain ⟨x1, x2, _⟩ := isNat_iff.1 hx
    have h1 := natV_lt x2
    have hxp : 1 ≤ x.length := by
      rcases Nat.eq_zero_or_pos x.length with e | e
      · exact absurd (List.length_eq_zero_iff.1 e) x1
      · exact e
    have h2 := isNat_lo hy (by omega)
    have h3 : 10 ^ x.length ≤ 10 ^ (y.length - 1) := Nat.pow_le_pow_right (by omega) (by omega)
    omega
  unfold lessD
  by_cases h : a.length = b.length
  · rw [if_pos h]; exact natV_lex h a2 b2
  · rw [if_neg h]
    by_cases h2 : a.length < b.length
    · rw [decide_eq_true h2, decide_eq_true (key ha hb h2)]
    · have := key hb ha (by omega)
      rw [decide_eq_false h2, decide_eq_false (by omega)]
theorem dd_len {u : Nat} (h : u ≤ 1000000000) : (Lib.decDigits u).length ≤ 10 := by
  rcases Nat.lt_or_ge 10 (Lib.decDigits u).length with h2 | h2
  · have h1 := isNat_lo (dd_facts u).1 (by omega)
    rw [(dd_facts u).2.1] at h1
    have h3 : 10 ^ 10 ≤ 10 ^ ((Lib.decDigits u).length - 1) := Nat.pow_le_pow_right (by omega) (by omega)
    omega
  · exact h2

/-! ### The next number -/
theorem natV_nines (k : Nat) : ∀ a : Nat, natV a (List.replicate k 57) + 1 = natV (a + 1) (List.replicate k 48) := by
  induction k with
  | zero => intro a; simp [natV_nil]
  | succ k ih =>
    intro a
    rw [List.replicate_succ, List.replicate_succ, natV_cons, natV_cons, ih]
    congr 1
    unfold natS
    have h1 : (57 : UInt8).toNat = 57 := rfl
    have h2 : (48 : UInt8).toNat = 48 := rfl
    omega
theorem next_all {k : Nat} (hk : 0 < k) : (49 : UInt8) :: List.replicate k 48 = Lib.decDigits (natV 0 (List.replicate k 57) + 1) := by
  have hn : isNat ((49 : UInt8) :: List.replicate k 48) = true := by
    refine isNat_iff.2 ⟨by simp, ?_, .inl (by simp)⟩
    intro c hc
    rcases List.mem_cons.1 hc with rfl | hc
    · rfl
    · rw [(List.mem_replicate.1 hc).2]; rfl
  rw [natV_nines]
  have := dd_natV _ hn
  rw [natV_cons] at this
  exact this.symm
theorem next_at {p : List UInt8} {c : UInt8} {k : Nat} (h : isNat (p ++ c :: List.replicate k 57) = true) (hc : c ≠ 57) : p ++ UInt8.ofNat (c.toNat + 1) :: List.replicate k 48 = Lib.decDigits (natV 0 (p ++ c :: List.replicate k 57) + 1) := by
  obtain ⟨h1, h2, h3⟩ := isNat_iff.1 h
  have c1 := digB_iff.1 (h2 c (by simp))
  have c2 : c.toNat ≠ 57 := fun e => hc (UInt8.toNat_inj.1 e)
  have e1 : (UInt8.ofNat (c.toNat + 1)).toNat = c.toNat + 1 := by simp; omega
  have hn : isNat (p ++ UInt8.ofNat (c.toNat + 1) :: List.replicate k 48) = true := by
    refine isNat_iff.2 ⟨by simp, ?_, ?_⟩
    · intro d hd
      rcases List.mem_append.1 hd with hd | hd
      · exact h2 d (by simp [hd])
      · rcases List.mem_cons.1 hd with rfl | hd
        · rw [digB_iff, e1]; omega
        · rw [(List.mem_replicate.1 hd).2]; rfl
    · left
      cases p with
      | nil =>
        simp only [List.nil_append, List.head?_cons, ne_eq, Option.some.injEq]
        intro e
        have := congrArg UInt8.toNat e
        rw [e1, show (48 : UInt8).toNat = 48 from rfl] at this; omega
      | cons d p =>
        rcases h3 with h3 | h3
        · simpa using h3
        · have := congrArg List.length h3; simp at this
  have e2 : natV 0 (p ++ UInt8.ofNat (c.toNat + 1) :: List.replicate k 48) = natV 0 (p ++ c :: List.replicate k 57) + 1 := by
    rw [natV_app, natV_app, natV_cons, natV_cons, natV_nines]
    congr 1
    unfold natS
    rw [e1]; omega
  rw [← e2, dd_natV _ hn]

/-! ### Lists read -/
def runP (r : List UInt8) : Option (Nat × Nat) := match pcs 45 [] r with
  | [a] => if isNat a then some (natV 0 a, natV 0 a) else none
  | [a, b] => if isNat a && isNat b && decide (natV 0 a < natV 0 b) then some (natV 0 a, natV 0 b) else none
  | _ => none
def after (m : Option Nat) (a : Nat) : Bool := match m with | none => true | some p => decide (p + 1 < a)
def runsP : Option Nat → List (List UInt8) → Option (List (Nat × Nat))
  | _, [] => some []
  | m, r :: rs => match runP r with
    | none => none
    | some x => if after m x.1 then (runsP (some x.2) rs).map (x :: ·) else none
def tot (l : List (Nat × Nat)) : Nat := (l.map (fun x => x.2 - x.1 + 1)).sum
def upT (a n : Nat) : List Int := (List.range' a n).map (fun k : Nat => (k : Int))
def expd (l : List (Nat × Nat)) : List Int := l.flatMap (fun x => upT x.1 (x.2 - x.1 + 1))
def lastE (l : List (Nat × Nat)) : Option Nat := l.getLast?.map (·.2)
def wparse (s : List UInt8) : List Int × Int := if s = [45] then ([], 0) else match runsP none (pcs 44 [] s) with
  | none => ([], 6)
  | some l => if 1000000000 < (lastE l).getD 0 then ([], 7) else if 500 < tot l then ([], 3) else (expd l, 0)
theorem pcs_ne (b : UInt8) : ∀ (s cur : List UInt8), pcs b cur s ≠ []
  | [], _ => by simp [pcs]
  | c :: s, cur => by
    unfold pcs
    split
    · simp
    · exact pcs_ne b s _
/-- What has been read up to a place. -/
def RdS (ps : List (List UInt8)) (k : Nat) (pre : List (Nat × Nat)) : Prop := runsP none ps = (runsP (lastE pre) (ps.drop k)).map (pre ++ ·)
theorem rds_start (ps : List (List UInt8)) : RdS ps 0 [] := by unfold RdS lastE; simp
theorem rds_step {ps : List (List UInt8)} {k : Nat} {pre : List (Nat × Nat)} {r : List UInt8} {x : Nat × Nat} (h : RdS ps k pre) (hr : ps[k]? = some r) (hx : runP r = some x) (ha : after (lastE pre) x.1 = true) : RdS ps (k + 1) (pre ++ [x]) := by
  unfold RdS at *
  obtain ⟨hk, he⟩ := List.getElem?_eq_some_iff.1 hr
  rw [h, List.drop_eq_getElem_cons hk, he, runsP, hx]
  simp only [ha, if_true]
  rw [show lastE (pre ++ [x]) = some x.2 by unfold lastE; simp]
  cases runsP (some x.2) (ps.drop (k + 1)) <;> simp
theorem rds_bad {ps : List (List UInt8)} {k : Nat} {pre : List (Nat × Nat)} {r : List UInt8} (h : RdS ps k pre) (hr : ps[k]? = some r) (hx : runP r = none) : runsP none ps = none := by
  unfold RdS at h
  obtain ⟨hk, he⟩ := List.getElem?_eq_some_iff.1 hr
  rw [h, List.drop_eq_getElem_cons hk, he, runsP, hx]; rfl
theorem rds_bad2 {ps : List (List UInt8)} {k : Nat} {pre : List (Nat × Nat)} {r : List UInt8} {x : Nat × Nat} (h : RdS ps k pre) (hr : ps[k]? = some r) (hx : runP r = some x) (ha : after (lastE pre) x.1 = false) : runsP none ps = none := by
  unfold RdS at h
  obtain ⟨hk, he⟩ := List.getElem?_eq_some_iff.1 hr
  rw [h, List.drop_eq_getElem_cons hk, he, runsP, hx]
  simp only [ha]
  rfl
theorem rds_end {ps : List (List UInt8)} {pre : List (Nat × Nat)} (h : RdS ps ps.length pre) : runsP none ps = some pre := by
  unfold RdS at h
  rw [h, List.drop_length]; simp [runsP]
/-- The runs ascend. -/
def Asc (l : List (Nat × Nat)) : Prop := (∀ x ∈ l, x.1 ≤ x.2) ∧ l.Pairwise (fun x y => x.2 + 1 < y.1)
theorem runP_le {r : List UInt8} {x : Nat × Nat} (h : runP r = some x) : x.1 ≤ x.2 := by
  unfold runP at h
  split at h
  · split at h
    · injection h with h; subst h; exact Nat.le_refl _
    · cases h
  · split at h
    · rename_i q
      simp only [Bool.and_eq_true, decide_eq_true_eq] at q
      injection h with h; subst h; exact Nat.le_of_lt q.2
    · cases h
  · cases h
theorem asc_nil : Asc [] := ⟨by simp, .nil⟩
theorem asc_last {l : List (Nat × Nat)} (h : Asc l) {m : Nat} (hm : lastE l = some m) : ∀ x ∈ l, x.2 ≤ m := by
  intro x hx
  unfold lastE at hm
  cases hl : l.getLast? with
  | none => rw [hl] at hm; cases hm
  | some y =>
    rw [hl] at hm
    injection hm with hm
    subst hm
    show x.2 ≤ y.2
    obtain ⟨p, rfl⟩ := List.getLast?_eq_some_iff.1 hl
    rcases List.mem_append.1 hx with hx | hx
    · have h2 := (List.pairwise_append.1 h.2).2.2 x hx y (by simp)
      have h3 := h.1 y (by simp)
      omega
    · rw [List.mem_singleton.1 hx]; exact Nat.le_refl _
theorem asc_step {l : List (Nat × Nat)} {x : Nat × Nat} (h : Asc l) (hx : x.1 ≤ x.2) (ha : after (lastE l) x.1 = true) : Asc (l ++ [x]) := by
  refine ⟨fun y hy => ?_, List.pairwise_append.2 ⟨h.2, List.pairwise_singleton _ _, fun y hy z hz => ?_⟩⟩
  · rcases List.mem_append.1 hy with hy | hy
    · exact h.1 y hy
    · rw [List.mem_singleton.1 hy]; exact hx
  · rw [List.mem_singleton.1 hz]
    cases hm : lastE l with
    | none =>
      unfold lastE at hm
      cases hl : l.getLast? with
      | none => rw [List.getLast?_eq_none_iff.1 hl] at hy; cases hy
      | some v => rw [hl] at hm; cases hm
    | some m =>
      have h1 := asc_last h hm y hy
      rw [hm] at ha
      simp only [after, decide_eq_true_eq] at ha
      omega
theorem tot_app (a b : List (Nat × Nat)) : tot (a ++ b) = tot a + tot b := by unfold tot; simp
theorem expd_app (a b : List (Nat × Nat)) : expd (a ++ b) = expd a ++ expd b := by unfold expd; simp
theorem upT_len (a n : Nat) : (upT a n).length = n := by unfold upT; simp
theorem upT_snoc (a n : Nat) : upT a (n + 1) = upT a n ++ [((a + n : Nat) : Int)] := by
  unfold upT
  rw [show List.range' a (n + 1) = List.range' a n ++ [a + n] by rw [List.range'_concat]; simp]
  simp
theorem expd_len (l : List (Nat × Nat)) : (expd l).length = tot l := by
  unfold expd tot
  rw [List.length_flatMap]
  congr 1
  apply List.map_congr_left
  intro x hx
  rw [upT_len]
theorem expd_one (x : Nat × Nat) : expd [x] = upT x.1 (x.2 - x.1 + 1) := by unfold expd; simp
theorem tot_one (x : Nat × Nat) : tot [x] = x.2 - x.1 + 1 := by unfold tot; simp
end Go.Proofs.YtfjdcfmoodlnaaaGreatDoor


/-
  Plain facts of words: lists of numbers and their texts are inverse to each other.
-/
import Derived.Test.YtfjdcfmoodlnaaaGreatDoorWpE
namespace Go.Proofs.YtfjdcfmoodlnaaaGreatDoor
set_option linter.unusedSimpArgs false
set_option linter.unusedVariables false

theorem pcs_none {b : UInt8} : ∀ (s cur : List UInt8), (∀ c ∈ s, c ≠ b) → pcs b cur s = [cur ++ s]
  | [], cur, _ => by simp [pcs]
  | c :: s, cur, h => by
    rw [pcs, if_neg (h c (by simp)), pcs_none s _ (fun d hd => h d (by simp [hd]))]; simp
theorem pcs_app {b : UInt8} (r : List UInt8) : ∀ (s cur : List UInt8), (∀ c ∈ s, c ≠ b) → pcs b cur (s ++ b :: r) = (cur ++ s) :: pcs b [] r
  | [], cur, _ => by simp [pcs]
  | c :: s, cur, h => by
    rw [List.cons_append, pcs, if_neg (h c (by simp)), pcs_app r s _ (fun d hd => h d (by simp [hd]))]; simp
def inter (b : UInt8) : List (List UInt8) → List UInt8
  | [] => []
  | [x] => x
  | x :: y :: r => x ++ b :: inter b (y :: r)
theorem inter_pcs (b : UInt8) : ∀ (s cur : List UInt8), inter b (pcs b cur s) = cur ++ s
  | [], cur => by simp [pcs, inter]
  | c :: s, cur => by
    by_cases h : c = b
    · subst h
      have i := inter_pcs c s []
      rw [pcs, if_pos rfl]
      cases hp : pcs c [] s with
      | nil => exact absurd hp (pcs_ne c s [])
      | cons x r => rw [hp] at i; rw [inter, i]; simp
    · rw [pcs, if_neg h, inter_pcs b s]; simp
theorem itoa_nat (n : Nat) : Lib.itoa (n : Int) = Lib.decDigits n := by
  unfold Lib.itoa; rw [if_neg (by omega), Int.toNat_natCast]
theorem dd_no {u : Nat} {b : UInt8} (hb : digB b = false) : ∀ c ∈ Lib.decDigits u, c ≠ b := by
  intro c hc e
  subst e
  have := (isNat_iff.1 (dd_facts u).1).2.1 c hc
  rw [hb] at this; cases this
def toN (x : Int × Int) : Nat × Nat := (x.1.toNat, x.2.toNat)
def toI (x : Nat × Nat) : Int × Int := ((x.1 : Int), (x.2 : Int))
theorem runT_nat (a b : Nat) : runT ((a : Int), (b : Int)) = Lib.decDigits a ++ if a < b then 45 :: Lib.decDigits b else [] := by
  unfold runT
  simp only [itoa_nat, Int.ofNat_lt]
theorem runP_text {a b : Nat} (h : a ≤ b) : runP (runT ((a : Int), (b : Int))) = some (a, b) := by
  rw [runT_nat]
  obtain ⟨a1, a2, _⟩ := dd_facts a
  obtain ⟨b1, b2, _⟩ := dd_facts b
  have n1 := dd_no (u := a) (b := 45) rfl
  have n2 := dd_no (u := b) (b := 45) rfl
  unfold runP
  by_cases hab : a < b
  · rw [if_pos hab, pcs_app _ _ _ n1, pcs_none _ _ n2]
    simp [a1, b1, a2, b2, hab]
  · rw [if_neg hab, List.append_nil, pcs_none _ _ n1]
    obtain rfl : a = b := by omega
    simp [a1, a2]
theorem runP_back {p : List UInt8} {x : Nat × Nat} (h : runP p = some x) : p = runT (toI x) := by
  have hi := inter_pcs 45 p []
  rw [List.nil_append] at hi
  unfold runP at h
  split at h
  · rename_i a q
    rw [q] at hi
    split at h
    · rename_i ha
      injection h with h; subst h
      unfold toI
      rw [runT_nat, dd_natV _ ha, if_neg (by omega), List.append_nil, ← hi]; rfl
    · cases h
  · rename_i a b q
    rw [q] at hi
    split at h
    · rename_i hab
      simp only [Bool.and_eq_true, decide_eq_true_eq] at hab
      injection h with h; subst h
      unfold toI
      rw [runT_nat, dd_natV _ hab.1.1, dd_natV _ hab.1.2, if_pos hab.2, ← hi]; rfl
    · cases h
  · cases h
theorem runT_no (a b : Nat) : ∀ c ∈ runT ((a : Int), (b : Int)), c ≠ 44 := by
  rw [runT_nat]
  have n1 := dd_no (u := a) (b := 44) rfl
  have n2 := dd_no (u := b) (b := 44) rfl
  intro c hc
  rcases List.mem_append.1 hc with hc | hc
  · exact n1 c hc
  · split at hc
    · rcases List.mem_cons.1 hc with rfl | hc
      · decide
      · exact n2 c hc
    · cases hc
theorem txt_pcs : ∀ (rs : List (Nat × Nat)) (x : Nat × Nat), pcs 44 [] (txtG false ((x :: rs).map toI)) = ((x :: rs).map toI).map runT
  | [], x => by
    simp only [List.map_cons, List.map_nil, txtG, if_false, List.nil_append, List.append_nil, Bool.false_eq_true]
    unfold toI
    rw [pcs_none _ _ (runT_no _ _)]; simp
  | y :: rs, x => by
    have i := txt_pcs rs y
    simp only [List.map_cons, txtG, if_false, if_true, List.nil_append, Bool.false_eq_true, List.singleton_append, List.cons_append] at i ⊢
    have e := pcs_app (b := 44) (runT (toI y) ++ txtG true (rs.map toI)) (runT (toI x)) [] (runT_no _ _)
    rw [e, i]; simp
theorem txt_inter : ∀ (rs : List (Int × Int)), txtG false rs = inter 44 (rs.map runT)
  | [] => rfl
  | [x] => by simp [txtG, inter]
  | x :: y :: rs => by
    have i := txt_inter (y :: rs)
    simp only [List.map_cons, txtG, inter, if_false, if_true, List.nil_append, Bool.false_eq_true, List.singleton_append, List.cons_append] at i ⊢
    rw [← i]

/-! ### The runs of an ascending list -/
def up1 : List Int → Prop
  | [] => True
  | [_] => True
  | a :: b :: r => a < b ∧ up1 (b :: r)
theorem up1_get : ∀ {l : List Int}, up1 l → ∀ i, i + 1 < l.length → l.getD i 0 < l.getD (i + 1) 0
  | [], _, i, h => by simp at h
  | [_], _, i, h => by simp at h
  | a :: b :: r, h, 0, _ => by simpa using h.1
  | a :: b :: r, h, i + 1, hi => by
    have := up1_get h.2 i (by simpa using hi)
    simpa using this
theorem up1_mk : ∀ {l : List Int}, (∀ i, i + 1 < l.length → l.getD i 0 < l.getD (i + 1) 0) → up1 l
  | [], _ => trivial
  | [_], _ => trivial
  | a :: b :: r, h => ⟨by simpa using h 0 (by simp), up1_mk (fun i hi => by simpa using h (i + 1) (by simpa using hi))⟩
theorem ascK_up1 (l : List Int) : ascK l l.length = true ↔ up1 l := by
  unfold ascK
  rw [List.all_eq_true]
  constructor
  · intro h
    refine up1_mk (fun i hi => ?_)
    have := h (i + 1) (by simpa using hi)
    simpa using this
  · intro h i hi
    have hi : i < l.length := by simpa using hi
    cases i with
    | zero => rfl
    | succ i => simpa using up1_get h i hi
theorem upT_cons (a n : Nat) : upT a (n + 1) = (a : Int) :: upT (a + 1) n := by unfold upT; rw [List.range'_succ]; simp
theorem expd_cons (x : Nat × Nat) (l : List (Nat × Nat)) : expd (x :: l) = upT x.1 (x.2 - x.1 + 1) ++ expd l := by unfold expd; simp
theorem runs_text : ∀ (r : List Int) (a b : Nat) (m : Option Nat), a ≤ b → up1 ((b : Int) :: r) → after m a = true →
    ∃ ps : List (Nat × Nat), runsF a b r = ps.map toI ∧ runsP m (ps.map (fun x => runT (toI x))) = some ps ∧ expd ps = upT a (b - a + 1) ++ r ∧ ∀ x ∈ ps, (x.2 : Int) = b ∨ (x.2 : Int) ∈ r
  | [], a, b, m, hab, _, hm => by
    refine ⟨[(a, b)], rfl, ?_, ?_, ?_⟩
    · simp only [List.map_cons, List.map_nil, runsP]
      unfold toI
      rw [runP_text hab]
      simp [hm]
    · rw [expd_one]; simp
    · intro x hx; rw [List.mem_singleton.1 hx]; exact .inl rfl
  | c :: r, a, b, m, hab, hu, hm => by
    have hbc := hu.1
    obtain ⟨k, rfl⟩ : ∃ k : Nat, c = k := ⟨c.toNat, by omega⟩
    by_cases h : k = b + 1
    · subst h
      obtain ⟨ps, h1, h2, h3, h4⟩ := runs_text r a (b + 1) m (by omega) hu.2 hm
      refine ⟨ps, ?_, h2, ?_, ?_⟩
      · rw [← h1, runsF, if_pos (by simp)]
      · rw [h3, show b + 1 - a + 1 = (b - a + 1) + 1 by omega, upT_snoc, show a + (b - a + 1) = b + 1 by omega]
        simp
      · intro x hx
        rcases h4 x hx with h | h
        · right; rw [h]; simp
        · right; simp [h]
    · obtain ⟨ps, h1, h2, h3, h4⟩ := runs_text r k k (some b) (Nat.le_refl _) hu.2 (by unfold after; rw [decide_eq_true_eq]; omega)
      refine ⟨(a, b) :: ps, ?_, ?_, ?_, ?_⟩
      · rw [runsF, if_neg (by omega), h1]; rfl
      · simp only [List.map_cons, runsP]
        unfold toI at h2 ⊢
        rw [runP_text hab]
        simp [hm, h2]
      · rw [expd_cons, h3, show k - k + 1 = 0 + 1 by omega, upT_cons]; simp [upT]
      · intro x hx
        rcases List.mem_cons.1 hx with rfl | hx
        · exact .inl rfl
        · rcases h4 x hx with h | h
          · right; rw [h]; simp
          · right; simp [h]
theorem upT_mem {a n : Nat} {y : Int} (h : y ∈ upT a n) : (a : Int) ≤ y ∧ y < (a + n : Nat) := by
  unfold upT at h
  obtain ⟨k, hk, rfl⟩ := List.mem_map.1 h
  have := List.mem_range'_1.1 hk
  omega
theorem expd_mem {l : List (Nat × Nat)} (ha : ∀ x ∈ l, x.1 ≤ x.2) {y : Int} (h : y ∈ expd l) : 0 ≤ y ∧ ∃ x ∈ l, y ≤ (x.2 : Int) := by
  unfold expd at h
  obtain ⟨x, hx, hy⟩ := List.mem_flatMap.1 h
  have := upT_mem hy
  have h2 := ha x hx
  exact ⟨by omega, x, hx, by omega⟩
theorem runs_back : ∀ (rs : List (Nat × Nat)) (n a b : Nat), Asc rs → (∀ y ∈ rs, b + n + 1 < y.1) → runsF a b (upT (b + 1) n ++ expd rs) = toI (a, b + n) :: rs.map toI ∧ up1 ((b : Int) :: (upT (b + 1) n ++ expd rs))
  | rs, n + 1, a, b, h, hb => by
    obtain ⟨i1, i2⟩ := runs_back rs n a (b + 1) h (fun y hy => by have := hb y hy; omega)
    rw [upT_cons, List.cons_append]
    refine ⟨?_, ?_, i2⟩
    · rw [runsF, if_pos (by simp), i1, show b + 1 + n = b + (n + 1) by omega]
    · omega
  | [], 0, a, b, h, hb => by simp [upT, expd, runsF, toI, up1]
  | y :: rs, 0, a, b, h, hb => by
    have h1 := hb y (by simp)
    have h2 := h.1 y (by simp)
    have h3 := List.pairwise_cons.1 h.2
    obtain ⟨i1, i2⟩ := runs_back rs (y.2 - y.1) y.1 y.1 ⟨fun z hz => h.1 z (by simp [hz]), h3.2⟩ (fun z hz => by have := h3.1 z hz; omega)
    rw [show upT (b + 1) 0 = [] from rfl, List.nil_append, expd_cons, upT_cons, List.cons_append]
    refine ⟨?_, by omega, i2⟩
    rw [runsF, if_neg (by omega), i1, show y.1 + (y.2 - y.1) = y.2 by omega]
    rfl
theorem runsP_asc : ∀ (ps : List (List UInt8)) (m : Option Nat) (rs : List (Nat × Nat)), runsP m ps = some rs → Asc rs ∧ (∀ p, m = some p → ∀ x ∈ rs, p + 1 < x.1) ∧ ps = rs.map (fun x => runT (toI x))
  | [], m, rs, h => by
    simp only [runsP, Option.some.injEq] at h
    subst h
    exact ⟨asc_nil, by simp, rfl⟩
  | p :: ps, m, rs, h => by
    rw [runsP] at h
    cases hp : runP p with
    | none => rw [hp] at h; cases h
    | some x =>
      rw [hp] at h
      simp only at h
      cases ha : after m x.1 with
      | false => rw [ha] at h; cases h
      | true =>
        rw [ha, if_pos rfl] at h
        cases hr : runsP (some x.2) ps with
        | none => rw [hr] at h; cases h
        | some t =>
          rw [hr] at h
          simp only [Option.map_some, Option.some.injEq] at h
          subst h
          obtain ⟨i1, i2, i3⟩ := runsP_asc ps _ t hr
          have hx := runP_le hp
          refine ⟨⟨?_, List.pairwise_cons.2 ⟨fun y hy => i2 _ rfl y hy, i1.2⟩⟩, ?_, ?_⟩
          · intro y hy
            rcases List.mem_cons.1 hy with rfl | hy
            · exact hx
            · exact i1.1 y hy
          · intro q hq y hy
            subst hq
            simp only [after, decide_eq_true_eq] at ha
            rcases List.mem_cons.1 hy with rfl | hy
            · exact ha
            · have := i2 _ rfl y hy; omega
          · rw [List.map_cons, ← i3, ← runP_back hp]
/-- List, and then ParseList. -/
theorem list_parse {l : List Int} {t : List UInt8} (h : wlist l = (t, 0)) : wparse t = (l, 0) := by
  unfold wlist at h
  split at h
  · injection h with _ h; cases h
  · rename_i h5
    split at h
    · injection h with _ h; cases h
    · rename_i hn
      split at h
      · injection h with _ h; cases h
      · rename_i ha
        split at h
        · rename_i hz
          injection h with h _
          subst h hz
          rfl
        · injection h with h _
          have hup := (ascK_up1 l).1 (by simpa using ha)
          have hnb : ∀ x ∈ l, 0 ≤ x ∧ x ≤ 1000000000 := by
            intro x hx
            have : l.all numB = true := by simpa using hn
            have := List.all_eq_true.1 this x hx
            unfold numB at this
            simpa only [Bool.and_eq_true, decide_eq_true_eq] using this
          cases l with
          | nil => contradiction
          | cons c r =>
            have hc := hnb c (by simp)
            obtain ⟨k, rfl⟩ : ∃ k : Nat, c = k := ⟨c.toNat, by omega⟩
            obtain ⟨ps, h1, h2, h3, h4⟩ := runs_text r k k none (Nat.le_refl _) hup rfl
            rw [show runsL ((k : Int) :: r) = runsF k k r from rfl, h1] at h
            have hne : ps ≠ [] := by
              rintro rfl
              rw [show expd [] = [] from rfl, show k - k + 1 = 0 + 1 by omega, upT_cons] at h3
              simp at h3
            have h3' : expd ps = (k : Int) :: r := by rw [h3, show k - k + 1 = 0 + 1 by omega, upT_cons]; simp [upT]
            cases ps with
            | nil => contradiction
            | cons x ps =>
              have hp := txt_pcs ps x
              rw [h, List.map_map] at hp
              have hp : pcs 44 [] t = (x :: ps).map (fun x => runT (toI x)) := hp
              unfold wparse
              have ht : t ≠ [45] := by
                intro e
                rw [e] at hp
                rw [← hp] at h2
                cases h2
              rw [if_neg ht, hp, h2]
              simp only
              have hl : (lastE (x :: ps)).getD 0 ≤ 1000000000 := by
                unfold lastE
                cases hl : (x :: ps).getLast? with
                | none => simp
                | some y =>
                  have hy := h4 y (List.mem_of_getLast? hl)
                  simp only [Option.map_some, Option.getD_some]
                  rcases hy with hy | hy
                  · omega
                  · have := hnb _ (List.mem_cons_of_mem _ hy); omega
              rw [if_neg (by omega), if_neg (by rw [← expd_len, h3']; omega), h3']
/-- ParseList, and then List. -/
theorem parse_list {s : List UInt8} {m : List Int} (h : wparse s = (m, 0)) : wlist m = (s, 0) := by
  unfold wparse at h
  split at h
  · rename_i hs
    injection h with h _
    subst h hs
    rfl
  · split at h
    · injection h with _ h; cases h
    · rename_i rs hr
      split at h
      · injection h with _ h; cases h
      · rename_i hl
        split at h
        · injection h with _ h; cases h
        · rename_i ht
          injection h with h _
          subst h
          obtain ⟨hA, _, hp⟩ := runsP_asc _ _ _ hr
          have hi := inter_pcs 44 s []
          rw [List.nil_append] at hi
          cases rs with
          | nil => rw [List.map_nil] at hp; exact absurd hp (pcs_ne 44 s [])
          | cons x rs =>
            have h2 := List.pairwise_cons.1 hA.2
            have h1 := hA.1 x (by simp)
            obtain ⟨b1, b2⟩ := runs_back rs (x.2 - x.1) x.1 x.1 ⟨fun z hz => hA.1 z (by simp [hz]), h2.2⟩ (fun z hz => by have := h2.1 z hz; omega)
            have he : expd (x :: rs) = (x.1 : Int) :: (upT (x.1 + 1) (x.2 - x.1) ++ expd rs) := by rw [expd_cons, upT_cons]; rfl
            have hlast : ∀ y ∈ x :: rs, y.2 ≤ 1000000000 := by
              intro y hy
              cases hq : lastE (x :: rs) with
              | none => unfold lastE at hq; simp at hq
              | some q =>
                rw [hq] at hl
                have := asc_last hA hq y hy
                simp at hl; omega
            unfold wlist
            rw [if_neg (by rw [expd_len]; exact ht), if_neg, if_neg, if_neg (by rw [he]; simp)]
            · rw [he, show runsL ((x.1 : Int) :: (upT (x.1 + 1) (x.2 - x.1) ++ expd rs)) = runsF x.1 x.1 (upT (x.1 + 1) (x.2 - x.1) ++ expd rs) from rfl, b1, txt_inter]
              have e : toI (x.1, x.1 + (x.2 - x.1)) :: rs.map toI = (x :: rs).map toI := by
                rw [show x.1 + (x.2 - x.1) = x.2 by omega]; rfl
              rw [e, List.map_map]
              have : inter 44 ((x :: rs).map (runT ∘ toI)) = s := by rw [← hi, hp]; rfl
              rw [this]
            · rw [he, (ascK_up1 _).2 b2]; simp
            · have : (expd (x :: rs)).all numB = true := by
                rw [List.all_eq_true]
                intro y hy
                obtain ⟨q1, z, hz, q2⟩ := expd_mem hA.1 hy
                have := hlast z hz
                unfold numB
                simp only [Bool.and_eq_true, decide_eq_true_eq]
                omega
              rw [this]; simp
end Go.Proofs.YtfjdcfmoodlnaaaGreatDoor


/-
  Plain facts of runs: the laws without the reference; covers.
-/
import Derived.Test.YtndcjgkgkpkklaaRnQ
import Derived.Test.YtndcjgkgkpkklaaKyG
import Derived.Test.YtndcjgkgkpkklaaKyN
namespace Go.Proofs.Ytndcjgkgkpkklaa
open Go.RowKit
set_option linter.unusedSimpArgs false
set_option linter.unusedVariables false
set_option maxRecDepth 100000

theorem echk_k {x : Ent} (h : echk x = 0) : x.key.size ≤ 32 := by
  unfold echk at h
  split at h
  · cases h
  · omega
theorem slt_nxt {k t : ByteArray} (hk : k.size ≤ 32) (ht : t.size ≤ 32) (h : (nxt k).2 = 0) : slt t (nxt k).1 = !slt k t := by
  rcases next_facts k t hk ht with ⟨_, _, h1, h2⟩ | ⟨h1, _⟩
  · cases e : slt k t
    · have := le_lt_trans e h1; rw [this]; rfl
    · rw [h2 e]; rfl
  · rw [h1] at h; cases h
theorem nxt_size {k : ByteArray} (hk : k.size ≤ 32) (h : (nxt k).2 = 0) : (nxt k).1.size ≤ 32 := by
  rcases next_facts k k hk hk with ⟨_, h1, _, _⟩ | ⟨h1, _⟩
  · exact h1
  · rw [h1] at h; cases h
theorem nxt_none {k t : ByteArray} (hk : k.size ≤ 32) (ht : t.size ≤ 32) (h : (nxt k).2 ≠ 0) : slt k t = false := by
  rcases next_facts k t hk ht with ⟨h1, _⟩ | ⟨_, h1⟩
  · exact absurd h1 h
  · exact h1
theorem cnt_nxt {l : List Ent} (ha : AscE l) (hs : ∀ m, m ∈ l → echk m = 0) {k : ByteArray} (hk : k.size ≤ 32) (h : (nxt k).2 = 0) : cntLtE l (nxt k).1 = ceN l k true := by
  refine cntLtE_eq ha (ceN_le l k true) (fun j x hj hx => ?_) (fun x hx => ?_)
  · rw [slt_nxt hk (echk_k (hs x (List.mem_of_getElem? hx))) h, key_gt ha hx]
    unfold ceN at hj
    simp only [Bool.and_true] at hj
    simp; exact hj
  · rw [slt_nxt hk (echk_k (hs x (List.mem_of_getElem? hx))) h, key_gt ha hx]
    unfold ceN
    simp
theorem flN_strict (l : List Ent) (k : ByteArray) : flN l k true = cntLtE l k := by simp [flN]
theorem flN_lax (l : List Ent) (k : ByteArray) : flN l k false = ceN l k true := by simp [flN, ceN]
theorem ceN_lax (l : List Ent) (k : ByteArray) : ceN l k false = cntLtE l k := by simp [ceN]
theorem slt_mt (x : ByteArray) : slt x mt = false := by
  unfold slt
  rw [toL mt]
  cases x.toList <;> rfl
theorem cnt_mt (l : List Ent) : cntLtE l mt = 0 := by
  unfold cntLtE
  exact filter_no _ _ fun x _ => by rw [slt_mt]; rfl

/-! ### Covers -/
def lastE (l : List Ent) : Ent := l.getD (l.length - 1) ent0
def headE (l : List Ent) : Ent := l.getD 0 ent0
def rcov (r : Rn) : Rng × Int := if (rck r).2 ≠ 0 then (rng0, (rck r).2) else if r.es.length = 0 then (rng0, 4) else (⟨(headE r.es).key, (nxt (lastE r.es).key).1, (nxt (lastE r.es).key).2 == 0⟩, 0)
def rover (r s : Rn) : Bool × Int := if (rck r).2 ≠ 0 then (false, (rck r).2) else if (rck s).2 ≠ 0 then (false, (rck s).2) else if r.es.length = 0 ∨ s.es.length = 0 then (false, 0)
  else (!slt (lastE s.es).key (headE r.es).key && !slt (lastE r.es).key (headE s.es).key, 0)
theorem headE_get {l : List Ent} (h : l.length ≠ 0) : l[0]? = some (headE l) := by
  unfold headE
  rw [List.getD_eq_getElem?_getD, List.getElem?_eq_getElem (by omega)]; rfl
theorem lastE_get {l : List Ent} (h : l.length ≠ 0) : l[l.length - 1]? = some (lastE l) := by
  unfold lastE
  rw [List.getD_eq_getElem?_getD, List.getElem?_eq_getElem (by omega)]; rfl
theorem head_le {l : List Ent} (ha : AscE l) {j : Nat} {x : Ent} (hx : l[j]? = some x) : slt x.key (headE l).key = false := by
  have hj := (List.getElem?_eq_some_iff.1 hx).1
  have h0 := headE_get (l := l) (by omega)
  rcases Nat.eq_zero_or_pos j with h | h
  · subst h; rw [h0] at hx; injection hx with hx; rw [← hx]; exact slt_irrefl _
  · exact slt_asymm (ascE_lt ha h0 hx h)
theorem le_last {l : List Ent} (ha : AscE l) {j : Nat} {x : Ent} (hx : l[j]? = some x) : slt (lastE l).key x.key = false := by
  have hj := (List.getElem?_eq_some_iff.1 hx).1
  have h0 := lastE_get (l := l) (by omega)
  rcases Nat.lt_or_ge j (l.length - 1) with h | h
  · exact slt_asymm (ascE_lt ha hx h0 h)
  · have : j = l.length - 1 := by omega
    subst this; rw [h0] at hx; injection hx with hx; rw [← hx]; exact slt_irrefl _
theorem nxt_err {k : ByteArray} (h : (nxt k).2 ≠ 0) : (nxt k).1 = mt := by
  unfold nxt at h ⊢
  by_cases h1 : 32 < k.size
  · rw [if_pos h1]
  · rw [if_neg h1] at h ⊢
    by_cases h2 : k.size < 32
    · rw [if_pos h2] at h; exact absurd rfl h
    · rw [if_neg h2] at h ⊢
      by_cases h3 : (rsd k.data.toList).isEmpty = true
      · rw [if_pos h3]
      · rw [if_neg h3] at h; exact absurd rfl h
theorem cov_facts {r : Rn} (h : (rck r).2 = 0) (hn : r.es.length ≠ 0) :
    (rcov r).2 = 0 ∧ rchk (rcov r).1 = 0 ∧ (rcov r).1.lo = (headE r.es).key ∧ ∀ k : ByteArray, k.size ≤ 32 → rhas (rcov r).1 k = (!slt k (headE r.es).key && !slt (lastE r.es).key k) := by
  obtain ⟨-, -, -, -, hs, -⟩ := rck_ok h
  have h1 := echk_k (hs _ (List.mem_of_getElem? (headE_get hn)))
  have h2 := echk_k (hs _ (List.mem_of_getElem? (lastE_get hn)))
  unfold rcov
  rw [if_neg (by simp [h]), if_neg hn]
  refine ⟨rfl, ?_, rfl, fun k hk => ?_⟩
  · rw [rchk_zero]
    refine ⟨h1, ?_, fun hb => ?_⟩
    · by_cases e : (nxt (lastE r.es).key).2 = 0
      · exact nxt_size h2 e
      · rw [nxt_err e]; exact Nat.zero_le _
    · simp at hb
      rw [nxt_err hb]; rfl
  · unfold rhas
    simp only
    by_cases e : (nxt (lastE r.es).key).2 = 0
    · rw [slt_nxt h2 hk e, e]; simp
    · rw [nxt_none h2 hk e]; simp [e]
theorem has_not_empty {x : Rng} (h : rchk x = 0) {k : ByteArray} (hk : rhas x k = true) : (remp x).1 = false := by
  unfold remp
  rw [if_neg (by simp [h])]
  unfold rhas at hk
  simp at hk ⊢
  intro hb
  rcases hk with ⟨h1, h2⟩
  rw [hb] at h2
  exact le_lt_trans h1 (by simpa using h2)
theorem emp_iff {x : Rng} (h : rchk x = 0) : (remp x).1 = !rhas x x.lo := by
  unfold remp rhas
  rw [if_neg (by simp [h])]
  simp [slt_irrefl]
theorem meet_zero {x y : Rng} (h1 : rchk x = 0) (h2 : rchk y = 0) : meet x y = (meetR x y, 0) := by
  unfold meet
  rw [if_neg (by simp [h1]), if_neg (by simp [h2])]
theorem meetR_lo (x y : Rng) : (meetR x y).lo = if slt x.lo y.lo = true then y.lo else x.lo := by
  unfold meetR
  split
  · rfl
  · split <;> rfl
theorem rover_val {r s : Rn} (h1 : (rck r).2 = 0) (h2 : (rck s).2 = 0) (n1 : r.es.length ≠ 0) (n2 : s.es.length ≠ 0) : (rover r s).1 = (!slt (lastE s.es).key (headE r.es).key && !slt (lastE r.es).key (headE s.es).key) := by
  unfold rover
  rw [if_neg (by simp [h1]), if_neg (by simp [h2]), if_neg (by omega)]
/-- Overlap by the covers. -/
theorem over_meet {r s : Rn} (h1 : (rck r).2 = 0) (h2 : (rck s).2 = 0) (n1 : r.es.length ≠ 0) (n2 : s.es.length ≠ 0) :
    meet (rcov r).1 (rcov s).1 = (meetR (rcov r).1 (rcov s).1, 0) ∧ remp (meetR (rcov r).1 (rcov s).1) = (!(rover r s).1, 0) := by
  obtain ⟨a1, a2, a3, a4⟩ := cov_facts h1 n1
  obtain ⟨b1, b2, b3, b4⟩ := cov_facts h2 n2
  have hm := meetR_ok a2 b2
  refine ⟨meet_zero a2 b2, ?_⟩
  have e2 : (remp (meetR (rcov r).1 (rcov s).1)).2 = 0 := by unfold remp; rw [if_neg (by simp [hm])]
  have e1 := emp_iff hm
  have hlo := (rchk_zero.1 hm).1
  rw [meetR_has, a4 _ hlo, b4 _ hlo, meetR_lo, a3, b3] at e1
  obtain ⟨-, -, -, -, -, q1⟩ := rck_ok h1
  obtain ⟨-, -, -, -, -, q2⟩ := rck_ok h2
  have t1 := le_last q1 (headE_get n1)
  have t2 := le_last q2 (headE_get n2)
  refine Prod.ext ?_ e2
  simp only
  rw [e1, rover_val h1 h2 n1 n2, slt_max, slt_max, t1, t2]
  cases e : slt (headE r.es).key (headE s.es).key
  · simp [slt_irrefl, e, Bool.and_comm]
  · simp [slt_irrefl, slt_asymm e, Bool.and_comm]
theorem rover_err {r s : Rn} (h : (rck r).2 ≠ 0 ∨ (rck s).2 ≠ 0) : (rover r s).1 = false ∧ (rover r s).2 ≠ 0 := by
  unfold rover
  by_cases e : (rck r).2 ≠ 0
  · rw [if_pos e]; exact ⟨rfl, e⟩
  · rw [if_neg e, if_pos (h.resolve_left e)]; exact ⟨rfl, h.resolve_left e⟩
theorem rover_ok {r s : Rn} (h1 : (rck r).2 = 0) (h2 : (rck s).2 = 0) : (rover r s).2 = 0 := by
  unfold rover
  rw [if_neg (by simp [h1]), if_neg (by simp [h2])]
  split <;> rfl
theorem rover_symm (r s : Rn) : (rover r s).1 = (rover s r).1 := by
  by_cases h1 : (rck r).2 = 0
  · by_cases h2 : (rck s).2 = 0
    · by_cases h3 : r.es.length = 0
      · unfold rover; simp [h1, h2, h3]
      · by_cases h4 : s.es.length = 0
        · unfold rover; simp [h1, h2, h4]
        · rw [rover_val h1 h2 h3 h4, rover_val h2 h1 h4 h3, Bool.and_comm]
    · rw [(rover_err (.inr h2)).1, (rover_err (.inl h2)).1]
  · rw [(rover_err (.inl h1)).1, (rover_err (.inr h1)).1]
theorem rcov_err {r : Rn} (h : (rcov r).2 ≠ 0) : (rck r).2 ≠ 0 ∨ r.es.length = 0 := by
  unfold rcov at h
  by_cases e : (rck r).2 ≠ 0
  · exact .inl e
  · rw [if_neg e] at h
    by_cases e2 : r.es.length = 0
    · exact .inr e2
    · rw [if_neg e2] at h; exact absurd rfl h
theorem rcov_ok {r : Rn} (h : (rcov r).2 = 0) : (rck r).2 = 0 ∧ r.es.length ≠ 0 := by
  unfold rcov at h
  by_cases e : (rck r).2 ≠ 0
  · rw [if_pos e] at h; exact absurd h e
  · rw [if_neg e] at h
    by_cases e2 : r.es.length = 0
    · rw [if_pos e2] at h; cases h
    · exact ⟨by omega, e2⟩
theorem over_none {r s : Rn} (h : (rcov r).2 ≠ 0 ∨ (rcov s).2 ≠ 0) : (rover r s).1 = false := by
  unfold rover
  split
  · rfl
  · split
    · rfl
    · rw [if_pos]
      rcases h with h | h
      · rcases rcov_err h with h | h <;> simp_all
      · rcases rcov_err h with h | h <;> simp_all
/-- The part of the cover. -/
theorem part_cov {r : Rn} (h : (rcov r).2 = 0) : rpart r (rcov r).1 = (0, (r.es.length : Int), 0) := by
  obtain ⟨h1, h2⟩ := rcov_ok h
  obtain ⟨-, c2, c3, c4⟩ := cov_facts h1 h2
  obtain ⟨-, -, -, -, hs, ha⟩ := rck_ok h1
  have e0 : cntLtE r.es (rcov r).1.lo = 0 := by
    rw [c3]
    refine cntLtE_eq ha (Nat.zero_le _) (fun j x hj => by omega) (fun x hx => head_le ha hx)
  have e1 : pTo r.es (rcov r).1 = r.es.length := by
    have hle := pTo_le r.es (rcov r).1
    have hl := lastE_get h2
    have hp := in_part ha (rcov r).1 hl
    have hh := c4 _ (echk_k (hs _ (List.mem_of_getElem? hl)))
    rw [hp, head_le ha hl, slt_irrefl] at hh
    simp at hh; omega
  unfold rpart
  rw [if_neg (by simp [h1]), if_neg (by simp [c2]), e0, e1]; rfl
theorem part_apart {r : Rn} {x : Rng} (h : (rcov r).2 = 0) (hx : rchk x = 0) (he : (remp (meet (rcov r).1 x).1).1 = true) : cntLtE r.es x.lo = pTo r.es x := by
  obtain ⟨h1, h2⟩ := rcov_ok h
  obtain ⟨-, c2, c3, c4⟩ := cov_facts h1 h2
  obtain ⟨-, -, -, -, hs, ha⟩ := rck_ok h1
  rw [meet_zero c2 hx] at he
  have hge := pTo_ge r.es x
  have hle := pTo_le r.es x
  rcases Nat.lt_or_ge (cntLtE r.es x.lo) (pTo r.es x) with hlt | hlt
  · exfalso
    have hg := List.getElem?_eq_getElem (show cntLtE r.es x.lo < r.es.length by omega)
    have i1 := in_part ha x hg
    have i2 := c4 _ (echk_k (hs _ (List.mem_of_getElem? hg)))
    rw [head_le ha hg, le_last ha hg] at i2
    have i3 := meetR_has (rcov r).1 x (r.es[cntLtE r.es x.lo]).key
    rw [i1, i2] at i3
    have := has_not_empty (meetR_ok c2 hx) (k := (r.es[cntLtE r.es x.lo]).key) (by rw [i3]; simp; omega)
    simp only at he
    rw [this] at he; cases he
  · omega
def anyIn (x : Rng) (l : List Ent) : Bool := l.any fun y => rhas x y.key
theorem anyIn_snoc (x : Rng) (l : List Ent) (y : Ent) : anyIn x (l ++ [y]) = (anyIn x l || rhas x y.key) := by simp [anyIn]
theorem over_any {r s : Rn} (h : (rcov r).2 = 0) (k : (rcov s).2 = 0) : (anyIn (rcov s).1 r.es || anyIn (rcov r).1 s.es) = (rover r s).1 := by
  obtain ⟨h1, h2⟩ := rcov_ok h
  obtain ⟨k1, k2⟩ := rcov_ok k
  obtain ⟨-, -, -, c4⟩ := cov_facts h1 h2
  obtain ⟨-, -, -, d4⟩ := cov_facts k1 k2
  obtain ⟨-, -, -, -, hs, ha⟩ := rck_ok h1
  obtain ⟨-, -, -, -, ks, ka⟩ := rck_ok k1
  have hr := rover_val h1 k1 h2 k2
  rw [hr, Bool.eq_iff_iff]
  unfold anyIn
  simp only [Bool.or_eq_true, List.any_eq_true, Bool.and_eq_true, Bool.not_eq_true']
  constructor
  · rintro (⟨x, hx, e⟩ | ⟨x, hx, e⟩)
    · rw [d4 _ (echk_k (hs x hx))] at e
      obtain ⟨i, hi, rfl⟩ := List.getElem_of_mem hx
      simp at e
      exact ⟨le_trans' (head_le ha (List.getElem?_eq_getElem hi)) e.2, le_trans' e.1 (le_last ha (List.getElem?_eq_getElem hi))⟩
    · rw [c4 _ (echk_k (ks x hx))] at e
      obtain ⟨i, hi, rfl⟩ := List.getElem_of_mem hx
      simp at e
      exact ⟨le_trans' e.1 (le_last ka (List.getElem?_eq_getElem hi)), le_trans' (head_le ka (List.getElem?_eq_getElem hi)) e.2⟩
  · rintro ⟨e1, e2⟩
    have g1 := headE_get h2
    have g2 := headE_get k2
    cases e : slt (headE r.es).key (headE s.es).key
    · refine .inl ⟨_, List.mem_of_getElem? g1, ?_⟩
      rw [d4 _ (echk_k (hs _ (List.mem_of_getElem? g1))), e, e1]; rfl
    · refine .inr ⟨_, List.mem_of_getElem? g2, ?_⟩
      rw [c4 _ (echk_k (ks _ (List.mem_of_getElem? g2))), slt_asymm e, e2]; rfl

/-! ### Counts -/
theorem cutE_cons {l : List Ent} {i up : Nat} {x : Ent} (h : l[i]? = some x) (hi : i < up) : cutE l i up = x :: cutE l (i + 1) up := by
  obtain ⟨h1, h2⟩ := List.getElem?_eq_some_iff.1 h
  unfold cutE
  rw [List.drop_eq_getElem_cons h1, h2, show up - i = (up - (i + 1)) + 1 by omega, List.take_succ_cons]
theorem cutE_app (l : List Ent) {a b c : Nat} (h1 : a ≤ b) (h2 : b ≤ c) : cutE l a c = cutE l a b ++ cutE l b c := by
  unfold cutE
  rw [show c - a = (b - a) + (c - b) by omega, List.take_add, List.drop_drop, show a + (b - a) = b by omega]
theorem cutE_over (l : List Ent) {a b : Nat} (h : b ≤ a) : cutE l a b = [] := by
  unfold cutE; rw [show b - a = 0 by omega]; rfl
theorem nDead_app (a b : List Ent) : nDead (a ++ b) = nDead a + nDead b := by unfold nDead; rw [List.filter_append, List.length_append]
theorem nLive_app (a b : List Ent) : nLive (a ++ b) = nLive a + nLive b := by unfold nLive; rw [List.filter_append, List.length_append]
theorem nDead_cons (x : Ent) (l : List Ent) : nDead (x :: l) = (if x.dead = true then 1 else 0) + nDead l := by
  have := nDead_app [x] l
  rw [show x :: l = [x] ++ l from rfl, this]; unfold nDead; cases h : x.dead <;> simp [h]
/-- The dead ones that are left. -/
def deadFrom (l : List Ent) (fr up i : Nat) : Nat := nDead (cutE l (max i fr) up)
theorem deadFrom_zero (l : List Ent) (fr up : Nat) : deadFrom l fr up 0 = nDead (cutE l fr up) := by unfold deadFrom; rw [show max 0 fr = fr by omega]
theorem deadFrom_end (l : List Ent) (fr up : Nat) (h : up ≤ l.length) : deadFrom l fr up l.length = 0 := by unfold deadFrom; rw [cutE_over _ (by omega)]; rfl
theorem deadFrom_in {l : List Ent} {fr up i : Nat} {x : Ent} (h : l[i]? = some x) (h1 : fr ≤ i) (h2 : i < up) : deadFrom l fr up i = (if x.dead = true then 1 else 0) + deadFrom l fr up (i + 1) := by
  unfold deadFrom
  rw [show max i fr = i by omega, show max (i + 1) fr = i + 1 by omega, cutE_cons h h2, nDead_cons]
theorem deadFrom_lo {l : List Ent} {fr up i : Nat} (h1 : i < fr) : deadFrom l fr up i = deadFrom l fr up (i + 1) := by
  unfold deadFrom; rw [show max i fr = fr by omega, show max (i + 1) fr = fr by omega]
theorem deadFrom_hi {l : List Ent} {fr up i : Nat} (h1 : up ≤ i) : deadFrom l fr up i = deadFrom l fr up (i + 1) := by
  unfold deadFrom; rw [cutE_over _ (by omega), cutE_over _ (by omega)]
theorem rcount_ok {r : Rn} {x : Rng} (h : (rck r).2 = 0) (hx : rchk x = 0) : rcount r x = ((nLive (cutE r.es (cntLtE r.es x.lo) (pTo r.es x)) : Int), (nDead (cutE r.es (cntLtE r.es x.lo) (pTo r.es x)) : Int), 0) := by
  unfold rcount; rw [if_neg (by simp [h]), if_neg (by simp [hx])]
theorem rpart_ok {r : Rn} {x : Rng} (h : (rck r).2 = 0) (hx : rchk x = 0) : rpart r x = ((cntLtE r.es x.lo : Int), (pTo r.es x : Int), 0) := by
  unfold rpart; rw [if_neg (by simp [h]), if_neg (by simp [hx])]
/-- Count of what is before a key, and from it on. -/
theorem counts_cut {r : Rn} {x : Rng} {k : ByteArray} (h : (rck r).2 = 0) (hx : rchk x = 0) (hk : k.size ≤ 32) (hh : rhas x k = true) :
    (rcount r ⟨x.lo, k, true⟩).2.2 = 0 ∧ (rcount r ⟨k, x.hi, x.bd⟩).2.2 = 0 ∧ (rcount r ⟨x.lo, k, true⟩).1 + (rcount r ⟨k, x.hi, x.bd⟩).1 = (rcount r x).1 ∧
      (rcount r ⟨x.lo, k, true⟩).2.1 + (rcount r ⟨k, x.hi, x.bd⟩).2.1 = (rcount r x).2.1 := by
  obtain ⟨z1, z2, z3⟩ := rchk_zero.1 hx
  have y1 : rchk ⟨x.lo, k, true⟩ = 0 := rchk_zero.2 ⟨z1, hk, by simp⟩
  have y2 : rchk ⟨k, x.hi, x.bd⟩ = 0 := rchk_zero.2 ⟨hk, z2, z3⟩
  unfold rhas at hh
  simp at hh
  have m1 := cntLtE_mono r.es hh.1
  have p1 : pTo r.es ⟨x.lo, k, true⟩ = cntLtE r.es k := by unfold pTo; simp; omega
  have p2 : pTo r.es ⟨k, x.hi, x.bd⟩ = pTo r.es x ∧ cntLtE r.es k ≤ pTo r.es x := by
    unfold pTo
    simp only
    cases hb : x.bd
    · simp; exact cntLtE_le _ _
    · have h2 := hh.2
      rw [hb] at h2
      have m2 := cntLtE_mono r.es (a := k) (b := x.hi) (slt_asymm (by simpa using h2))
      simp; omega
  rw [rcount_ok h y1, rcount_ok h y2, rcount_ok h hx]
  simp only
  rw [p1, p2.1, cutE_app r.es m1 p2.2, nLive_app, nDead_app]
  exact ⟨trivial, trivial, by omega, by omega⟩
end Go.Proofs.Ytndcjgkgkpkklaa


/-
  Plain laws of the shortest fence.
-/
import Derived.Test.YtndcjgkgkpkklaaPlB
import Derived.Test.YtndcjgkgkpkklaaBet
namespace Go.Proofs.Ytndcjgkgkpkklaa
open Go.RowKit
set_option linter.unusedSimpArgs false
set_option linter.unusedVariables false
set_option maxRecDepth 100000

theorem fmGo_zero : ∀ (l : List ByteArray) (i : Nat) (p : Option ByteArray), (∀ m, m ∈ l → m.size ≤ 32) → Asc l → (∀ q, p = some q → ∀ m, m ∈ l → slt q m = true) → fmGo i p l = (0, 0)
  | [], _, _, _, _, _ => rfl
  | m :: r, i, p, h1, h2, h3 => by
    have hk : kchk m = 0 := kchk_zero.2 (h1 m (by simp))
    have hp : pbad p m = false := by
      cases p with
      | none => rfl
      | some q => simp [pbad, h3 q rfl m (by simp)]
    obtain ⟨h4, h5⟩ := List.pairwise_cons.1 h2
    unfold fmGo
    rw [if_neg (by simp [hk]), if_neg (by simp [hp])]
    exact fmGo_zero r (i + 1) (some m) (fun x hx => h1 x (by simp [hx])) h5 (fun q hq x hx => by injection hq with hq; subst hq; exact h4 x hx)
theorem asc_of {m : List ByteArray} (h : ∀ (i j : Nat) x y, i < j → m[i]? = some x → m[j]? = some y → slt x y = true) : Asc m := by
  rw [Asc, List.pairwise_iff_getElem]
  intro i j hi hj hij
  exact h i j _ _ hij (List.getElem?_eq_getElem hi) (List.getElem?_eq_getElem hj)
theorem mkMs_get {l : List Ent} {s n i : Nat} {x : ByteArray} (h : (mkMs l s n)[i]? = some x) : i < n ∧ x = mkM l s i := by
  unfold mkMs at h
  rw [List.getElem?_map] at h
  obtain ⟨k, hk, rfl⟩ := Option.map_eq_some_iff.1 h
  obtain ⟨h1, h2⟩ := List.getElem?_eq_some_iff.1 hk
  simp at h1 h2
  subst h2
  exact ⟨h1, rfl⟩
/-- What is at a mark's place. -/
theorem mk_at {l : List Ent} (ha : AscE l) {s k : Nat} (hs : 1 ≤ s) (hk : k < cnt l.length s) :
    ∃ x y, l[(k + 1) * s - 1]? = some x ∧ l[(k + 1) * s]? = some y ∧ slt x.key y.key = true ∧ mkM l s k = betS x.key y.key := by
  have h1 := cnt_at hs hk
  have h2 : 1 * s ≤ (k + 1) * s := Nat.mul_le_mul_right s (by omega)
  obtain ⟨x, hx⟩ : ∃ x, l[(k + 1) * s - 1]? = some x := ⟨_, List.getElem?_eq_getElem (by omega)⟩
  obtain ⟨y, hy⟩ : ∃ y, l[(k + 1) * s]? = some y := ⟨_, List.getElem?_eq_getElem h1⟩
  exact ⟨x, y, hx, hy, ascE_lt ha hx hy (by omega), by simp [mkM, hx, hy]⟩
theorem mk_facts {l : List Ent} (hc : (clchk l).2 = 0) {s : Nat} (hs : 1 ≤ s) (hs2 : s ≤ 64) :
    fchk ⟨(s : Int), mkMs l s (cnt l.length s)⟩ = (0, 0) ∧ ffits ⟨(s : Int), mkMs l s (cnt l.length s)⟩ l = (true, 0) := by
  obtain ⟨l1, l2, l3⟩ := clchk_ok hc
  have hk : ∀ x, x ∈ l → x.key.size ≤ 32 := fun x hx => (echk_key (l2 x hx)).1
  have hn : cnt l.length s ≤ 4999 := by
    have := (ceil_facts l.length s hs).2.2
    unfold cnt; omega
  have e1 : fchk ⟨(s : Int), mkMs l s (cnt l.length s)⟩ = (0, 0) := by
    unfold fchk
    simp only
    rw [if_neg (by omega), if_neg (by rw [mkMs_len]; omega)]
    refine fmGo_zero _ _ _ (fun m hm => ?_) (asc_of fun i j x y hij hi hj => ?_) (fun q hq => by cases hq)
    · obtain ⟨i, hi, rfl⟩ := List.getElem_of_mem hm
      obtain ⟨h1, h2⟩ := mkMs_get (List.getElem?_eq_getElem hi)
      obtain ⟨x, y, hx, hy, hlt, he⟩ := mk_at l3 hs h1
      rw [h2, he, betS_len hlt]
      have := cmn_lt hlt
      have := hk y (List.mem_of_getElem? hy)
      omega
    · obtain ⟨h1, rfl⟩ := mkMs_get hi
      obtain ⟨h2, rfl⟩ := mkMs_get hj
      obtain ⟨x1, y1, hx1, hy1, hlt1, he1⟩ := mk_at l3 hs h1
      obtain ⟨x2, y2, hx2, hy2, hlt2, he2⟩ := mk_at l3 hs h2
      rw [he1, he2]
      have hle : (i + 1) * s + s ≤ (j + 1) * s := by
        have := Nat.mul_le_mul_right s (show i + 1 + 1 ≤ j + 1 by omega)
        rw [Nat.add_mul (i + 1) 1 s] at this; omega
      have hyx : slt x2.key y1.key = false := by
        rcases Nat.eq_or_lt_of_le (show (i + 1) * s ≤ (j + 1) * s - 1 by omega) with h | h
        · rw [h] at hy1
          rw [hx2] at hy1; injection hy1 with hy1; subst hy1; exact slt_irrefl _
        · exact slt_asymm (ascE_lt l3 hy1 hx2 h)
      exact le_lt_trans (le_trans' (betS_in hlt1).2 hyx) (betS_in hlt2).1
  refine ⟨e1, ?_⟩
  unfold ffits
  rw [if_neg (by simp [e1]), if_neg (by simp [hc])]
  have : fitB (s : Int).toNat (mkMs l s (cnt l.length s)) l = true := by
    rw [Int.toNat_natCast]
    refine fitB_yes (mkMs_len _ _ _) fun k hk' => ?_
    rw [mkMs_len] at hk'
    obtain ⟨x, y, hx, hy, hlt, he⟩ := mk_at l3 hs hk'
    have hm : (mkMs l s (cnt l.length s))[k]? = some (betS x.key y.key) := by
      unfold mkMs; rw [List.getElem?_map, List.getElem?_range hk']; simp [he]
    unfold fitAt
    rw [hm, hx, hy]
    simp [(betS_in hlt).1, (betS_in hlt).2]
  simp only [this]
theorem mk_least {l : List Ent} {f : Fnc} (h : Fits f l) {s : Nat} (hs : 1 ≤ s) (he : f.step = (s : Int)) :
    (mkMs l s (cnt l.length s)).length = f.marks.length ∧ ∀ (i : Nat) x y, (mkMs l s (cnt l.length s))[i]? = some x → f.marks[i]? = some y → x.size ≤ y.size ∧ (y.size = x.size → slt y x = false) := by
  have hf := fitB_spec h.fit
  rw [he, Int.toNat_natCast] at hf
  obtain ⟨f1, f2⟩ := hf
  refine ⟨by rw [mkMs_len, f1], fun i x y hx hy => ?_⟩
  obtain ⟨h1, rfl⟩ := mkMs_get hx
  obtain ⟨x1, y1, hx1, hy1, hlt1, he1⟩ := mk_at h.ascE hs h1
  obtain ⟨x2, y2, hx2, hy2, k1, k2⟩ := f2 i y hy
  rw [hx1] at hx2; injection hx2 with hx2; subst hx2
  rw [hy1] at hy2; injection hy2 with hy2; subst hy2
  rw [he1]
  exact betS_least hlt1 k1 k2
theorem sumSz_le : ∀ {m n : List ByteArray}, m.length = n.length → (∀ (i : Nat) (x y : ByteArray), m[i]? = some x → n[i]? = some y → x.size ≤ y.size) → sumSz m ≤ sumSz n
  | [], [], _, _ => Nat.le_refl _
  | [], _ :: _, h, _ => by simp at h
  | _ :: _, [], h, _ => by simp at h
  | a :: m, b :: n, h, k => by
    have ih := sumSz_le (m := m) (n := n) (by simpa using h) (fun i x y hx hy => k (i + 1) x y (by simpa using hx) (by simpa using hy))
    have h0 := k 0 a b rfl rfl
    unfold sumSz at ih ⊢
    simp only [List.map_cons, List.sum_cons]
    omega
/-- All that the law asks of the list's own fence. -/
theorem make_facts {l : List Ent} {s : Int} (h : (fmake l s).2 = 0) :
    fchk (fmake l s).1 = (0, 0) ∧ ffits (fmake l s).1 l = (true, 0) ∧ (fmake l s).1.step = s ∧ (fmake l s).1.marks.length ≤ 4999 ∧
    ∀ f : Fnc, (ffits f l).2 = 0 → (ffits f l).1 = true → f.step = s → (fmake l s).1.marks.length = f.marks.length ∧ sumSz (fmake l s).1.marks ≤ sumSz f.marks ∧
      ∀ (i : Nat) x y, (fmake l s).1.marks[i]? = some x → f.marks[i]? = some y → x.size ≤ y.size ∧ (y.size = x.size → slt y x = false) := by
  by_cases h1 : (clchk l).2 = 0
  · by_cases h2 : s < 1 ∨ 64 < s
    · unfold fmake at h; rw [if_neg (by simp [h1]), if_pos h2] at h; simp at h
    · have e : fmake l s = (⟨s, mkMs l s.toNat (cnt l.length s.toNat)⟩, 0) := by
        unfold fmake; rw [if_neg (by simp [h1]), if_neg h2]
      rw [e]
      obtain ⟨n, rfl⟩ := Int.eq_ofNat_of_zero_le (show 0 ≤ s by omega)
      rw [Int.toNat_natCast]
      obtain ⟨a, b⟩ := mk_facts h1 (s := n) (by omega) (by omega)
      have l1 := (clchk_ok h1).1
      have hn := (ceil_facts l.length n (by omega)).2.2
      refine ⟨a, b, rfl, by rw [mkMs_len]; unfold cnt; omega, fun f hf hf' he => ?_⟩
      obtain ⟨c, d⟩ := mk_least (fits_facts hf hf') (s := n) (by omega) he
      exact ⟨c, sumSz_le c (fun i x y hx hy => (d i x y hx hy).1), d⟩
  · unfold fmake at h; rw [if_pos (by simpa using h1)] at h
    exact absurd h (by simpa using h1)
theorem make_none {l : List Ent} {s : Int} (h : (fmake l s).2 ≠ 0) : (fmake l s).1.marks = [] := by
  unfold fmake at h ⊢
  split
  · rfl
  · rename_i h1
    rw [if_neg h1] at h
    split
    · rfl
    · rename_i h2
      rw [if_neg h2] at h; simp at h
theorem fmk_step (l : List Ent) (s : Int) (h1 : -9223372036854775808 ≤ s) (h2 : s ≤ 9223372036854775807) : -9223372036854775808 ≤ (fmake l s).1.step ∧ (fmake l s).1.step ≤ 9223372036854775807 := by
  unfold fmake
  split
  · simp
  · split
    · simp
    · exact ⟨h1, h2⟩
end Go.Proofs.Ytndcjgkgkpkklaa


/-
  Plain facts of runs: how many keys are less than one, what a run answers.
-/
import Derived.Test.YtndcjgkgkpkklaaPlC
namespace Go.Proofs.Ytndcjgkgkpkklaa
open Go.RowKit
set_option linter.unusedSimpArgs false
set_option linter.unusedVariables false
set_option maxRecDepth 100000

structure Rn where
  id : Int
  es : List Ent
def Rn.v (r : Rn) (a : Option Addr) (c : Nat) : Value := .agg #[.int .i64 r.id, .slice a r.es.length c]
structure ROk (w : World) (a : Option Addr) (c : Nat) (r : Rn) : Prop where
  ents : Ents w a r.es
  len : r.es.length ≤ c
  cap : c ≤ maxLen
  lo : -9223372036854775808 ≤ r.id
  hi : r.id ≤ 9223372036854775807
theorem ROk.bl {w w' : World} {a : Option Addr} {c : Nat} {r : Rn} (h : ROk w a c r) (k : Bl w w') : ROk w' a c r := ⟨h.ents.bl k, h.len, h.cap, h.lo, h.hi⟩
def rck (r : Rn) : Int × Int := if r.id < 1 ∨ 1000000 < r.id then (-1, 7) else clchk r.es
def rask (r : Rn) (k : ByteArray) : Int := if (rck r).2 ≠ 0 then (rck r).2 else kchk k
def ent0 : Ent := ⟨mt, mt, false, 0⟩
def atE (l : List Ent) (i : Int) : Ent × Int := if i < 0 ∨ (l.length : Int) ≤ i then (ent0, 4) else (l.getD i.toNat ent0, 0)
def hasK (l : List Ent) (k : ByteArray) : Bool := match l[cntLtE l k]? with
  | some x => x.key.toList == k.toList
  | none => false
def rget (r : Rn) (k : ByteArray) : Ent × Int := if rask r k ≠ 0 then (ent0, rask r k) else if hasK r.es k = true then atE r.es (cntLtE r.es k : Int) else (ent0, 4)
def rflo (r : Rn) (k : ByteArray) (s : Bool) : Ent × Int := if rask r k ≠ 0 then (ent0, rask r k) else if (hasK r.es k && !s) = true then atE r.es (cntLtE r.es k : Int) else atE r.es ((cntLtE r.es k : Int) - 1)
def rcei (r : Rn) (k : ByteArray) (s : Bool) : Ent × Int := if rask r k ≠ 0 then (ent0, rask r k) else if (hasK r.es k && s) = true then atE r.es ((cntLtE r.es k : Int) + 1) else atE r.es (cntLtE r.es k : Int)

theorem clchk_len2 {l : List Ent} (h : (clchk l).2 = 0) : l.length ≤ 5000 := (clchk_ok h).1
theorem rck_ok {r : Rn} (h : (rck r).2 = 0) : 1 ≤ r.id ∧ r.id ≤ 1000000 ∧ (clchk r.es).2 = 0 ∧ r.es.length ≤ 5000 ∧ (∀ m, m ∈ r.es → echk m = 0) ∧ AscE r.es := by
  unfold rck at h
  split at h
  · simp at h
  · exact ⟨by omega, by omega, h, clchk_ok h⟩
theorem rask_ok {r : Rn} {k : ByteArray} (h : rask r k = 0) : (rck r).2 = 0 ∧ k.size ≤ 32 := by
  unfold rask at h
  split at h
  · contradiction
  · exact ⟨by omega, kchk_zero.1 h⟩

theorem cntLtE_eq {l : List Ent} {k : ByteArray} (h : AscE l) {n : Nat} (hn : n ≤ l.length) (h1 : ∀ j x, j < n → l[j]? = some x → slt x.key k = true) (h2 : ∀ x, l[n]? = some x → slt x.key k = false) : cntLtE l k = n := by
  obtain ⟨p1, p2⟩ := cntLtE_part h k
  have hle := cntLtE_le l k
  rcases Nat.lt_trichotomy (cntLtE l k) n with c | c | c
  · have hx := List.getElem?_eq_getElem (show cntLtE l k < l.length by omega)
    have := p2 _ _ hx (Nat.le_refl _)
    rw [h1 _ _ c hx] at this; cases this
  · exact c
  · have hx := List.getElem?_eq_getElem (show n < l.length by omega)
    have := p1 _ _ hx c
    rw [h2 _ hx] at this; cases this
theorem cntLtE_lt {l : List Ent} (h : AscE l) {k : ByteArray} {j : Nat} {x : Ent} (hx : l[j]? = some x) (hj : j < cntLtE l k) : slt x.key k = true := by
  have := (cntLtE_part h k).1 j x hx hj
  simpa using this
theorem cntLtE_ge {l : List Ent} (h : AscE l) {k : ByteArray} {j : Nat} {x : Ent} (hx : l[j]? = some x) (hj : cntLtE l k ≤ j) : slt x.key k = false := by
  have := (cntLtE_part h k).2 j x hx hj
  simpa using this
theorem cntLtE_mono (l : List Ent) {a b : ByteArray} (h : slt b a = false) : cntLtE l a ≤ cntLtE l b :=
  filter_le _ _ (fun x hx => by
    simp only [Bool.not_not] at hx ⊢
    cases e : slt x.key b
    · have := le_lt_trans (a := b) (b := x.key) (c := a) e hx
      rw [this] at h; cases h
    · rfl) l

theorem in_blockK {s : Nat} {m : List ByteArray} {l : List Ent} (hs : 1 ≤ s) (hm : Asc m) (hl : AscE l) (hf : fitB s m l = true) (k : ByteArray) :
    (∀ i x, l[i]? = some x → i < cntLe m k * s → slt x.key k = true) ∧ (∀ i x, l[i]? = some x → cntLe m k * s + s ≤ i → slt x.key k = false) := by
  obtain ⟨h1, h2⟩ := fitB_spec hf
  obtain ⟨p1, p2⟩ := cntLe_part hm k
  have hle := cntLe_le m k
  generalize cntLe m k = b at *
  constructor
  · intro i x hx hi
    have h0 : 0 < b := by
      rcases Nat.eq_zero_or_pos b with h0 | h0
      · rw [h0] at hi; omega
      · exact h0
    obtain ⟨y, hy⟩ : ∃ y, m[b - 1]? = some y := ⟨_, List.getElem?_eq_getElem (by omega)⟩
    have q1 := p1 (b - 1) y hy (by omega)
    obtain ⟨u, v, hu, hv, q2, q3⟩ := h2 (b - 1) y hy
    rw [show b - 1 + 1 = b by omega] at hu hv
    have hxy : slt x.key y = true := by
      rcases Nat.lt_or_ge i (b * s - 1) with h3 | h3
      · exact slt_trans (ascE_lt hl hx hu h3) q2
      · have : i = b * s - 1 := by omega
        rw [this, hu] at hx; injection hx with hx; rw [← hx]; exact q2
    cases e : slt x.key k
    · have := le_lt_trans (a := k) (b := x.key) (c := y) e hxy
      simp [this] at q1
    · rfl
  · intro i x hx hi
    rcases Nat.lt_or_ge b m.length with h0 | h0
    · obtain ⟨y, hy⟩ : ∃ y, m[b]? = some y := ⟨_, List.getElem?_eq_getElem h0⟩
      have q1 := p2 b y hy (Nat.le_refl _)
      obtain ⟨u, v, hu, hv, q2, q3⟩ := h2 b y hy
      rw [show (b + 1) * s = b * s + s by rw [Nat.add_mul]; omega] at hv
      have hky : slt k y = true := by simpa using q1
      cases e : slt x.key k
      · rfl
      · exfalso
        have hvx : slt v.key k = true := by
          rcases Nat.lt_or_ge (b * s + s) i with h3 | h3
          · exact slt_trans (ascE_lt hl hv hx h3) e
          · have : i = b * s + s := by omega
            rw [this, hv] at hx; injection hx with hx; rw [hx]; exact e
        rw [slt_trans hvx hky] at q3; cases q3
    · have hb : b = m.length := by omega
      have hi2 := (List.getElem?_eq_some_iff.1 hx).1
      rw [hb, h1] at hi
      have := (ceil_facts l.length s hs).1
      unfold cnt at hi
      exfalso
      rcases Nat.eq_zero_or_pos ((l.length + s - 1) / s) with h3 | h3
      · rw [h3] at this; omega
      · have h4 : ((l.length + s - 1) / s - 1) * s + s = (l.length + s - 1) / s * s := by
          have h5 : ((l.length + s - 1) / s - 1 + 1) * s = ((l.length + s - 1) / s - 1) * s + s := by rw [Nat.add_mul]; omega
          rw [← h5]; congr 1; omega
        omega
theorem filter_all {α : Type} (p : α → Bool) : ∀ l : List α, (∀ x, x ∈ l → p x = true) → (l.filter p).length = l.length
  | [], _ => rfl
  | a :: l, h => by rw [List.filter_cons_of_pos (h a (by simp))]; simp [filter_all p l (fun x hx => h x (by simp [hx]))]
theorem filter_no {α : Type} (p : α → Bool) : ∀ l : List α, (∀ x, x ∈ l → p x = false) → (l.filter p).length = 0
  | [], _ => rfl
  | a :: l, h => by rw [List.filter_cons_of_neg (by simp [h a (by simp)])]; exact filter_no p l (fun x hx => h x (by simp [hx]))
theorem cnt_cut {l : List Ent} {k : ByteArray} (fr to : Nat) (h1 : fr ≤ to) (h2 : to ≤ l.length) (hlo : ∀ i x, l[i]? = some x → i < fr → slt x.key k = true) (hhi : ∀ i x, l[i]? = some x → to ≤ i → slt x.key k = false) :
    fr + cntLtE ((l.drop fr).take (to - fr)) k = cntLtE l k := by
  have e : l = l.take fr ++ ((l.drop fr).take (to - fr) ++ l.drop to) := by
    conv => lhs; rw [← List.take_append_drop fr l, ← List.take_append_drop (to - fr) (l.drop fr), List.drop_drop, show fr + (to - fr) = to by omega]
  have a1 : ((l.take fr).filter fun (x : Ent) => !!slt x.key k).length = fr := by
    rw [filter_all]
    · simp; omega
    · intro x hx
      obtain ⟨i, hi, rfl⟩ := List.getElem_of_mem hx
      simp at hi
      have := hlo i _ (List.getElem?_eq_getElem (by omega)) (by omega)
      rw [List.getElem_take, this]; rfl
  have a2 : ((l.drop to).filter fun (x : Ent) => !!slt x.key k).length = 0 := by
    rw [filter_no]
    intro x hx
    obtain ⟨i, hi, rfl⟩ := List.getElem_of_mem hx
    simp at hi
    have := hhi (to + i) _ (List.getElem?_eq_getElem (by omega)) (by omega)
    rw [List.getElem_drop, this]; rfl
  unfold cntLtE
  conv => rhs; rw [e]
  rw [List.filter_append, List.filter_append, List.length_append, List.length_append, a1, a2]; omega
/-- The fence of eight. -/
def f8 (l : List Ent) : Fnc := ⟨8, mkMs l 8 (cnt l.length 8)⟩
theorem fmake8 {l : List Ent} (h : (clchk l).2 = 0) : fmake l 8 = (f8 l, 0) := by
  unfold fmake; rw [if_neg (by simp [h]), if_neg (by omega)]; rfl
theorem f8_facts {l : List Ent} (h : (clchk l).2 = 0) : (fchk (f8 l)).2 = 0 ∧ (f8 l).marks.length = cnt l.length 8 ∧ Asc (f8 l).marks ∧ (f8 l).marks.length ≤ 5010 := by
  have h1 := (mk_facts h (s := 8) (by omega) (by omega)).1
  have h2 : (fchk (f8 l)).2 = 0 := by
    show (fchk ⟨((8:Nat):Int), mkMs l 8 (cnt l.length 8)⟩).2 = 0
    rw [h1]
  obtain ⟨-, -, h3, -, h5⟩ := fchk_ok h2
  exact ⟨h2, mkMs_len _ _ _, h5, by omega⟩
/-- The stretch of a key. -/
theorem span8 {l : List Ent} (h : (clchk l).2 = 0) {k : ByteArray} (hk : k.size ≤ 32) :
    ∃ fr to : Nat, spn (f8 l) l.length k = ((fr : Int), (to : Int), 0) ∧ fr ≤ to ∧ to ≤ l.length ∧ fr + cntLtE ((l.drop fr).take (to - fr)) k = cntLtE l k := by
  obtain ⟨h1, h2, h3, h4⟩ := f8_facts h
  obtain ⟨l1, l2, l3⟩ := clchk_ok h
  have hfit : fitB 8 (f8 l).marks l = true := by
    have h5 := (mk_facts h (s := 8) (by omega) (by omega)).2
    have h6 := ffits_ok (f := ⟨((8:Nat):Int), mkMs l 8 (cnt l.length 8)⟩) (l := l) (by rw [h5])
    have h7 := h6.2.2
    rw [h5] at h7
    exact h7.symm
  have hin := in_blockK (by omega) h3 l3 hfit k
  have hcl := cntLe_le (f8 l).marks k
  have hfrn : cntLe (f8 l).marks k * 8 ≤ l.length := by
    rcases Nat.eq_zero_or_pos (cntLe (f8 l).marks k) with h | h
    · rw [h]; omega
    · have := cnt_at (n := l.length) (s := 8) (k := cntLe (f8 l).marks k - 1) (by omega) (by omega)
      rw [show cntLe (f8 l).marks k - 1 + 1 = cntLe (f8 l).marks k by omega] at this; omega
  refine ⟨cntLe (f8 l).marks k * 8, min (cntLe (f8 l).marks k * 8 + 8) l.length, ?_, by omega, by omega, cnt_cut _ _ (by omega) (by omega) hin.1 ?_⟩
  · have hst : (f8 l).step = 8 := rfl
    unfold spn
    rw [if_neg (by simp [h1, kchk_zero.2 hk]), if_neg (by omega), if_neg (by rw [hst, Int.toNat_natCast]; simpa using h2)]
    simp only [hst]
    congr 2
    omega
  · intro i x hx hi
    have := (List.getElem?_eq_some_iff.1 hx).1
    exact hin.2 i x hx (by omega)
end Go.Proofs.Ytndcjgkgkpkklaa


/-
  Contracts of fence.Find and of the reference's Find.
-/
import Derived.Test.YtndcjgkgkpkklaaFnJ
namespace Go.Proofs.Ytndcjgkgkpkklaa
open Go.RowKit
set_option linter.unusedSimpArgs false
set_option linter.unusedVariables false
set_option maxRecDepth 100000

/-! ### What is looked for is in its span -/
abbrev AscE (l : List Ent) : Prop := l.Pairwise (fun a b => slt a.key b.key = true)
theorem clGo_ok : ∀ (l : List Ent) (i : Nat) (p : Option ByteArray), (clGo i p l).2 = 0 →
    (∀ m, m ∈ l → echk m = 0) ∧ (∀ q, p = some q → ∀ m, m ∈ l → slt q m.key = true) ∧ AscE l
  | [], _, _, _ => by simp
  | m :: r, i, p, h => by
    unfold clGo at h
    split at h
    · rename_i h1; exact absurd h h1
    · rename_i h1
      split at h
      · simp at h
      · rename_i h2
        obtain ⟨a, b, c⟩ := clGo_ok r (i + 1) (some m.key) h
        have hm := b m.key rfl
        refine ⟨?_, ?_, ?_⟩
        · intro x hx
          rcases List.mem_cons.1 hx with rfl | hx
          · simpa using h1
          · exact a x hx
        · rintro q rfl x hx
          have hq : slt q m.key = true := by simpa [pbad] using h2
          rcases List.mem_cons.1 hx with rfl | hx
          · exact hq
          · exact slt_trans hq (hm x hx)
        · exact List.pairwise_cons.2 ⟨hm, c⟩
theorem clchk_ok {l : List Ent} (h : (clchk l).2 = 0) : l.length ≤ 5000 ∧ (∀ m, m ∈ l → echk m = 0) ∧ AscE l := by
  have hl := clchk_len h
  unfold clchk at h; rw [if_neg (by omega)] at h
  obtain ⟨a, _, b⟩ := clGo_ok _ _ _ h
  exact ⟨hl, a, b⟩
theorem ascE_lt {l : List Ent} (h : AscE l) {i j : Nat} {x y : Ent} (hx : l[i]? = some x) (hy : l[j]? = some y) (hij : i < j) : slt x.key y.key = true := by
  obtain ⟨h1, rfl⟩ := List.getElem?_eq_some_iff.1 hx
  obtain ⟨h2, rfl⟩ := List.getElem?_eq_some_iff.1 hy
  exact List.pairwise_iff_getElem.1 h i j h1 h2 hij
theorem atGo_from : ∀ (l : List Ent) (n : Nat) (k : ByteArray) (i : Nat) (x : Ent), l[i]? = some x → x.key = k → (∀ j y, j < i → l[j]? = some y → y.key ≠ k) → atGo n k l = ((n + i : Nat) : Int)
  | [], _, _, _, _, h, _, _ => by simp at h
  | a :: l, n, k, i, x, h, hk, hj => by
    unfold atGo
    cases i with
    | zero => simp at h; subst h; subst hk; simp
    | succ i =>
      have h0 := hj 0 a (by omega) (by simp)
      have h1 : ¬ a.key.toList = k.toList := fun e => h0 (str_ext e)
      rw [if_neg h1, atGo_from l (n + 1) k i x (by simpa using h) hk (fun j y hji hy => hj (j + 1) y (by omega) (by simpa using hy))]
      congr 1; omega
theorem atGo_none : ∀ (l : List Ent) (n : Nat) (k : ByteArray), (∀ y, y ∈ l → y.key ≠ k) → atGo n k l = -1
  | [], _, _, _ => rfl
  | a :: l, n, k, h => by
    unfold atGo
    have h1 : ¬ a.key.toList = k.toList := fun e => h a (by simp) (str_ext e)
    rw [if_neg h1, atGo_none l (n + 1) k (fun y hy => h y (by simp [hy]))]
theorem fitB_spec {s : Nat} {m : List ByteArray} {l : List Ent} (h : fitB s m l = true) : m.length = cnt l.length s ∧ ∀ i x, m[i]? = some x → ∃ y z, l[(i + 1) * s - 1]? = some y ∧ l[(i + 1) * s]? = some z ∧ slt y.key x = true ∧ slt z.key x = false := by
  unfold fitB at h
  rw [Bool.and_eq_true] at h
  refine ⟨by simpa using h.1, fun i x hx => ?_⟩
  have h2 := List.all_eq_true.1 h.2 i (by simp; exact (List.getElem?_eq_some_iff.1 hx).1)
  unfold fitAt at h2
  rw [hx] at h2
  cases h3 : l[(i + 1) * s - 1]? with
  | none => simp [h3] at h2
  | some y =>
    cases h4 : l[(i + 1) * s]? with
    | none => simp [h3, h4] at h2
    | some z => simp [h3, h4] at h2; exact ⟨y, z, rfl, rfl, h2.1, h2.2⟩
/-- An entry of the key lies in the key's block. -/
theorem in_block {s : Nat} {m : List ByteArray} {l : List Ent} (hs : 1 ≤ s) (hm : Asc m) (hl : AscE l) (hf : fitB s m l = true) {i : Nat} {x : Ent} (hx : l[i]? = some x) :
    cntLe m x.key * s ≤ i ∧ i < cntLe m x.key * s + s := by
  obtain ⟨h1, h2⟩ := fitB_spec hf
  obtain ⟨p1, p2⟩ := cntLe_part hm x.key
  have hle := cntLe_le m x.key
  generalize cntLe m x.key = b at *
  have hi := (List.getElem?_eq_some_iff.1 hx).1
  constructor
  · rcases Nat.eq_zero_or_pos b with h0 | h0
    · rw [h0]; omega
    · obtain ⟨y, hy⟩ : ∃ y, m[b - 1]? = some y := ⟨_, List.getElem?_eq_getElem (by omega)⟩
      have q1 := p1 (b - 1) y hy (by omega)
      obtain ⟨u, v, hu, hv, q2, q3⟩ := h2 (b - 1) y hy
      rw [show b - 1 + 1 = b by omega] at hu hv
      rcases Nat.lt_or_ge i (b * s) with hlt | hge
      · exfalso
        have hk : slt x.key y = true := by
          rcases Nat.lt_or_ge i (b * s - 1) with h3 | h3
          · exact slt_trans (ascE_lt hl hx hu h3) q2
          · have : i = b * s - 1 := by omega
            rw [this, hu] at hx; injection hx with hx; rw [← hx]; exact q2
        rw [hk] at q1; cases q1
      · exact hge
  · rcases Nat.lt_or_ge b m.length with h0 | h0
    · obtain ⟨y, hy⟩ : ∃ y, m[b]? = some y := ⟨_, List.getElem?_eq_getElem h0⟩
      have q1 := p2 b y hy (Nat.le_refl _)
      obtain ⟨u, v, hu, hv, q2, q3⟩ := h2 b y hy
      rw [show (b + 1) * s = b * s + s by rw [Nat.add_mul]; omega] at hv
      rcases Nat.lt_or_ge i (b * s + s) with hlt | hge
      · exact hlt
      · exfalso
        have hvk : slt v.key x.key = true ∨ v = x := by
          rcases Nat.lt_or_ge (b * s + s) i with h3 | h3
          · exact .inl (ascE_lt hl hv hx h3)
          · have : i = b * s + s := by omega
            rw [this, hv] at hx; injection hx with hx; exact .inr hx
        have : slt v.key y = true := by
          rcases hvk with h3 | h3
          · exact slt_trans h3 q1
          · rw [h3]; exact q1
        rw [this] at q3; cases q3
    · have hb : b = m.length := by omega
      rw [hb, h1]
      have := (ceil_facts l.length s hs).1
      unfold cnt
      rcases Nat.eq_zero_or_pos ((l.length + s - 1) / s) with h3 | h3
      · rw [h3] at this; omega
      · have h4 : ((l.length + s - 1) / s - 1) * s + s = (l.length + s - 1) / s * s := by
          have h5 : ((l.length + s - 1) / s - 1 + 1) * s = ((l.length + s - 1) / s - 1) * s + s := by rw [Nat.add_mul]; omega
          rw [← h5]; congr 1; omega
        omega

def cntLtE (l : List Ent) (k : ByteArray) : Nat := (l.filter fun (x : Ent) => !!slt x.key k).length
theorem cntLtE_le (l : List Ent) (k : ByteArray) : cntLtE l k ≤ l.length := List.length_filter_le _ _
theorem cntLtE_part {l : List Ent} (h : AscE l) (k : ByteArray) :
    (∀ j x, l[j]? = some x → j < cntLtE l k → (!slt x.key k) = false) ∧ (∀ j x, l[j]? = some x → cntLtE l k ≤ j → (!slt x.key k) = true) :=
  part_point (fun (x : Ent) => !slt x.key k) (fun a b hab ha => by
    cases hb : slt b.key k
    · rfl
    · have := slt_trans hab hb; rw [this] at ha; cases ha) l h
/-- The search within a stretch that has the entry, if there is one. -/
theorem find_in {l : List Ent} (hl : AscE l) (k : ByteArray) (fr to : Nat) (h1 : fr ≤ to) (h2 : to ≤ l.length) (hin : ∀ i x, l[i]? = some x → x.key = k → fr ≤ i ∧ i < to) :
    (∃ x, l[fr + cntLtE ((l.drop fr).take (to - fr)) k]? = some x ∧ fr + cntLtE ((l.drop fr).take (to - fr)) k < to ∧ x.key = k ∧ atGo 0 k l = ((fr + cntLtE ((l.drop fr).take (to - fr)) k : Nat) : Int)) ∨
    ((fr + cntLtE ((l.drop fr).take (to - fr)) k = to ∨ ∃ x, l[fr + cntLtE ((l.drop fr).take (to - fr)) k]? = some x ∧ fr + cntLtE ((l.drop fr).take (to - fr)) k < to ∧ x.key ≠ k) ∧ atGo 0 k l = -1) := by
  have hL : AscE ((l.drop fr).take (to - fr)) := (hl.drop).take
  have hlen : ((l.drop fr).take (to - fr)).length = to - fr := by simp; omega
  have hget : ∀ j x, j < to - fr → (((l.drop fr).take (to - fr))[j]? = some x ↔ l[fr + j]? = some x) := by
    intro j x hj
    rw [List.getElem?_take_of_lt hj, List.getElem?_drop]
  have hcl := cntLtE_le ((l.drop fr).take (to - fr)) k
  obtain ⟨p1, p2⟩ := cntLtE_part hL k
  generalize cntLtE ((l.drop fr).take (to - fr)) k = r at *
  rw [hlen] at hcl
  by_cases he : ∃ (i : Nat) (x : Ent), l[i]? = some x ∧ x.key = k
  · obtain ⟨i, x, hx, hk⟩ := he
    obtain ⟨i1, i2⟩ := hin i x hx hk
    have hi : l[fr + (i - fr)]? = some x := by rw [show fr + (i - fr) = i by omega]; exact hx
    have hLi := (hget (i - fr) x (by omega)).2 hi
    have hr : r = i - fr := by
      rcases Nat.lt_trichotomy r (i - fr) with h | h | h
      · exfalso
        obtain ⟨y, hy⟩ : ∃ y, l[fr + r]? = some y := ⟨_, List.getElem?_eq_getElem (by omega)⟩
        have q := p2 r y ((hget r y (by omega)).2 hy) (Nat.le_refl _)
        have := ascE_lt hl hy hx (by omega)
        rw [← hk, this] at q; cases q
      · exact h
      · exfalso
        have q := p1 (i - fr) x hLi h
        rw [← hk, slt_irrefl] at q; cases q
    left
    refine ⟨x, by rw [hr]; exact hi, by omega, hk, ?_⟩
    rw [atGo_from l 0 k i x hx hk]
    · congr 1; omega
    · intro j y hj hy e
      have := ascE_lt hl hy hx hj
      rw [e, hk, slt_irrefl] at this; cases this
  · right
    refine ⟨?_, atGo_none l 0 k fun y hy e => by
      obtain ⟨i, hi, rfl⟩ := List.getElem_of_mem hy
      exact he ⟨i, _, List.getElem?_eq_getElem hi, e⟩⟩
    rcases Nat.lt_or_ge (fr + r) to with h | h
    · right
      obtain ⟨y, hy⟩ : ∃ y, l[fr + r]? = some y := ⟨_, List.getElem?_eq_getElem (by omega)⟩
      exact ⟨y, hy, h, fun e => he ⟨_, y, hy, e⟩⟩
    · left; omega

/-! ### Find -/
def ffind (f : Fnc) (l : List Ent) (k : ByteArray) : Int × Int :=
  if (ffits f l).2 ≠ 0 then (0, (ffits f l).2) else if kchk k ≠ 0 then (0, kchk k) else if (ffits f l).1 = false then (0, 6) else if atGo 0 k l < 0 then (0, 4) else (atGo 0 k l, 0)
theorem ffits_ok {f : Fnc} {l : List Ent} (h : (ffits f l).2 = 0) : (fchk f).2 = 0 ∧ (clchk l).2 = 0 ∧ (ffits f l).1 = fitB f.step.toNat f.marks l := by
  unfold ffits at h ⊢
  by_cases h1 : (fchk f).2 = 0
  · by_cases h2 : (clchk l).2 = 0
    · simp [h1, h2]
    · simp [h1, h2] at h
  · simp [h1] at h

/-- A part of a list in memory. -/
theorem Ents.cut {w : World} {b off : Nat} {l : List Ent} (h : Ents w (some ⟨b, off, none⟩) l) (fr to : Nat) : Ents w (some ⟨b, off + fr * 4, none⟩) ((l.drop fr).take (to - fr)) := by
  refine ⟨fun x hx => h.ok x (List.mem_of_mem_drop (List.mem_of_mem_take hx)), fun hn => ?_⟩
  refine ⟨b, off + fr * 4, rfl, fun i x hx => ?_⟩
  have hl : l ≠ [] := by rintro rfl; simp at hn
  obtain ⟨b', off', e, hat⟩ := h.at_ hl
  injection e with e; injection e with e1 e2
  subst e1 e2
  have hi : i < to - fr := by
    have := (List.getElem?_eq_some_iff.1 hx).1; simp at this; omega
  rw [List.getElem?_take_of_lt hi, List.getElem?_drop] at hx
  have := hat (fr + i) x hx
  rwa [show off + (fr + i) * 4 = off + fr * 4 + i * 4 by omega] at this


end Go.Proofs.Ytndcjgkgkpkklaa

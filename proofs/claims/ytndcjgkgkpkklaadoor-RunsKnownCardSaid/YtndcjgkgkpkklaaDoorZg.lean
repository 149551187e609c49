/-
  Own texts laid together: PlA PlB Bet PlC RnP RnQ RnA RnB.
-/
import Derived.Test.YtndcjgkgkpkklaaDoorZf
import Derived.Test.YtndcjgkgkpkklaaDoorZe
import Derived.Test.YtndcjgkgkpkklaaDoorZc
/-
  Plain laws of fences that fit a list.
-/
namespace Go.Proofs.YtndcjgkgkpkklaaDoor
open Go.RowKit
set_option linter.unusedSimpArgs false
set_option linter.unusedVariables false
set_option maxRecDepth 100000

structure Fits (f : Fnc) (l : List Ent) : Prop where
  s1 : 1 ≤ f.step
  s2 : f.step ≤ 64
  ms : f.marks.length ≤ 4999
  asc : Asc f.marks
  ascE : AscE l
  ls : l.length ≤ 5000
  fit : fitB f.step.toNat f.marks l = true
  keys : ∀ x, x ∈ l → x.key.size ≤ 32
  e1 : (fchk f).2 = 0
  e2 : (clchk l).2 = 0
theorem fits_facts {f : Fnc} {l : List Ent} (h : (ffits f l).2 = 0) (h' : (ffits f l).1 = true) : Fits f l := by
  obtain ⟨a, b, c⟩ := ffits_ok h
  obtain ⟨f1, f2, f3, f4, f5⟩ := fchk_ok a
  obtain ⟨l1, l2, l3⟩ := clchk_ok b
  exact ⟨f1, f2, f3, f5, l3, l1, by rw [← c]; exact h', fun x hx => (echk_key (l2 x hx)).1, a, b⟩
theorem atGo_own {l : List Ent} (h : AscE l) {i : Nat} {x : Ent} (hx : l[i]? = some x) : atGo 0 x.key l = (i : Int) := by
  have := atGo_from l 0 x.key i x hx rfl (fun j y hj hy he => by
    have := ascE_lt h hy hx hj
    rw [he, slt_irrefl] at this; cases this)
  rw [this]; omega
theorem spans_at {f : Fnc} {l : List Ent} (h : Fits f l) (ht : (ffits f l).2 = 0) (ht' : (ffits f l).1 = true) {i : Nat} {x : Ent} (hx : l[i]? = some x) :
    ∃ A B : Int, spn f l.length x.key = (A, B, 0) ∧ ffind f l x.key = ((i : Int), 0) ∧ A ≤ i ∧ (i : Int) < B ∧ B - A ≤ f.step ∧ 1 ≤ B - A ∧ 0 ≤ A ∧ B ≤ 5000 := by
  have hk := h.keys x (List.mem_of_getElem? hx)
  have hk0 : kchk x.key = 0 := kchk_zero.2 hk
  have hin := in_block (show 1 ≤ f.step.toNat by have := h.s1; omega) h.asc h.ascE h.fit hx
  have hlen := (fitB_spec h.fit).1
  have hi : i < l.length := (List.getElem?_eq_some_iff.1 hx).1
  have hls := h.ls
  have hs1 := h.s1
  have hc : ((cntLe f.marks x.key * f.step.toNat : Nat) : Int) = (cntLe f.marks x.key : Int) * f.step := by
    rw [Int.natCast_mul]; congr 1; omega
  have h0 := h.e1
  refine ⟨(cntLe f.marks x.key : Int) * f.step, min ((cntLe f.marks x.key : Int) * f.step + f.step) l.length, ?_, ?_, ?_⟩
  · unfold spn
    rw [if_neg (by simp [h0, hk0]), if_neg (by omega), if_neg (by simpa using hlen)]
  · unfold ffind
    rw [if_neg (by simp [ht]), if_neg (by simp [hk0]), if_neg (by simp [ht']), atGo_own h.ascE hx, if_neg (by omega)]
  · rw [← hc]; omega
theorem find_same {f : Fnc} {l : List Ent} (ht : (ffits f l).2 = 0) (ht' : (ffits f l).1 = true) (k : ByteArray) : ffind f l k = fnd l k := by
  have h := (fits_facts ht ht').e2
  unfold ffind fnd
  simp [ht, ht', h]
end Go.Proofs.YtndcjgkgkpkklaaDoor
/-
  Plain laws of the blocks of a range.
-/
namespace Go.Proofs.YtndcjgkgkpkklaaDoor
open Go.RowKit
set_option linter.unusedSimpArgs false
set_option linter.unusedVariables false
set_option maxRecDepth 100000

theorem filter_le {α : Type} (p q : α → Bool) (h : ∀ a, p a = true → q a = true) : ∀ l : List α, (l.filter p).length ≤ (l.filter q).length
  | [] => by simp
  | a :: l => by
    have ih := filter_le p q h l
    cases hp : p a
    · rw [List.filter_cons_of_neg (by simp [hp])]
      cases hq : q a
      · rw [List.filter_cons_of_neg (by simp [hq])]; exact ih
      · rw [List.filter_cons_of_pos hq]; simp; omega
    · rw [List.filter_cons_of_pos hp, List.filter_cons_of_pos (h a hp)]; simp; omega
theorem le_trans' {a b c : ByteArray} (h : slt b a = false) (k : slt c b = false) : slt c a = false := by
  cases e : slt c a
  · rfl
  · cases e2 : slt a b
    · have := slt_tri e2 h; subst this; rw [e] at k; cases k
    · have := slt_trans e e2; rw [this] at k; cases k
theorem le_lt_trans {a b c : ByteArray} (h : slt b a = false) (k : slt b c = true) : slt a c = true := by
  cases e : slt a b
  · have := slt_tri e h; subst this; exact k
  · exact slt_trans e k
theorem cntLe_mono (m : List ByteArray) {a b : ByteArray} (h : slt b a = false) : cntLe m a ≤ cntLe m b :=
  filter_le _ _ (fun x hx => by simp only [Bool.not_eq_true'] at hx ⊢; exact le_trans' hx h) m
theorem cntLe_cntLt (m : List ByteArray) {a b : ByteArray} (h : slt a b = true) : cntLe m a ≤ cntLt m b :=
  filter_le _ _ (fun x hx => by
    simp only [Bool.not_eq_true', Bool.not_not] at hx ⊢
    exact le_lt_trans hx h) m
theorem remp_ok {r : Rng} (h : (remp r).2 = 0) : (remp r).1 = (r.bd && !slt r.lo r.hi) := by
  unfold remp at h ⊢
  by_cases k : rchk r = 0
  · simp [k]
  · simp [k] at h
theorem ranges_facts {f : Fnc} {l : List Ent} {r : Rng} (h : Fits f l) (hb : (blks f r).2.2 = 0) :
    ∃ A B : Nat, blks f r = ((A : Int), (B : Int), 0) ∧ (remp r).2 = 0 ∧ (remp r).1 = decide ((A : Int) = (B : Int)) ∧ A ≤ B ∧ B ≤ f.marks.length + 1 ∧
      ∀ i x, l[i]? = some x → rhas r x.key = true → A ≤ i / f.step.toNat ∧ i / f.step.toNat < B := by
  have hs1 := h.s1
  have e1 := h.e1
  have e2 : (remp r).2 = 0 := by
    by_cases k : (remp r).2 = 0
    · exact k
    · unfold blks at hb; simp [e1, k] at hb
  have e3 := remp_ok e2
  by_cases k : (remp r).1 = true
  · refine ⟨0, 0, by unfold blks; simp [e1, e2, k], e2, by simp [k], Nat.le_refl _, by omega, fun i x hx hr => ?_⟩
    rw [e3] at k
    unfold rhas at hr
    simp only [Bool.and_eq_true, Bool.not_eq_true', Bool.or_eq_true] at k hr
    obtain ⟨k1, k2⟩ := k
    obtain ⟨r1, r2⟩ := hr
    rw [k1] at r2
    have := le_lt_trans r1 (by simpa using r2)
    rw [this] at k2; cases k2
  · have k' : (remp r).1 = false := by simpa using k
    have hab : cntLe f.marks r.lo < (if r.bd = true then cntLt f.marks r.hi else f.marks.length) + 1 := by
      have := cntLe_le f.marks r.lo
      split
      · rename_i hbd
        rw [e3, hbd] at k'
        have := cntLe_cntLt f.marks (a := r.lo) (b := r.hi) (by simpa using k')
        omega
      · omega
    refine ⟨cntLe f.marks r.lo, (if r.bd = true then cntLt f.marks r.hi else f.marks.length) + 1, ?_, e2, ?_, by omega, ?_, fun i x hx hr => ?_⟩
    · unfold blks
      rw [if_neg (by simp [e1]), if_neg (by simp [e2]), if_neg k]
      split <;> simp
    · rw [k']; symm; simp; omega
    · have := cntLt_le f.marks r.hi
      split <;> omega
    · have hin := in_block (show 1 ≤ f.step.toNat by omega) h.asc h.ascE h.fit hx
      have hq : i / f.step.toNat = cntLe f.marks x.key := by
        apply Nat.div_eq_of_lt_le
        · exact hin.1
        · rw [Nat.add_mul]; omega
      rw [hq]
      unfold rhas at hr
      simp only [Bool.and_eq_true, Bool.not_eq_true', Bool.or_eq_true] at hr
      obtain ⟨r1, r2⟩ := hr
      refine ⟨cntLe_mono _ r1, ?_⟩
      split
      · rename_i hbd
        rw [hbd] at r2
        have := cntLe_cntLt f.marks (a := x.key) (b := r.hi) (by simpa using r2)
        omega
      · have := cntLe_le f.marks x.key; omega
end Go.Proofs.YtndcjgkgkpkklaaDoor
/-
  Plain facts of the shortest string between two.
-/
namespace Go.Proofs.YtndcjgkgkpkklaaDoor
open Go.RowKit
set_option linter.unusedSimpArgs false
set_option linter.unusedVariables false
set_option maxRecDepth 100000

theorem bet_pre : ∀ S T Y : List UInt8, Op.bytesLess S T = true → Op.bytesLess S Y = true → Op.bytesLess T Y = false → Y.take (cmn S T) = T.take (cmn S T) ∧ cmn S T < Y.length
  | [], T, [], _, h2, _ => by simp [Op.bytesLess] at h2
  | [], T, _ :: _, _, _, _ => by simp [cmn_nil1]
  | _ :: _, [], _, h1, _, _ => by simp [Op.bytesLess] at h1
  | _ :: _, _ :: _, [], _, h2, _ => by simp [Op.bytesLess] at h2
  | a :: l, b :: r, c :: q, h1, h2, h3 => by
    by_cases hab : a = b
    · subst hab
      simp only [Op.bytesLess, Bool.or_eq_true, Bool.and_eq_true, decide_eq_true_eq, beq_iff_eq, Bool.or_eq_false_iff, Bool.and_eq_false_iff, decide_eq_false_iff_not, beq_eq_false_iff_ne] at h1 h2 h3
      have h1' : Op.bytesLess l r = true := h1.elim (fun h => absurd h (UInt8.lt_irrefl a)) (fun h => h.2)
      obtain ⟨hac, h2'⟩ := h2.resolve_left h3.1
      subst hac
      have h3' := h3.2.resolve_left (by simp)
      obtain ⟨i1, i2⟩ := bet_pre l r q h1' h2' h3'
      simp only [cmn, if_true, List.take_succ_cons, List.length_cons, i1]
      exact ⟨trivial, by omega⟩
    · simp [cmn, hab]
theorem betS_in {s t : ByteArray} (h : slt s t = true) : slt s (betS s t) = true ∧ slt t (betS s t) = false := by
  rw [betS_t s t _ rfl]; exact (bet_try s t h _ _ rfl).2 rfl
theorem cmn_lt {s t : ByteArray} (h : slt s t = true) : cmn s.data.toList t.data.toList < t.size := by
  unfold slt at h
  rw [toL, toL, bl_cmn] at h
  have := of_decide_eq_true h
  simpa using this.1
theorem betS_len {s t : ByteArray} (h : slt s t = true) : (betS s t).size = cmn s.data.toList t.data.toList + 1 := by
  have := cmn_lt h
  rw [betS_t s t _ rfl, ByteArray.size_append, ByteArray.size_extract, show (⟨#[endB s (cmn s.data.toList t.data.toList)]⟩ : ByteArray).size = 1 from rfl]; omega
theorem betS_least {s t y : ByteArray} (h1 : slt s t = true) (h2 : slt s y = true) (h3 : slt t y = false) : (betS s t).size ≤ y.size ∧ (y.size = (betS s t).size → slt y (betS s t) = false) := by
  have hp := bet_pre s.data.toList t.data.toList y.data.toList (by rw [← toL, ← toL]; exact h1) (by rw [← toL, ← toL]; exact h2) (by rw [← toL, ← toL]; exact h3)
  have hb := betS_t s t _ rfl
  have ht := bet_try s t h1
  rw [betS_len h1]
  generalize cmn s.data.toList t.data.toList = n at *
  obtain ⟨p1, p2⟩ := hp
  have p2' : n < y.size := by simpa using p2
  refine ⟨p2', fun he => ?_⟩
  have hy : y = t.extract 0 n ++ ⟨#[y.data.toList[n]]⟩ := by
    apply str_ext
    rw [cat_list, toL, ← p1]
    conv => lhs; rw [← List.take_append_drop n y.data.toList]
    rw [List.drop_eq_getElem_cons p2, List.drop_of_length_le (by simp; omega)]
  have hc : ¬ y.data.toList[n] < endB s n := by
    intro hlt
    have := (ht _ n rfl).1 hlt
    rw [← hy, h2] at this; cases this
  rw [hb, hy]
  unfold slt
  rw [cat_list, cat_list, bl_app]
  have : ¬ y.data.toList[n] < endB s n := hc
  simp [Op.bytesLess] at this ⊢
  exact this
end Go.Proofs.YtndcjgkgkpkklaaDoor
/-
  Plain laws of the shortest fence.
-/
namespace Go.Proofs.YtndcjgkgkpkklaaDoor
open Go.RowKit
set_option linter.unusedSimpArgs false
set_option linter.unusedVariables false
set_option maxRecDepth 100000

theorem fmGo_zero : ∀ (l : List ByteArray) (i : Nat) (p : Option ByteArray), (∀ m, m ∈ l → m.size ≤ 32) → Asc l → (∀ q, p = some q → ∀ m, m ∈ l → slt q m = true) → fmGo i p l = (0, 0)
  | [], _, _, _, _, _ => rfl
  | m :: r, i, p, h1, h2, h3 => by
    have hk : kchk m = 0 := kchk_zero.2 (h1 m (by simp))
    have hp : pbad p m = false := by
      cases p with
      | none => rfl
      | some q => simp [pbad, h3 q rfl m (by simp)]
    obtain ⟨h4, h5⟩ := List.pairwise_cons.1 h2
    unfold fmGo
    rw [if_neg (by simp [hk]), if_neg (by simp [hp])]
    exact fmGo_zero r (i + 1) (some m) (fun x hx => h1 x (by simp [hx])) h5 (fun q hq x hx => by injection hq with hq; subst hq; exact h4 x hx)
theorem asc_of {m : List ByteArray} (h : ∀ (i j : Nat) x y, i < j → m[i]? = some x → m[j]? = some y → slt x y = true) : Asc m := by
  rw [Asc, List.pairwise_iff_getElem]
  intro i j hi hj hij
  exact h i j _ _ hij (List.getElem?_eq_getElem hi) (List.getElem?_eq_getElem hj)
theorem mkMs_get {l : List Ent} {s n i : Nat} {x : ByteArray} (h : (mkMs l s n)[i]? = some x) : i < n ∧ x = mkM l s i := by
  unfold mkMs at h
  rw [List.getElem?_map] at h
  obtain ⟨k, hk, rfl⟩ := Option.map_eq_some_iff.1 h
  obtain ⟨h1, h2⟩ := List.getElem?_eq_some_iff.1 hk
  simp at h1 h2
  subst h2
  exact ⟨h1, rfl⟩
/-- What is at a mark's place. -/
theorem mk_at {l : List Ent} (ha : AscE l) {s k : Nat} (hs : 1 ≤ s) (hk : k < cnt l.length s) :
    ∃ x y, l[(k + 1) * s - 1]? = some x ∧ l[(k + 1) * s]? = some y ∧ slt x.key y.key = true ∧ mkM l s k = betS x.key y.key := by
  have h1 := cnt_at hs hk
  have h2 : 1 * s ≤ (k + 1) * s := Nat.mul_le_mul_right s (by omega)
  obtain ⟨x, hx⟩ : ∃ x, l[(k + 1) * s - 1]? = some x := ⟨_, List.getElem?_eq_getElem (by omega)⟩
  obtain ⟨y, hy⟩ : ∃ y, l[(k + 1) * s]? = some y := ⟨_, List.getElem?_eq_getElem h1⟩
  exact ⟨x, y, hx, hy, ascE_lt ha hx hy (by omega), by simp [mkM, hx, hy]⟩
theorem mk_facts {l : List Ent} (hc : (clchk l).2 = 0) {s : Nat} (hs : 1 ≤ s) (hs2 : s ≤ 64) :
    fchk ⟨(s : Int), mkMs l s (cnt l.length s)⟩ = (0, 0) ∧ ffits ⟨(s : Int), mkMs l s (cnt l.length s)⟩ l = (true, 0) := by
  obtain ⟨l1, l2, l3⟩ := clchk_ok hc
  have hk : ∀ x, x ∈ l → x.key.size ≤ 32 := fun x hx => (echk_key (l2 x hx)).1
  have hn : cnt l.length s ≤ 4999 := by
    have := (ceil_facts l.length s hs).2.2
    unfold cnt; omega
  have e1 : fchk ⟨(s : Int), mkMs l s (cnt l.length s)⟩ = (0, 0) := by
    unfold fchk
    simp only
    rw [if_neg (by omega), if_neg (by rw [mkMs_len]; omega)]
    refine fmGo_zero _ _ _ (fun m hm => ?_) (asc_of fun i j x y hij hi hj => ?_) (fun q hq => by cases hq)
    · obtain ⟨i, hi, rfl⟩ := List.getElem_of_mem hm
      obtain ⟨h1, h2⟩ := mkMs_get (List.getElem?_eq_getElem hi)
      obtain ⟨x, y, hx, hy, hlt, he⟩ := mk_at l3 hs h1
      rw [h2, he, betS_len hlt]
      have := cmn_lt hlt
      have := hk y (List.mem_of_getElem? hy)
      omega
    · obtain ⟨h1, rfl⟩ := mkMs_get hi
      obtain ⟨h2, rfl⟩ := mkMs_get hj
      obtain ⟨x1, y1, hx1, hy1, hlt1, he1⟩ := mk_at l3 hs h1
      obtain ⟨x2, y2, hx2, hy2, hlt2, he2⟩ := mk_at l3 hs h2
      rw [he1, he2]
      have hle : (i + 1) * s + s ≤ (j + 1) * s := by
        have := Nat.mul_le_mul_right s (show i + 1 + 1 ≤ j + 1 by omega)
        rw [Nat.add_mul (i + 1) 1 s] at this; omega
      have hyx : slt x2.key y1.key = false := by
        rcases Nat.eq_or_lt_of_le (show (i + 1) * s ≤ (j + 1) * s - 1 by omega) with h | h
        · rw [h] at hy1
          rw [hx2] at hy1; injection hy1 with hy1; subst hy1; exact slt_irrefl _
        · exact slt_asymm (ascE_lt l3 hy1 hx2 h)
      exact le_lt_trans (le_trans' (betS_in hlt1).2 hyx) (betS_in hlt2).1
  refine ⟨e1, ?_⟩
  unfold ffits
  rw [if_neg (by simp [e1]), if_neg (by simp [hc])]
  have : fitB (s : Int).toNat (mkMs l s (cnt l.length s)) l = true := by
    rw [Int.toNat_natCast]
    refine fitB_yes (mkMs_len _ _ _) fun k hk' => ?_
    rw [mkMs_len] at hk'
    obtain ⟨x, y, hx, hy, hlt, he⟩ := mk_at l3 hs hk'
    have hm : (mkMs l s (cnt l.length s))[k]? = some (betS x.key y.key) := by
      unfold mkMs; rw [List.getElem?_map, List.getElem?_range hk']; simp [he]
    unfold fitAt
    rw [hm, hx, hy]
    simp [(betS_in hlt).1, (betS_in hlt).2]
  simp only [this]
theorem mk_least {l : List Ent} {f : Fnc} (h : Fits f l) {s : Nat} (hs : 1 ≤ s) (he : f.step = (s : Int)) :
    (mkMs l s (cnt l.length s)).length = f.marks.length ∧ ∀ (i : Nat) x y, (mkMs l s (cnt l.length s))[i]? = some x → f.marks[i]? = some y → x.size ≤ y.size ∧ (y.size = x.size → slt y x = false) := by
  have hf := fitB_spec h.fit
  rw [he, Int.toNat_natCast] at hf
  obtain ⟨f1, f2⟩ := hf
  refine ⟨by rw [mkMs_len, f1], fun i x y hx hy => ?_⟩
  obtain ⟨h1, rfl⟩ := mkMs_get hx
  obtain ⟨x1, y1, hx1, hy1, hlt1, he1⟩ := mk_at h.ascE hs h1
  obtain ⟨x2, y2, hx2, hy2, k1, k2⟩ := f2 i y hy
  rw [hx1] at hx2; injection hx2 with hx2; subst hx2
  rw [hy1] at hy2; injection hy2 with hy2; subst hy2
  rw [he1]
  exact betS_least hlt1 k1 k2
theorem sumSz_le : ∀ {m n : List ByteArray}, m.length = n.length → (∀ (i : Nat) (x y : ByteArray), m[i]? = some x → n[i]? = some y → x.size ≤ y.size) → sumSz m ≤ sumSz n
  | [], [], _, _ => Nat.le_refl _
  | [], _ :: _, h, _ => by simp at h
  | _ :: _, [], h, _ => by simp at h
  | a :: m, b :: n, h, k => by
    have ih := sumSz_le (m := m) (n := n) (by simpa using h) (fun i x y hx hy => k (i + 1) x y (by simpa using hx) (by simpa using hy))
    have h0 := k 0 a b rfl rfl
    unfold sumSz at ih ⊢
    simp only [List.map_cons, List.sum_cons]
    omega
/-- All that the law asks of the list's own fence. -/
theorem make_facts {l : List Ent} {s : Int} (h : (fmake l s).2 = 0) :
    fchk (fmake l s).1 = (0, 0) ∧ ffits (fmake l s).1 l = (true, 0) ∧ (fmake l s).1.step = s ∧ (fmake l s).1.marks.length ≤ 4999 ∧
    ∀ f : Fnc, (ffits f l).2 = 0 → (ffits f l).1 = true → f.step = s → (fmake l s).1.marks.length = f.marks.length ∧ sumSz (fmake l s).1.marks ≤ sumSz f.marks ∧
      ∀ (i : Nat) x y, (fmake l s).1.marks[i]? = some x → f.marks[i]? = some y → x.size ≤ y.size ∧ (y.size = x.size → slt y x = false) := by
  by_cases h1 : (clchk l).2 = 0
  · by_cases h2 : s < 1 ∨ 64 < s
    · unfold fmake at h; rw [if_neg (by simp [h1]), if_pos h2] at h; simp at h
    · have e : fmake l s = (⟨s, mkMs l s.toNat (cnt l.length s.toNat)⟩, 0) := by
        unfold fmake; rw [if_neg (by simp [h1]), if_neg h2]
      rw [e]
      obtain ⟨n, rfl⟩ := Int.eq_ofNat_of_zero_le (show 0 ≤ s by omega)
      rw [Int.toNat_natCast]
      obtain ⟨a, b⟩ := mk_facts h1 (s := n) (by omega) (by omega)
      have l1 := (clchk_ok h1).1
      have hn := (ceil_facts l.length n (by omega)).2.2
      refine ⟨a, b, rfl, by rw [mkMs_len]; unfold cnt; omega, fun f hf hf' he => ?_⟩
      obtain ⟨c, d⟩ := mk_least (fits_facts hf hf') (s := n) (by omega) he
      exact ⟨c, sumSz_le c (fun i x y hx hy => (d i x y hx hy).1), d⟩
  · unfold fmake at h; rw [if_pos (by simpa using h1)] at h
    exact absurd h (by simpa using h1)
theorem make_none {l : List Ent} {s : Int} (h : (fmake l s).2 ≠ 0) : (fmake l s).1.marks = [] := by
  unfold fmake at h ⊢
  split
  · rfl
  · rename_i h1
    rw [if_neg h1] at h
    split
    · rfl
    · rename_i h2
      rw [if_neg h2] at h; simp at h
theorem fmk_step (l : List Ent) (s : Int) (h1 : -9223372036854775808 ≤ s) (h2 : s ≤ 9223372036854775807) : -9223372036854775808 ≤ (fmake l s).1.step ∧ (fmake l s).1.step ≤ 9223372036854775807 := by
  unfold fmake
  split
  · simp
  · split
    · simp
    · exact ⟨h1, h2⟩
end Go.Proofs.YtndcjgkgkpkklaaDoor
/-
  Plain facts of runs: how many keys are less than one, what a run answers.
-/
namespace Go.Proofs.YtndcjgkgkpkklaaDoor
open Go.RowKit
set_option linter.unusedSimpArgs false
set_option linter.unusedVariables false
set_option maxRecDepth 100000

structure Rn where
  id : Int
  es : List Ent
def Rn.v (r : Rn) (a : Option Addr) (c : Nat) : Value := .agg #[.int .i64 r.id, .slice a r.es.length c]
structure ROk (w : World) (a : Option Addr) (c : Nat) (r : Rn) : Prop where
  ents : Ents w a r.es
  len : r.es.length ≤ c
  cap : c ≤ maxLen
  lo : -9223372036854775808 ≤ r.id
  hi : r.id ≤ 9223372036854775807
theorem ROk.bl {w w' : World} {a : Option Addr} {c : Nat} {r : Rn} (h : ROk w a c r) (k : Bl w w') : ROk w' a c r := ⟨h.ents.bl k, h.len, h.cap, h.lo, h.hi⟩
def rck (r : Rn) : Int × Int := if r.id < 1 ∨ 1000000 < r.id then (-1, 7) else clchk r.es
def rask (r : Rn) (k : ByteArray) : Int := if (rck r).2 ≠ 0 then (rck r).2 else kchk k
def ent0 : Ent := ⟨mt, mt, false, 0⟩
def atE (l : List Ent) (i : Int) : Ent × Int := if i < 0 ∨ (l.length : Int) ≤ i then (ent0, 4) else (l.getD i.toNat ent0, 0)
def hasK (l : List Ent) (k : ByteArray) : Bool := match l[cntLtE l k]? with
  | some x => x.key.toList == k.toList
  | none => false
def rget (r : Rn) (k : ByteArray) : Ent × Int := if rask r k ≠ 0 then (ent0, rask r k) else if hasK r.es k = true then atE r.es (cntLtE r.es k : Int) else (ent0, 4)
def rflo (r : Rn) (k : ByteArray) (s : Bool) : Ent × Int := if rask r k ≠ 0 then (ent0, rask r k) else if (hasK r.es k && !s) = true then atE r.es (cntLtE r.es k : Int) else atE r.es ((cntLtE r.es k : Int) - 1)
def rcei (r : Rn) (k : ByteArray) (s : Bool) : Ent × Int := if rask r k ≠ 0 then (ent0, rask r k) else if (hasK r.es k && s) = true then atE r.es ((cntLtE r.es k : Int) + 1) else atE r.es (cntLtE r.es k : Int)

theorem clchk_len2 {l : List Ent} (h : (clchk l).2 = 0) : l.length ≤ 5000 := (clchk_ok h).1
theorem rck_ok {r : Rn} (h : (rck r).2 = 0) : 1 ≤ r.id ∧ r.id ≤ 1000000 ∧ (clchk r.es).2 = 0 ∧ r.es.length ≤ 5000 ∧ (∀ m, m ∈ r.es → echk m = 0) ∧ AscE r.es := by
  unfold rck at h
  split at h
  · simp at h
  · exact ⟨by omega, by omega, h, clchk_ok h⟩
theorem rask_ok {r : Rn} {k : ByteArray} (h : rask r k = 0) : (rck r).2 = 0 ∧ k.size ≤ 32 := by
  unfold rask at h
  split at h
  · contradiction
  · exact ⟨by omega, kchk_zero.1 h⟩

theorem cntLtE_eq {l : List Ent} {k : ByteArray} (h : AscE l) {n : Nat} (hn : n ≤ l.length) (h1 : ∀ j x, j < n → l[j]? = some x → slt x.key k = true) (h2 : ∀ x, l[n]? = some x → slt x.key k = false) : cntLtE l k = n := by
  obtain ⟨p1, p2⟩ := cntLtE_part h k
  have hle := cntLtE_le l k
  rcases Nat.lt_trichotomy (cntLtE l k) n with c | c | c
  · have hx := List.getElem?_eq_getElem (show cntLtE l k < l.length by omega)
    have := p2 _ _ hx (Nat.le_refl _)
    rw [h1 _ _ c hx] at this; cases this
  · exact c
  · have hx := List.getElem?_eq_getElem (show n < l.length by omega)
    have := p1 _ _ hx c
    rw [h2 _ hx] at this; cases this
theorem cntLtE_lt {l : List Ent} (h : AscE l) {k : ByteArray} {j : Nat} {x : Ent} (hx : l[j]? = some x) (hj : j < cntLtE l k) : slt x.key k = true := by
  have := (cntLtE_part h k).1 j x hx hj
  simpa using this
theorem cntLtE_ge {l : List Ent} (h : AscE l) {k : ByteArray} {j : Nat} {x : Ent} (hx : l[j]? = some x) (hj : cntLtE l k ≤ j) : slt x.key k = false := by
  have := (cntLtE_part h k).2 j x hx hj
  simpa using this
theorem cntLtE_mono (l : List Ent) {a b : ByteArray} (h : slt b a = false) : cntLtE l a ≤ cntLtE l b :=
  filter_le _ _ (fun x hx => by
    simp only [Bool.not_not] at hx ⊢
    cases e : slt x.key b
    · have := le_lt_trans (a := b) (b := x.key) (c := a) e hx
      rw [this] at h; cases h
    · rfl) l

theorem in_blockK {s : Nat} {m : List ByteArray} {l : List Ent} (hs : 1 ≤ s) (hm : Asc m) (hl : AscE l) (hf : fitB s m l = true) (k : ByteArray) :
    (∀ i x, l[i]? = some x → i < cntLe m k * s → slt x.key k = true) ∧ (∀ i x, l[i]? = some x → cntLe m k * s + s ≤ i → slt x.key k = false) := by
  obtain ⟨h1, h2⟩ := fitB_spec hf
  obtain ⟨p1, p2⟩ := cntLe_part hm k
  have hle := cntLe_le m k
  generalize cntLe m k = b at *
  constructor
  · intro i x hx hi
    have h0 : 0 < b := by
      rcases Nat.eq_zero_or_pos b with h0 | h0
      · rw [h0] at hi; omega
      · exact h0
    obtain ⟨y, hy⟩ : ∃ y, m[b - 1]? = some y := ⟨_, List.getElem?_eq_getElem (by omega)⟩
    have q1 := p1 (b - 1) y hy (by omega)
    obtain ⟨u, v, hu, hv, q2, q3⟩ := h2 (b - 1) y hy
    rw [show b - 1 + 1 = b by omega] at hu hv
    have hxy : slt x.key y = true := by
      rcases Nat.lt_or_ge i (b * s - 1) with h3 | h3
      · exact slt_trans (ascE_lt hl hx hu h3) q2
      · have : i = b * s - 1 := by omega
        rw [this, hu] at hx; injection hx with hx; rw [← hx]; exact q2
    cases e : slt x.key k
    · have := le_lt_trans (a := k) (b := x.key) (c := y) e hxy
      simp [this] at q1
    · rfl
  · intro i x hx hi
    rcases Nat.lt_or_ge b m.length with h0 | h0
    · obtain ⟨y, hy⟩ : ∃ y, m[b]? = some y := ⟨_, List.getElem?_eq_getElem h0⟩
      have q1 := p2 b y hy (Nat.le_refl _)
      obtain ⟨u, v, hu, hv, q2, q3⟩ := h2 b y hy
      rw [show (b + 1) * s = b * s + s by rw [Nat.add_mul]; omega] at hv
      have hky : slt k y = true := by simpa using q1
      cases e : slt x.key k
      · rfl
      · exfalso
        have hvx : slt v.key k = true := by
          rcases Nat.lt_or_ge (b * s + s) i with h3 | h3
          · exact slt_trans (ascE_lt hl hv hx h3) e
          · have : i = b * s + s := by omega
            rw [this, hv] at hx; injection hx with hx; rw [hx]; exact e
        rw [slt_trans hvx hky] at q3; cases q3
    · have hb : b = m.length := by omega
      have hi2 := (List.getElem?_eq_some_iff.1 hx).1
      rw [hb, h1] at hi
      have := (ceil_facts l.length s hs).1
      unfold cnt at hi
      exfalso
      rcases Nat.eq_zero_or_pos ((l.length + s - 1) / s) with h3 | h3
      · rw [h3] at this; omega
      · have h4 : ((l.length + s - 1) / s - 1) * s + s = (l.length + s - 1) / s * s := by
          have h5 : ((l.length + s - 1) / s - 1 + 1) * s = ((l.length + s - 1) / s - 1) * s + s := by rw [Nat.add_mul]; omega
          rw [← h5]; congr 1; omega
        omega
theorem filter_all {α : Type} (p : α → Bool) : ∀ l : List α, (∀ x, x ∈ l → p x = true) → (l.filter p).length = l.length
  | [], _ => rfl
  | a :: l, h => by rw [List.filter_cons_of_pos (h a (by simp))]; simp [filter_all p l (fun x hx => h x (by simp [hx]))]
theorem filter_no {α : Type} (p : α → Bool) : ∀ l : List α, (∀ x, x ∈ l → p x = false) → (l.filter p).length = 0
  | [], _ => rfl
  | a :: l, h => by rw [List.filter_cons_of_neg (by simp [h a (by simp)])]; exact filter_no p l (fun x hx => h x (by simp [hx]))
theorem cnt_cut {l : List Ent} {k : ByteArray} (fr to : Nat) (h1 : fr ≤ to) (h2 : to ≤ l.length) (hlo : ∀ i x, l[i]? = some x → i < fr → slt x.key k = true) (hhi : ∀ i x, l[i]? = some x → to ≤ i → slt x.key k = false) :
    fr + cntLtE ((l.drop fr).take (to - fr)) k = cntLtE l k := by
  have e : l = l.take fr ++ ((l.drop fr).take (to - fr) ++ l.drop to) := by
    conv => lhs; rw [← List.take_append_drop fr l, ← List.take_append_drop (to - fr) (l.drop fr), List.drop_drop, show fr + (to - fr) = to by omega]
  have a1 : ((l.take fr).filter fun (x : Ent) => !!slt x.key k).length = fr := by
    rw [filter_all]
    · simp; omega
    · intro x hx
      obtain ⟨i, hi, rfl⟩ := List.getElem_of_mem hx
      simp at hi
      have := hlo i _ (List.getElem?_eq_getElem (by omega)) (by omega)
      rw [List.getElem_take, this]; rfl
  have a2 : ((l.drop to).filter fun (x : Ent) => !!slt x.key k).length = 0 := by
    rw [filter_no]
    intro x hx
    obtain ⟨i, hi, rfl⟩ := List.getElem_of_mem hx
    simp at hi
    have := hhi (to + i) _ (List.getElem?_eq_getElem (by omega)) (by omega)
    rw [List.getElem_drop, this]; rfl
  unfold cntLtE
  conv => rhs; rw [e]
  rw [List.filter_append, List.filter_append, List.length_append, List.length_append, a1, a2]; omega
/-- The fence of eight. -/
def f8 (l : List Ent) : Fnc := ⟨8, mkMs l 8 (cnt l.length 8)⟩
theorem fmake8 {l : List Ent} (h : (clchk l).2 = 0) : fmake l 8 = (f8 l, 0) := by
  unfold fmake; rw [if_neg (by simp [h]), if_neg (by omega)]; rfl
theorem f8_facts {l : List Ent} (h : (clchk l).2 = 0) : (fchk (f8 l)).2 = 0 ∧ (f8 l).marks.length = cnt l.length 8 ∧ Asc (f8 l).marks ∧ (f8 l).marks.length ≤ 5010 := by
  have h1 := (mk_facts h (s := 8) (by omega) (by omega)).1
  have h2 : (fchk (f8 l)).2 = 0 := by
    show (fchk ⟨((8:Nat):Int), mkMs l 8 (cnt l.length 8)⟩).2 = 0
    rw [h1]
  obtain ⟨-, -, h3, -, h5⟩ := fchk_ok h2
  exact ⟨h2, mkMs_len _ _ _, h5, by omega⟩
/-- The stretch of a key. -/
theorem span8 {l : List Ent} (h : (clchk l).2 = 0) {k : ByteArray} (hk : k.size ≤ 32) :
    ∃ fr to : Nat, spn (f8 l) l.length k = ((fr : Int), (to : Int), 0) ∧ fr ≤ to ∧ to ≤ l.length ∧ fr + cntLtE ((l.drop fr).take (to - fr)) k = cntLtE l k := by
  obtain ⟨h1, h2, h3, h4⟩ := f8_facts h
  obtain ⟨l1, l2, l3⟩ := clchk_ok h
  have hfit : fitB 8 (f8 l).marks l = true := by
    have h5 := (mk_facts h (s := 8) (by omega) (by omega)).2
    have h6 := ffits_ok (f := ⟨((8:Nat):Int), mkMs l 8 (cnt l.length 8)⟩) (l := l) (by rw [h5])
    have h7 := h6.2.2
    rw [h5] at h7
    exact h7.symm
  have hin := in_blockK (by omega) h3 l3 hfit k
  have hcl := cntLe_le (f8 l).marks k
  have hfrn : cntLe (f8 l).marks k * 8 ≤ l.length := by
    rcases Nat.eq_zero_or_pos (cntLe (f8 l).marks k) with h | h
    · rw [h]; omega
    · have := cnt_at (n := l.length) (s := 8) (k := cntLe (f8 l).marks k - 1) (by omega) (by omega)
      rw [show cntLe (f8 l).marks k - 1 + 1 = cntLe (f8 l).marks k by omega] at this; omega
  refine ⟨cntLe (f8 l).marks k * 8, min (cntLe (f8 l).marks k * 8 + 8) l.length, ?_, by omega, by omega, cnt_cut _ _ (by omega) (by omega) hin.1 ?_⟩
  · have hst : (f8 l).step = 8 := rfl
    unfold spn
    rw [if_neg (by simp [h1, kchk_zero.2 hk]), if_neg (by omega), if_neg (by rw [hst, Int.toNat_natCast]; simpa using h2)]
    simp only [hst]
    congr 2
    omega
  · intro i x hx hi
    have := (List.getElem?_eq_some_iff.1 hx).1
    exact hin.2 i x hx (by omega)
end Go.Proofs.YtndcjgkgkpkklaaDoor
/-
  Plain facts of runs: where a key is.
-/
namespace Go.Proofs.YtndcjgkgkpkklaaDoor
open Go.RowKit
set_option linter.unusedSimpArgs false
set_option linter.unusedVariables false
set_option maxRecDepth 100000

theorem key_lt {l : List Ent} (h : AscE l) {k : ByteArray} {j : Nat} {x : Ent} (hx : l[j]? = some x) : slt x.key k = decide (j < cntLtE l k) := by
  rcases Nat.lt_or_ge j (cntLtE l k) with c | c
  · rw [cntLtE_lt h hx c]; simp [c]
  · rw [cntLtE_ge h hx c]; simp; omega
theorem hasK_iff (l : List Ent) (k : ByteArray) : hasK l k = true ↔ ∃ x, l[cntLtE l k]? = some x ∧ x.key = k := by
  unfold hasK
  constructor
  · intro h
    cases e : l[cntLtE l k]? with
    | none => rw [e] at h; cases h
    | some x => rw [e] at h; exact ⟨x, rfl, str_ext (by simpa using h)⟩
  · rintro ⟨x, e, rfl⟩
    rw [e]; simp
theorem key_eq {l : List Ent} (h : AscE l) {k : ByteArray} {j : Nat} {x : Ent} (hx : l[j]? = some x) : (x.key.toList == k.toList) = (decide (j = cntLtE l k) && hasK l k) := by
  rw [Bool.eq_iff_iff]
  simp only [beq_iff_eq, Bool.and_eq_true, decide_eq_true_eq]
  constructor
  · intro he
    have he := str_ext he
    have : cntLtE l k = j := cntLtE_eq h (by have := (List.getElem?_eq_some_iff.1 hx).1; omega)
      (fun i y hi hy => by rw [← he]; exact ascE_lt h hy hx hi) (fun y hy => by rw [hx] at hy; injection hy with hy; rw [← hy, he]; exact slt_irrefl _)
    refine ⟨this.symm, (hasK_iff l k).2 ⟨x, by rw [this]; exact hx, he⟩⟩
  · rintro ⟨rfl, hk⟩
    obtain ⟨y, hy, rfl⟩ := (hasK_iff l k).1 hk
    rw [hx] at hy; injection hy with hy; rw [hy]
theorem key_gt {l : List Ent} (h : AscE l) {k : ByteArray} {j : Nat} {x : Ent} (hx : l[j]? = some x) : slt k x.key = decide ((if hasK l k = true then cntLtE l k + 1 else cntLtE l k) ≤ j) := by
  have h1 := key_lt h (k := k) hx
  have h2 := key_eq h (k := k) hx
  cases e : slt k x.key
  · cases e2 : slt x.key k
    · have := slt_tri e2 e
      rw [this] at h2
      simp at h2
      rw [h2.2, h2.1]; simp
    · rw [e2] at h1; simp at h1; symm; simp; split <;> omega
  · have e2 := slt_asymm e
    rw [e2] at h1; simp at h1
    have h3 : (x.key.toList == k.toList) = false := by
      rw [beq_eq_false_iff_ne]; intro hh; have := str_ext hh; rw [this, slt_irrefl] at e; cases e
    rw [h3] at h2
    symm; simp
    split
    · rename_i hk
      rw [hk] at h2; simp at h2; omega
    · exact h1
/-- Behind the floor. -/
def flN (l : List Ent) (k : ByteArray) (s : Bool) : Nat := if (hasK l k && !s) = true then cntLtE l k + 1 else cntLtE l k
/-- The ceiling. -/
def ceN (l : List Ent) (k : ByteArray) (s : Bool) : Nat := if (hasK l k && s) = true then cntLtE l k + 1 else cntLtE l k
theorem hasK_lt {l : List Ent} {k : ByteArray} (h : hasK l k = true) : cntLtE l k < l.length := by
  obtain ⟨x, hx, _⟩ := (hasK_iff l k).1 h
  exact (List.getElem?_eq_some_iff.1 hx).1
theorem flN_le (l : List Ent) (k : ByteArray) (s : Bool) : flN l k s ≤ l.length := by
  unfold flN
  split
  · rename_i h; simp at h; have := hasK_lt h.1; omega
  · exact cntLtE_le l k
theorem ceN_le (l : List Ent) (k : ByteArray) (s : Bool) : ceN l k s ≤ l.length := by
  unfold ceN
  split
  · rename_i h; simp at h; have := hasK_lt h.1; omega
  · exact cntLtE_le l k
theorem rflo_at (r : Rn) (k : ByteArray) (s : Bool) : rflo r k s = if rask r k ≠ 0 then (ent0, rask r k) else atE r.es ((flN r.es k s : Int) - 1) := by
  unfold rflo flN
  split
  · rfl
  · split
    · congr 1; omega
    · rfl
theorem rcei_at (r : Rn) (k : ByteArray) (s : Bool) : rcei r k s = if rask r k ≠ 0 then (ent0, rask r k) else atE r.es (ceN r.es k s : Int) := by
  unfold rcei ceN
  split
  · rfl
  · split <;> simp
theorem fl_cond {l : List Ent} (h : AscE l) {k : ByteArray} (s : Bool) {j : Nat} {x : Ent} (hx : l[j]? = some x) : (slt x.key k || ((x.key.toList == k.toList) && !s)) = decide (j < flN l k s) := by
  rw [key_lt h hx, key_eq h hx]
  unfold flN
  cases hasK l k <;> cases s <;> simp
  rw [Bool.eq_iff_iff]; simp; omega
theorem ce_cond {l : List Ent} (h : AscE l) {k : ByteArray} (s : Bool) {j : Nat} {x : Ent} (hx : l[j]? = some x) : (slt k x.key || ((x.key.toList == k.toList) && !s)) = decide (ceN l k s ≤ j) := by
  rw [key_gt h hx, key_eq h hx]
  unfold ceN
  cases hasK l k <;> cases s <;> simp
  rw [Bool.eq_iff_iff]; simp; omega
theorem atE_some {l : List Ent} {i : Nat} {x : Ent} (h : l[i]? = some x) : atE l (i : Int) = (x, 0) := by
  have := (List.getElem?_eq_some_iff.1 h).1
  unfold atE
  rw [if_neg (by omega), Int.toNat_natCast]
  simp [List.getD_eq_getElem?_getD, h]
theorem atE_none {l : List Ent} {i : Int} (h : i < 0 ∨ (l.length : Int) ≤ i) : atE l i = (ent0, 4) := by
  unfold atE; rw [if_pos h]

/-! ### Parts -/
def pTo (l : List Ent) (x : Rng) : Nat := if x.bd = true then max (cntLtE l x.hi) (cntLtE l x.lo) else l.length
def rpart (r : Rn) (x : Rng) : Int × Int × Int := if (rck r).2 ≠ 0 then (0, 0, (rck r).2) else if rchk x ≠ 0 then (0, 0, rchk x) else ((cntLtE r.es x.lo : Int), (pTo r.es x : Int), 0)
def cutE (l : List Ent) (fr to : Nat) : List Ent := (l.drop fr).take (to - fr)
def nDead (l : List Ent) : Nat := (l.filter fun (x : Ent) => x.dead).length
def nLive (l : List Ent) : Nat := (l.filter fun (x : Ent) => !x.dead).length
def rcount (r : Rn) (x : Rng) : Int × Int × Int := if (rck r).2 ≠ 0 then (0, 0, (rck r).2) else if rchk x ≠ 0 then (0, 0, rchk x) else ((nLive (cutE r.es (cntLtE r.es x.lo) (pTo r.es x)) : Int), (nDead (cutE r.es (cntLtE r.es x.lo) (pTo r.es x)) : Int), 0)
theorem pTo_le (l : List Ent) (x : Rng) : pTo l x ≤ l.length := by
  unfold pTo
  split
  · have := cntLtE_le l x.hi; have := cntLtE_le l x.lo; omega
  · omega
theorem pTo_ge (l : List Ent) (x : Rng) : cntLtE l x.lo ≤ pTo l x := by
  unfold pTo
  split
  · omega
  · exact cntLtE_le l x.lo
theorem live_dead : ∀ l : List Ent, nLive l + nDead l = l.length
  | [] => rfl
  | x :: l => by
    have ih := live_dead l
    unfold nLive nDead at *
    cases h : x.dead
    · rw [List.filter_cons_of_pos (by simp [h]), List.filter_cons_of_neg (by simp [h])]; simp; omega
    · rw [List.filter_cons_of_neg (by simp [h]), List.filter_cons_of_pos (by simp [h])]; simp; omega
theorem nDead_snoc (l : List Ent) (x : Ent) : nDead (l ++ [x]) = nDead l + (if x.dead = true then 1 else 0) := by
  unfold nDead; rw [List.filter_append, List.length_append]; cases h : x.dead <;> simp [h]
theorem nLive_snoc (l : List Ent) (x : Ent) : nLive (l ++ [x]) = nLive l + (if x.dead = true then 0 else 1) := by
  unfold nLive; rw [List.filter_append, List.length_append]; cases h : x.dead <;> simp [h]
theorem cutE_succ {l : List Ent} {fr i : Nat} {x : Ent} (h : l[i]? = some x) (hi : fr ≤ i) : cutE l fr (i + 1) = cutE l fr i ++ [x] := by
  obtain ⟨h1, h2⟩ := List.getElem?_eq_some_iff.1 h
  unfold cutE
  rw [show i + 1 - fr = (i - fr) + 1 by omega, List.take_succ_eq_append_getElem (by simp; omega), List.getElem_drop]
  congr 2
  rw [← h2]; congr 1; omega
theorem cutE_nil (l : List Ent) (fr : Nat) : cutE l fr fr = [] := by simp [cutE]
theorem cutE_len {l : List Ent} {fr to : Nat} (h : to ≤ l.length) : (cutE l fr to).length = to - fr := by simp [cutE]; omega
theorem cutE_get {l : List Ent} {fr to i : Nat} (h : i < to - fr) : (cutE l fr to)[i]? = l[fr + i]? := by
  unfold cutE; rw [List.getElem?_take_of_lt h, List.getElem?_drop]
/-- Who is in a range. -/
theorem in_part {l : List Ent} (h : AscE l) (x : Rng) {j : Nat} {y : Ent} (hy : l[j]? = some y) : rhas x y.key = (decide (cntLtE l x.lo ≤ j) && decide (j < pTo l x)) := by
  have hj := (List.getElem?_eq_some_iff.1 hy).1
  unfold rhas
  rw [key_lt h hy, key_lt h hy]
  unfold pTo
  cases x.bd <;> simp
  · rw [Bool.eq_iff_iff]; simp; omega
  · rw [Bool.eq_iff_iff]; simp; omega
end Go.Proofs.YtndcjgkgkpkklaaDoor
/-
  Contracts of runs.Check, asked, at and of the reference's Check, asked.
-/
namespace Go.Proofs.YtndcjgkgkpkklaaDoor
open Go.RowKit
set_option linter.unusedSimpArgs false
set_option linter.unusedVariables false
set_option maxRecDepth 100000


set_option maxRecDepth 100000 in
set_option maxHeartbeats 1000000 in
theorem runCheck (a : Option Addr) (c : Nat) (r : Rn) (w : World) (h : ROk w a c r) :
    Calls Tryd.prog 16 #[r.v a c] w (RB w (.tuple #[.int .i64 (rck r).1, .int .i64 (rck r).2])) := by
  have hL := fun w hh => entCheckList a c r.es w hh (Nat.le_trans h.len h.cap)
  have hlo := h.lo
  have hhi := h.hi
  unfold rck
  generalize hq : clchk r.es = q at *
  obtain ⟨q0, q1⟩ := q
  have HE := Lib.hid h.ents
  have HL := Lib.hid hL
  clear hL hq h
  obtain ⟨id, l⟩ := r
  unfold Rn.v
  simp only at hlo hhi ⊢
  by_cases e : id < 1 ∨ 1000000 < id
  · rw [if_pos e]
    rcases e with e | e
    · go_enter Tryd.func16, Tryd.ntmps16
      go_wp2_with fail
      go_ret2
      exact rb_tuple rfl rfl (by repeat (first | assumption | exact Bl.refl _ | apply Bl.drewN | apply Bl.drew | apply Bl.alloc | (refine Bl.dr ?_ (by assumption)) | (refine Bl.trans ?_ (by assumption))))
    · have e' : ¬ id < 1 := by omega
      go_enter Tryd.func16, Tryd.ntmps16
      go_wp2_with fail
      go_ret2
      exact rb_tuple rfl rfl (by repeat (first | assumption | exact Bl.refl _ | apply Bl.drewN | apply Bl.drew | apply Bl.alloc | (refine Bl.dr ?_ (by assumption)) | (refine Bl.trans ?_ (by assumption))))
  · rw [if_neg e]
    have e1 : ¬ id < 1 := by omega
    have e2 : ¬ 1000000 < id := by omega
    clear e
    go_enter Tryd.func16, Tryd.ntmps16
    go_wp2_with fail
    refine (HL.out _ (HE.out.bl (by repeat (first | assumption | exact Bl.refl _ | apply Bl.drewN | apply Bl.drew | apply Bl.alloc | (refine Bl.dr ?_ (by assumption)) | (refine Bl.trans ?_ (by assumption)))))).mono ?_; rintro e w1 ⟨rfl, hb1⟩
    go_wp2_with fail
    go_ret2
    exact rb_tuple rfl rfl (by repeat (first | assumption | exact Bl.refl _ | apply Bl.drewN | apply Bl.drew | apply Bl.alloc | (refine Bl.dr ?_ (by assumption)) | (refine Bl.trans ?_ (by assumption))))

set_option maxRecDepth 100000 in
set_option maxHeartbeats 1000000 in
theorem runAsked (a : Option Addr) (c : Nat) (r : Rn) (k : ByteArray) (g : Nat) (w : World) (h : ROk w a c r) (hk : k.size ≤ maxLen)
    (h0 : w.cell? ⟨g, 0, none⟩ = some (.int .i64 r.id)) (h1 : w.cell? ⟨g, 1, none⟩ = some (.slice a r.es.length c)) :
    Calls Tryd.prog 13 #[.pointer (some ⟨g, 0, none⟩), .string k] w (RB w (.int .i64 (rask r k))) := by
  have hC := fun w h => runCheck a c r w h
  have hK := fun w => keysCheck k w hk
  have HF := Lib.hid h
  unfold rask
  by_cases e : (rck r).2 = 0
  · rw [if_neg (by simp [e])]
    have e' : ((rck r).2 != 0) = false := by simp [e]
    generalize (rck r).1 = q0 at *
    generalize (rck r).2 = q1 at *
    generalize kchk k = q2 at *
    obtain ⟨id, l⟩ := r
    unfold Rn.v at hC
    simp only at hC h0 h1
    have HC := Lib.hid hC
    have HK := Lib.hid hK
    clear hC hK e h
    go_enter Tryd.func13, Tryd.ntmps13
    go_wp2_with fail
    refine (HC.out _ HF.out).mono ?_; rintro e w1 ⟨rfl, hb1⟩
    go_wp2_with fail
    refine (HK.out _).mono ?_; rintro e w' ⟨rfl, n1, rfl⟩
    go_wp2_with fail
    go_ret
    exact RB.mk rfl (by repeat (first | assumption | exact Bl.refl _ | apply Bl.drewN | apply Bl.drew | apply Bl.alloc | (refine Bl.dr ?_ (by assumption)) | (refine Bl.trans ?_ (by assumption))))
  · rw [if_pos e]
    have e' : ((rck r).2 != 0) = true := by simp [e]
    generalize (rck r).1 = q0 at *
    generalize (rck r).2 = q1 at *
    obtain ⟨id, l⟩ := r
    unfold Rn.v at hC
    simp only at hC h0 h1
    have HC := Lib.hid hC
    clear hC hK e h
    go_enter Tryd.func13, Tryd.ntmps13
    go_wp2_with fail
    refine (HC.out _ HF.out).mono ?_; rintro e w1 ⟨rfl, hb1⟩
    go_wp2_with fail
    go_ret
    exact RB.mk rfl (by repeat (first | assumption | exact Bl.refl _ | apply Bl.drewN | apply Bl.drew | apply Bl.alloc | (refine Bl.dr ?_ (by assumption)) | (refine Bl.trans ?_ (by assumption))))

/-- What at returns. -/
theorem runAt (a : Option Addr) (c : Nat) (l : List Ent) (i : Int) (w : World) (hl : Ents w a l) (hn : l.length ≤ maxLen) (h1 : -9223372036854775808 ≤ i) (h2 : i ≤ 9223372036854775807) :
    Calls Tryd.prog 15 #[.slice a l.length c, .int .i64 i] w (RB w (.tuple #[(atE l i).1.v, .int .i64 (atE l i).2])) := by
  unfold maxLen at hn
  by_cases e : i < 0 ∨ (l.length : Int) ≤ i
  · rw [atE_none e]
    unfold ent0 Ent.v
    rcases e with e | e
    · go_enter Tryd.func15, Tryd.ntmps15
      go_wp2_with fail
      
      refine bodyPost_ret (v := .tuple #[.agg #[.string mt, .string mt, .bool false, .int .i64 0], .int .i64 4]) (by simp [results, Tryd.results15, go_sem, *]) rfl ?_
      exact RB.mk rfl (by repeat (first | assumption | exact Bl.refl _ | apply Bl.drewN | apply Bl.drew | apply Bl.alloc | (refine Bl.setCell ?_ _ (by first | (simp; done) | (simp; omega)) _) | (refine Bl.dr ?_ (by assumption)) | (refine Bl.trans ?_ (by assumption))))
    · by_cases e' : i < 0
      · omega
      · go_enter Tryd.func15, Tryd.ntmps15
        go_wp2_with fail
        
        refine bodyPost_ret (v := .tuple #[.agg #[.string mt, .string mt, .bool false, .int .i64 0], .int .i64 4]) (by simp [results, Tryd.results15, go_sem, *]) rfl ?_
        exact RB.mk rfl (by repeat (first | assumption | exact Bl.refl _ | apply Bl.drewN | apply Bl.drew | apply Bl.alloc | (refine Bl.setCell ?_ _ (by first | (simp; done) | (simp; omega)) _) | (refine Bl.dr ?_ (by assumption)) | (refine Bl.trans ?_ (by assumption))))
  · obtain ⟨n, rfl⟩ := Int.eq_ofNat_of_zero_le (show 0 ≤ i by omega)
    have hi : n < l.length := by omega
    obtain ⟨b, off, rfl, hat⟩ := hl.get hi
    obtain ⟨x, hx⟩ : ∃ x, l[n]? = some x := ⟨_, List.getElem?_eq_getElem hi⟩
    obtain ⟨c0, c1, c2, c3⟩ := hat n x hx
    rw [atE_some hx]
    unfold Ent.v
    have hbz := (Bl.refl w).alloc (Obj.cells #[.string ⟨#[]⟩, .string ⟨#[]⟩, .bool false, .int .i64 0] 27)
    have d0 := hbz.cell c0
    have d1 := hbz.cell c1
    have d2 := hbz.cell c2
    have d3 := hbz.cell c3
    clear hat hx hl hbz
    go_enter Tryd.func15, Tryd.ntmps15
    go_wp2_with fail
    
    refine bodyPost_ret (v := .tuple #[.agg #[.string x.key, .string x.val, .bool x.dead, .int .i64 x.seq], .int .i64 0]) (by simp [results, Tryd.results15, go_sem, *]) rfl ?_
    exact RB.mk rfl (by repeat (first | assumption | exact Bl.refl _ | apply Bl.drewN | apply Bl.drew | apply Bl.alloc | (refine Bl.setCell ?_ _ (by first | (simp; done) | (simp; omega)) _) | (refine Bl.dr ?_ (by assumption)) | (refine Bl.trans ?_ (by assumption))))
end Go.Proofs.YtndcjgkgkpkklaaDoor
/-
  Contracts of the searches of a run.
-/
namespace Go.Proofs.YtndcjgkgkpkklaaDoor
open Go.RowKit
set_option linter.unusedSimpArgs false
set_option linter.unusedVariables false
set_option maxRecDepth 100000

set_option maxHeartbeats 1000000 in
theorem plainBelow (a : Option Addr) (c : Nat) (l : List Ent) (k : ByteArray) (w : World) (hl : Ents w a l) (hn : l.length ≤ maxLen) (ha : AscE l) :
    Calls Tryd.prog 68 #[.slice a l.length c, .string k] w (RB w (.int .i64 (cntLtE l k : Int))) := by
  unfold maxLen at hn
  obtain ⟨q, hq⟩ : ∃ q, cntLtE l k = q := ⟨_, rfl⟩
  rw [hq]
  have HQ := Lib.hid hq
  have HA := Lib.hid ha
  clear hq ha
  go_enter Tryd.func68, Tryd.ntmps68
  go_wp2_with fail
  go_loopg [5] l.length (fun g i wr => ∃ n : Nat, n ≤ l.length ∧ i = .int .i64 n ∧ (∀ j x, j < n → l[j]? = some x → slt x.key k = true) ∧ Bl w wr ∧ g = l.length - n)
  case atStart => exact ⟨0, by omega, rfl, by intro j x h; omega, Bl.refl _, rfl⟩
  case round =>
    obtain ⟨n, hn1, rfl, hc, hb, hg⟩ := hrel
    have H := Lib.hid hc
    have G := Lib.hid hg
    clear hc hg
    by_cases h1 : n < l.length
    · obtain ⟨b, off, rfl, hat⟩ := hl.get h1
      obtain ⟨x, hx⟩ : ∃ x, l[n]? = some x := ⟨_, List.getElem?_eq_getElem h1⟩
      have c0 := hb.cell (hat n x hx).key
      have X := Lib.hid hx
      have HL := Lib.hid hl
      clear hx hat hl
      cases hs : slt x.key k
      · have HS := Lib.hid hs
        clear hs
        have hs : Op.bytesLess x.key.toList k.toList = false := HS.out
        go_wp2_with fail
        go_ret
        refine RB.mk (ival ?_) (by repeat (first | assumption | exact Bl.refl _ | apply Bl.drewN | apply Bl.drew | apply Bl.alloc | (refine Bl.dr ?_ (by assumption)) | (refine Bl.trans ?_ (by assumption))))
        have := cntLtE_eq HA.out (k := k) hn1 H.out (fun y hy => by rw [X.out] at hy; injection hy with hy; rw [← hy]; exact HS.out)
        rw [HQ.out] at this; rw [this]
      · have HS := Lib.hid hs
        clear hs
        have hs : Op.bytesLess x.key.toList k.toList = true := HS.out
        go_wp2_with fail
        go_roundg (l.length - (n + 1))
        case rel =>
          refine ⟨n + 1, by omega, by go_num, fun j y hj hy => ?_, (by repeat (first | assumption | exact Bl.refl _ | apply Bl.drewN | apply Bl.drew | apply Bl.alloc | (refine Bl.dr ?_ (by assumption)) | (refine Bl.trans ?_ (by assumption)))), rfl⟩
          rcases Nat.lt_or_ge j n with h2 | h2
          · exact H.out j y h2 hy
          · have : j = n := by omega
            subst this; rw [X.out] at hy; injection hy with hy; rw [← hy]; exact HS.out
        case measure => rw [G.out]; omega
    · have hne : n = l.length := by omega
      go_wp2_with fail
      go_ret
      refine RB.mk (ival ?_) (by repeat (first | assumption | exact Bl.refl _ | apply Bl.drewN | apply Bl.drew | apply Bl.alloc | (refine Bl.dr ?_ (by assumption)) | (refine Bl.trans ?_ (by assumption))))
      have := cntLtE_eq HA.out (k := k) hn1 H.out (fun y hy => by rw [List.getElem?_eq_none (by omega)] at hy; cases hy)
      rw [HQ.out] at this; rw [this]

/-- What searched returns. -/
def plainV (a : Option Addr) (n c : Nat) : Value := .iface 58 (.slice a n c)
def fencedV (a : Option Addr) (n c : Nat) (a2 : Option Addr) (n2 c2 : Nat) : Value := .iface 63 (.agg #[.slice a n c, .int .i64 8, .slice a2 n2 c2])
def Srch (a : Option Addr) (c : Nat) (l : List Ent) (w : World) (v : Value) : Prop :=
  v = plainV a l.length c ∨ 8 < l.length ∧ ∃ a2 c2, v = fencedV a l.length c a2 (f8 l).marks.length c2 ∧ Strs w a2 (f8 l).marks

set_option maxHeartbeats 1000000 in
theorem runSearched (a : Option Addr) (c : Nat) (l : List Ent) (w : World) (hl : Ents w a l) (hn : l.length ≤ c) (hc : c ≤ maxLen) (hk : (clchk l).2 = 0) :
    Calls Tryd.prog 18 #[.slice a l.length c] w (RM w (Srch a c l)) := by
  have hM := fun w h => fenceMake a c l 8 w h hn hc (by omega) (by omega)
  rw [fmake8 hk] at hM
  have HM := Lib.hid hM
  have HE := Lib.hid hl
  clear hM hl hk
  unfold maxLen at hc
  by_cases h : l.length ≤ 8
  · go_enter Tryd.func18, Tryd.ntmps18
    go_wp2_with fail
    go_ret
    exact RM.mk (.inl rfl) (by repeat (first | assumption | exact Bl.refl _ | apply Bl.drewN | apply Bl.drew | apply Bl.alloc | (refine Bl.dr ?_ (by assumption)) | (refine Bl.trans ?_ (by assumption))))
  · go_enter Tryd.func18, Tryd.ntmps18
    go_wp2_with fail
    refine (HM.out _ (HE.out.bl (by repeat (first | assumption | exact Bl.refl _ | apply Bl.drewN | apply Bl.drew | apply Bl.alloc | (refine Bl.dr ?_ (by assumption)) | (refine Bl.trans ?_ (by assumption)))))).mono ?_; rintro e w1 ⟨v, rfl, ⟨a2, c2, rfl, hs, hc3, hc4⟩, hb1⟩
    unfold Fnc.v
    go_wp2_with fail
    go_ret
    exact RM.mk (.inr ⟨by omega, a2, c2, rfl, hs.bl (by repeat (first | assumption | exact Bl.refl _ | apply Bl.drewN | apply Bl.drew | apply Bl.alloc | (refine Bl.dr ?_ (by assumption)) | (refine Bl.trans ?_ (by assumption))))⟩) (by repeat (first | assumption | exact Bl.refl _ | apply Bl.drewN | apply Bl.drew | apply Bl.alloc | (refine Bl.dr ?_ (by assumption)) | (refine Bl.trans ?_ (by assumption))))

set_option maxHeartbeats 1000000 in
theorem fencedBelow (a : Option Addr) (c : Nat) (a2 : Option Addr) (c2 : Nat) (l : List Ent) (k : ByteArray) (w : World) (hl : Ents w a l) (hn : l.length ≤ c) (hc : c ≤ maxLen) (hk : (clchk l).2 = 0) (hks : k.size ≤ 32) (hm : Strs w a2 (f8 l).marks) (h8 : 8 < l.length) :
    Calls Tryd.prog 69 #[.agg #[.slice a l.length c, .int .i64 8, .slice a2 (f8 l).marks.length c2], .string k] w (RB w (.int .i64 (cntLtE l k : Int))) := by
  obtain ⟨fr, to, h1, h2, h3, h4⟩ := span8 hk hks
  obtain ⟨l1, l2, l3⟩ := clchk_ok hk
  have hfo : FOk w a2 (f8 l) := ⟨hm, by have := (f8_facts hk).2.2.2; omega, by show -9223372036854775808 ≤ (8:Int); omega, by show (8:Int) ≤ 9223372036854775807; omega⟩
  have hS := fun w h => fenceSpan a2 c2 (f8 l) l.length k w h (by unfold maxLen; omega) (by omega) (by omega)
  rw [h1] at hS
  unfold Fnc.v at hS
  have hst : (f8 l).step = 8 := rfl
  rw [hst] at hS
  generalize (f8 l).marks.length = mn at *
  have HF := Lib.hid hfo
  have HS := Lib.hid hS
  have HE := Lib.hid hl
  have H4 := Lib.hid h4
  clear hS hl h4 h1 hfo hm hk hst l2
  unfold maxLen at hc
  obtain ⟨b, off, rfl, hat⟩ := HE.out.get h8
  have hB := fun a cc w h => plainBelow a cc ((l.drop fr).take (to - fr)) k w h (by unfold maxLen; simp; omega) ((l3.drop).take)
  have hlen : ((l.drop fr).take (to - fr)).length = to - fr := by simp; omega
  rw [hlen] at hB
  have HB := Lib.hid hB
  have HC := Lib.hid (HE.out.cut fr to)
  have HZ : fr = to → ∀ W a', Ents W a' ((l.drop fr).take (to - fr)) := by
    intro h W a'; rw [h, Nat.sub_self]; exact ⟨by simp, fun h => absurd (by simp) h⟩
  have HZ := Lib.hid HZ
  clear hB hlen l3 hat
  go_enter Tryd.func69, Tryd.ntmps69
  go_wp2_with fail
  refine (HS.out _ (HF.out.bl (by repeat (first | assumption | exact Bl.refl _ | apply Bl.drewN | apply Bl.drew | apply Bl.alloc | (refine Bl.dr ?_ (by assumption)) | (refine Bl.trans ?_ (by assumption)))))).mono ?_; rintro e w1 ⟨rfl, hb1⟩
  have c0 : w1.cell? ⟨w.heap.size, 0, none⟩ = some (.slice (some ⟨b, off, none⟩) l.length c) := hb1.cell (by simp [go_sem])
  have hb : Bl w w1 := (by repeat (first | assumption | exact Bl.refl _ | apply Bl.drewN | apply Bl.drew | apply Bl.alloc | (refine Bl.dr ?_ (by assumption)) | (refine Bl.trans ?_ (by assumption))))
  clear hb1
  have hr := cntLtE_le ((l.drop fr).take (to - fr)) k
  have hr2 : cntLtE ((l.drop fr).take (to - fr)) k ≤ l.length := by simp at hr; omega
  clear hr
  generalize cntLtE ((l.drop fr).take (to - fr)) k = rr at *
  by_cases hcf : c = fr
  · have hz := HZ.out (by omega)
    go_wp2_with fail
    refine (HB.out _ _ _ (hz _ _)).mono ?_; rintro e w2 ⟨rfl, hb2⟩
    go_wp2_with fail
    go_ret
    exact RB.mk (ival (by rw [← H4.out]; omega)) (by repeat (first | assumption | exact Bl.refl _ | apply Bl.drewN | apply Bl.drew | apply Bl.alloc | (refine Bl.dr ?_ (by assumption)) | (refine Bl.trans ?_ (by assumption))))
  · go_wp2_with fail
    refine (HB.out _ _ _ (HC.out.bl (by repeat (first | assumption | exact Bl.refl _ | apply Bl.drewN | apply Bl.drew | apply Bl.alloc | (refine Bl.dr ?_ (by assumption)) | (refine Bl.trans ?_ (by assumption)))))).mono ?_; rintro e w2 ⟨rfl, hb2⟩
    go_wp2_with fail
    go_ret
    exact RB.mk (ival (by rw [← H4.out]; omega)) (by repeat (first | assumption | exact Bl.refl _ | apply Bl.drewN | apply Bl.drew | apply Bl.alloc | (refine Bl.dr ?_ (by assumption)) | (refine Bl.trans ?_ (by assumption))))

theorem meth_plain (a : Option Addr) (n c : Nat) (w : World) : (method 233 58 (.slice a n c) "bookend/runs.below").run Tryd.prog w = .ok (68, .slice a n c) w := by kernel_rfl
theorem meth_fenced (a : Option Addr) (n c : Nat) (a2 : Option Addr) (n2 c2 : Nat) (w : World) : (method 233 63 (.agg #[.slice a n c, .int .i64 8, .slice a2 n2 c2]) "bookend/runs.below").run Tryd.prog w = .ok (69, .agg #[.slice a n c, .int .i64 8, .slice a2 n2 c2]) w := by kernel_rfl

theorem asrt_plain (a : Option Addr) (n c : Nat) (w : World) : (Instr.typeAssert (.iface 58 (.slice a n c)) 50 63 true).run Tryd.prog w = .ok (.tuple #[.agg #[.slice none 0 0, .int .i64 0, .slice none 0 0], .bool false]) w := by kernel_rfl
theorem asrt_fenced (a : Option Addr) (n c : Nat) (a2 : Option Addr) (n2 c2 : Nat) (w : World) : (Instr.typeAssert (.iface 63 (.agg #[.slice a n c, .int .i64 8, .slice a2 n2 c2])) 50 63 true).run Tryd.prog w = .ok (.tuple #[.agg #[.slice a n c, .int .i64 8, .slice a2 n2 c2], .bool true]) w := by kernel_rfl

set_option maxHeartbeats 1000000 in
theorem runAround (a : Option Addr) (c : Nat) (l : List Ent) (k : ByteArray) (w : World) (hl : Ents w a l) (hn : l.length ≤ c) (hc : c ≤ maxLen) (hk : (clchk l).2 = 0) (hks : k.size ≤ 32) :
    Calls Tryd.prog 14 #[.slice a l.length c, .string k] w (RB w (.tuple #[.int .i64 (cntLtE l k : Int), .bool (hasK l k)])) := by
  have hS := fun w h => runSearched a c l w h hn hc hk
  have hP := fun w h => plainBelow a c l k w h (by omega) (clchk_ok hk).2.2
  have hF := fun a2 c2 w h hm h8 => fencedBelow a c a2 c2 l k w h hn hc hk hks hm h8
  have HE := Lib.hid hl
  have HS := Lib.hid hS
  have HP := Lib.hid hP
  have HF := Lib.hid hF
  unfold maxLen at hc
  clear hS hP hF hl
  have hq := cntLtE_le l k
  have hh : hasK l k = (match l[cntLtE l k]? with | some x => x.key.toList == k.toList | none => false) := rfl
  rw [hh]
  generalize cntLtE l k = q at *
  have HH := Lib.hid hh
  clear hh
  by_cases hql : q < l.length
  · obtain ⟨b, off, rfl, hat⟩ := HE.out.get hql
    obtain ⟨x, hx⟩ : ∃ x, l[q]? = some x := ⟨_, List.getElem?_eq_getElem hql⟩
    have c0 := (hat q x hx).key
    rw [hx]
    simp only
    clear hat hx
    go_enter Tryd.func14, Tryd.ntmps14
    go_wp2_with fail
    refine (HS.out _ (HE.out.bl (by repeat (first | assumption | exact Bl.refl _ | apply Bl.drewN | apply Bl.drew | apply Bl.alloc | (refine Bl.dr ?_ (by assumption)) | (refine Bl.trans ?_ (by assumption)))))).mono ?_; rintro e w1 ⟨v, rfl, hs, hb1⟩
    rcases hs with rfl | ⟨h8, a2, c2, rfl, hm⟩
    · unfold plainV
      have hm := fun w => meth_plain (some ⟨b, off, none⟩) l.length c w
      have ht := fun w => asrt_plain (some ⟨b, off, none⟩) l.length c w
      go_wp2_with fail
      refine (HP.out _ (HE.out.bl (by repeat (first | assumption | exact Bl.refl _ | apply Bl.drewN | apply Bl.drew | apply Bl.alloc | (refine Bl.dr ?_ (by assumption)) | (refine Bl.trans ?_ (by assumption)))))).mono ?_; rintro e w2 ⟨rfl, hb2⟩
      have hb : Bl w w2 := (by repeat (first | assumption | exact Bl.refl _ | apply Bl.drewN | apply Bl.drew | apply Bl.alloc | (refine Bl.dr ?_ (by assumption)) | (refine Bl.trans ?_ (by assumption))))
      have d0 := (hb.alloc (Obj.cells #[.slice none 0 0, .int .i64 0, .slice none 0 0] 63)).cell c0
      go_wp2_with fail
      go_quiet (fail)
      go_wp2_with fail
      go_ret2
      exact rb_tuple rfl rfl (by repeat (first | assumption | exact Bl.refl _ | apply Bl.drewN | apply Bl.drew | apply Bl.alloc | (refine Bl.dr ?_ (by assumption)) | (refine Bl.trans ?_ (by assumption))))
    · unfold fencedV
      have hme := fun w => meth_fenced (some ⟨b, off, none⟩) l.length c a2 (f8 l).marks.length c2 w
      have ht := fun w => asrt_fenced (some ⟨b, off, none⟩) l.length c a2 (f8 l).marks.length c2 w
      go_wp2_with fail
      refine (HF.out _ _ _ (HE.out.bl (by repeat (first | assumption | exact Bl.refl _ | apply Bl.drewN | apply Bl.drew | apply Bl.alloc | (refine Bl.dr ?_ (by assumption)) | (refine Bl.trans ?_ (by assumption))))) (hm.bl (by repeat (first | assumption | exact Bl.refl _ | apply Bl.drewN | apply Bl.drew | apply Bl.alloc | (refine Bl.dr ?_ (by assumption)) | (refine Bl.trans ?_ (by assumption))))) h8).mono ?_; rintro e w2 ⟨rfl, hb2⟩
      have hb : Bl w w2 := (by repeat (first | assumption | exact Bl.refl _ | apply Bl.drewN | apply Bl.drew | apply Bl.alloc | (refine Bl.dr ?_ (by assumption)) | (refine Bl.trans ?_ (by assumption))))
      have d0 := (hb.alloc (Obj.cells #[.slice (some ⟨b, off, none⟩) l.length c, .int .i64 8, .slice a2 (f8 l).marks.length c2] 63)).cell c0
      go_wp2_with fail
      go_quiet (fail)
      go_wp2_with fail
      go_ret2
      exact rb_tuple rfl rfl (by repeat (first | assumption | exact Bl.refl _ | apply Bl.drewN | apply Bl.drew | apply Bl.alloc | (refine Bl.dr ?_ (by assumption)) | (refine Bl.trans ?_ (by assumption))))
  · have hx : l[q]? = none := List.getElem?_eq_none (by omega)
    rw [hx]
    simp only
    clear hx
    go_enter Tryd.func14, Tryd.ntmps14
    go_wp2_with fail
    refine (HS.out _ (HE.out.bl (by repeat (first | assumption | exact Bl.refl _ | apply Bl.drewN | apply Bl.drew | apply Bl.alloc | (refine Bl.dr ?_ (by assumption)) | (refine Bl.trans ?_ (by assumption)))))).mono ?_; rintro e w1 ⟨v, rfl, hs, hb1⟩
    rcases hs with rfl | ⟨h8, a2, c2, rfl, hm⟩
    · unfold plainV
      have hm := fun w => meth_plain a l.length c w
      have ht := fun w => asrt_plain a l.length c w
      go_wp2_with fail
      refine (HP.out _ (HE.out.bl (by repeat (first | assumption | exact Bl.refl _ | apply Bl.drewN | apply Bl.drew | apply Bl.alloc | (refine Bl.dr ?_ (by assumption)) | (refine Bl.trans ?_ (by assumption)))))).mono ?_; rintro e w2 ⟨rfl, hb2⟩
      go_wp2_with fail
      go_quiet (fail)
      go_wp2_with fail
      go_ret2
      exact rb_tuple rfl rfl (by repeat (first | assumption | exact Bl.refl _ | apply Bl.drewN | apply Bl.drew | apply Bl.alloc | (refine Bl.dr ?_ (by assumption)) | (refine Bl.trans ?_ (by assumption))))
    · unfold fencedV
      have hme := fun w => meth_fenced a l.length c a2 (f8 l).marks.length c2 w
      have ht := fun w => asrt_fenced a l.length c a2 (f8 l).marks.length c2 w
      go_wp2_with fail
      refine (HF.out _ _ _ (HE.out.bl (by repeat (first | assumption | exact Bl.refl _ | apply Bl.drewN | apply Bl.drew | apply Bl.alloc | (refine Bl.dr ?_ (by assumption)) | (refine Bl.trans ?_ (by assumption))))) (hm.bl (by repeat (first | assumption | exact Bl.refl _ | apply Bl.drewN | apply Bl.drew | apply Bl.alloc | (refine Bl.dr ?_ (by assumption)) | (refine Bl.trans ?_ (by assumption))))) h8).mono ?_; rintro e w2 ⟨rfl, hb2⟩
      go_wp2_with fail
      go_quiet (fail)
      go_wp2_with fail
      go_ret2
      exact rb_tuple rfl rfl (by repeat (first | assumption | exact Bl.refl _ | apply Bl.drewN | apply Bl.drew | apply Bl.alloc | (refine Bl.dr ?_ (by assumption)) | (refine Bl.trans ?_ (by assumption))))
end Go.Proofs.YtndcjgkgkpkklaaDoor

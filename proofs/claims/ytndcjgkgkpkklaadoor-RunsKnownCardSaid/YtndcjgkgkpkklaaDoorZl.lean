/-
  Own texts laid together: WoL WoU Open Bld WoD WoE WoF.
-/
import Derived.Test.YtndcjgkgkpkklaaDoorZk
import Derived.Test.YtndcjgkgkpkklaaDoorShelf
import Derived.Shelf.Strings.SlTrimAscii
import Derived.Lib.SmallJoins
import Derived.Test.YtndcjgkgkpkklaaDoorRows
import Derived.Lib.LaidU8
import Derived.Lay
import Derived.Test.YtndcjgkgkpkklaaDoorZa
import Derived.ProofKit
import Derived.OpenShut
import Derived.ShutString
import Derived.ChangeOld
import Derived.Deep.Slices
import Derived.Deep.Fields
import Derived.SliceStrings
import Derived.Lib.ConvBytes
import Derived.BigCall
import Derived.Lib.AppendStr
import Derived.Deep.DeepCutAuto
import Derived.Deep.AppendLies
import Derived.Deep.RegionHeld3
/-
  Contracts of words: Name, Int, Digits.
-/
namespace Go.Proofs.YtndcjgkgkpkklaaDoor
open Go.RowKit
set_option linter.unusedSimpArgs false
set_option linter.unusedVariables false
set_option maxRecDepth 100000

theorem pow_gl : Tryd.prog.globalNamed "internal/strconv.uint64pow10" = some 1 := by kernel_rfl
theorem tab_bl {w w' : World} (h : Lib.TabIs Tryd.prog w "internal/strconv.uint64pow10" .u64 Lib.pow10Tab) (k : Bl w w') : Lib.TabIs Tryd.prog w' "internal/strconv.uint64pow10" .u64 Lib.pow10Tab :=
  Go.Joins.var_stays pow_gl h k (Nat.le_refl _)
theorem bl_grow (w : World) (os : Array Obj) : Bl w (Go.Sort.grow w os) := ⟨rfl, rfl, rfl, by simp [Go.Sort.grow], fun k hk => by simp [Go.Sort.grow, Array.getElem?_append_left hk]⟩
theorem bl_bytes (w : World) (t : ByteArray) : Bl w (Lib.bytesWorld w 5 t) := by
  exact ⟨rfl, rfl, rfl, by rw [Lib.bytesWorld_size]; omega, fun k hk => Lib.bytesWorld_at_old w _ t k hk⟩

theorem dw_nil {α : Type} (p : α → Bool) : ∀ l : List α, l.dropWhile p = [] ↔ ∀ c ∈ l, p c = true
  | [] => by simp
  | c :: l => by
    by_cases h : p c = true
    · simp [List.dropWhile_cons, h, dw_nil p l]
    · simp [List.dropWhile_cons, h]
theorem dw_head {α : Type} (p : α → Bool) : ∀ (l : List α) c r, l.dropWhile p = c :: r → p c = false
  | [], c, r, h => by simp at h
  | x :: l, c, r, h => by
    by_cases hx : p x = true
    · simp only [List.dropWhile_cons, hx, if_true] at h; exact dw_head p l c r h
    · simp only [List.dropWhile_cons, hx, if_false] at h
      injection h with h1 h2
      subst h1; simpa using hx
theorem trim_nil (l cs : List UInt8) : Lib.trimS l cs = [] ↔ ∀ c ∈ l, cs.contains c = true := by
  unfold Lib.trimS Lib.trimLeftS Lib.trimRightS
  rw [dw_nil]
  constructor
  · intro h c hc
    have h2 : l.reverse.dropWhile (cs.contains ·) = [] := by
      cases e : l.reverse.dropWhile (cs.contains ·) with
      | nil => rfl
      | cons x r =>
        have h3 := dw_head _ _ _ _ e
        have h4 := h x (by rw [e]; simp)
        rw [h3] at h4; cases h4
    rw [dw_nil] at h2
    exact h2 c (by simpa using hc)
  · intro h c hc
    have h2 : l.reverse.dropWhile (cs.contains ·) = [] := by rw [dw_nil]; intro x hx; exact h x (by simpa using hx)
    rw [h2] at hc; simp at hc
def lowB (c : UInt8) : Bool := decide (97 ≤ c.toNat) && decide (c.toNat ≤ 122)
def nchB (c : UInt8) : Bool := lowB c || digB c || c == 45
def nameB (l : List UInt8) : Bool := decide (1 ≤ l.length) && decide (l.length ≤ 16) && lowB (l.headD 0) && l.all nchB
abbrev nameSet : ByteArray := ⟨#[97, 98, 99, 100, 101, 102, 103, 104, 105, 106, 107, 108, 109, 110, 111, 112, 113, 114, 115, 116, 117, 118, 119, 120, 121, 122, 48, 49, 50, 51, 52, 53, 54, 55, 56, 57, 45]⟩
abbrev digSet : ByteArray := ⟨#[48, 49, 50, 51, 52, 53, 54, 55, 56, 57]⟩
theorem nameSet_is : ∀ c : UInt8, nameSet.data.toList.contains c = nchB c := byte_all (by decide +kernel)
theorem digSet_is : ∀ c : UInt8, digSet.data.toList.contains c = digB c := byte_all (by decide +kernel)
theorem trim_name (l : List UInt8) : (Lib.trimS l nameSet.data.toList).isEmpty = l.all nchB := by
  rw [Bool.eq_iff_iff, List.isEmpty_iff, trim_nil, List.all_eq_true]
  exact ⟨fun h c hc => (nameSet_is c).symm.trans (h c hc), fun h c hc => (nameSet_is c).trans (h c hc)⟩
theorem trim_dig (l : List UInt8) : (Lib.trimS l digSet.data.toList).isEmpty = l.all digB := by
  rw [Bool.eq_iff_iff, List.isEmpty_iff, trim_nil, List.all_eq_true]
  exact ⟨fun h c hc => (digSet_is c).symm.trans (h c hc), fun h c hc => (digSet_is c).trans (h c hc)⟩
theorem empty_toL (l : List UInt8) : (⟨l.toArray⟩ : ByteArray).toList.isEmpty = l.isEmpty := by rw [toL]
theorem str_empty {s : ByteArray} (h : s.size = 0) : s = ⟨#[]⟩ := by apply ByteArray.ext; exact Array.eq_empty_of_size_eq_zero h
theorem str_ne {s : ByteArray} (h : 0 < s.size) : s.toList.isEmpty = false := by
  rw [toL]
  cases e : s.data.toList with
  | nil => exact absurd (by have := congrArg List.length e; simpa using this) (Nat.ne_of_gt h)
  | cons _ _ => rfl
theorem headD_at {s : ByteArray} (h : 0 < s.size) : s.data.toList.headD 0 = s[0]'h := by
  have := str_get h
  cases e : s.data.toList with
  | nil => rw [e] at this; cases this
  | cons c r => rw [e] at this; simpa using this
theorem same_sym' {P : Program} {f : FuncId} {args : Array Value} {w : World} {v : Value} (h : Calls P f args w fun e w' => e = .returned v ∧ w' = w) : Calls P f args w fun e w' => e = .returned v ∧ w = w' :=
  h.mono fun _ _ ⟨he, hw⟩ => ⟨he, hw.symm⟩
/-! ### Decimal forms -/
def unsgn (l : List UInt8) : List UInt8 := if l.head? = some 45 then l.drop 1 else l
theorem pfx_is (l : List UInt8) : Lib.trimPrefix l [45] = unsgn l := by
  unfold Lib.trimPrefix unsgn Lib.hasPrefix
  cases l with
  | nil => rfl
  | cons c r =>
    by_cases h : c = 45
    · subst h; simp [List.isPrefixOf]
    · have h' : ¬ 45 = c := fun e => h e.symm
      simp [List.isPrefixOf, h, h']
theorem isDec_is (l : List UInt8) : isDec l = (!(unsgn l).isEmpty && (unsgn l).all digB && ((unsgn l).headD 0 != 48 || l == [48])) := by
  unfold unsgn
  cases l with
  | nil => rfl
  | cons c r =>
    simp only [isDec, List.head?_cons, Option.some.injEq]
    by_cases h : c = 45
    · subst h
      simp only [if_true, List.drop_succ_cons, List.drop_zero]
      unfold isNat
      cases r with
      | nil => rfl
      | cons d r =>
        rw [Bool.eq_iff_iff]
        simp
        constructor
        · rintro ⟨⟨h1, h2⟩, h3⟩
          refine ⟨h1, ?_⟩
          rcases h2 with h2 | h2
          · exact h2
          · exact fun e => h3 e h2.2
        · rintro ⟨h1, h2⟩
          exact ⟨⟨h1, .inl h2⟩, fun e => absurd e h2⟩
    · simp only [if_neg h]
      unfold isNat
      rw [Bool.eq_iff_iff]
      simp
def inI64 (v : Int) : Bool := decide (-9223372036854775808 ≤ v) && decide (v ≤ 9223372036854775807)
def wint (l : List UInt8) (low high : Int) : Int × Int := if isDec l = true then (if (inI64 (intV l) && decide (low ≤ intV l) && decide (intV l ≤ high)) = true then (intV l, 0) else (0, 7)) else (0, 6)
theorem unsgn_len (l : List UInt8) : (unsgn l).length ≤ l.length := by unfold unsgn; split <;> simp
def AnErr (w : World) (e : Ending) (w' : World) : Prop := ∃ (v : Int) (t : TypeId) (N : Nat), e = .returned (.tuple #[.int .i64 v, .iface t (.pointer (some ⟨N, 0, none⟩))]) ∧ Bl w w'
end Go.Proofs.YtndcjgkgkpkklaaDoor
/-
  What words asks of the world, from what the card lays.
-/
namespace Go.Proofs.YtndcjgkgkpkklaaDoor
open Go.RowKit
set_option linter.unusedSimpArgs false
set_option linter.unusedVariables false
set_option maxRecDepth 100000

theorem pow_eq : (Rows.laid_internal_strconv_uint64pow10 : DataW Unit) = Lib.tabData .u64 Lib.pow10Tab := by kernel_rfl
theorem tab_of_reads {P : Program} {W : World} {name : String} {k : IntKind} {zs : List Int} {g : Nat} {t e : TypeId} {n : Nat}
    (hg : P.globalNamed name = some g) (hty : (P.globals[g]?).map (·.type) = some t) (ht : P.underlying t = some (.array n e)) (he : P.underlying e = some (.int k)) (hce : P.cellsOf e = 1) (hct : P.cellsOf t = n)
    (h : Lib.VarReads P W name (Lib.tabData k zs)) : Lib.TabIs P W name k zs := by
  obtain ⟨g', t', cs, fuel, p, hg', ht', hvar, hd⟩ := h
  obtain rfl := Option.some.inj (hg.symm.trans hg')
  obtain rfl := Option.some.inj (hty.symm.trans ht')
  unfold Lib.TabIs
  rw [hvar, ← Lib.cells_of_tab ht he hce hct hd]
theorem pow_of_reads {W : World} (h : Lib.VarReads Tryd.prog W "internal/strconv.uint64pow10" Rows.laid_internal_strconv_uint64pow10) : Lib.TabIs Tryd.prog W "internal/strconv.uint64pow10" .u64 Lib.pow10Tab :=
  tab_of_reads (g := 1) (t := 104) (e := 97) (n := 20) (by kernel_rfl) (by kernel_rfl) Tryd.underlying104 Tryd.underlying97 (by kernel_rfl) (by kernel_rfl) (pow_eq ▸ h)
theorem esc_of_reads {W : World} (h : Lib.VarReads Tryd.prog W "bookend/words.escapes" Rows.laid_bookend_words_escapes) : EscTab W := by
  obtain ⟨g, t, cs, fuel, p, hg, hty, hvar, hd⟩ := h
  obtain rfl := Option.some.inj ((show Tryd.prog.globalNamed "bookend/words.escapes" = some 0 by kernel_rfl).symm.trans hg)
  obtain rfl := Option.some.inj ((show (Tryd.prog.globals[0]?).map (·.type) = some 94 by kernel_rfl).symm.trans hty)
  have hc2 : Tryd.prog.cellsOf 93 = 2 := by kernel_rfl
  have hc1 : Tryd.prog.cellsOf 5 = 1 := by kernel_rfl
  have key : ∀ i, i < 5 → W.cell? ⟨0, 2 * i, none⟩ = some (.int .u8 ((escL.getD (2 * i) 0 : Nat) : Int)) ∧ W.cell? ⟨0, 2 * i + 1, none⟩ = some (.int .u8 ((escL.getD (2 * i + 1) 0 : Nat) : Int)) := by
    intro i hi
    obtain ⟨fuel', d, q, hdi, he⟩ := Lib.array_elem Tryd.underlying94 hd i hi
    have hd2 : d = .agg ([((escL.getD (2 * i) 0 : Nat) : Int), ((escL.getD (2 * i + 1) 0 : Nat) : Int)].map fun z => .lit (.int .u8 z)) := by
      match i, hi, hdi with
      | 0, _, hdi => exact (Option.some.inj hdi).symm
      | 1, _, hdi => exact (Option.some.inj hdi).symm
      | 2, _, hdi => exact (Option.some.inj hdi).symm
      | 3, _, hdi => exact (Option.some.inj hdi).symm
      | 4, _, hdi => exact (Option.some.inj hdi).symm
    subst hd2
    rw [hc2] at he
    have hcs := Lib.ints_of_struct Tryd.underlying93 (fun j f hj => by
      match j, hj with
      | 0, hj => simp at hj; subst hj; exact ⟨Tryd.underlying5, rfl, hc1⟩
      | 1, hj => simp at hj; subst hj; exact ⟨Tryd.underlying5, rfl, hc1⟩
      | j + 2, hj => simp at hj) (by rw [hc2]; rfl) he
    have e0 := congrArg (·[0]?) hcs
    have e1 := congrArg (·[1]?) hcs
    simp only [List.getElem?_take, List.getElem?_drop] at e0 e1
    constructor
    · rw [World.var?_cell hg hvar (2 * i), ← Array.getElem?_toList]
      simpa [Nat.mul_comm] using e0
    · rw [World.var?_cell hg hvar (2 * i + 1), ← Array.getElem?_toList]
      simpa [Nat.mul_comm] using e1
  refine ⟨fun i hi => ?_⟩
  obtain ⟨h1, h2⟩ := key (i / 2) (by omega)
  rcases (by omega : i = 2 * (i / 2) ∨ i = 2 * (i / 2) + 1) with e | e
  · rw [e]; exact h1
  · rw [e]; exact h2
end Go.Proofs.YtndcjgkgkpkklaaDoor
/-
  Arguments opened: a list of entries, a list of strings, a fence, a range.
-/
namespace Go.Proofs.YtndcjgkgkpkklaaDoor
open Go.RowKit Go.ChangeShapes Go.WideShapes Go.Deep Go.Joins
set_option linter.unusedSimpArgs false
set_option linter.unusedVariables false
set_option maxRecDepth 100000

theorem list_of {α : Type} (Q : Nat → α → Prop) : ∀ (n : Nat), (∀ i, i < n → ∃ x, Q i x) → ∃ l : List α, l.length = n ∧ ∀ i x, l[i]? = some x → Q i x
  | 0, _ => ⟨[], rfl, by simp⟩
  | n + 1, h => by
    obtain ⟨l, hl, hq⟩ := list_of Q n (fun i hi => h i (by omega))
    obtain ⟨x, hx⟩ := h n (by omega)
    refine ⟨l ++ [x], by simp [hl], fun i y hy => ?_⟩
    rcases Nat.lt_or_ge i n with hi | hi
    · rw [List.getElem?_append_left (by omega)] at hy; exact hq i y hy
    · have : i = n := by
        have := (List.getElem?_eq_some_iff.1 hy).1; simp at this; omega
      subst this
      rw [List.getElem?_append_right (by omega)] at hy
      simp [hl] at hy; subst hy; exact hx
theorem addr_add (b off i : Nat) : ({ block := b, off := off, spot := none } : Addr).add i = ⟨b, off + i, none⟩ := by
  unfold Addr.add; split <;> simp_all

section
variable {H : Type} {enc : TypeId × Value → H} {w : World}
theorem ent_fields : ∃ f0 f1 f2 f3 : Field, Tryd.prog.underlying 27 = some (.struct #[f0, f1, f2, f3]) ∧ oneCellFields Tryd.prog #[f0, f1, f2, f3] = true ∧ f0.type = 9 ∧ f1.type = 9 ∧ f2.type = 4 ∧ f3.type = 2 :=
  ⟨_, _, _, _, Tryd.underlying27, by kernel_rfl, rfl, rfl, rfl, rfl⟩
/-- A list of entries that came in. -/
theorem open_ents {fuel : Nat} {cs : List Value} {x : DataW H × List MemPlace} (h : DataW.trod enc Tryd.prog w 0 (fun _ => true) true fuel 22 cs = some x) :
    ∃ a c l, cs = [.slice a l.length c] ∧ Ents w a l ∧ l.length ≤ c ∧ c ≤ maxLen := by
  rcases open_slice Tryd.underlying22 h with ⟨rfl, _⟩ | ⟨a, len, cap, m, n, D, Pl, rfl, _, hl, hm, hmm, _, hi⟩
  · exact ⟨none, 0, [], rfl, ⟨by simp, fun h => absurd rfl h⟩, Nat.le_refl _, by unfold maxLen; omega⟩
  · have hm' : m = cap := by simpa using hmm
    rw [show Tryd.prog.cellsOf 27 = 4 by kernel_rfl] at hi
    have each : ∀ i, i < len → ∃ y : Ent, y.ok ∧ w.cell? (a.add (i * 4)) = some (.string y.key) ∧ w.cell? (a.add (i * 4 + 1)) = some (.string y.val) ∧ w.cell? (a.add (i * 4 + 2)) = some (.bool y.dead) ∧ w.cell? (a.add (i * 4 + 3)) = some (.int .i64 y.seq) := by
      intro i hlt
      obtain ⟨cs', hc, ht⟩ := hi i (by omega)
      obtain ⟨_, hcl, hat⟩ := World.cells?_some hc
      obtain ⟨F0, F1, F2, F3, hund, hone, t0, t1, t2, t3⟩ := ent_fields
      obtain ⟨ys, n', _, _, _, hyl, hf⟩ := DataW.trod_struct hund ht
      match cs', hcl with
      | [v0, v1, v2, v3], _ =>
        match ys, hyl with
        | [y0, y1, y2, y3], _ =>
          have f0 := hf 0 F0 rfl
          have f1 := hf 1 F1 rfl
          have f2 := hf 2 F2 rfl
          have f3 := hf 3 F3 rfl
          have hone := hone_of hone
          obtain ⟨o0, k0⟩ := hone 0 F0 rfl
          obtain ⟨o1, k1⟩ := hone 1 F1 rfl
          obtain ⟨o2, k2⟩ := hone 2 F2 rfl
          obtain ⟨o3, k3⟩ := hone 3 F3 rfl
          rw [o0, k0, t0] at f0
          rw [o1, k1, t1] at f1
          rw [o2, k2, t2] at f2
          rw [o3, k3, t3] at f3
          obtain ⟨s0, e0, _, h0⟩ := DataW.trod_string Tryd.underlying9 f0
          obtain ⟨s1, e1, _, h1⟩ := DataW.trod_string Tryd.underlying9 f1
          obtain ⟨s2, e2, _⟩ := DataW.trod_bool Tryd.underlying4 f2
          obtain ⟨s3, e3, _, h3⟩ := DataW.trod_int Tryd.underlying2 f3
          simp at e0 e1 e2 e3
          subst e0 e1 e2 e3
          simp [Lit.wf, IntKind.min, IntKind.max, IntKind.signed, IntKind.bits] at h3
          have g0 := hat 0 (by omega)
          have g1 := hat 1 (by omega)
          have g2 := hat 2 (by omega)
          have g3 := hat 3 (by omega)
          rw [Go.Deep.add_add] at g0 g1 g2 g3
          exact ⟨⟨s0, s1, s2, s3⟩, ⟨h0, h1, (show -9223372036854775808 ≤ s3 by omega), (show s3 ≤ 9223372036854775807 by omega)⟩, g0, g1, g2, g3⟩
    rcases Nat.eq_zero_or_pos len with hz | hpos
    · subst hz
      exact ⟨some a, cap, [], rfl, ⟨by simp, fun h => absurd rfl h⟩, by simp, hm⟩
    have hs : a.spot = none := by
      obtain ⟨y, _, g, _⟩ := each 0 hpos
      have := World.cell?_spot g
      simpa [Addr.add] using this
    obtain ⟨b, o, s⟩ := a
    simp only at hs; subst hs
    simp only [addr_add] at each
    obtain ⟨l, hll, hlq⟩ := list_of _ len each
    refine ⟨some ⟨b, o, none⟩, cap, l, by rw [hll], ⟨fun y hy => ?_, fun hn => ?_⟩, by omega, hm⟩
    · obtain ⟨i, hi, rfl⟩ := List.getElem_of_mem hy
      exact (hlq i _ (List.getElem?_eq_getElem hi)).1
    · refine ⟨b, o, rfl, fun i y hy => ?_⟩
      obtain ⟨_, g0, g1, g2, g3⟩ := hlq i y hy
      exact ⟨g0, by rw [Nat.add_assoc]; exact g1, by rw [Nat.add_assoc]; exact g2, by rw [Nat.add_assoc]; exact g3⟩

/-- A list of strings that came in. -/
theorem open_strs' {fuel : Nat} {cs : List Value} {x : DataW H × List MemPlace} (h : DataW.trod enc Tryd.prog w 0 (fun _ => true) true fuel 59 cs = some x) :
    ∃ a c l, cs = [.slice a l.length c] ∧ Strs w a l ∧ l.length ≤ c ∧ c ≤ maxLen := by
  rcases open_strings Tryd.underlying59 Tryd.underlying9 (by kernel_rfl) h with ⟨rfl, _⟩ | ⟨a, len, cap, ss, rfl, _, hl, hm, hss, _, hcell, hws⟩
  · exact ⟨none, 0, [], rfl, ⟨by simp, fun h => absurd rfl h⟩, Nat.le_refl _, by unfold maxLen; omega⟩
  · have hss' : ss.length = cap := by simpa using hss
    rcases Nat.eq_zero_or_pos len with hz | hpos
    · subst hz
      exact ⟨some a, cap, [], rfl, ⟨by simp, fun h => absurd rfl h⟩, by simp, hm⟩
    have hs : a.spot = none := by
      have := World.cell?_spot (hcell 0 (by omega))
      simpa [Addr.add] using this
    obtain ⟨b, o, s⟩ := a
    simp only at hs; subst hs
    simp only [addr_add] at hcell
    refine ⟨some ⟨b, o, none⟩, cap, ss.take len, by rw [List.length_take, Nat.min_eq_left (by omega)], ⟨fun y hy => hws y (List.mem_of_mem_take hy), fun hn => ?_⟩, by simp; omega, hm⟩
    refine ⟨b, o, rfl, fun i y hy => ?_⟩
    have hi : i < len := by have := (List.getElem?_eq_some_iff.1 hy).1; simp at this; omega
    rw [List.getElem?_take_of_lt hi] at hy
    have := hcell i (by omega)
    rw [this]; simp [List.getD, hy]

/-- What a list of entries is behind its opening, as the row gives it. -/
theorem arg_ents {base : Nat} {v : Value} {d : DataW H} {p : List MemPlace} (hv : Value.okWide Tryd.prog w .any base 22 v) (h : DataW.Trod enc Tryd.prog w 0 (fun _ => true) true 22 v d p) :
    ∃ a c l, v = .slice a l.length c ∧ Ents w a l ∧ l.length ≤ c ∧ c ≤ maxLen := by
  obtain ⟨a, n, c, rfl⟩ := okWide_slice Tryd.underlying22 hv
  obtain ⟨fuel, hf⟩ := h
  obtain ⟨a', c', l, h1, h2, h3, h4⟩ := open_ents hf
  simp [Value.cells] at h1
  obtain ⟨rfl, rfl, rfl⟩ := h1
  exact ⟨_, _, l, rfl, h2, h3, h4⟩
/-- A fence. -/
theorem arg_fence {base : Nat} {v : Value} {d : DataW H} {p : List MemPlace} (hv : Value.okWide Tryd.prog w .any base 61 v) (h : DataW.Trod enc Tryd.prog w 0 (fun _ => true) true 61 v d p) :
    ∃ a c s, ∃ l : List ByteArray, v = .agg #[.int .i64 s, .slice a l.length c] ∧ -9223372036854775808 ≤ s ∧ s ≤ 9223372036854775807 ∧ Strs w a l ∧ l.length ≤ c ∧ c ≤ maxLen := by
  have ff : ∃ f0 f1 : Field, Tryd.prog.underlying 61 = some (.struct #[f0, f1]) ∧ oneCellFields Tryd.prog #[f0, f1] = true ∧ f0.type = 3 ∧ f1.type = 59 := ⟨_, _, Tryd.underlying61, by kernel_rfl, rfl, rfl⟩
  obtain ⟨F0, F1, hund, hone, t0, t1⟩ := ff
  obtain ⟨v0, v1, y0, y1, n, rfl, _, _, h0, h1⟩ := open_agg2 hund hone (by kernel_rfl) hv h
  rw [t0] at h0; rw [t1] at h1
  obtain ⟨s, e0, _, b⟩ := DataW.trod_int Tryd.underlying3 h0
  simp at e0; subst e0
  obtain ⟨a, c, l, e1, g⟩ := open_strs' h1
  simp at e1; subst e1
  simp [Lit.wf, IntKind.min, IntKind.max, IntKind.signed, IntKind.bits] at b
  exact ⟨a, c, s, l, rfl, by omega, by omega, g⟩
/-- A run. -/
theorem arg_run {base : Nat} {v : Value} {d : DataW H} {p : List MemPlace} (hv : Value.okWide Tryd.prog w .any base 24 v) (h : DataW.Trod enc Tryd.prog w 0 (fun _ => true) true 24 v d p) :
    ∃ a c s, ∃ l : List Ent, v = .agg #[.int .i64 s, .slice a l.length c] ∧ -9223372036854775808 ≤ s ∧ s ≤ 9223372036854775807 ∧ Ents w a l ∧ l.length ≤ c ∧ c ≤ maxLen := by
  have ff : ∃ f0 f1 : Field, Tryd.prog.underlying 24 = some (.struct #[f0, f1]) ∧ oneCellFields Tryd.prog #[f0, f1] = true ∧ f0.type = 3 ∧ f1.type = 22 := ⟨_, _, Tryd.underlying24, by kernel_rfl, rfl, rfl⟩
  obtain ⟨F0, F1, hund, hone, t0, t1⟩ := ff
  obtain ⟨v0, v1, y0, y1, n, rfl, _, _, h0, h1⟩ := open_agg2 hund hone (by kernel_rfl) hv h
  rw [t0] at h0; rw [t1] at h1
  obtain ⟨s, e0, _, b⟩ := DataW.trod_int Tryd.underlying3 h0
  simp at e0; subst e0
  obtain ⟨a, c, l, e1, g⟩ := open_ents h1
  simp at e1; subst e1
  simp [Lit.wf, IntKind.min, IntKind.max, IntKind.signed, IntKind.bits] at b
  exact ⟨a, c, s, l, rfl, by omega, by omega, g⟩
/-- A range of keys. -/
theorem arg_range {base : Nat} {v : Value} {d : DataW H} {p : List MemPlace} (hv : Value.okWide Tryd.prog w .any base 33 v) (h : DataW.Trod enc Tryd.prog w 0 (fun _ => true) true 33 v d p) :
    ∃ lo hi b, v = .agg #[.string lo, .string hi, .bool b] ∧ lo.size ≤ maxLen ∧ hi.size ≤ maxLen := by
  have ff : ∃ f0 f1 f2 : Field, Tryd.prog.underlying 33 = some (.struct #[f0, f1, f2]) ∧ oneCellFields Tryd.prog #[f0, f1, f2] = true ∧ f0.type = 9 ∧ f1.type = 9 ∧ f2.type = 4 := ⟨_, _, _, Tryd.underlying33, by kernel_rfl, rfl, rfl, rfl⟩
  obtain ⟨F0, F1, F2, hund, hone, t0, t1, t2⟩ := ff
  obtain ⟨v0, v1, v2, y0, y1, y2, n, rfl, _, _, h0, h1, h2⟩ := open_agg3 hund hone (by kernel_rfl) hv h
  rw [t0] at h0; rw [t1] at h1; rw [t2] at h2
  obtain ⟨s0, e0, _, b0⟩ := DataW.trod_string Tryd.underlying9 h0
  obtain ⟨s1, e1, _, b1⟩ := DataW.trod_string Tryd.underlying9 h1
  obtain ⟨s2, e2, _⟩ := DataW.trod_bool Tryd.underlying4 h2
  simp at e0 e1 e2; subst e0 e1 e2
  exact ⟨s0, s1, s2, rfl, b0, b1⟩
/-- A string. -/
theorem arg_string {base : Nat} {v : Value} {d : DataW H} {p : List MemPlace} (hv : Value.okWide Tryd.prog w .any base 9 v) (h : DataW.Trod enc Tryd.prog w 0 (fun _ => true) true 9 v d p) :
    ∃ s, v = .string s ∧ s.size ≤ maxLen := by
  obtain ⟨s, e, _, _, b⟩ := Go.ChangeMaps.open_string Tryd.underlying9 hv h
  exact ⟨s, e, b⟩
/-- An int. -/
theorem arg_int {base : Nat} {v : Value} {d : DataW H} {p : List MemPlace} (hv : Value.okWide Tryd.prog w .any base 3 v) (h : DataW.Trod enc Tryd.prog w 0 (fun _ => true) true 3 v d p) :
    ∃ s, v = .int .i64 s ∧ -9223372036854775808 ≤ s ∧ s ≤ 9223372036854775807 := by
  obtain ⟨s, e, _, _, b⟩ := open_int Tryd.underlying3 hv h
  simp [Lit.wf, IntKind.min, IntKind.max, IntKind.signed, IntKind.bits] at b
  exact ⟨s, e, by omega, by omega⟩
/-- A bool. -/
theorem arg_bool {base : Nat} {v : Value} {d : DataW H} {p : List MemPlace} (hv : Value.okWide Tryd.prog w .any base 4 v) (h : DataW.Trod enc Tryd.prog w 0 (fun _ => true) true 4 v d p) :
    ∃ b, v = .bool b := by
  obtain ⟨b, e, _⟩ := open_bool Tryd.underlying4 hv h
  exact ⟨b, e⟩
theorem lt_of_trod {d : DataW H} {t : TypeId} {v : Value} {p : List MemPlace} (h : DataW.Trod enc Tryd.prog w 0 (fun _ => true) true t v d p) : ∀ x ∈ p, x.block < w.heap.size := by
  obtain ⟨m, hm⟩ := h; exact DataW.trod_lt m _ _ _ hm
theorem own : ownKnob Tryd.prog.godebug = none := by kernel_rfl
theorem laidOut : laidOutB Tryd.prog = true := by kernel_rfl
end
end Go.Proofs.YtndcjgkgkpkklaaDoor
/-
  Writing into a strings.Builder: besides what the laid contracts say, a row that '[]byte(s)' made stands as it stood.
-/
namespace Go.Proofs.YtndcjgkgkpkklaaDoor
open Go.RowKit
set_option linter.unusedSimpArgs false
set_option linter.unusedVariables false
set_option maxRecDepth 100000

abbrev tBl : TypeId := 74
abbrev tU8 : TypeId := 5
/-- A row that '[]byte(s)' made. -/
def MRow (w : World) (g : Nat) (cur : Array Value) : Prop := w.heap[g]? = some (.cells cur tU8 (cur.size, cur.size + 1))
def MKept (w w' : World) : Prop := ∀ g cur, MRow w g cur → MRow w' g cur
theorem MKept.refl (w : World) : MKept w w := fun _ _ h => h
theorem MKept.trans {a b c : World} (h : MKept a b) (k : MKept b c) : MKept a c := fun g cur x => k g cur (h g cur x)
theorem heap_bl {w w' : World} {g : Nat} {o : Obj} (h : w.heap[g]? = some o) (k : Bl w w') : w'.heap[g]? = some o := by
  rw [k.block g (Array.getElem?_eq_some_iff.1 h).1]; exact h
theorem MRow.bl {w w' : World} {g : Nat} {cur : Array Value} (h : MRow w g cur) (k : Bl w w') : MRow w' g cur := heap_bl h k
theorem IsBuilderF_bl {T e : TypeId} {B b : Nat} {bs : List Value} {w w' : World} (h : Lib.IsBuilderF T e B b bs w) (k : Bl w w') : Lib.IsBuilderF T e B b bs w' := by
  have hk : ∀ g o, w.heap[g]? = some o → w'.heap[g]? = some o := fun g o hg => heap_bl hg k
  have hA : ∀ p, Lib.BuilderAtF T e B b p bs w → Lib.BuilderAtF T e B b p bs w' := by
    rintro p ⟨hB, v, hb, ⟨ho, hv⟩, hne⟩
    refine ⟨hB, v, hk _ _ hb, ⟨ho, ?_⟩, hne⟩
    rcases hv with hv | ⟨g, cap, cur, fz, e1, e2, e3, e4⟩
    · exact .inl hv
    · exact .inr ⟨g, cap, cur, fz, e1, e2, hk _ _ e3, e4⟩
  exact h.elim (fun x => .inl (hA _ x)) (fun x => .inr (hA _ x))
/-- A builder's row is none that '[]byte(s)' made. -/
theorem mrow_ne {w : World} {B n : Nat} {v : Value} {xs : List Value} (h : w.ownsRowF B tU8 1 v n xs) {g : Nat} {cur : Array Value} (hm : MRow w g cur) : some g ≠ v.ownBlock := by
  rcases h.2 with ⟨rfl, _⟩ | ⟨g', cap, cur', fz, rfl, _, hg, hf, hn, _, hs, _⟩
  · simp [Value.ownBlock]
  · intro he
    simp [Value.ownBlock] at he
    subst he
    unfold MRow at hm
    rw [hm] at hg
    injection hg with hg
    injection hg with h1 h2 h3
    subst h1 h3
    simp at hf hs
    omega
theorem mkept_grown {w w' : World} {B n : Nat} {v : Value} {xs : List Value} (h : w.ownsRowF B tU8 1 v n xs) (hg : w.grownBy w' v.ownBlock) : MKept w w' := fun g cur hm => by
  unfold MRow
  rw [hg.block g (Array.getElem?_eq_some_iff.1 hm).1 (mrow_ne h hm)]
  exact hm
theorem mkept_set {w : World} {b : Nat} {cs : Array Value} (hb : w.heap[b]? = some (.cells cs tBl (0, 0))) (i : Nat) (v : Value) : MKept w (w.setCell ⟨b, i, none⟩ v) := fun g cur hm => by
  unfold MRow at hm ⊢
  have hne : b ≠ g := by
    rintro rfl
    rw [hm] at hb
    injection hb with hb
    injection hb with _ ht
    exact absurd ht (by decide)
  rw [Below.heap_setCell w ⟨b, i, none⟩ v g (fun e => hne e.symm)]
  exact hm
/-- What a write leaves. -/
def Wrote (B b : Nat) (bs : List Value) (w w' : World) : Prop :=
  Lib.IsBuilderF tBl tU8 B b bs w' ∧ Below B w w' ∧ Lib.OthersKept tU8 (some b) w w' ∧ MKept w w'

theorem bldCopy (B b : Nat) (bs : List Value) (w : World) (h : Lib.IsBuilderF tBl tU8 B b bs w) :
    Calls Tryd.prog 36 #[.pointer (some ⟨b, 0, none⟩)] w fun e w' => e = .returned (.tuple #[]) ∧ (Lib.BuilderAtF tBl tU8 B b (.pointer (some ⟨b, 0, none⟩)) bs w' ∧ Below B w w' ∧ Lib.OthersKept tU8 (some b) w w' ∧ MKept w w') := by
  rcases h with h | h
  · refine (Any.Builder_copyCheck_fresh Tryd.lays240 Tryd.Builder_X72_240 b w h.cell0 h.shape h.frozen0).mono ?_
    rintro e w' ⟨rfl, rfl⟩
    obtain ⟨_, v, hb, _⟩ := id h
    exact ⟨rfl, h.used _, (Below.refl B w).setCell (p := ⟨b, 0, none⟩) h.1 _, (Lib.OthersKept.refl _ _ w).setCell ⟨b, 0, none⟩ rfl _, mkept_set hb 0 _⟩
  · refine (Any.Builder_copyCheck_used Tryd.lays240 Tryd.Builder_X72_240 b w h.cell0).mono ?_
    rintro e w' ⟨rfl, rfl⟩
    exact ⟨rfl, h, Below.refl B _, Lib.OthersKept.refl _ _ _, MKept.refl _⟩

theorem inf_u8 : (Tryd.prog.info? tU8).map (fun i => (i.zero, i.size, i.bytes)) = some (some (.int .u8 0), 1, 1) := by kernel_rfl

set_option maxHeartbeats 2000000 in
set_option maxRecDepth 100000 in
theorem bldWriteString (B b : Nat) (bs : List Value) (s : ByteArray) (w : World) (h : Lib.IsBuilderF tBl tU8 B b bs w) (hlen : bs.length + s.size ≤ 140737488355328) (hBw : B ≤ w.heap.size) :
    Calls Tryd.prog 28 #[.pointer (some ⟨b, 0, none⟩), .string s] w fun e w' => e = .returned (.tuple #[.int .i64 s.size, .nilIface]) ∧ Wrote B b (bs ++ Lib.strCells s) w w' := by
  obtain ⟨i0, hi, hz0, hz1, hz2⟩ := info_parts inf_u8
  go_enter Tryd.func28, Tryd.ntmps28
  go_wp2_with (go_at_call 36; refine (bldCopy B b bs _ h).mono ?_)
  rintro e w1 ⟨rfl, h1, hb1, hk1, hm1⟩
  obtain ⟨hB, v, hbk, hown, hne⟩ := h1
  have c0 : w1.cell? ⟨b, 0, none⟩ = some (.pointer (some ⟨b, 0, none⟩)) := by rw [Lib.cell_of_heap hbk]; rfl
  have c1 : w1.cell? ⟨b, 1, none⟩ = some v := by rw [Lib.cell_of_heap hbk]; rfl
  go_wp2_with (at_builtin; refine Lib.wpList_append_own_stringF _ rfl _ _ 72 9 rfl B tU8 i0 Tryd.underlying72 Tryd.underlying9 hi hz0 hz1 hz2 _ _ _ rfl hown s rfl ?c3 ?c4 ?c5 ?_)
  case c3 => unfold maxLen; omega
  case c4 => omega
  case c5 => have := hb1.size; omega
  intro v' w2 hown' hgrow _
  have hlt : b < w1.heap.size := (Array.getElem?_eq_some_iff.1 hbk).1
  have hb2 : w2.heap[b]? = some (.cells #[.pointer (some ⟨b, 0, none⟩), v] tBl (0, 0)) := by
    rw [hgrow.block b hlt (fun e => hne e.symm)]
    exact hbk
  have d0 : w2.cell? ⟨b, 0, none⟩ = some (.pointer (some ⟨b, 0, none⟩)) := by rw [Lib.cell_of_heap hb2]; rfl
  have d1 : w2.cell? ⟨b, 1, none⟩ = some v := by rw [Lib.cell_of_heap hb2]; rfl
  have f1 : w2.frozen? ⟨b, 1, none⟩ = false := Lib.frozen_of_heap hb2 1
  obtain ⟨ao, n', cap, rfl⟩ : ∃ ao n' cap, v' = .slice ao n' cap := by
    rcases hown'.2 with ⟨hv, _⟩ | ⟨g, cap, cur, fz, hv, _⟩
    · exact ⟨_, _, _, hv⟩
    · exact ⟨_, _, _, hv⟩
  have HM := Lib.hid ((hm1.trans (mkept_grown hown hgrow)).trans (mkept_set hb2 1 (.slice ao n' cap)))
  clear hm1
  go_wp2
  go_ret2
  refine ⟨rfl, .inr ?_, ?_, (hk1.grown hgrow (Lib.ownsRowF_kind hown)).setCell ⟨b, 1, none⟩ rfl _, HM.out⟩
  · exact Lib.BuilderAtF.put (T := tBl) (e := tU8) hB hb2 (bs' := bs ++ Lib.strCells s) (by simpa [Lib.strCells_length] using hown') (by decide)
  · exact (hb1.grown hgrow (by have := hb1.size; omega) (fun k hk => (hown.lt k hk).1)).setCell (p := ⟨b, 1, none⟩) hB _

end Go.Proofs.YtndcjgkgkpkklaaDoor
/-
  Contracts of words: the reference's digit, and its form of a byte between quotes.
-/
namespace Go.Proofs.YtndcjgkgkpkklaaDoor
open Go.RowKit
set_option linter.unusedSimpArgs false
set_option linter.unusedVariables false
set_option maxRecDepth 100000

theorem conv_backW {P : Program} (src dst e : TypeId) (hs : P.underlying src = some (.slice e)) (he : P.underlying e = some (.int .u8)) (hd : P.underlying dst = some .string) (w : World) (g n cap : Nat) (l : List UInt8) (hn : l.length = n)
    (hc : ∀ j (hj : j < l.length), w.cell? ⟨g, j, none⟩ = some (.int .u8 (l[j].toNat : Int))) :
    (convert src dst (.slice (some ⟨g, 0, none⟩) n cap)).run P w = .ok (.string ⟨l.toArray⟩) w := by
  subst hn
  exact run_convert_bytes_back w src dst e ⟨g, 0, none⟩ cap l hs he hd (fun j hj => by
    have : (⟨g, 0, none⟩ : Addr).add j = ⟨g, j, none⟩ := by unfold Addr.add; split <;> simp_all
    rw [this]; exact hc j hj)
theorem conv_nil (w : World) : (convert 72 9 (.slice none 0 0)).run Tryd.prog w = .ok (.string ⟨#[]⟩) w := by kernel_rfl
theorem conv_own {wr : World} {acc : List UInt8} {v : Value} {base : Nat} (h : wr.ownsRow base 5 1 v acc.length (Lib.byteCells acc)) : (convert 72 9 v).run Tryd.prog wr = .ok (.string ⟨acc.toArray⟩) wr := by
  have hf := own_form h
  obtain ⟨hl, h⟩ := h
  rcases h with ⟨rfl, h2⟩ | ⟨g, cap, cur, rfl, hb, hg, hn, hc, hs, ht⟩
  · have : acc = [] := List.length_eq_zero_iff.1 h2
    subst this; exact conv_nil wr
  · refine conv_backW 72 9 5 Tryd.underlying72 Tryd.underlying5 Tryd.underlying9 wr g acc.length cap acc rfl (fun j hj => ?_)
    obtain ⟨a, c, e, -, -, h4⟩ := hf
    obtain ⟨g', e', -, -, h5⟩ := h4 (by omega)
    injection e with e1 e2 e3
    rw [e'] at e1
    injection e1 with e1; injection e1 with e1
    subst e1
    exact h5 j _ (by simp [Lib.byteCells, hj])
theorem cnv1 (W : World) (c : UInt8) : (convert 72 9 (.slice (some ⟨W.heap.size, 0, none⟩) 1 1)).run Tryd.prog (W.alloc (.cells #[.int .u8 (c.toNat : Nat)] 5)) = .ok (.string ⟨#[c]⟩) (W.alloc (.cells #[.int .u8 (c.toNat : Nat)] 5)) :=
  conv_backW 72 9 5 Tryd.underlying72 Tryd.underlying5 Tryd.underlying9 _ W.heap.size 1 1 [c] rfl (fun j hj => by
    match j, hj with
    | 0, _ => simp [go_sem])
theorem cnv2 (W : World) (c d : UInt8) : (convert 72 9 (.slice (some ⟨W.heap.size, 0, none⟩) 2 2)).run Tryd.prog (W.alloc (.cells #[.int .u8 (c.toNat : Nat), .int .u8 (d.toNat : Nat)] 5)) = .ok (.string ⟨#[c, d]⟩) (W.alloc (.cells #[.int .u8 (c.toNat : Nat), .int .u8 (d.toNat : Nat)] 5)) :=
  conv_backW 72 9 5 Tryd.underlying72 Tryd.underlying5 Tryd.underlying9 _ W.heap.size 2 2 [c, d] rfl (fun j hj => by
    match j, hj with
    | 0, _ => simp [go_sem]
    | 1, _ => simp [go_sem])
theorem hxs_get : ∀ (n : Nat) (h : n < 16), (⟨#[48, 49, 50, 51, 52, 53, 54, 55, 56, 57, 97, 98, 99, 100, 101, 102]⟩ : ByteArray)[n]'h = hxd n
  | 0, _ => rfl
  | 1, _ => rfl
  | 2, _ => rfl
  | 3, _ => rfl
  | 4, _ => rfl
  | 5, _ => rfl
  | 6, _ => rfl
  | 7, _ => rfl
  | 8, _ => rfl
  | 9, _ => rfl
  | 10, _ => rfl
  | 11, _ => rfl
  | 12, _ => rfl
  | 13, _ => rfl
  | 14, _ => rfl
  | 15, _ => rfl
  | n + 16, h => by omega
end Go.Proofs.YtndcjgkgkpkklaaDoor
/-
  Contracts of words: the reference's Quote.
-/
namespace Go.Proofs.YtndcjgkgkpkklaaDoor
open Go.RowKit
set_option linter.unusedSimpArgs false
set_option linter.unusedVariables false
set_option maxRecDepth 100000

theorem inf_by : (Tryd.prog.info? 5).map (fun i => (i.zero, i.size, i.bytes)) = some (some (.int .u8 0), 1, 1) := by kernel_rfl
theorem escW_len (c : UInt8) : (escW c).length ≤ 4 := by unfold escW; split <;> (try split) <;> simp
theorem escs_len : ∀ l : List UInt8, (l.flatMap escW).length ≤ 4 * l.length
  | [] => by simp
  | c :: l => by have := escs_len l; have := escW_len c; simp [List.flatMap_cons] at *; omega
theorem quote_step {l : List UInt8} {k : Nat} {c : UInt8} (h : l[k]? = some c) : 34 :: (l.take (k + 1)).flatMap escW = 34 :: (l.take k).flatMap escW ++ escW c := by
  obtain ⟨hk, hz⟩ := List.getElem?_eq_some_iff.1 h
  rw [List.take_succ_eq_append_getElem hk, hz]
  simp
theorem own_lit (w : World) (c : UInt8) : (w.alloc (.cells #[.int .u8 (c.toNat : Nat)] 5)).ownsRow w.heap.size 5 1 (.slice (some ⟨w.heap.size, 0, none⟩) 1 1) 1 [.int .u8 (c.toNat : Nat)] :=
  World.ownsRow_lit w #[.int .u8 (c.toNat : Nat)] 1 (Nat.le_refl _) (by unfold maxLen; omega) (by simp)
end Go.Proofs.YtndcjgkgkpkklaaDoor
/-
  Contracts of words: Quote.
-/
namespace Go.Proofs.YtndcjgkgkpkklaaDoor
open Go.RowKit
set_option linter.unusedSimpArgs false
set_option linter.unusedVariables false
set_option maxRecDepth 100000

theorem and15 : ∀ c : UInt8, bits BinOp.and IntKind.u8 (c.toNat : Int) 15 = ((c.toNat % 16 : Nat) : Int) := byte_all (by decide +kernel)
abbrev hxB : ByteArray := ⟨#[48, 49, 50, 51, 52, 53, 54, 55, 56, 57, 97, 98, 99, 100, 101, 102]⟩
set_option maxHeartbeats 4000000 in
theorem woQuote (s : ByteArray) (hs : s.size ≤ 100000) (w : World) (hE : EscTab w) : Calls Tryd.prog 29 #[.string s] w (RB w (.string ⟨(quoteW s.data.toList).toArray⟩)) := by
  obtain ⟨i0, hi, hz0, hz1, hz2⟩ := info_parts inf_by
  obtain ⟨R, hR⟩ : ∃ R, quoteW s.data.toList = R := ⟨_, rfl⟩
  rw [hR]
  have HR := Lib.hid hR
  clear hR
  go_enter Tryd.func29, Tryd.ntmps29
  obtain ⟨wm, hms, hom, hgm⟩ := run_make_own (P := Tryd.prog) (w := w) w.heap.size 72 5 i0 (.int .u8 0) 1 Tryd.underlying72 hi hz0 hz1 .i64 .i64 (s.size + 2) (by rw [hz2]; omega) (by unfold maxLen; omega) (Nat.le_refl _)
  rw [show ((s.size + 2 : Nat) : Int) = (s.size : Int) + 2 by push_cast; rfl] at hms
  have hbm : Bl w wm := Bl.grown (Bl.refl w) hgm (by intro k hk; cases hk)
  have hszm := hbm.size
  clear hgm
  go_wp2_with (at_builtin; refine wpList_append_own _ rfl _ _ 72 rfl w.heap.size 5 i0 (.int .u8 0) 1 1 Tryd.underlying72 hi hz0 hz1 hz2 rfl (by decide) _ _ _ rfl (hom.alloc _) ⟨wm.heap.size, 0, none⟩ 1 1 [.int .u8 34] rfl rfl ?c1 ?c2 ?c3 ?c4 ?c5 ?_)
  case c1 => exact multi_new _ _ _
  case c2 => intro u hu; simp at hu; subst hu; rfl
  case c3 => unfold maxLen; omega
  case c4 => omega
  case c5 => simp; omega
  intro v0 w0 hown0 hg0 _
  have hb0 := grown_bl (hbm.alloc _) (hom.alloc _) hg0 (Nat.le_refl _)
  have HO := Lib.hid hown0
  clear hom hown0 hg0 hms hbm hszm
  go_wp2_with fail
  go_loopg [3, 16] s.size (fun g v i wr => ∃ k : Nat, k ≤ s.size ∧ i = .int .i64 k ∧ wr.ownsRow w.heap.size 5 1 v (34 :: (s.data.toList.take k).flatMap escW).length (Lib.byteCells (34 :: (s.data.toList.take k).flatMap escW)) ∧ Bl w wr ∧ g = s.size - k)
  case atStart => exact ⟨0, by omega, rfl, HO.out, hb0, rfl⟩
  case round =>
    obtain ⟨k, hk, rfl, hown, hbw, hg⟩ := hrel
    have G := Lib.hid hg
    clear hg HO
    have hlen := escs_len (s.data.toList.take k)
    have htk : (s.data.toList.take k).length ≤ k := List.length_take_le _ _
    obtain ⟨acc, hac⟩ : ∃ acc, acc = 34 :: (s.data.toList.take k).flatMap escW := ⟨_, rfl⟩
    have hal : acc.length ≤ 400001 := by rw [hac, List.length_cons]; omega
    rw [← hac] at hown
    have HA := Lib.hid hac
    clear hac hlen htk
    by_cases hkl : k < s.size
    · have hx := str_get hkl
      have h1 : (0 : Int) ≤ (k : Int) := by omega
      have h2 : (k : Int) < (s.size : Int) := by omega
      generalize hc : s[k]'hkl = c at hx
      have HX := Lib.hid hx
      clear hx
      go_wp2_with fail
      refine (woLetter c _ (hE.bl hbw)).mono ?_; rintro e w1 ⟨rfl, hb1⟩
      go_wp2_with fail
      refine (woPlain c _).mono ?_; rintro e w2 ⟨rfl, hb2⟩
      have hown := own_bl (own_bl hown hb1) hb2
      have hbw : Bl w w2 := (hbw.trans hb1).trans hb2
      have hsz := hbw.size
      clear hb1 hb2
      cases hpl : plainB c
      · by_cases hl : letB c = 0
        · have hlt : c.toNat < 256 := c.toNat_lt
          obtain ⟨n1, k1⟩ : ∃ n, n = c.toNat / 16 := ⟨_, rfl⟩
          obtain ⟨n2, k2⟩ : ∃ n, n = c.toNat % 16 := ⟨_, rfl⟩
          have hp1 : n1 < 16 := by omega
          have hp2 : n2 < 16 := by omega
          have hd : (c.toNat : Int) / 16 = (n1 : Int) := by omega
          have hr : (c.toNat : Int) % 16 = (n2 : Int) := by omega
          have ha : bits BinOp.and IntKind.u8 (c.toNat : Int) 15 = (n2 : Int) := by rw [and15 c, ← k2]
          have i1 : (0 : Int) ≤ (n1 : Int) := by omega
          have i2 : (n1 : Int) < 16 := by omega
          have i3 : (0 : Int) ≤ (n2 : Int) := by omega
          have i4 : (n2 : Int) < 16 := by omega
          have hes : escW c = [92, 120, hxB[n1]'hp1, hxB[n2]'hp2] := by
            rw [hxs_get _ hp1, hxs_get _ hp2]; unfold escW; rw [hpl, if_neg (by simp), if_neg (by simp [hl]), k1, k2]
          have e1 : (((letB c).toNat : Int) != 0) = false := by rw [hl]; rfl
          have HO := Lib.hid hown
          have HEs := Lib.hid hes
          clear hpl hl hown hes k1 k2
          go_wp2_with fail
          go_region_held3 (fun w' => True) (trivial)
            ((refine step_append_lies _ (by rfl) _ _ _ (by rfl) w.heap.size 5 i0 _ 1 1 Tryd.underlying72 hi hz0 hz1 hz2 rfl (by omega) _ acc.length (Lib.byteCells acc) (by rfl) ((HO.out.alloc _).drew)
                ⟨w2.heap.size, 0, none⟩ 4 4 #[.int .u8 92, .int .u8 120, .int .u8 ((hxB[n1]'hp1).toNat : Nat), .int .u8 ((hxB[n2]'hp2).toNat : Nat)].toList (by rfl) (by rfl) (World.news_of_block (cs := #[.int .u8 92, .int .u8 120, .int .u8 ((hxB[n1]'hp1).toNat : Nat), .int .u8 ((hxB[n2]'hp2).toNat : Nat)]) (t := 5) (fr := (0, 0)) (heap_alloc_new w2 _)) (by simp [Value.oneCell'])
                (by omega) (by unfold maxLen; omega) (by omega) (by simp; omega) (w2.heap.size + 1) (by simp) ?_; intro gg cap w3 hown1 hgrow hat hlt3))
          all_goals
            have hb3 := grown_bl ((hbw.alloc _).drew) ((HO.out.alloc _).drew) hgrow (Nat.le_refl _)
            have hown3 : w3.ownsRow w.heap.size 5 1 (Value.slice (some { block := gg, off := 0 }) (acc.length + 4) cap) (34 :: (s.data.toList.take (k + 1)).flatMap escW).length (Lib.byteCells (34 :: (s.data.toList.take (k + 1)).flatMap escW)) := by
              rw [show 34 :: (s.data.toList.take (k + 1)).flatMap escW = acc ++ escW c by rw [quote_step HX.out, HA.out]]
              rw [HEs.out, Lib.byteCells_append, List.length_append]; exact hown1
            have HW := Lib.hid hown3
            clear hown1 hown3 hgrow hat hlt3
            go_wp2_with fail
            go_roundg (s.size - (k + 1))
            (case rel => exact ⟨k + 1, by omega, by go_num, HW.out, hb3, rfl⟩)
            (case measure => rw [G.out]; omega)
        · have hes : escW c = [92, letB c] := by unfold escW; rw [hpl, if_neg (by simp), if_pos hl]
          have e1 : (((letB c).toNat : Int) != 0) = true := u8_bne (d := 0) hl
          clear hpl hl
          go_wp2_with (at_builtin; refine wpList_append_own _ rfl _ _ 72 rfl w.heap.size 5 i0 (.int .u8 0) 1 1 Tryd.underlying72 hi hz0 hz1 hz2 rfl (by decide) _ _ _ rfl (hown.alloc _) ⟨w2.heap.size, 0, none⟩ 2 2 [.int .u8 92, .int .u8 ((letB c).toNat : Nat)] rfl rfl ?c1 ?c2 ?c3 ?c4 ?c5 ?_)
          case c1 => exact multi_new _ _ _
          case c2 => intro u hu; simp at hu; (first | subst hu; rfl | (rcases hu with rfl | rfl <;> rfl))
          case c3 => unfold maxLen; omega
          case c4 => omega
          case c5 => simp; omega
          intro v' w3 hown2 hgrow _
          have hb3 := grown_bl (hbw.alloc _) (hown.alloc _) hgrow (Nat.le_refl _)
          have hown3 : w3.ownsRow w.heap.size 5 1 v' (acc ++ [92, letB c]).length (Lib.byteCells (acc ++ [92, letB c])) := by
            rw [Lib.byteCells_append, List.length_append]; exact hown2
          have hes : escW c = [92, letB c] := by assumption
          rw [← hes, HA.out, ← quote_step HX.out] at hown3
          have HW := Lib.hid hown3
          clear hown hown2 hown3 hgrow hes
          go_wp2_with fail
          go_roundg (s.size - (k + 1))
          case rel => exact ⟨k + 1, by omega, by go_num, HW.out, hb3, rfl⟩
          case measure => rw [G.out]; omega
      · have hes : escW c = [c] := by unfold escW; rw [if_pos hpl]
        clear hpl
        go_wp2_with (at_builtin; refine wpList_append_own _ rfl _ _ 72 rfl w.heap.size 5 i0 (.int .u8 0) 1 1 Tryd.underlying72 hi hz0 hz1 hz2 rfl (by decide) _ _ _ rfl (hown.alloc _) ⟨w2.heap.size, 0, none⟩ 1 1 [.int .u8 (c.toNat : Nat)] rfl rfl ?c1 ?c2 ?c3 ?c4 ?c5 ?_)
        case c1 => exact multi_new _ _ _
        case c2 => intro u hu; simp at hu; (first | subst hu; rfl | (rcases hu with rfl | rfl <;> rfl))
        case c3 => unfold maxLen; omega
        case c4 => omega
        case c5 => simp; omega
        intro v' w3 hown2 hgrow _
        have hb3 := grown_bl (hbw.alloc _) (hown.alloc _) hgrow (Nat.le_refl _)
        have hown3 : w3.ownsRow w.heap.size 5 1 v' (acc ++ [c]).length (Lib.byteCells (acc ++ [c])) := by
          rw [Lib.byteCells_append, List.length_append]; exact hown2
        have hes : escW c = [c] := by assumption
        rw [← hes, HA.out, ← quote_step HX.out] at hown3
        have HW := Lib.hid hown3
        clear hown hown2 hown3 hgrow hes
        go_wp2_with fail
        go_roundg (s.size - (k + 1))
        case rel => exact ⟨k + 1, by omega, by go_num, HW.out, hb3, rfl⟩
        case measure => rw [G.out]; omega
    · obtain rfl : k = s.size := by omega
      have hr : R = acc ++ [34] := by
        rw [← HR.out, HA.out, List.take_of_length_le (by simp)]
        rfl
      have HR2 := Lib.hid hr
      have hsz := hbw.size
      clear hr
      go_wp2_with (at_builtin; refine wpList_append_own _ rfl _ _ 72 rfl w.heap.size 5 i0 (.int .u8 0) 1 1 Tryd.underlying72 hi hz0 hz1 hz2 rfl (by decide) _ _ _ rfl (hown.alloc _) ⟨wr.heap.size, 0, none⟩ 1 1 [.int .u8 34] rfl rfl ?c1 ?c2 ?c3 ?c4 ?c5 ?_)
      case c1 =>
        intro j u hj
        match j, hj with
        | 0, hj => simp at hj; subst hj; simp [Addr.add]
      case c2 => intro u hu; simp at hu; subst hu; rfl
      case c3 => unfold maxLen; omega
      case c4 => omega
      case c5 => simp; omega
      intro v' w2 hown2 hgrow _
      have hb2 := grown_bl (hbw.alloc _) (hown.alloc _) hgrow (Nat.le_refl _)
      have hown3 : w2.ownsRow w.heap.size 5 1 v' (acc ++ [34]).length (Lib.byteCells (acc ++ [34])) := by
        rw [Lib.byteCells_append, List.length_append]; exact hown2
      have hcv := conv_own hown3
      rw [← HR2.out] at hcv
      clear hown hown2 hown3 hgrow
      go_wp2_with fail
      go_ret
      exact RB.mk rfl hb2
end Go.Proofs.YtndcjgkgkpkklaaDoor

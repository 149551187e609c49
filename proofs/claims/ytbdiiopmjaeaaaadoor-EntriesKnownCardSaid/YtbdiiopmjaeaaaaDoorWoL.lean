
/-
  Contracts of words: Name, Int, Digits.
-/
import Derived.Test.YtbdiiopmjaeaaaaDoorWoA
import Derived.Test.YtbdiiopmjaeaaaaDoorWoB
import Derived.Test.YtbdiiopmjaeaaaaDoorWoC
import Derived.Test.YtbdiiopmjaeaaaaDoorWdQ
import Derived.Test.YtbdiiopmjaeaaaaDoorShelf
import Derived.Shelf.Strings.SlTrimAscii
import Derived.Lib.SmallJoins
namespace Go.Proofs.YtbdiiopmjaeaaaaDoor
open Go.RowKit
set_option linter.unusedSimpArgs false
set_option linter.unusedVariables false
set_option maxRecDepth 100000

theorem pow_gl : Tryd.prog.globalNamed "internal/strconv.uint64pow10" = some 2 := by kernel_rfl
theorem tab_bl {w w' : World} (h : Lib.TabIs Tryd.prog w "internal/strconv.uint64pow10" .u64 Lib.pow10Tab) (k : Bl w w') : Lib.TabIs Tryd.prog w' "internal/strconv.uint64pow10" .u64 Lib.pow10Tab :=
  Go.Joins.var_stays pow_gl h k (Nat.le_refl _)
theorem bl_grow (w : World) (os : Array Obj) : Bl w (Go.Sort.grow w os) := ⟨rfl, rfl, rfl, by simp [Go.Sort.grow], fun k hk => by simp [Go.Sort.grow, Array.getElem?_append_left hk]⟩
theorem bl_bytes (w : World) (t : ByteArray) : Bl w (Lib.bytesWorld w 5 t) := by
  exact ⟨rfl, rfl, rfl, by rw [Lib.bytesWorld_size]; omega, fun k hk => Lib.bytesWorld_at_old w _ t k hk⟩

theorem dw_nil {α : Type} (p : α → Bool) : ∀ l : List α, l.dropWhile p = [] ↔ ∀ c ∈ l, p c = true
  | [] => by simp
  | c :: l => by
    by_cases h : p c = true
    · simp [List.dropWhile_cons, h, dw_nil p l]
    · simp [List.dropWhile_cons, h]
theorem dw_head {α : Type} (p : α → Bool) : ∀ (l : List α) c r, l.dropWhile p = c :: r → p c = false
  | [], c, r, h => by simp at h
  | x :: l, c, r, h => by
    by_cases hx : p x = true
    · simp only [List.dropWhile_cons, hx, if_true] at h; exact dw_head p l c r h
    · simp only [List.dropWhile_cons, hx, if_false] at h
      injection h with h1 h2
      subst h1; simpa using hx
theorem trim_nil (l cs : List UInt8) : Lib.trimS l cs = [] ↔ ∀ c ∈ l, cs.contains c = true := by
  unfold Lib.trimS Lib.trimLeftS Lib.trimRightS
  rw [dw_nil]
  constructor
  · intro h c hc
    have h2 : l.reverse.dropWhile (cs.contains ·) = [] := by
      cases e : l.reverse.dropWhile (cs.contains ·) with
      | nil => rfl
      | cons x r =>
        have h3 := dw_head _ _ _ _ e
        have h4 := h x (by rw [e]; simp)
        rw [h3] at h4; cases h4
    rw [dw_nil] at h2
    exact h2 c (by simpa using hc)
  · intro h c hc
    have h2 : l.reverse.dropWhile (cs.contains ·) = [] := by rw [dw_nil]; intro x hx; exact h x (by simpa using hx)
    rw [h2] at hc; simp at hc
def lowB (c : UInt8) : Bool := decide (97 ≤ c.toNat) && decide (c.toNat ≤ 122)
def nchB (c : UInt8) : Bool := lowB c || digB c || c == 45
def nameB (l : List UInt8) : Bool := decide (1 ≤ l.length) && decide (l.length ≤ 16) && lowB (l.headD 0) && l.all nchB
abbrev nameSet : ByteArray := ⟨#[97, 98, 99, 100, 101, 102, 103, 104, 105, 106, 107, 108, 109, 110, 111, 112, 113, 114, 115, 116, 117, 118, 119, 120, 121, 122, 48, 49, 50, 51, 52, 53, 54, 55, 56, 57, 45]⟩
abbrev digSet : ByteArray := ⟨#[48, 49, 50, 51, 52, 53, 54, 55, 56, 57]⟩
theorem nameSet_is : ∀ c : UInt8, nameSet.data.toList.contains c = nchB c := byte_all (by decide +kernel)
theorem digSet_is : ∀ c : UInt8, digSet.data.toList.contains c = digB c := byte_all (by decide +kernel)
theorem trim_name (l : List UInt8) : (Lib.trimS l nameSet.data.toList).isEmpty = l.all nchB := by
  rw [Bool.eq_iff_iff, List.isEmpty_iff, trim_nil, List.all_eq_true]
  exact ⟨fun h c hc => (nameSet_is c).symm.trans (h c hc), fun h c hc => (nameSet_is c).trans (h c hc)⟩
theorem trim_dig (l : List UInt8) : (Lib.trimS l digSet.data.toList).isEmpty = l.all digB := by
  rw [Bool.eq_iff_iff, List.isEmpty_iff, trim_nil, List.all_eq_true]
  exact ⟨fun h c hc => (digSet_is c).symm.trans (h c hc), fun h c hc => (digSet_is c).trans (h c hc)⟩
theorem empty_toL (l : List UInt8) : (⟨l.toArray⟩ : ByteArray).toList.isEmpty = l.isEmpty := by rw [toL]
theorem str_empty {s : ByteArray} (h : s.size = 0) : s = ⟨#[]⟩ := by apply ByteArray.ext; exact Array.eq_empty_of_size_eq_zero h
theorem str_ne {s : ByteArray} (h : 0 < s.size) : s.toList.isEmpty = false := by
  rw [toL]
  cases e : s.data.toList with
  | nil => exact absurd (by have := congrArg List.length e; simpa using this) (Nat.ne_of_gt h)
  | cons _ _ => rfl
theorem headD_at {s : ByteArray} (h : 0 < s.size) : s.data.toList.headD 0 = s[0]'h := by
  have := str_get h
  cases e : s.data.toList with
  | nil => rw [e] at this; cases this
  | cons c r => rw [e] at this; simpa using this
theorem same_sym' {P : Program} {f : FuncId} {args : Array Value} {w : World} {v : Value} (h : Calls P f args w fun e w' => e = .returned v ∧ w' = w) : Calls P f args w fun e w' => e = .returned v ∧ w = w' :=
  h.mono fun _ _ ⟨he, hw⟩ => ⟨he, hw.symm⟩
/-! ### Decimal forms -/
def unsgn (l : List UInt8) : List UInt8 := if l.head? = some 45 then l.drop 1 else l
theorem pfx_is (l : List UInt8) : Lib.trimPrefix l [45] = unsgn l := by
  unfold Lib.trimPrefix unsgn Lib.hasPrefix
  cases l with
  | nil => rfl
  | cons c r =>
    by_cases h : c = 45
    · subst h; simp [List.isPrefixOf]
    · have h' : ¬ 45 = c := fun e => h e.symm
      simp [List.isPrefixOf, h, h']
theorem isDec_is (l : List UInt8) : isDec l = (!(unsgn l).isEmpty && (unsgn l).all digB && ((unsgn l).headD 0 != 48 || l == [48])) := by
  unfold unsgn
  cases l with
  | nil => rfl
  | cons c r =>
    simp only [isDec, List.head?_cons, Option.some.injEq]
    by_cases h : c = 45
    · subst h
      simp only [if_true, List.drop_succ_cons, List.drop_zero]
      unfold isNat
      cases r with
      | nil => rfl
      | cons d r =>
        rw [Bool.eq_iff_iff]
        simp
        constructor
        · rintro ⟨⟨h1, h2⟩, h3⟩
          refine ⟨h1, ?_⟩
          rcases h2 with h2 | h2
          · exact h2
          · exact fun e => h3 e h2.2
        · rintro ⟨h1, h2⟩
          exact ⟨⟨h1, .inl h2⟩, fun e => absurd e h2⟩
    · simp only [if_neg h]
      unfold isNat
      rw [Bool.eq_iff_iff]
      simp
def inI64 (v : Int) : Bool := decide (-9223372036854775808 ≤ v) && decide (v ≤ 9223372036854775807)
def wint (l : List UInt8) (low high : Int) : Int × Int := if isDec l = true then (if (inI64 (intV l) && decide (low ≤ intV l) && decide (intV l ≤ high)) = true then (intV l, 0) else (0, 7)) else (0, 6)
theorem unsgn_len (l : List UInt8) : (unsgn l).length ≤ l.length := by unfold unsgn; split <;> simp
def AnErr (w : World) (e : Ending) (w' : World) : Prop := ∃ (v : Int) (t : TypeId) (N : Nat), e = .returned (.tuple #[.int .i64 v, .iface t (.pointer (some ⟨N, 0, none⟩))]) ∧ Bl w w'
end Go.Proofs.YtbdiiopmjaeaaaaDoor

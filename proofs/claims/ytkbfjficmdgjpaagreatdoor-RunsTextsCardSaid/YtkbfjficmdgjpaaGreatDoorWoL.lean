
/-
  Contracts of words: Name, Int, Digits.
-/
import Derived.Test.YtkbfjficmdgjpaaGreatDoorWoA
import Derived.Test.YtkbfjficmdgjpaaGreatDoorWoB
import Derived.Test.YtkbfjficmdgjpaaGreatDoorWoC
import Derived.Test.YtkbfjficmdgjpaaGreatDoorWdQ
import Derived.Test.YtkbfjficmdgjpaaGreatDoorShelf
import Derived.Shelf.Strings.SlTrimAscii
import Derived.Lib.SmallJoins
namespace Go.Proofs.YtkbfjficmdgjpaaGreatDoor
open Go.RowKit
set_option linter.unusedSimpArgs false
set_option linter.unusedVariables false
set_option maxRecDepth 100000

/-- What words asks of the world: its table, a table of strconv's and a sentinel. -/
structure WEnv (w : World) : Prop where
  esc : EscTab w
  pow : Lib.TabIs Tryz.prog w "internal/strconv.uint64pow10" .u64 Lib.pow10Tab
  err : ∃ te pe, w.cell? ⟨4, 0, none⟩ = some (.iface te pe)
theorem pow_gl : Tryz.prog.globalNamed "internal/strconv.uint64pow10" = some 2 := by kernel_rfl
theorem tab_bl {w w' : World} (h : Lib.TabIs Tryz.prog w "internal/strconv.uint64pow10" .u64 Lib.pow10Tab) (k : Bl w w') : Lib.TabIs Tryz.prog w' "internal/strconv.uint64pow10" .u64 Lib.pow10Tab :=
  Go.Joins.var_stays pow_gl h k (Nat.le_refl _)
theorem WEnv.bl {w w' : World} (h : WEnv w) (k : Bl w w') : WEnv w' := ⟨h.esc.bl k, tab_bl h.pow k, let ⟨a, b, c⟩ := h.err; ⟨a, b, k.cell c⟩⟩
theorem bl_grow (w : World) (os : Array Obj) : Bl w (Go.Sort.grow w os) := ⟨rfl, rfl, rfl, by simp [Go.Sort.grow], fun k hk => by simp [Go.Sort.grow, Array.getElem?_append_left hk]⟩
theorem bl_bytes (w : World) (t : ByteArray) : Bl w (Lib.bytesWorld w 5 t) := by
  exact ⟨rfl, rfl, rfl, by rw [Lib.bytesWorld_size]; omega, fun k hk => Lib.bytesWorld_at_old w _ t k hk⟩

theorem dw_nil {α : Type} (p : α → Bool) : ∀ l : List α, l.dropWhile p = [] ↔ ∀ c ∈ l, p c = true
  | [] => by simp
  | c :: l => by
    by_cases h : p c = true
    · simp [List.dropWhile_cons, h, dw_nil p l]
    · simp [List.dropWhile_cons, h]
theorem dw_head {α : Type} (p : α → Bool) : ∀ (l : List α) c r, l.dropWhile p = c :: r → p c = false
  | [], c, r, h => by simp at h
  | x :: l, c, r, h => by
    by_cases hx : p x = true
    · simp only [List.dropWhile_cons, hx, if_true] at h; exact dw_head p l c r h
    · simp only [List.dropWhile_cons, hx, if_false] at h
      injection h with h1 h2
      subst h1; simpa using hx
theorem trim_nil (l cs : List UInt8) : Lib.trimS l cs = [] ↔ ∀ c ∈ l, cs.contains c = true := by
  unfold Lib.trimS Lib.trimLeftS Lib.trimRightS
  rw [dw_nil]
  constructor
  · intro h c hc
    have h2 : l.reverse.dropWhile (cs.contains ·) = [] := by
      cases e : l.reverse.dropWhile (cs.contains ·) with
      | nil => rfl
      | cons x r =>
        have h3 := dw_head _ _ _ _ e
        have h4 := h x (by rw [e]; simp)
        rw [h3] at h4; cases h4
    rw [dw_nil] at h2
    exact h2 c (by simpa using hc)
  · intro h c hc
    have h2 : l.reverse.dropWhile (cs.contains ·) = [] := by rw [dw_nil]; intro x hx; exact h x (by simpa using hx)
    rw [h2] at hc; simp at hc
def lowB (c : UInt8) : Bool := decide (97 ≤ c.toNat) && decide (c.toNat ≤ 122)
def nchB (c : UInt8) : Bool := lowB c || digB c || c == 45
def nameB (l : List UInt8) : Bool := decide (1 ≤ l.length) && decide (l.length ≤ 16) && lowB (l.headD 0) && l.all nchB
abbrev nameSet : ByteArray := ⟨#[97, 98, 99, 100, 101, 102, 103, 104, 105, 106, 107, 108, 109, 110, 111, 112, 113, 114, 115, 116, 117, 118, 119, 120, 121, 122, 48, 49, 50, 51, 52, 53, 54, 55, 56, 57, 45]⟩
abbrev digSet : ByteArray := ⟨#[48, 49, 50, 51, 52, 53, 54, 55, 56, 57]⟩
theorem nameSet_is : ∀ c : UInt8, nameSet.data.toList.contains c = nchB c := byte_all (by decide +kernel)
theorem digSet_is : ∀ c : UInt8, digSet.data.toList.contains c = digB c := byte_all (by decide +kernel)
theorem trim_name (l : List UInt8) : (Lib.trimS l nameSet.data.toList).isEmpty = l.all nchB := by
  rw [Bool.eq_iff_iff, List.isEmpty_iff, trim_nil, List.all_eq_true]
  exact ⟨fun h c hc => (nameSet_is c).symm.trans (h c hc), fun h c hc => (nameSet_is c).trans (h c hc)⟩
theorem trim_dig (l : List UInt8) : (Lib.trimS l digSet.data.toList).isEmpty = l.all digB := by
  rw [Bool.eq_iff_iff, List.isEmpty_iff, trim_nil, List.all_eq_true]
  exact ⟨fun h c hc => (digSet_is c).symm.trans (h c hc), fun h c hc => (digSet_is c).trans (h c hc)⟩
theorem empty_toL (l : List UInt8) : (⟨l.toArray⟩ : ByteArray).toList.isEmpty = l.isEmpty := by rw [toL]
theorem str_empty {s : ByteArray} (h : s.size = 0) : s = ⟨#[]⟩ := by apply ByteArray.ext; exact Array.eq_empty_of_size_eq_zero h
theorem str_ne {s : ByteArray} (h : 0 < s.size) : s.toList.isEmpty = false := by
  rw [toL]
  cases e : s.data.toList with
  | nil => exact absurd (by have := congrArg List.length e; simpa using this) (Nat.ne_of_gt h)
  | cons _ _ => rfl
theorem headD_at {s : ByteArray} (h : 0 < s.size) : s.data.toList.headD 0 = s[0]'h := by
  have := str_get h
  cases e : s.data.toList with
  | nil => rw [e] at this; cases this
  | cons c r => rw [e] at this; simpa using this
theorem same_sym' {P : Program} {f : FuncId} {args : Array Value} {w : World} {v : Value} (h : Calls P f args w fun e w' => e = .returned v ∧ w' = w) : Calls P f args w fun e w' => e = .returned v ∧ w = w' :=
  h.mono fun _ _ ⟨he, hw⟩ => ⟨he, hw.symm⟩
theorem woTrimName (s : ByteArray) (hs : s.size ≤ 100000) (w : World) : Calls Tryz.prog 67 #[.string s, .string nameSet] w (RB w (.string ⟨(Lib.trimS s.data.toList nameSet.data.toList).toArray⟩)) :=
  (Any.strings_Trim_laid Tryz.lays160 (by kernel_rfl) s nameSet w (by omega) (by decide) (ascii_of_all (by decide))).mono fun _ _ h => h
theorem woTrimDig (s : ByteArray) (hs : s.size ≤ 100000) (w : World) : Calls Tryz.prog 67 #[.string s, .string digSet] w (RB w (.string ⟨(Lib.trimS s.data.toList digSet.data.toList).toArray⟩)) :=
  (Any.strings_Trim_laid Tryz.lays160 (by kernel_rfl) s digSet w (by omega) (by decide) (ascii_of_all (by decide))).mono fun _ _ h => h
/-! ### Decimal forms -/
def unsgn (l : List UInt8) : List UInt8 := if l.head? = some 45 then l.drop 1 else l
theorem pfx_is (l : List UInt8) : Lib.trimPrefix l [45] = unsgn l := by
  unfold Lib.trimPrefix unsgn Lib.hasPrefix
  cases l with
  | nil => rfl
  | cons c r =>
    by_cases h : c = 45
    · subst h; simp [List.isPrefixOf]
    · have h' : ¬ 45 = c := fun e => h e.symm
      simp [List.isPrefixOf, h, h']
theorem isDec_is (l : List UInt8) : isDec l = (!(unsgn l).isEmpty && (unsgn l).all digB && ((unsgn l).headD 0 != 48 || l == [48])) := by
  unfold unsgn
  cases l with
  | nil => rfl
  | cons c r =>
    simp only [isDec, List.head?_cons, Option.some.injEq]
    by_cases h : c = 45
    · subst h
      simp only [if_true, List.drop_succ_cons, List.drop_zero]
      unfold isNat
      cases r with
      | nil => rfl
      | cons d r =>
        rw [Bool.eq_iff_iff]
        simp
        constructor
        · rintro ⟨⟨h1, h2⟩, h3⟩
          refine ⟨h1, ?_⟩
          rcases h2 with h2 | h2
          · exact h2
          · exact fun e => h3 e h2.2
        · rintro ⟨h1, h2⟩
          exact ⟨⟨h1, .inl h2⟩, fun e => absurd e h2⟩
    · simp only [if_neg h]
      unfold isNat
      rw [Bool.eq_iff_iff]
      simp
def inI64 (v : Int) : Bool := decide (-9223372036854775808 ≤ v) && decide (v ≤ 9223372036854775807)
def wint (l : List UInt8) (low high : Int) : Int × Int := if isDec l = true then (if (inI64 (intV l) && decide (low ≤ intV l) && decide (intV l ≤ high)) = true then (intV l, 0) else (0, 7)) else (0, 6)
theorem unsgn_len (l : List UInt8) : (unsgn l).length ≤ l.length := by unfold unsgn; split <;> simp
set_option maxHeartbeats 2000000 in
theorem woDec (s : ByteArray) (hs : s.size ≤ 100000) (w : World) : Calls Tryz.prog 45 #[.string s] w (RB w (.bool (isDec s.data.toList))) := by
  have hp := fun w => Tryz.strings_TrimPrefix s ⟨#[45]⟩ w
  rw [show (⟨#[45]⟩ : ByteArray).data.toList = [45] from rfl, pfx_is] at hp
  have hl := unsgn_len s.data.toList
  rw [isDec_is]
  obtain ⟨t, ht⟩ : ∃ t : ByteArray, (⟨(unsgn s.data.toList).toArray⟩ : ByteArray) = t := ⟨_, rfl⟩
  have htl : unsgn s.data.toList = t.data.toList := by rw [← ht]
  rw [ht] at hp
  rw [htl] at hl ⊢
  have hts : t.size ≤ s.size := by simpa using hl
  have hsl : (s.data.toList == [48]) = (s.toList == [48]) := by rw [toL]
  have HP := Lib.hid (fun w => same_sym' (hp w))
  clear hp ht htl hl
  by_cases hz : t.size = 0
  · obtain rfl := str_empty hz
    rw [show (!((⟨#[]⟩ : ByteArray).data.toList).isEmpty) = false from rfl, Bool.false_and, Bool.false_and]
    clear hz hsl hts
    go_enter Tryz.func45, Tryz.ntmps45
    go_wp2_with fail
    refine (HP.out _).mono ?_; rintro e w1 ⟨rfl, rfl⟩
    go_wp2_with fail
    go_ret
    exact RB.mk rfl (Bl.refl _)
  · have h0 : 0 < t.size := by omega
    have hne := str_ne h0
    have hne2 : t.data.toList.isEmpty = false := by rw [← toL]; exact hne
    have hT := fun w => woTrimDig t (by omega) w
    have he := trim_dig t.data.toList
    rw [hne2, Bool.not_false, Bool.true_and, ← he, headD_at h0]
    generalize Lib.trimS t.data.toList digSet.data.toList = q at hT ⊢
    have i0 : (0 : Int) < (t.size : Int) := by omega
    cases hq : q.isEmpty with
    | false =>
      have hq1 : (⟨q.toArray⟩ : ByteArray).toList.isEmpty = false := by rw [empty_toL, hq]
      have HT := Lib.hid hT
      clear hT he hne2 hz hsl hts hq
      generalize (⟨q.toArray⟩ : ByteArray) = q at *
      rw [Bool.false_and]
      go_enter Tryz.func45, Tryz.ntmps45
      go_wp2_with fail
      refine (HP.out _).mono ?_; rintro e w1 ⟨rfl, rfl⟩
      go_wp2_with fail
      refine (HT.out _).mono ?_; rintro e w1 ⟨rfl, hb1⟩
      go_wp2_with fail
      go_ret
      exact RB.mk rfl hb1
    | true =>
      obtain rfl : q = [] := by simpa using hq
      have HT := Lib.hid hT
      rw [Bool.true_and]
      clear hT he hne2 hz hts hq
      by_cases h48 : (t[0]'h0) = 48
      · have e1 : (((t[0]'h0).toNat : Int) != 48) = false := by rw [h48]; rfl
        rw [h48, show ((48 : UInt8) != 48) = false from rfl, Bool.false_or, hsl]
        clear h48 hsl
        go_enter Tryz.func45, Tryz.ntmps45
        go_wp2_with fail
        refine (HP.out _).mono ?_; rintro e w1 ⟨rfl, rfl⟩
        go_wp2_with fail
        refine (HT.out _).mono ?_; rintro e w1 ⟨rfl, hb1⟩
        go_wp2_with fail
        go_ret
        exact RB.mk rfl hb1
      · have e1 : (((t[0]'h0).toNat : Int) != 48) = true := u8_bne (d := 48) h48
        rw [show ((t[0]'h0) != 48) = true by simpa using h48, Bool.true_or]
        clear h48 hsl
        go_enter Tryz.func45, Tryz.ntmps45
        go_wp2_with fail
        refine (HP.out _).mono ?_; rintro e w1 ⟨rfl, rfl⟩
        go_wp2_with fail
        refine (HT.out _).mono ?_; rintro e w1 ⟨rfl, hb1⟩
        go_wp2_with fail
        go_ret
        exact RB.mk rfl hb1
theorem parse_ok {s : ByteArray} (h : isDec s.data.toList = true) (hi : inI64 (intV s.data.toList) = true) (hs : s.size ≤ 100000) (w : World) :
    Calls Tryz.prog 46 #[.string s, .int .i64 10, .int .i64 64] w (RB w (.tuple #[.int .i64 (intV s.data.toList), .nilIface])) := by
  have hp := parse_dec h
  unfold inI64 at hi
  simp only [Bool.and_eq_true, decide_eq_true_eq] at hi
  rw [if_pos hi] at hp
  refine (Tryz.strconv_ParseInt_10_at64_ok s (by omega) _ hp w).mono ?_
  rintro e w' ⟨rfl, hw⟩
  refine ⟨rfl, ?_⟩
  rcases hw with rfl | ⟨t, rfl⟩
  · exact Bl.refl _
  · exact bl_bytes _ _
def AnErr (w : World) (e : Ending) (w' : World) : Prop := ∃ (v : Int) (t : TypeId) (N : Nat), e = .returned (.tuple #[.int .i64 v, .iface t (.pointer (some ⟨N, 0, none⟩))]) ∧ Bl w w'
theorem parse_no {s : ByteArray} (h : isDec s.data.toList = true) (hi : inI64 (intV s.data.toList) = false) (hs : s.size ≤ 100000) (w : World) (hE : WEnv w) :
    Calls Tryz.prog 46 #[.string s, .int .i64 10, .int .i64 64] w (AnErr w) := by
  have hp := parse_dec h
  unfold inI64 at hi
  rw [if_neg (by rintro ⟨h1, h2⟩; rw [decide_eq_true h1, decide_eq_true h2] at hi; cases hi)] at hp
  obtain ⟨te, pe, hc⟩ := hE.err
  refine (Tryz.strconv_ParseInt_10_at64_range s (by omega) hp (.iface te pe) w hc (.inr ⟨_, _, rfl⟩)).mono ?_
  rintro e w' ⟨N, rfl, -, -, hb⟩
  exact ⟨_, _, N, rfl, hb⟩
set_option maxHeartbeats 2000000 in
theorem woInt (s : ByteArray) (low high : Int) (hs : s.size ≤ 100000) (w : World) (hE : WEnv w) : Calls Tryz.prog 24 #[.string s, .int .i64 low, .int .i64 high] w (RB w (.tuple #[.int .i64 (wint s.data.toList low high).1, .int .i64 (wint s.data.toList low high).2])) := by
  have hD := fun w => woDec s hs w
  have HE := Lib.hid hE
  unfold wint
  clear hE
  cases hd : isDec s.data.toList with
  | false =>
    rw [hd] at hD
    rw [if_neg (by simp)]
    have HD := Lib.hid hD
    clear hD hd
    go_enter Tryz.func24, Tryz.ntmps24
    go_wp2_with fail
    refine (HD.out _).mono ?_; rintro e w1 ⟨rfl, hb1⟩
    go_wp2_with fail
    go_ret2
    exact rb_tuple rfl rfl hb1
  | true =>
    rw [hd] at hD
    rw [if_pos rfl]
    have HD := Lib.hid hD
    cases hi : inI64 (intV s.data.toList) with
    | false =>
      have HP := Lib.hid (fun w h => parse_no hd hi hs w h)
      rw [Bool.false_and, Bool.false_and, if_neg (by simp)]
      clear hD hd hi
      go_enter Tryz.func24, Tryz.ntmps24
      go_wp2_with fail
      refine (HD.out _).mono ?_; rintro e w1 ⟨rfl, hb1⟩
      go_wp2_with fail
      refine (HP.out _ (HE.out.bl hb1)).mono ?_; rintro e w2 ⟨v, t, N, rfl, hb2⟩
      go_wp2_with fail
      go_ret2
      exact rb_tuple rfl rfl (by repeat (first | assumption | exact Bl.refl _ | apply Bl.drewN | apply Bl.drew | apply Bl.alloc | (refine Bl.dr ?_ (by assumption)) | (refine Bl.trans ?_ (by assumption))))
    | true =>
      have HP := Lib.hid (fun w => parse_ok hd hi hs w)
      rw [Bool.true_and]
      clear hD hd hi
      generalize intV s.data.toList = v at *
      by_cases h1 : low ≤ v
      · have e1 : ¬ v < low := by omega
        by_cases h2 : v ≤ high
        · have e2 : ¬ high < v := by omega
          rw [decide_eq_true h1, decide_eq_true h2, Bool.and_self, if_pos (show true = true from rfl)]
          clear h1 h2
          go_enter Tryz.func24, Tryz.ntmps24
          go_wp2_with fail
          refine (HD.out _).mono ?_; rintro e w1 ⟨rfl, hb1⟩
          go_wp2_with fail
          refine (HP.out _).mono ?_; rintro e w2 ⟨rfl, hb2⟩
          go_wp2_with fail
          go_ret2
          exact rb_tuple rfl rfl (by repeat (first | assumption | exact Bl.refl _ | apply Bl.drewN | apply Bl.drew | apply Bl.alloc | (refine Bl.dr ?_ (by assumption)) | (refine Bl.trans ?_ (by assumption))))
        · have e2 : high < v := by omega
          rw [decide_eq_false h2, Bool.and_false, if_neg (by simp)]
          clear h1 h2
          go_enter Tryz.func24, Tryz.ntmps24
          go_wp2_with fail
          refine (HD.out _).mono ?_; rintro e w1 ⟨rfl, hb1⟩
          go_wp2_with fail
          refine (HP.out _).mono ?_; rintro e w2 ⟨rfl, hb2⟩
          go_wp2_with fail
          go_ret2
          exact rb_tuple rfl rfl (by repeat (first | assumption | exact Bl.refl _ | apply Bl.drewN | apply Bl.drew | apply Bl.alloc | (refine Bl.dr ?_ (by assumption)) | (refine Bl.trans ?_ (by assumption))))
      · have e1 : v < low := by omega
        rw [decide_eq_false h1, Bool.false_and, if_neg (by simp)]
        clear h1
        go_enter Tryz.func24, Tryz.ntmps24
        go_wp2_with fail
        refine (HD.out _).mono ?_; rintro e w1 ⟨rfl, hb1⟩
        go_wp2_with fail
        refine (HP.out _).mono ?_; rintro e w2 ⟨rfl, hb2⟩
        go_wp2_with fail
        go_ret2
        exact rb_tuple rfl rfl (by repeat (first | assumption | exact Bl.refl _ | apply Bl.drewN | apply Bl.drew | apply Bl.alloc | (refine Bl.dr ?_ (by assumption)) | (refine Bl.trans ?_ (by assumption))))
set_option maxHeartbeats 1000000 in
theorem woDigits (n : Int) (h0 : -9223372036854775808 ≤ n) (h1 : n ≤ 9223372036854775807) (w : World) (hE : WEnv w) : Calls Tryz.prog 18 #[.int .i64 n] w (RB w (.string ⟨(Lib.itoa n).toArray⟩)) := by
  have HF := Lib.hid (fun w hp => Tryz.strconv_FormatInt_10 n h0 h1 w hp)
  have HE := Lib.hid hE
  clear hE
  go_enter Tryz.func18, Tryz.ntmps18
  go_wp2_with fail
  refine (HF.out _ HE.out.pow).mono ?_; rintro e w1 ⟨rfl, k, os, rfl⟩
  go_wp2_with fail
  go_ret
  exact RB.mk rfl (((Bl.refl w).drewN k).trans (bl_grow _ _))
end Go.Proofs.YtkbfjficmdgjpaaGreatDoor

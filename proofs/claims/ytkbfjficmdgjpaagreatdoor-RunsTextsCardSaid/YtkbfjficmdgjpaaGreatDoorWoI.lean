
/-
  Plain facts of a line's fields, one after the other; strings.Cut at a blank; words.Unquote.
-/
import Derived.Test.YtkbfjficmdgjpaaGreatDoorWoH
namespace Go.Proofs.YtkbfjficmdgjpaaGreatDoor
open Go.RowKit
set_option linter.unusedSimpArgs false
set_option linter.unusedVariables false
set_option maxRecDepth 100000

/-! ### What the iterator yields -/
def badF : Fld × Bool := (⟨[], false⟩, false)
def fseqG : Nat → List UInt8 → List (Fld × Bool)
  | 0, _ => []
  | f + 1, t => match head1 t with
    | none => [badF]
    | some x => match t.drop x.2 with
      | [] => [(x.1, true)]
      | c :: r => if c = 32 then (x.1, true) :: fseqG f r else [badF]
theorem head1_len {t : List UInt8} {f : Fld} {n : Nat} (h : head1 t = some (f, n)) : 1 ≤ n ∧ n ≤ t.length := by
  obtain ⟨h1, h2, _, h4⟩ := head1_inv h
  refine ⟨h4, ?_⟩
  have := congrArg List.length h1
  rw [List.length_append] at this
  omega
theorem fseqG_fuel : ∀ (f g : Nat) (t : List UInt8), t.length < f → t.length < g → fseqG f t = fseqG g t
  | 0, _, _, h, _ => by omega
  | _ + 1, 0, _, _, h => by omega
  | f + 1, g + 1, t, h1, h2 => by
    simp only [fseqG]
    cases hh : head1 t with
    | none => rfl
    | some x =>
      obtain ⟨x, n⟩ := x
      have hl := head1_len hh
      simp only
      cases hd : t.drop n with
      | nil => rfl
      | cons c r =>
        have : r.length + 1 + n = t.length := by
          have := congrArg List.length hd
          simp at this; omega
        simp only
        rw [fseqG_fuel f g r (by omega) (by omega)]
def fseq (t : List UInt8) : List (Fld × Bool) := fseqG (t.length + 1) t
theorem fseq_none {t : List UInt8} (h : head1 t = none) : fseq t = [badF] := by unfold fseq; simp only [fseqG, h]
theorem fseq_end {t : List UInt8} {x : Fld} {n : Nat} (h : head1 t = some (x, n)) (hd : t.drop n = []) : fseq t = [(x, true)] := by
  unfold fseq; simp only [fseqG, h, hd]
theorem fseq_bad {t r : List UInt8} {x : Fld} {n : Nat} {c : UInt8} (h : head1 t = some (x, n)) (hd : t.drop n = c :: r) (hc : c ≠ 32) : fseq t = [badF] := by
  unfold fseq; simp only [fseqG, h, hd, if_neg hc]
theorem fseq_sp {t r : List UInt8} {x : Fld} {n : Nat} (h : head1 t = some (x, n)) (hd : t.drop n = 32 :: r) : fseq t = (x, true) :: fseq r := by
  have hl := head1_len h
  have hr : r.length + 1 + n = t.length := by
    have := congrArg List.length hd
    simp at this; omega
  have e : fseqG (t.length + 1) t = (x, true) :: fseqG t.length r := by simp only [fseqG, h, hd, if_true]
  unfold fseq
  rw [e, fseqG_fuel t.length (r.length + 1) r (by omega) (by omega)]
theorem fseqG_len : ∀ (f : Nat) (t : List UInt8), (fseqG f t).length ≤ f
  | 0, _ => by simp [fseqG]
  | f + 1, t => by
    simp only [fseqG]
    split
    · simp
    · split
      · simp
      · split
        · have := fseqG_len f; simp; apply this
        · simp
theorem fseq_len (t : List UInt8) : (fseq t).length ≤ t.length + 1 := fseqG_len _ _
theorem splitG_seq : ∀ (f : Nat) (t : List UInt8), t.length < f → splitG f t = if (fseqG f t).all (·.2) = true then some ((fseqG f t).map (·.1)) else none
  | 0, _, h => by omega
  | f + 1, t, h => by
    cases hh : head1 t with
    | none => simp only [fseqG, splitG, hh]; rfl
    | some x =>
      obtain ⟨x, n⟩ := x
      have hl := head1_len hh
      cases hd : t.drop n with
      | nil => simp only [fseqG, splitG, hh, hd]; rfl
      | cons c r =>
        have hr : r.length + 1 + n = t.length := by
          have := congrArg List.length hd
          simp at this; omega
        simp only [fseqG, splitG, hh, hd]
        by_cases e : c = 32
        · rw [if_pos e, if_pos e, splitG_seq f r (by omega)]
          simp only [List.all_cons, Bool.true_and, List.map_cons]
          by_cases q : (fseqG f r).all (·.2) = true
          · rw [if_pos q, if_pos q]; rfl
          · rw [if_neg q, if_neg q]; rfl
        · rw [if_neg e, if_neg e]; rfl
def splitW (t : List UInt8) : Option (List Fld) := splitG (t.length + 1) t
theorem splitW_seq (t : List UInt8) : splitW t = if (fseq t).all (·.2) = true then some ((fseq t).map (·.1)) else none := splitG_seq _ t (by omega)
/-! ### strings.Cut at a byte -/
def cutL (c : UInt8) (t : List UInt8) : List UInt8 × List UInt8 × Bool := (t.takeWhile (fun x => x != c), (t.dropWhile (fun x => x != c)).drop 1, t.contains c)
theorem ib_spec (c : UInt8) : ∀ l : List UInt8, Lib.indexByte l c = if l.contains c then ((l.takeWhile (fun x => x != c)).length : Int) else -1
  | [] => rfl
  | b :: l => by
    have ih := ib_spec c l
    simp only [Lib.indexByte]
    by_cases e : b = c
    · subst e; simp
    · have e' : ¬ c = b := fun h => e h.symm
      rw [if_neg (by simpa using e), ih]
      by_cases q : l.contains c = true
      · have hm : c ∈ l := by simpa using q
        rw [if_pos q, if_neg (by first | (simp; done) | (simp; omega)), if_pos (by simp [hm])]
        simp [e]
      · have hm : ¬ c ∈ l := by simpa using q
        rw [if_neg q, if_pos (by simp), if_neg (by simp [hm, e'])]
theorem take_word (c : UInt8) (l : List UInt8) : l.take (l.takeWhile (fun x => x != c)).length = l.takeWhile (fun x => x != c) := by
  induction l with
  | nil => rfl
  | cons b l ih => by_cases e : b = c <;> simp [List.takeWhile_cons, e, ih]
theorem drop_word (c : UInt8) (l : List UInt8) : l.drop (l.takeWhile (fun x => x != c)).length = l.dropWhile (fun x => x != c) := by
  induction l with
  | nil => rfl
  | cons b l ih => by_cases e : b = c <;> simp [List.takeWhile_cons, e, ih]
theorem word_all (c : UInt8) (l : List UInt8) (h : l.contains c = false) : l.takeWhile (fun x => x != c) = l ∧ l.dropWhile (fun x => x != c) = [] := by
  induction l with
  | nil => exact ⟨rfl, rfl⟩
  | cons b l ih =>
    have e : ¬ b = c := by rintro rfl; simp at h
    have h' : l.contains c = false := by
      simp at h ⊢; exact h.2
    obtain ⟨h1, h2⟩ := ih h'
    constructor
    · simp [List.takeWhile_cons, e, h1]
    · simp [List.dropWhile_cons, e, h2]
theorem word_lt (c : UInt8) (l : List UInt8) (h : l.contains c = true) : (l.takeWhile (fun x => x != c)).length < l.length := by
  induction l with
  | nil => simp at h
  | cons b l ih =>
    by_cases e : b = c
    · subst e; simp
    · have : l.contains c = true := by
        simp at h ⊢
        rcases h with h | h
        · exact absurd h.symm e
        · exact h
      simp [List.takeWhile_cons, e, ih this]
theorem str_list (s : ByteArray) : s = ⟨s.data.toList.toArray⟩ := by cases s; simp
theorem ext_takeW (r : ByteArray) (n : Nat) (h : n ≤ r.size) : (r.extract 0 n).data.toList = r.data.toList.take n := by
  rw [ByteArray.data_extract]; simp
set_option maxHeartbeats 1000000 in
theorem liteCut (s : ByteArray) (c : UInt8) (hs : s.size ≤ 100000000) (w : World) : Calls Tryz.prog 43 #[.string s, .string ⟨#[c]⟩] w (RD w (.tuple #[.string ⟨(cutL c s.data.toList).1.toArray⟩, .string ⟨(cutL c s.data.toList).2.1.toArray⟩, .bool (cutL c s.data.toList).2.2])) := by
  have hI := fun w => same_sym (Tryz.stringslite_Index_one s c w)
  rw [ib_spec] at hI
  cases hc : s.data.toList.contains c
  · rw [hc, if_neg (by simp)] at hI
    obtain ⟨e1, e2⟩ := word_all c _ hc
    have e : cutL c s.data.toList = (s.data.toList, [], false) := by unfold cutL; rw [e1, e2, hc]; rfl
    rw [e]
    have HI := Lib.hid hI
    clear hI e e1 e2 hc
    go_enter Tryz.func43, Tryz.ntmps43
    go_wp2_with fail
    refine (HI.out _).mono ?_; rintro e w' ⟨rfl, rfl⟩
    go_wp2_with fail
    go_ret3
    exact ⟨by rw [← str_list]; rfl, Dr.refl _⟩
  · rw [hc, if_pos rfl] at hI
    obtain ⟨n, hn⟩ : ∃ n, (s.data.toList.takeWhile (fun x => x != c)).length = n := ⟨_, rfl⟩
    have hlt := word_lt c _ hc
    have hk := take_word c s.data.toList
    have hd := drop_word c s.data.toList
    rw [hn] at hI hlt hk hd
    have e : cutL c s.data.toList = (s.data.toList.take n, s.data.toList.drop (n + 1), true) := by unfold cutL; rw [← hk, ← hd, hc, List.drop_drop]
    rw [e]
    have hl : n < s.size := by simpa using hlt
    have i1 : (0 : Int) ≤ (n : Int) := by omega
    have i2 : (n : Int) ≤ (s.size : Int) := by omega
    have i3 : (0 : Int) ≤ (n : Int) + 1 := by omega
    have i4 : (n : Int) + 1 ≤ (s.size : Int) := by omega
    have hcs : ((⟨#[c]⟩ : ByteArray).size : Int) = 1 := rfl
    have HI := Lib.hid hI
    have r1 : (⟨(s.data.toList.take n).toArray⟩ : ByteArray) = s.extract 0 n := by rw [str_list (s.extract 0 n), ext_takeW _ _ (by omega)]
    have r2 : (⟨(s.data.toList.drop (n + 1)).toArray⟩ : ByteArray) = s.extract (n + 1) s.size := by rw [str_list (s.extract (n + 1) s.size), ext_dropW]
    rw [r1, r2]
    clear hI e hk hd hlt hn hc r1 r2
    go_enter Tryz.func43, Tryz.ntmps43
    go_wp2_with fail
    refine (HI.out _).mono ?_; rintro e w' ⟨rfl, rfl⟩
    go_wp2_with fail
    go_quiet (fail)
    go_wp2_with fail
    go_ret3
    exact ⟨rfl, (by repeat (first | assumption | exact Dr.refl _ | apply Dr.drewN | apply Dr.drew | (refine Dr.trans ?_ (by assumption))))⟩
set_option maxHeartbeats 1000000 in
theorem woCut (s : ByteArray) (c : UInt8) (hs : s.size ≤ 100000000) (w : World) : Calls Tryz.prog 22 #[.string s, .string ⟨#[c]⟩] w (RD w (.tuple #[.string ⟨(cutL c s.data.toList).1.toArray⟩, .string ⟨(cutL c s.data.toList).2.1.toArray⟩, .bool (cutL c s.data.toList).2.2])) := by
  have hC := fun w => liteCut s c hs w
  generalize cutL c s.data.toList = r at hC ⊢
  obtain ⟨a, b, d⟩ := r
  have HC := Lib.hid hC
  clear hC
  go_enter Tryz.func22, Tryz.ntmps22
  go_wp2_with fail
  refine (HC.out _).mono ?_; rintro e w' ⟨rfl, hd⟩
  go_wp2_with fail
  go_ret3
  exact ⟨rfl, hd⟩
/-! ### words.Unquote -/
def unqR (l : List UInt8) : List UInt8 × Int := match unq1 l with
  | some (t, n) => if n = l.length then (t, 0) else ([], 6)
  | none => ([], 6)
theorem unq1_len {l t : List UInt8} {n : Nat} (h : unq1 l = some (t, n)) : 1 ≤ n ∧ n ≤ l.length := by
  obtain ⟨h1, h2⟩ := unq1_inv h
  have := congrArg List.length h1
  rw [List.length_append] at this
  refine ⟨by rw [h2]; simp [quoteW], by omega⟩
set_option maxHeartbeats 1000000 in
theorem woUnquote (s : ByteArray) (hs : s.size ≤ 100000) (w : World) (hE : EscTab w) : Calls Tryz.prog 108 #[.string s] w (RB w (.tuple #[.string ⟨(unqR s.data.toList).1.toArray⟩, .int .i64 (unqR s.data.toList).2])) := by
  have hU := fun w h => woUnq s hs w h _ rfl
  have HE := Lib.hid hE
  clear hE
  have hsz : s.data.toList.length = s.size := by simp
  unfold uqR at hU
  unfold unqR
  cases hu : unq1 s.data.toList with
  | none =>
    rw [hu] at hU
    simp only at hU ⊢
    have HU := Lib.hid hU
    clear hU hu hsz
    go_enter Tryz.func108, Tryz.ntmps108
    go_wp2_with fail
    refine (HU.out _ HE.out).mono ?_; rintro e w1 ⟨rfl, hb1⟩
    go_wp2_with fail
    go_ret2
    exact rb_tuple rfl rfl hb1
  | some p =>
    obtain ⟨t, n⟩ := p
    have hl := unq1_len hu
    rw [hu] at hU
    simp only at hU ⊢
    rw [hsz] at hl ⊢
    have HU := Lib.hid hU
    have hn0 : (((n : Nat) : Int) == 0) = false := by rw [beq_eq_false_iff_ne]; omega
    obtain ⟨n1, n2⟩ := hl
    clear hU hu hsz
    by_cases e : n = s.size
    · rw [if_pos e]
      have e1 : ¬ (n : Int) < (s.size : Int) := by omega
      clear e
      go_enter Tryz.func108, Tryz.ntmps108
      go_wp2_with fail
      refine (HU.out _ HE.out).mono ?_; rintro e w1 ⟨rfl, hb1⟩
      go_wp2_with fail
      go_ret2
      exact rb_tuple rfl rfl hb1
    · rw [if_neg e]
      have e1 : (n : Int) < (s.size : Int) := by omega
      clear e
      go_enter Tryz.func108, Tryz.ntmps108
      go_wp2_with fail
      refine (HU.out _ HE.out).mono ?_; rintro e w1 ⟨rfl, hb1⟩
      go_wp2_with fail
      go_ret2
      exact rb_tuple rfl rfl hb1
end Go.Proofs.YtkbfjficmdgjpaaGreatDoor

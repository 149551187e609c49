
/-
  Contracts of fence.Check, Size, asked and of the reference's Check, Size.
-/
import Derived.Test.YtndcjgkgkpkklaaFnB
import Derived.Test.YtndcjgkgkpkklaaEntB
namespace Go.Proofs.Ytndcjgkgkpkklaa
open Go.RowKit
set_option linter.unusedSimpArgs false
set_option linter.unusedVariables false
set_option maxRecDepth 100000

structure Fnc where
  step : Int
  marks : List ByteArray
def Fnc.v (f : Fnc) (a : Option Addr) (c : Nat) : Value := .agg #[.int .i64 f.step, .slice a f.marks.length c]
structure FOk (w : World) (a : Option Addr) (f : Fnc) : Prop where
  strs : Strs w a f.marks
  len : f.marks.length ≤ 4611686018427387904
  lo : -9223372036854775808 ≤ f.step
  hi : f.step ≤ 9223372036854775807
theorem FOk.bl {w w' : World} {a : Option Addr} {f : Fnc} (h : FOk w a f) (k : Bl w w') : FOk w' a f := ⟨h.strs.bl k, h.len, h.lo, h.hi⟩
def fmGo : Nat → Option ByteArray → List ByteArray → Int × Int
  | _, _, [] => (0, 0)
  | i, p, m :: r => if kchk m ≠ 0 then ((i : Int), kchk m) else if pbad p m = true then ((i : Int), 6) else fmGo (i + 1) (some m) r
def fchk (f : Fnc) : Int × Int := if f.step < 1 ∨ 64 < f.step then (-1, 7) else if 4999 < f.marks.length then (-1, 3) else fmGo 0 none f.marks
def prevM (l : List ByteArray) (k : Nat) : Option ByteArray := if k = 0 then none else l[k - 1]?
theorem fmGo_drop {l : List ByteArray} {k : Nat} {x : ByteArray} (h : l[k]? = some x) (p : Option ByteArray) : fmGo k p (l.drop k) = if kchk x ≠ 0 then ((k : Int), kchk x) else if pbad p x = true then ((k : Int), 6) else fmGo (k + 1) (some x) (l.drop (k + 1)) := by
  obtain ⟨hk, rfl⟩ := List.getElem?_eq_some_iff.1 h
  rw [List.drop_eq_getElem_cons hk]; rfl
theorem prevM_succ {l : List ByteArray} {k : Nat} {x : ByteArray} (h : l[k]? = some x) : prevM l (k + 1) = some x := by simp [prevM, h]


set_option maxHeartbeats 1000000 in
set_option maxRecDepth 100000 in
theorem fenceCheck (a : Option Addr) (c : Nat) (f : Fnc) (w : World) (hf : FOk w a f) :
    Calls Try.prog 77 #[f.v a c] w (RB w (.tuple #[.int .i64 (fchk f).1, .int .i64 (fchk f).2])) := by
  obtain ⟨s, l⟩ := f
  obtain ⟨hl, hn, hs1, hs2⟩ := hf
  simp only at hl hn hs1 hs2
  unfold Fnc.v fchk
  simp only
  by_cases h1 : s < 1 ∨ 64 < s
  · rw [if_pos h1]
    rcases h1 with h1 | h1
    · go_enter Try.func77, Try.ntmps77
      go_wp2
      go_ret2
      exact rb_tuple rfl rfl (by repeat (first | assumption | exact Bl.refl _ | apply Bl.drewN | apply Bl.drew | apply Bl.alloc | (refine Bl.dr ?_ (by assumption)) | (refine Bl.trans ?_ (by assumption))))
    · have h1' : ¬ s < 1 := by omega
      go_enter Try.func77, Try.ntmps77
      go_wp2
      go_ret2
      exact rb_tuple rfl rfl (by repeat (first | assumption | exact Bl.refl _ | apply Bl.drewN | apply Bl.drew | apply Bl.alloc | (refine Bl.dr ?_ (by assumption)) | (refine Bl.trans ?_ (by assumption))))
  · rw [if_neg h1]
    have h1' : ¬ s < 1 := by omega
    have h1'' : ¬ 64 < s := by omega
    clear h1
    by_cases h0 : 4999 < l.length
    · rw [if_pos h0]
      have h0' : 5000 ≤ (l.length : Int) := by omega
      go_enter Try.func77, Try.ntmps77
      go_wp2
      go_ret2
      exact rb_tuple rfl rfl (by repeat (first | assumption | exact Bl.refl _ | apply Bl.drewN | apply Bl.drew | apply Bl.alloc | (refine Bl.dr ?_ (by assumption)) | (refine Bl.trans ?_ (by assumption))))
    · rw [if_neg h0]
      have h0' : ¬ 5000 ≤ (l.length : Int) := by omega
      generalize hR : fmGo 0 none l = R
      go_enter Try.func77, Try.ntmps77
      go_wp2
      go_loopg [24] l.length (fun g i wr => ∃ k : Nat, k ≤ l.length ∧ i = .int .i64 k ∧ R = fmGo k (prevM l k) (l.drop k) ∧ Dr (w.alloc (Obj.cells #[Value.int IntKind.i64 s, Value.slice a l.length c] 76)) wr ∧ g = l.length - k)
      case atStart => exact ⟨0, by omega, rfl, by rw [← hR]; rfl, Dr.refl _, rfl⟩
      case round =>
        obtain ⟨k, hk1, rfl, hc, hd, hg⟩ := hrel
        have H := Lib.hid hc
        have G := Lib.hid hg
        have hb : Bl w wr := ((Bl.refl w).alloc _).dr hd
        have hbox : wr.cell? ⟨w.heap.size, 1, none⟩ = some (.slice a l.length c) := by rw [hd.cell]; simp [go_sem]
        clear hc hg hR
        by_cases h2 : k < l.length
        · obtain ⟨b, off, rfl, hat⟩ := hl.get h2
          obtain ⟨x, hx⟩ : ∃ x, l[k]? = some x := ⟨_, List.getElem?_eq_getElem h2⟩
          have c0 := hb.cell (hat k x hx)
          have hxo : x.size ≤ maxLen := hl.ok x (List.mem_of_getElem? hx)
          have X := Lib.hid hx
          clear hx
          have hE := fun w => keysCheck x w hxo
          by_cases e1 : kchk x = 0
          · have e1' : (kchk x == 0) = true := by simp [e1]
            have e1'' : (kchk x != 0) = false := by simp [e1]
            generalize hq : kchk x = q at *
            have Hq := Lib.hid hq
            have HE := Lib.hid hE
            have E1 := Lib.hid e1
            clear hE hq e1
            by_cases hk0 : 0 < k
            · obtain ⟨y, hy⟩ : ∃ y, l[k - 1]? = some y := ⟨_, List.getElem?_eq_getElem (by omega)⟩
              have d0 := hb.cell (hat (k - 1) y hy)
              have hyo : y.size ≤ maxLen := hl.ok y (List.mem_of_getElem? hy)
              have hO := fun w => refOrder y x w hyo hxo
              have g := cmpS_geq' y x
              have hpk : prevM l k = some y := by simp [prevM, show k ≠ 0 by omega, hy]
              have Hp := Lib.hid hpk
              generalize cmpS y x = q2 at *
              have HO := Lib.hid hO
              have Hl := Lib.hid hl
              clear hpk hy hO hl hat
              by_cases hlt : slt y x = true
              · have hlt1 : Op.bytesLess x.toList y.toList = false := slt_asymm hlt
                have hlt2 : (x.toList == y.toList) = false := by
                  rw [beq_eq_false_iff_ne]; intro h; have := str_ext h; rw [this, slt_irrefl] at hlt; cases hlt
                have g' : ¬ 0 ≤ q2 := by rw [g, hlt]; simp
                have Hlt := Lib.hid hlt
                clear hlt g
                go_wp2_with fail
                refine (HE.out _).mono ?_; rintro e w' ⟨rfl, n1, rfl⟩
                go_wp2_with fail
                go_roundg (l.length - (k + 1))
                case rel =>
                  refine ⟨k + 1, by omega, by go_num, ?_, (by repeat (first | assumption | exact Dr.refl _ | apply Dr.drewN | apply Dr.drew | (refine Dr.trans ?_ (by assumption)))), rfl⟩
                  rw [H.out, fmGo_drop X.out, Hq.out, E1.out, prevM_succ X.out, Hp.out]; simp [pbad, Hlt.out]
                case measure => rw [G.out]; omega
              · have hge : (Op.bytesLess x.toList y.toList || x.toList == y.toList) = true := by
                  rw [le_slt]; simpa using hlt
                have g' : 0 ≤ q2 := by rw [g]; simpa using hlt
                have hlt1 : slt y x = false := by simpa using hlt
                have Hlt := Lib.hid hlt1
                clear hlt hlt1 g
                go_wp2_with fail
                refine (HE.out _).mono ?_; rintro e w' ⟨rfl, n1, rfl⟩
                go_wp2_with fail
                go_ret2
                refine rb_tuple (ival ?_) (ival ?_) (by repeat (first | assumption | exact Bl.refl _ | apply Bl.drewN | apply Bl.drew | apply Bl.alloc | (refine Bl.dr ?_ (by assumption)) | (refine Bl.trans ?_ (by assumption)))) <;> (rw [H.out, fmGo_drop X.out, Hq.out, E1.out, Hp.out]; simp [pbad, Hlt.out])
            · have hpk : prevM l k = none := by simp [prevM, show k = 0 by omega]
              have Hp := Lib.hid hpk
              have Hl := Lib.hid hl
              clear hpk hl hat
              go_wp2_with fail
              refine (HE.out _).mono ?_; rintro e w' ⟨rfl, n1, rfl⟩
              go_wp2_with fail
              go_roundg (l.length - (k + 1))
              case rel =>
                refine ⟨k + 1, by omega, by go_num, ?_, (by repeat (first | assumption | exact Dr.refl _ | apply Dr.drewN | apply Dr.drew | (refine Dr.trans ?_ (by assumption)))), rfl⟩
                rw [H.out, fmGo_drop X.out, Hq.out, E1.out, prevM_succ X.out, Hp.out]; simp [pbad]
              case measure => rw [G.out]; omega
          · have e1' : (kchk x != 0) = true := by simp [e1]
            have e1'' : (kchk x == 0) = false := by simp [e1]
            generalize hq : kchk x = q at *
            have Hq := Lib.hid hq
            have HE := Lib.hid hE
            have E1 := Lib.hid e1
            have Hl := Lib.hid hl
            clear hE hq e1 hl hat
            go_wp2_with fail
            refine (HE.out _).mono ?_; rintro e w' ⟨rfl, n1, rfl⟩
            go_wp2_with fail
            go_ret2
            refine rb_tuple (ival ?_) (ival ?_) (by repeat (first | assumption | exact Bl.refl _ | apply Bl.drewN | apply Bl.drew | apply Bl.alloc | (refine Bl.dr ?_ (by assumption)) | (refine Bl.trans ?_ (by assumption)))) <;> (rw [H.out, fmGo_drop X.out, Hq.out]; simp [E1.out])
        · go_wp2
          go_ret2
          refine rb_tuple (ival ?_) (ival ?_) hb <;> (rw [H.out, List.drop_of_length_le (by omega)]; rfl)

end Go.Proofs.Ytndcjgkgkpkklaa

/-
  Own texts laid together: Search FnB EntB FnC FnD KeysC KeysD FnE FnF FnG FnH FnI FnJ FnK FnL FnM FnN PlA PlB Bet PlC RnP RnQ KyP KyA KyE KyF KyN KyG RnR.
-/
import Derived.Test.YtkbfjficmdgjpaaGreatDoorLib
import Derived.Deep.LoopGhost
import Derived.Test.YtkbfjficmdgjpaaGreatDoorEntA
import Derived.StillTailTactics
import Derived.Test.YtkbfjficmdgjpaaGreatDoorKeysB
import Derived.Test.YtkbfjficmdgjpaaGreatDoorOwn
import Derived.Lib.ConvBytes
import Derived.Laws.IdiomStrings
import Derived.Deep.DeepCutAuto
import Derived.Lib.MinMaxS
/-
  A contract of sort.Search, for a closure with two captured variables.
-/
namespace Go.Proofs.YtkbfjficmdgjpaaGreatDoor
open Go.RowKit
set_option linter.unusedSimpArgs false
set_option linter.unusedVariables false
set_option maxRecDepth 100000

set_option maxHeartbeats 1000000 in
theorem sortSearch (F : Nat) (c1 c2 : Value) (n : Nat) (p : Nat → Bool) (r : Nat) (w : World) (hn : n ≤ 4611686018427387904) (hcf : ∀ args W, (callFunc F args).run Tryz.prog W = .ok (.enter F args) W)
    (hf : ∀ w' i, Bl w w' → i < n → Calls Tryz.prog F #[.int .i64 (i : Int), c1, c2] w' (RB w' (.bool (p i))))
    (hr : r ≤ n) (h0 : ∀ j, j < r → p j = false) (h1 : ∀ j, r ≤ j → j < n → p j = true) :
    Calls Tryz.prog 166 #[.int .i64 (n : Int), .func (.func F) #[] #[c1, c2]] w (RB w (.int .i64 (r : Int))) := by
  have HF := Lib.hid hf
  have H0 := Lib.hid h0
  have H1 := Lib.hid h1
  clear hf h0 h1
  go_enter Tryz.func166, Tryz.ntmps166
  go_wp2_with fail
  go_loopg [5, 6] n (fun g i j wr => ∃ a b : Nat, a ≤ r ∧ r ≤ b ∧ b ≤ n ∧ i = .int .i64 a ∧ j = .int .i64 b ∧ Bl w wr ∧ g = b - a)
  case atStart => exact ⟨0, n, by omega, hr, by omega, rfl, rfl, Bl.refl _, rfl⟩
  case round =>
    obtain ⟨a, b, ha, hb, hbn, rfl, rfl, hw, hg⟩ := hrel
    have G := Lib.hid hg
    clear hg
    by_cases hlt : a < b
    · obtain ⟨h, hh⟩ : ∃ h : Nat, h = (a + b) / 2 := ⟨_, rfl⟩
      have hh1 : ((a : Int) + (b : Int)) / 2 = (h : Int) := by omega
      have a1 : a ≤ h := by omega
      have a2 : h < b := by omega
      clear hh
      go_wp2_with fail
      clear hh1
      refine (HF.out wr h hw (by omega)).mono ?_; rintro e w1 ⟨rfl, hb1⟩
      by_cases hp : h < r
      · have e := H0.out h hp
        rw [e]
        go_wp2_with fail
        go_roundg (b - (h + 1))
        case rel => exact ⟨h + 1, b, by omega, hb, hbn, by go_num, rfl, hw.trans hb1, rfl⟩
        case measure => rw [G.out]; omega
      · have e := H1.out h (by omega) (by omega)
        rw [e]
        go_wp2_with fail
        go_roundg (h - a)
        case rel => exact ⟨a, h, ha, by omega, by omega, rfl, rfl, hw.trans hb1, rfl⟩
        case measure => rw [G.out]; omega
    · obtain rfl : a = r := by omega
      have hlt' : ¬ (a : Int) < (b : Int) := by omega
      go_wp2_with fail
      go_ret
      exact RB.mk rfl hw
end Go.Proofs.YtkbfjficmdgjpaaGreatDoor
/-
  The closures of fence.first, and fence.first itself, over strings and over entries.
-/
namespace Go.Proofs.YtkbfjficmdgjpaaGreatDoor
open Go.RowKit
set_option linter.unusedSimpArgs false
set_option linter.unusedVariables false
set_option maxRecDepth 100000

/-- The closure of first over strings: block g holds the predicate, block g2 the slice. -/
theorem firstS1 (F : Nat) (cs : Array Value) (g g2 : Nat) (a : Option Addr) (c : Nat) (l : List ByteArray) (i : Nat) (x : ByteArray) (r : Bool) (w : World)
    (hcf : ∀ args W, (callFunc F args).run Tryz.prog W = .ok (.enter F args) W)
    (h1 : w.cell? ⟨g, 0, none⟩ = some (.func (.func F) #[] cs)) (h2 : w.cell? ⟨g2, 0, none⟩ = some (.slice a l.length c)) (hl : Strs w a l) (hn : l.length ≤ maxLen) (hx : l[i]? = some x)
    (hp : ∀ w', Bl w w' → Calls Tryz.prog F (#[.string x] ++ cs) w' (RB w' (.bool r))) :
    Calls Tryz.prog 167 #[.int .i64 (i : Int), .pointer (some ⟨g, 0, none⟩), .pointer (some ⟨g2, 0, none⟩)] w (RB w (.bool r)) := by
  unfold maxLen at hn
  have hi := (List.getElem?_eq_some_iff.1 hx).1
  obtain ⟨b, off, rfl, hat⟩ := hl.get hi
  have hc := hat i x hx
  have HP := Lib.hid hp
  clear hat hx hp hl
  go_enter Tryz.func167, Tryz.ntmps167
  go_wp2_with fail
  go_still_tail 5, (by kernel_rfl)
  change wpList _ _ _ _ _ w.drew
  go_wp2_with fail
  refine (HP.out _ (Bl.refl w).drew).mono ?_; rintro e w1 ⟨rfl, hb1⟩
  go_wp2_with fail
  go_ret
  exact RB.mk rfl (by repeat (first | assumption | exact Bl.refl _ | apply Bl.drewN | apply Bl.drew | apply Bl.alloc | (refine Bl.dr ?_ (by assumption)) | (refine Bl.trans ?_ (by assumption))))

theorem cfS1 : ∀ args W, (callFunc 167 args).run Tryz.prog W = .ok (.enter 167 args) W := by
  intro args W; simp [go_sem]
set_option maxHeartbeats 400000 in
theorem firstS (F : Nat) (cs : Array Value) (a : Option Addr) (c : Nat) (l : List ByteArray) (p : ByteArray → Bool) (r : Nat) (w : World)
    (hcf : ∀ args W, (callFunc F args).run Tryz.prog W = .ok (.enter F args) W)
    (hl : Strs w a l) (hn : l.length ≤ 4611686018427387904)
    (hp : ∀ x w', x ∈ l → Bl w w' → Calls Tryz.prog F (#[.string x] ++ cs) w' (RB w' (.bool (p x))))
    (hr : r ≤ l.length) (h0 : ∀ j x, l[j]? = some x → j < r → p x = false) (h1 : ∀ j x, l[j]? = some x → r ≤ j → p x = true) :
    Calls Tryz.prog 164 #[.slice a l.length c, .func (.func F) #[] cs] w (RB w (.int .i64 (r : Int))) := by
  have hS := fun W (hb : Bl w W) g g2 (e1 : W.cell? ⟨g, 0, none⟩ = some (.func (.func F) #[] cs)) (e2 : W.cell? ⟨g2, 0, none⟩ = some (.slice a l.length c)) =>
    sortSearch 167 (.pointer (some ⟨g, 0, none⟩)) (.pointer (some ⟨g2, 0, none⟩)) l.length (fun i => (l[i]?.map p).getD false) r W hn cfS1
      (fun w' i hw' hi => by
        obtain ⟨x, hx⟩ : ∃ x, l[i]? = some x := ⟨_, List.getElem?_eq_getElem hi⟩
        simp only [hx, Option.map_some, Option.getD_some]
        exact firstS1 F cs g g2 a c l i x (p x) w' hcf (hw'.cell e1) (hw'.cell e2) (hl.bl (hb.trans hw')) (by unfold maxLen; omega) hx
          (fun w'' hw'' => hp x w'' (List.mem_of_getElem? hx) ((hb.trans hw').trans hw'')))
      hr (fun j hj => by
        obtain ⟨x, hx⟩ : ∃ x, l[j]? = some x := ⟨_, List.getElem?_eq_getElem (by omega)⟩
        simp only [hx, Option.map_some, Option.getD_some]; exact h0 j x hx hj)
      (fun j hj hj2 => by
        obtain ⟨x, hx⟩ : ∃ x, l[j]? = some x := ⟨_, List.getElem?_eq_getElem hj2⟩
        simp only [hx, Option.map_some, Option.getD_some]; exact h1 j x hx hj)
  have HS := Lib.hid hS
  clear hS hp h0 h1 hl
  have hn' : l.length ≤ 9223372036854775807 := by omega
  go_enter Tryz.func164, Tryz.ntmps164
  go_wp2_with fail
  refine (HS.out _ (by repeat (first | assumption | exact Bl.refl _ | apply Bl.drewN | apply Bl.drew | apply Bl.alloc | (refine Bl.dr ?_ (by assumption)) | (refine Bl.trans ?_ (by assumption)))) _ _ (by simp [go_sem]) (by simp [go_sem])).mono ?_; rintro e w1 ⟨rfl, hb1⟩
  go_wp2_with fail
  go_ret
  exact RB.mk rfl (by repeat (first | assumption | exact Bl.refl _ | apply Bl.drewN | apply Bl.drew | apply Bl.alloc | (refine Bl.dr ?_ (by assumption)) | (refine Bl.trans ?_ (by assumption))))

/-! ### The predicates -/
theorem cfBlock1 : ∀ args W, (callFunc 165 args).run Tryz.prog W = .ok (.enter 165 args) W := by
  intro args W; simp [go_sem]
theorem gt_slt (m k : ByteArray) : (!(Op.bytesLess m.toList k.toList || m.toList == k.toList)) = slt k m := by
  cases h : Op.bytesLess m.toList k.toList
  · cases h2 : Op.bytesLess k.toList m.toList
    · have := slt_tri h h2; subst this; simp [slt, h2]
    · have : (m.toList == k.toList) = false := by
        rw [beq_eq_false_iff_ne]; intro e; have := str_ext e; subst this; rw [bl_irrefl] at h2; cases h2
      simp [slt, h2, this]
  · have := slt_asymm (a := m) (b := k) h; simp [this]
theorem le_slt (m k : ByteArray) : (Op.bytesLess m.toList k.toList || m.toList == k.toList) = !slt k m := by
  rw [← gt_slt]; simp

theorem block1 (m k : ByteArray) (g : Nat) (w : World) (h : w.cell? ⟨g, 0, none⟩ = some (.string k)) :
    Calls Tryz.prog 165 #[.string m, .pointer (some ⟨g, 0, none⟩)] w (RB w (.bool (slt k m))) := by
  rw [← gt_slt]
  go_enter Tryz.func165, Tryz.ntmps165
  go_wp2_with fail
  go_ret
  exact RB.mk (bval (by simp)) (by repeat (first | assumption | exact Bl.refl _ | apply Bl.drewN | apply Bl.drew | apply Bl.alloc | (refine Bl.dr ?_ (by assumption)) | (refine Bl.trans ?_ (by assumption))))
end Go.Proofs.YtkbfjficmdgjpaaGreatDoor
/-
  Contracts of the reference's CheckList, at, Find.
-/
namespace Go.Proofs.YtkbfjficmdgjpaaGreatDoor
open Go.RowKit
set_option linter.unusedSimpArgs false
set_option linter.unusedVariables false
set_option maxRecDepth 100000

theorem cmpS_geq' (a b : ByteArray) : (0 ≤ cmpS a b) ↔ slt a b = false := by
  unfold cmpS; cases h : slt a b
  · by_cases k : a.toList = b.toList <;> simp [k]
  · simp

set_option maxHeartbeats 1000000 in
theorem refCheckList (a : Option Addr) (c : Nat) (l : List Ent) (w : World) (hl : Ents w a l) (hn : l.length ≤ maxLen) :
    Calls Tryz.prog 40 #[.slice a l.length c] w (RB w (.tuple #[.int .i64 (clchk l).1, .int .i64 (clchk l).2])) := by
  unfold maxLen at hn
  unfold clchk
  by_cases h0 : 5000 < l.length
  · rw [if_pos h0]
    go_enter Tryz.func40, Tryz.ntmps40
    go_wp2
    go_ret2
    exact rb_tuple rfl rfl (by repeat (first | assumption | exact Bl.refl _ | apply Bl.drewN | apply Bl.drew | apply Bl.alloc | (refine Bl.dr ?_ (by assumption)) | (refine Bl.trans ?_ (by assumption))))
  · rw [if_neg h0]
    generalize hR : clGo 0 none l = R
    go_enter Tryz.func40, Tryz.ntmps40
    go_wp2
    go_loopg [4] l.length (fun g i wr => ∃ k : Nat, k ≤ l.length ∧ i = .int .i64 k ∧ R = clGo k (prevK l k) (l.drop k) ∧ Bl w wr ∧ g = l.length - k)
    case atStart => exact ⟨0, by omega, rfl, by rw [← hR]; rfl, Bl.refl _, rfl⟩
    case round =>
      obtain ⟨k, hk1, rfl, hc, hb, hg⟩ := hrel
      have H := Lib.hid hc
      have G := Lib.hid hg
      clear hc hg hR
      by_cases h1 : k < l.length
      · obtain ⟨b, off, rfl, hat⟩ := hl.get h1
        obtain ⟨x, hx⟩ : ∃ x, l[k]? = some x := ⟨_, List.getElem?_eq_getElem h1⟩
        obtain ⟨c0, c1, c2, c3⟩ := (hat k x hx).bl hb
        have hxo : x.ok := hl.ok x (List.mem_of_getElem? hx)
        have X := Lib.hid hx
        clear hx
        have hE := fun w => refEntCheck x w hxo
        unfold Ent.v at hE
        by_cases e1 : echk x = 0
        · have e1' : (echk x == 0) = true := by simp [e1]
          have e1'' : (echk x != 0) = false := by simp [e1]
          generalize hq : echk x = q at *
          have Hq := Lib.hid hq
          have HE := Lib.hid hE
          have E1 := Lib.hid e1
          clear hE hq e1
          by_cases hk0 : 0 < k
          · obtain ⟨y, hy⟩ : ∃ y, l[k - 1]? = some y := ⟨_, List.getElem?_eq_getElem (by omega)⟩
            have d0 := ((hat (k - 1) y hy).bl hb).key
            have hyo : y.ok := hl.ok y (List.mem_of_getElem? hy)
            have hO := fun w => refOrder y.key x.key w hyo.1 hxo.1
            have g := cmpS_geq' y.key x.key
            have hpk : prevK l k = some y.key := by simp [prevK, show k ≠ 0 by omega, hy]
            have Hp := Lib.hid hpk
            generalize cmpS y.key x.key = q2 at *
            have HO := Lib.hid hO
            clear hpk hy hO
            by_cases hlt : slt y.key x.key = true
            · have g' : ¬ 0 ≤ q2 := by rw [g, hlt]; simp
              have Hlt := Lib.hid hlt
              clear hlt g
              go_wp2_with fail
              refine (HE.out _).mono ?_; rintro e w1 ⟨rfl, hb1⟩
              have d0' : w1.cell? ⟨b, off + (k - 1) * 4, none⟩ = some (.string y.key) := hb1.cell d0
              have d1' : w1.cell? ⟨b, off + k * 4, none⟩ = some (.string x.key) := hb1.cell c0
              go_wp2_with fail
              go_quiet ((go_at_call 62; exact quietD (HO.out _)))
              go_wp2
              go_roundg (l.length - (k + 1))
              case rel =>
                refine ⟨k + 1, by omega, by go_num, ?_, (hb.trans hb1).drewN _, rfl⟩
                rw [H.out, clGo_drop X.out, Hq.out, E1.out, prevK_succ X.out, Hp.out]; simp [pbad, Hlt.out]
              case measure => rw [G.out]; omega
            · have g' : 0 ≤ q2 := by rw [g]; simpa using hlt
              have hlt1 : slt y.key x.key = false := by simpa using hlt
              have Hlt := Lib.hid hlt1
              clear hlt hlt1 g
              go_wp2_with fail
              refine (HE.out _).mono ?_; rintro e w1 ⟨rfl, hb1⟩
              have d0' : w1.cell? ⟨b, off + (k - 1) * 4, none⟩ = some (.string y.key) := hb1.cell d0
              have d1' : w1.cell? ⟨b, off + k * 4, none⟩ = some (.string x.key) := hb1.cell c0
              go_wp2_with fail
              go_quiet ((go_at_call 62; exact quietD (HO.out _)))
              go_wp2
              go_ret2
              refine rb_tuple (ival ?_) (ival ?_) ((hb.trans hb1).drewN _) <;> (rw [H.out, clGo_drop X.out, Hq.out, E1.out, Hp.out]; simp [pbad, Hlt.out])
          · have hpk : prevK l k = none := by simp [prevK, show k = 0 by omega]
            have Hp := Lib.hid hpk
            clear hpk
            go_wp2_with fail
            refine (HE.out _).mono ?_; rintro e w1 ⟨rfl, hb1⟩
            go_wp2_with fail
            go_quiet (fail)
            go_wp2
            go_roundg (l.length - (k + 1))
            case rel =>
              refine ⟨k + 1, by omega, by go_num, ?_, (hb.trans hb1).drewN _, rfl⟩
              rw [H.out, clGo_drop X.out, Hq.out, E1.out, prevK_succ X.out, Hp.out]; simp [pbad]
            case measure => rw [G.out]; omega
        · have e1' : (echk x == 0) = false := by simp [e1]
          have e1'' : (echk x != 0) = true := by simp [e1]
          generalize hq : echk x = q at *
          have Hq := Lib.hid hq
          have HE := Lib.hid hE
          have E1 := Lib.hid e1
          clear hE hq e1
          go_wp2_with fail
          refine (HE.out _).mono ?_; rintro e w1 ⟨rfl, hb1⟩
          go_wp2_with fail
          go_quiet (fail)
          go_wp2
          go_ret2
          refine rb_tuple (ival ?_) (ival ?_) ((hb.trans hb1).drewN _) <;> (rw [H.out, clGo_drop X.out, Hq.out]; simp [E1.out])
      · go_wp2
        go_ret2
        refine rb_tuple (ival ?_) (ival ?_) hb <;> (rw [H.out, List.drop_of_length_le (by omega)]; rfl)

/-- Where a key is, or -1. -/
def atGo : Nat → ByteArray → List Ent → Int
  | _, _, [] => -1
  | i, k, x :: r => if x.key.toList = k.toList then (i : Int) else atGo (i + 1) k r
theorem atGo_drop {l : List Ent} {k : Nat} {x : Ent} (h : l[k]? = some x) (s : ByteArray) : atGo k s (l.drop k) = if x.key.toList = s.toList then (k : Int) else atGo (k + 1) s (l.drop (k + 1)) := by
  obtain ⟨hk, rfl⟩ := List.getElem?_eq_some_iff.1 h
  rw [List.drop_eq_getElem_cons hk]; rfl

def fnd (l : List Ent) (s : ByteArray) : Int × Int := if (clchk l).2 ≠ 0 then (0, (clchk l).2) else if kchk s ≠ 0 then (0, kchk s) else if atGo 0 s l < 0 then (0, 4) else (atGo 0 s l, 0)

end Go.Proofs.YtkbfjficmdgjpaaGreatDoor
/-
  Contracts of fence.Check, Size, asked and of the reference's Check, Size.
-/
namespace Go.Proofs.YtkbfjficmdgjpaaGreatDoor
open Go.RowKit
set_option linter.unusedSimpArgs false
set_option linter.unusedVariables false
set_option maxRecDepth 100000

structure Fnc where
  step : Int
  marks : List ByteArray
def Fnc.v (f : Fnc) (a : Option Addr) (c : Nat) : Value := .agg #[.int .i64 f.step, .slice a f.marks.length c]
structure FOk (w : World) (a : Option Addr) (f : Fnc) : Prop where
  strs : Strs w a f.marks
  len : f.marks.length ≤ 4611686018427387904
  lo : -9223372036854775808 ≤ f.step
  hi : f.step ≤ 9223372036854775807
theorem FOk.bl {w w' : World} {a : Option Addr} {f : Fnc} (h : FOk w a f) (k : Bl w w') : FOk w' a f := ⟨h.strs.bl k, h.len, h.lo, h.hi⟩
def fmGo : Nat → Option ByteArray → List ByteArray → Int × Int
  | _, _, [] => (0, 0)
  | i, p, m :: r => if kchk m ≠ 0 then ((i : Int), kchk m) else if pbad p m = true then ((i : Int), 6) else fmGo (i + 1) (some m) r
def fchk (f : Fnc) : Int × Int := if f.step < 1 ∨ 64 < f.step then (-1, 7) else if 4999 < f.marks.length then (-1, 3) else fmGo 0 none f.marks
def prevM (l : List ByteArray) (k : Nat) : Option ByteArray := if k = 0 then none else l[k - 1]?
theorem fmGo_drop {l : List ByteArray} {k : Nat} {x : ByteArray} (h : l[k]? = some x) (p : Option ByteArray) : fmGo k p (l.drop k) = if kchk x ≠ 0 then ((k : Int), kchk x) else if pbad p x = true then ((k : Int), 6) else fmGo (k + 1) (some x) (l.drop (k + 1)) := by
  obtain ⟨hk, rfl⟩ := List.getElem?_eq_some_iff.1 h
  rw [List.drop_eq_getElem_cons hk]; rfl
theorem prevM_succ {l : List ByteArray} {k : Nat} {x : ByteArray} (h : l[k]? = some x) : prevM l (k + 1) = some x := by simp [prevM, h]


set_option maxHeartbeats 1000000 in
set_option maxRecDepth 100000 in
theorem fenceCheck (a : Option Addr) (c : Nat) (f : Fnc) (w : World) (hf : FOk w a f) :
    Calls Tryz.prog 163 #[f.v a c] w (RB w (.tuple #[.int .i64 (fchk f).1, .int .i64 (fchk f).2])) := by
  obtain ⟨s, l⟩ := f
  obtain ⟨hl, hn, hs1, hs2⟩ := hf
  simp only at hl hn hs1 hs2
  unfold Fnc.v fchk
  simp only
  by_cases h1 : s < 1 ∨ 64 < s
  · rw [if_pos h1]
    rcases h1 with h1 | h1
    · go_enter Tryz.func163, Tryz.ntmps163
      go_wp2
      go_ret2
      exact rb_tuple rfl rfl (by repeat (first | assumption | exact Bl.refl _ | apply Bl.drewN | apply Bl.drew | apply Bl.alloc | (refine Bl.dr ?_ (by assumption)) | (refine Bl.trans ?_ (by assumption))))
    · have h1' : ¬ s < 1 := by omega
      go_enter Tryz.func163, Tryz.ntmps163
      go_wp2
      go_ret2
      exact rb_tuple rfl rfl (by repeat (first | assumption | exact Bl.refl _ | apply Bl.drewN | apply Bl.drew | apply Bl.alloc | (refine Bl.dr ?_ (by assumption)) | (refine Bl.trans ?_ (by assumption))))
  · rw [if_neg h1]
    have h1' : ¬ s < 1 := by omega
    have h1'' : ¬ 64 < s := by omega
    clear h1
    by_cases h0 : 4999 < l.length
    · rw [if_pos h0]
      have h0' : 5000 ≤ (l.length : Int) := by omega
      go_enter Tryz.func163, Tryz.ntmps163
      go_wp2
      go_ret2
      exact rb_tuple rfl rfl (by repeat (first | assumption | exact Bl.refl _ | apply Bl.drewN | apply Bl.drew | apply Bl.alloc | (refine Bl.dr ?_ (by assumption)) | (refine Bl.trans ?_ (by assumption))))
    · rw [if_neg h0]
      have h0' : ¬ 5000 ≤ (l.length : Int) := by omega
      generalize hR : fmGo 0 none l = R
      go_enter Tryz.func163, Tryz.ntmps163
      go_wp2
      go_loopg [24] l.length (fun g i wr => ∃ k : Nat, k ≤ l.length ∧ i = .int .i64 k ∧ R = fmGo k (prevM l k) (l.drop k) ∧ Dr (w.alloc (Obj.cells #[Value.int IntKind.i64 s, Value.slice a l.length c] 94)) wr ∧ g = l.length - k)
      case atStart => exact ⟨0, by omega, rfl, by rw [← hR]; rfl, Dr.refl _, rfl⟩
      case round =>
        obtain ⟨k, hk1, rfl, hc, hd, hg⟩ := hrel
        have H := Lib.hid hc
        have G := Lib.hid hg
        have hb : Bl w wr := ((Bl.refl w).alloc _).dr hd
        have hbox : wr.cell? ⟨w.heap.size, 1, none⟩ = some (.slice a l.length c) := by rw [hd.cell]; simp [go_sem]
        clear hc hg hR
        by_cases h2 : k < l.length
        · obtain ⟨b, off, rfl, hat⟩ := hl.get h2
          obtain ⟨x, hx⟩ : ∃ x, l[k]? = some x := ⟨_, List.getElem?_eq_getElem h2⟩
          have c0 := hb.cell (hat k x hx)
          have hxo : x.size ≤ maxLen := hl.ok x (List.mem_of_getElem? hx)
          have X := Lib.hid hx
          clear hx
          have hE := fun w => keysCheck x w hxo
          by_cases e1 : kchk x = 0
          · have e1' : (kchk x == 0) = true := by simp [e1]
            have e1'' : (kchk x != 0) = false := by simp [e1]
            generalize hq : kchk x = q at *
            have Hq := Lib.hid hq
            have HE := Lib.hid hE
            have E1 := Lib.hid e1
            clear hE hq e1
            by_cases hk0 : 0 < k
            · obtain ⟨y, hy⟩ : ∃ y, l[k - 1]? = some y := ⟨_, List.getElem?_eq_getElem (by omega)⟩
              have d0 := hb.cell (hat (k - 1) y hy)
              have hyo : y.size ≤ maxLen := hl.ok y (List.mem_of_getElem? hy)
              have hO := (fun (w : World) => trivial)
              have g := cmpS_geq' y x
              have hpk : prevM l k = some y := by simp [prevM, show k ≠ 0 by omega, hy]
              have Hp := Lib.hid hpk
              generalize cmpS y x = q2 at *
              have HO := Lib.hid hO
              have Hl := Lib.hid hl
              clear hpk hy hO hl hat
              by_cases hlt : slt y x = true
              · have hlt1 : Op.bytesLess x.toList y.toList = false := slt_asymm hlt
                have hlt2 : (x.toList == y.toList) = false := by
                  rw [beq_eq_false_iff_ne]; intro h; have := str_ext h; rw [this, slt_irrefl] at hlt; cases hlt
                have g' : ¬ 0 ≤ q2 := by rw [g, hlt]; simp
                have Hlt := Lib.hid hlt
                clear hlt g
                go_wp2_with fail
                refine (HE.out _).mono ?_; rintro e w' ⟨rfl, n1, rfl⟩
                go_wp2_with fail
                go_roundg (l.length - (k + 1))
                case rel =>
                  refine ⟨k + 1, by omega, by go_num, ?_, (by repeat (first | assumption | exact Dr.refl _ | apply Dr.drewN | apply Dr.drew | (refine Dr.trans ?_ (by assumption)))), rfl⟩
                  rw [H.out, fmGo_drop X.out, Hq.out, E1.out, prevM_succ X.out, Hp.out]; simp [pbad, Hlt.out]
                case measure => rw [G.out]; omega
              · have hge : (Op.bytesLess x.toList y.toList || x.toList == y.toList) = true := by
                  rw [le_slt]; simpa using hlt
                have g' : 0 ≤ q2 := by rw [g]; simpa using hlt
                have hlt1 : slt y x = false := by simpa using hlt
                have Hlt := Lib.hid hlt1
                clear hlt hlt1 g
                go_wp2_with fail
                refine (HE.out _).mono ?_; rintro e w' ⟨rfl, n1, rfl⟩
                go_wp2_with fail
                go_ret2
                refine rb_tuple (ival ?_) (ival ?_) (by repeat (first | assumption | exact Bl.refl _ | apply Bl.drewN | apply Bl.drew | apply Bl.alloc | (refine Bl.dr ?_ (by assumption)) | (refine Bl.trans ?_ (by assumption)))) <;> (rw [H.out, fmGo_drop X.out, Hq.out, E1.out, Hp.out]; simp [pbad, Hlt.out])
            · have hpk : prevM l k = none := by simp [prevM, show k = 0 by omega]
              have Hp := Lib.hid hpk
              have Hl := Lib.hid hl
              clear hpk hl hat
              go_wp2_with fail
              refine (HE.out _).mono ?_; rintro e w' ⟨rfl, n1, rfl⟩
              go_wp2_with fail
              go_roundg (l.length - (k + 1))
              case rel =>
                refine ⟨k + 1, by omega, by go_num, ?_, (by repeat (first | assumption | exact Dr.refl _ | apply Dr.drewN | apply Dr.drew | (refine Dr.trans ?_ (by assumption)))), rfl⟩
                rw [H.out, fmGo_drop X.out, Hq.out, E1.out, prevM_succ X.out, Hp.out]; simp [pbad]
              case measure => rw [G.out]; omega
          · have e1' : (kchk x != 0) = true := by simp [e1]
            have e1'' : (kchk x == 0) = false := by simp [e1]
            generalize hq : kchk x = q at *
            have Hq := Lib.hid hq
            have HE := Lib.hid hE
            have E1 := Lib.hid e1
            have Hl := Lib.hid hl
            clear hE hq e1 hl hat
            go_wp2_with fail
            refine (HE.out _).mono ?_; rintro e w' ⟨rfl, n1, rfl⟩
            go_wp2_with fail
            go_ret2
            refine rb_tuple (ival ?_) (ival ?_) (by repeat (first | assumption | exact Bl.refl _ | apply Bl.drewN | apply Bl.drew | apply Bl.alloc | (refine Bl.dr ?_ (by assumption)) | (refine Bl.trans ?_ (by assumption)))) <;> (rw [H.out, fmGo_drop X.out, Hq.out]; simp [E1.out])
        · go_wp2
          go_ret2
          refine rb_tuple (ival ?_) (ival ?_) hb <;> (rw [H.out, List.drop_of_length_le (by omega)]; rfl)

end Go.Proofs.YtkbfjficmdgjpaaGreatDoor
/-
  Contracts of fence.Size, asked, block, Block and of the reference's Size, below, Block.
-/
namespace Go.Proofs.YtkbfjficmdgjpaaGreatDoor
open Go.RowKit
set_option linter.unusedSimpArgs false
set_option linter.unusedVariables false
set_option maxRecDepth 100000

/-! ### Plain facts on ascending lists -/
abbrev Asc (l : List ByteArray) : Prop := l.Pairwise (fun a b => slt a b = true)
theorem kchk_zero {m : ByteArray} : kchk m = 0 ↔ m.size ≤ 32 := by unfold kchk; split <;> simp <;> omega
theorem fmGo_ok : ∀ (l : List ByteArray) (i : Nat) (p : Option ByteArray), (fmGo i p l).2 = 0 →
    (∀ m, m ∈ l → m.size ≤ 32) ∧ (∀ q, p = some q → ∀ m, m ∈ l → slt q m = true) ∧ Asc l
  | [], _, _, _ => by simp
  | m :: r, i, p, h => by
    unfold fmGo at h
    split at h
    · rename_i h1; exact absurd h h1
    · rename_i h1
      split at h
      · simp at h
      · rename_i h2
        obtain ⟨a, b, c⟩ := fmGo_ok r (i + 1) (some m) h
        have hm := b m rfl
        refine ⟨?_, ?_, ?_⟩
        · intro x hx
          rcases List.mem_cons.1 hx with rfl | hx
          · exact kchk_zero.1 (by simpa using h1)
          · exact a x hx
        · rintro q rfl x hx
          have hq : slt q m = true := by simpa [pbad] using h2
          rcases List.mem_cons.1 hx with rfl | hx
          · exact hq
          · exact slt_trans hq (hm x hx)
        · exact List.pairwise_cons.2 ⟨hm, c⟩
theorem fchk_ok {f : Fnc} (h : (fchk f).2 = 0) : 1 ≤ f.step ∧ f.step ≤ 64 ∧ f.marks.length ≤ 4999 ∧ (∀ m, m ∈ f.marks → m.size ≤ 32) ∧ Asc f.marks := by
  unfold fchk at h
  split at h
  · simp at h
  · split at h
    · simp at h
    · obtain ⟨a, b, c⟩ := fmGo_ok _ _ _ h
      exact ⟨by omega, by omega, by omega, a, c⟩
theorem part_point {α : Type} {R : α → α → Prop} (p : α → Bool) (hm : ∀ a b, R a b → p a = true → p b = true) : ∀ (l : List α), l.Pairwise R →
    (∀ j x, l[j]? = some x → j < (l.filter fun x => !p x).length → p x = false) ∧ (∀ j x, l[j]? = some x → (l.filter fun x => !p x).length ≤ j → p x = true)
  | [], _ => by simp
  | a :: l, h => by
    obtain ⟨h1, h2⟩ := List.pairwise_cons.1 h
    obtain ⟨i1, i2⟩ := part_point p hm l h2
    cases ha : p a
    · simp only [List.filter_cons, ha, Bool.not_false, if_true, List.length_cons]
      refine ⟨fun j x hx hj => ?_, fun j x hx hj => ?_⟩
      · cases j with
        | zero => simp at hx; rw [← hx]; exact ha
        | succ j => simp at hx; exact i1 j x hx (by omega)
      · cases j with
        | zero => omega
        | succ j => simp at hx; exact i2 j x hx (by omega)
    · have hall : ∀ x, x ∈ l → p x = true := fun x hx => hm a x (h1 x hx) ha
      have hf : (l.filter fun x => !p x) = [] := by
        rw [List.filter_eq_nil_iff]; intro x hx; simp [hall x hx]
      simp only [List.filter_cons, ha, Bool.not_true, hf]
      refine ⟨fun j x hx hj => by simp at hj, fun j x hx hj => ?_⟩
      rcases List.mem_cons.1 (List.mem_of_getElem? hx) with rfl | hx'
      · exact ha
      · exact hall x hx'
/-- How many are not greater | less. -/
def cntLe (l : List ByteArray) (k : ByteArray) : Nat := (l.filter fun m => !slt k m).length
def cntLt (l : List ByteArray) (k : ByteArray) : Nat := (l.filter fun m => !!slt m k).length
theorem cntLe_le (l : List ByteArray) (k : ByteArray) : cntLe l k ≤ l.length := List.length_filter_le _ _
theorem cntLt_le (l : List ByteArray) (k : ByteArray) : cntLt l k ≤ l.length := List.length_filter_le _ _
theorem cntLe_part {l : List ByteArray} (h : Asc l) (k : ByteArray) :
    (∀ j x, l[j]? = some x → j < cntLe l k → slt k x = false) ∧ (∀ j x, l[j]? = some x → cntLe l k ≤ j → slt k x = true) :=
  part_point (fun m => slt k m) (fun a b hab ha => slt_trans ha hab) l h
theorem cntLt_part {l : List ByteArray} (h : Asc l) (k : ByteArray) :
    (∀ j x, l[j]? = some x → j < cntLt l k → (!slt x k) = false) ∧ (∀ j x, l[j]? = some x → cntLt l k ≤ j → (!slt x k) = true) :=
  part_point (fun m => !slt m k) (fun a b hab ha => by
    cases hb : slt b k
    · rfl
    · have := slt_trans hab hb; rw [this] at ha; cases ha) l h
def sumSz (l : List ByteArray) : Nat := (l.map (·.size)).sum
theorem sumSz_take {l : List ByteArray} {k : Nat} {x : ByteArray} (h : l[k]? = some x) : sumSz (l.take (k + 1)) = sumSz (l.take k) + x.size := by
  obtain ⟨hk, rfl⟩ := List.getElem?_eq_some_iff.1 h
  rw [List.take_succ_eq_append_getElem hk]; simp only [sumSz, List.map_append, List.sum_append, List.map_cons, List.map_nil, List.sum_cons, List.sum_nil, Nat.add_zero]
theorem sumSz_bd : ∀ {l : List ByteArray}, (∀ m, m ∈ l → m.size ≤ 32) → sumSz l ≤ 32 * l.length
  | [], _ => by simp [sumSz]
  | m :: l, h => by
    have := sumSz_bd (l := l) (fun x hx => h x (by simp [hx]))
    have := h m (by simp)
    simp [sumSz] at *; omega
def fsz (f : Fnc) : Int × Int := if (fchk f).2 ≠ 0 then (0, (fchk f).2) else ((sumSz f.marks : Int), 0)
def fblk (f : Fnc) (k : ByteArray) : Int × Int := if (fchk f).2 ≠ 0 then (0, (fchk f).2) else if kchk k ≠ 0 then (0, kchk k) else ((cntLe f.marks k : Int), 0)

/-! ### Block -/
theorem fenceAsked (a : Option Addr) (c : Nat) (f : Fnc) (k : ByteArray) (g : Nat) (w : World) (hf : FOk w a f) (hk : k.size ≤ maxLen)
    (h0 : w.cell? ⟨g, 0, none⟩ = some (.int .i64 f.step)) (h1 : w.cell? ⟨g, 1, none⟩ = some (.slice a f.marks.length c)) :
    Calls Tryz.prog 160 #[.pointer (some ⟨g, 0, none⟩), .string k] w (RB w (.int .i64 (if (fchk f).2 ≠ 0 then (fchk f).2 else kchk k))) := by
  have hC := fun w h => fenceCheck a c f w h
  have hK := fun w => keysCheck k w hk
  have HF := Lib.hid hf
  by_cases e : (fchk f).2 = 0
  · rw [if_neg (by simp [e])]
    have e' : ((fchk f).2 != 0) = false := by simp [e]
    generalize (fchk f).1 = q0 at *
    generalize (fchk f).2 = q1 at *
    generalize kchk k = q2 at *
    obtain ⟨s, l⟩ := f
    unfold Fnc.v at hC
    simp only at hC h0 h1
    have HC := Lib.hid hC
    have HK := Lib.hid hK
    clear hC hK e hf
    go_enter Tryz.func160, Tryz.ntmps160
    go_wp2_with fail
    refine (HC.out _ HF.out).mono ?_; rintro e w1 ⟨rfl, hb1⟩
    go_wp2_with fail
    refine (HK.out _).mono ?_; rintro e w' ⟨rfl, n1, rfl⟩
    go_wp2_with fail
    go_ret
    exact RB.mk rfl (by repeat (first | assumption | exact Bl.refl _ | apply Bl.drewN | apply Bl.drew | apply Bl.alloc | (refine Bl.dr ?_ (by assumption)) | (refine Bl.trans ?_ (by assumption))))
  · rw [if_pos e]
    have e' : ((fchk f).2 != 0) = true := by simp [e]
    generalize (fchk f).1 = q0 at *
    generalize (fchk f).2 = q1 at *
    obtain ⟨s, l⟩ := f
    unfold Fnc.v at hC
    simp only at hC h0 h1
    have HC := Lib.hid hC
    clear hC hK e hf
    go_enter Tryz.func160, Tryz.ntmps160
    go_wp2_with fail
    refine (HC.out _ HF.out).mono ?_; rintro e w1 ⟨rfl, hb1⟩
    go_wp2_with fail
    go_ret
    exact RB.mk rfl (by repeat (first | assumption | exact Bl.refl _ | apply Bl.drewN | apply Bl.drew | apply Bl.alloc | (refine Bl.dr ?_ (by assumption)) | (refine Bl.trans ?_ (by assumption))))

theorem fenceBlockIn (a : Option Addr) (c : Nat) (l : List ByteArray) (k : ByteArray) (g : Nat) (w : World) (hl : Strs w a l) (hn : l.length ≤ 4611686018427387904) (hs : Asc l)
    (h1 : w.cell? ⟨g, 1, none⟩ = some (.slice a l.length c)) :
    Calls Tryz.prog 162 #[.pointer (some ⟨g, 0, none⟩), .string k] w (RB w (.int .i64 (cntLe l k : Int))) := by
  have hp := cntLe_part hs k
  have hF := fun W (hb : Bl w W) (g : Nat) (hg : W.cell? ⟨g, 0, none⟩ = some (.string k)) =>
    firstS 165 #[.pointer (some ⟨g, 0, none⟩)] a c l (fun m => slt k m) (cntLe l k) W cfBlock1 (hl.bl hb) hn
      (fun x w' _ hb' => block1 x k g w' (hb'.cell hg)) (cntLe_le l k) hp.1 hp.2
  have HF := Lib.hid hF
  have h1' := ((Bl.refl w).alloc (Obj.cells #[.string k] 9)).cell h1
  clear hF hp hs hl
  go_enter Tryz.func162, Tryz.ntmps162
  go_wp2_with fail
  refine (HF.out _ (by repeat (first | assumption | exact Bl.refl _ | apply Bl.drewN | apply Bl.drew | apply Bl.alloc | (refine Bl.dr ?_ (by assumption)) | (refine Bl.trans ?_ (by assumption)))) _ (by simp [go_sem])).mono ?_; rintro e w1 ⟨rfl, hb1⟩
  go_wp2_with fail
  go_ret
  exact RB.mk rfl (by repeat (first | assumption | exact Bl.refl _ | apply Bl.drewN | apply Bl.drew | apply Bl.alloc | (refine Bl.dr ?_ (by assumption)) | (refine Bl.trans ?_ (by assumption))))

end Go.Proofs.YtkbfjficmdgjpaaGreatDoor
/-
  Contracts of keys.Between and of the reference's Between.
-/
namespace Go.Proofs.YtkbfjficmdgjpaaGreatDoor
open Go.RowKit
set_option linter.unusedSimpArgs false
set_option linter.unusedVariables false
set_option maxRecDepth 100000

abbrev mt : ByteArray := ⟨#[]⟩
/-- The byte that ends the key between two keys. -/
def endB (s : ByteArray) (n : Nat) : UInt8 := if h : n < s.size then s[n] + 1 else 0
def betS (s t : ByteArray) : ByteArray := s.extract 0 (cmn s.data.toList t.data.toList) ++ ⟨#[endB s (cmn s.data.toList t.data.toList)]⟩
def betw (s t : ByteArray) : ByteArray × Int := if ktwo s t ≠ 0 then (mt, 3) else if slt s t = true then (betS s t, 0) else (mt, 6)
theorem kall_two (s t : ByteArray) : kall [s, t] = ktwo s t := by simp [kall, kbad, ktwo]
theorem ktwo_bad {s t : ByteArray} (h : 32 < s.size ∨ 32 < t.size) : ktwo s t = 3 := by simp [ktwo, h]
theorem ktwo_ok {s t : ByteArray} (h : ¬ (32 < s.size ∨ 32 < t.size)) : ktwo s t = 0 := by simp [ktwo, h]
theorem strs2 (w : World) (s t : ByteArray) (hs : s.size ≤ maxLen) (ht : t.size ≤ maxLen) (e : TypeId) (g : Nat) (hg : g = w.heap.size) : Strs (w.alloc (Obj.cells #[Value.string s, Value.string t] e)) (some ⟨g, 0, none⟩) [s, t] := by
  subst hg
  refine ⟨by simp; exact ⟨hs, ht⟩, fun _ => ⟨_, _, rfl, ?_⟩⟩
  intro i x hx
  match i, hx with
  | 0, hx => simp at hx; subst hx; simp [go_sem]
  | 1, hx => simp at hx; subst hx; simp [go_sem]
theorem byte_succ (x : UInt8) : UInt8.ofNat ((x.toNat + 1) % 256) = x + 1 := by
  apply UInt8.toNat.inj; simp [UInt8.toNat_add]

set_option maxHeartbeats 400000 in
theorem keysBetween (s t : ByteArray) (w : World) (hs : s.size ≤ maxLen) (ht : t.size ≤ maxLen) :
    Calls Tryz.prog 111 #[.string s, .string t] w (RB w (.tuple #[.string (betw s t).1, .int .i64 (betw s t).2])) := by
  have hc := fun w => keysCommon s t w hs ht
  have ha := fun a c w h => keysAll a c [s, t] w h (by unfold maxLen; simp)
  have h2 := fun w => strs2 w s t hs ht 9
  rw [kall_two] at ha
  by_cases hb : 32 < s.size ∨ 32 < t.size
  · have e : betw s t = (mt, 3) := by simp [betw, ktwo_bad hb]
    rw [e]
    rw [ktwo_bad hb] at ha
    clear hb e hc
    have Ha := Lib.hid ha
    have H2 := Lib.hid h2
    clear ha h2
    go_enter Tryz.func111, Tryz.ntmps111
    go_wp2_with fail
    refine (Ha.out _ _ _ (H2.out _ _ (by simp))).mono ?_
    rintro e w1 ⟨rfl, hd⟩
    go_wp2_with fail
    go_ret2
    exact ⟨rfl, ((Bl.refl w).alloc _).dr hd⟩
  · rw [ktwo_ok hb] at ha
    have hle := cmn_le s.data.toList t.data.toList
    simp only [Array.length_toList, ByteArray.size_data] at hle
    obtain ⟨hle1, hle2⟩ := hle
    have hs1 : s.size ≤ 32 := by omega
    have ht1 : t.size ≤ 32 := by omega
    by_cases hl : slt s t = true
    · have e : betw s t = (betS s t, 0) := by simp [betw, ktwo_ok hb, hl]
      rw [e]
      unfold betS
      generalize cmn s.data.toList t.data.toList = n at *
      unfold slt at hl
      clear hb e
      have Ha := Lib.hid ha
      have H2 := Lib.hid h2
      have Hc := Lib.hid hc
      clear ha h2 hc hs ht
      have hcv := fun (W : World) (n : Int) => conv1_new (P := Tryz.prog) 66 9 5 Tryz.underlying66 Tryz.underlying5 Tryz.underlying9 W n
      by_cases hn : n < s.size
      · have hB : UInt8.ofNat ((s[n].toNat + 1) % 256) = endB s n := by rw [byte_succ]; simp [endB, hn]
        have HB := Lib.hid hB
        clear hB
        go_enter Tryz.func111, Tryz.ntmps111
        go_wp2_with (first | (go_at_call 80; refine (Ha.out _ _ _ (H2.out _ _ (by simp))).mono ?_; rintro e w1 ⟨rfl, hd⟩) | (go_at_call 132; refine (Hc.out _).mono ?_; rintro e w2 ⟨rfl, hd2⟩))
        go_region
        go_wp2
        go_ret2
        refine rb_tuple (sval ?_) rfl ((((((Bl.refl w).alloc _).dr hd).dr hd2).alloc _).drew)
        rw [← HB.out]
      · have hB : endB s n = 0 := by simp [endB, hn]
        have HB := Lib.hid hB
        clear hB
        go_enter Tryz.func111, Tryz.ntmps111
        go_wp2_with (first | (go_at_call 80; refine (Ha.out _ _ _ (H2.out _ _ (by simp))).mono ?_; rintro e w1 ⟨rfl, hd⟩) | (go_at_call 132; refine (Hc.out _).mono ?_; rintro e w2 ⟨rfl, hd2⟩))
        go_region
        go_wp2
        go_ret2
        refine rb_tuple (sval ?_) rfl ((((((Bl.refl w).alloc _).dr hd).dr hd2).alloc _).drew)
        rw [HB.out]
    · have e : betw s t = (mt, 6) := by simp [betw, ktwo_ok hb, hl]
      rw [e]
      have hl' : Op.bytesLess s.toList t.toList = false := by simpa [slt] using hl
      clear hb e hc hl
      have Ha := Lib.hid ha
      have H2 := Lib.hid h2
      clear ha h2
      go_enter Tryz.func111, Tryz.ntmps111
      go_wp2_with fail
      refine (Ha.out _ _ _ (H2.out _ _ (by simp))).mono ?_
      rintro e w1 ⟨rfl, hd⟩
      go_wp2_with fail
      go_ret2
      exact ⟨rfl, ((Bl.refl w).alloc _).dr hd⟩

theorem cmpS_gt (a b : ByteArray) : decide (0 < cmpS a b) = slt b a := by
  unfold cmpS
  by_cases h : slt a b = true
  · simp [h, slt_asymm h]
  · by_cases k : a.toList = b.toList
    · have := str_ext k; subst this; simp [slt_irrefl]
    · have : slt b a = true := by
        cases hh : slt b a
        · exact absurd (congrArg ByteArray.toList (slt_tri (by simpa using h) hh)) k
        · rfl
      simp [h, k, this]
theorem cmpS_bd (a b : ByteArray) : -1 ≤ cmpS a b ∧ cmpS a b ≤ 1 := by
  unfold cmpS; split <;> (try split) <;> omega
theorem bl_app : ∀ p x y : List UInt8, Op.bytesLess (p ++ x) (p ++ y) = Op.bytesLess x y
  | [], _, _ => rfl
  | a :: p, x, y => by simp [Op.bytesLess, bl_app p x y]
theorem cmn_take : ∀ s t : List UInt8, s.take (cmn s t) = t.take (cmn s t)
  | [], t => by simp [cmn_nil1]
  | _ :: _, [] => by simp [cmn_nil2]
  | a :: l, b :: r => by
    by_cases h : a = b
    · subst h; simp [cmn, cmn_take l r]
    · simp [cmn, h]
theorem cmn_drop0 : ∀ s t : List UInt8, cmn (s.drop (cmn s t)) (t.drop (cmn s t)) = 0
  | [], t => by simp [cmn_nil1]
  | _ :: _, [] => by simp [cmn_nil2]
  | a :: l, b :: r => by
    by_cases h : a = b
    · subst h; simp [cmn, cmn_drop0 l r]
    · simp [cmn, h]
theorem cat_list (t : ByteArray) (n : Nat) (c : UInt8) : (t.extract 0 n ++ ⟨#[c]⟩).toList = t.data.toList.take n ++ [c] := by
  rw [toL]; simp [ByteArray.data_append, ByteArray.data_extract]
theorem bet_try (s t : ByteArray) (h : slt s t = true) (c : UInt8) (n : Nat) (hn : cmn s.data.toList t.data.toList = n) :
    (c < endB s n → slt s (t.extract 0 n ++ ⟨#[c]⟩) = false) ∧ (c = endB s n → slt s (t.extract 0 n ++ ⟨#[c]⟩) = true ∧ slt t (t.extract 0 n ++ ⟨#[c]⟩) = false) := by
  have h5 := cmn_take s.data.toList t.data.toList
  have h0 := cmn_drop0 s.data.toList t.data.toList
  obtain ⟨s', h3⟩ : ∃ s', s' = s.data.toList.drop n := ⟨_, rfl⟩
  obtain ⟨t', h4⟩ : ∃ t', t' = t.data.toList.drop n := ⟨_, rfl⟩
  rw [hn] at h5 h0
  have h1 : s.data.toList = s.data.toList.take n ++ s' := by rw [h3, List.take_append_drop]
  have h2 : t.data.toList = s.data.toList.take n ++ t' := by rw [h4, h5, List.take_append_drop]
  rw [← h3, ← h4] at h0
  unfold slt at h ⊢
  rw [cat_list, toL, toL, ← h5]
  rw [toL, toL] at h
  have hle := (cmn_le s.data.toList t.data.toList).1
  rw [hn] at hle
  generalize s.data.toList.take n = p at *
  have hbl := bl_app p
  rw [h1, h2, hbl] at h
  rw [h1, h2, hbl, hbl]
  by_cases hlt : n < s.size
  · have hs' : ∃ r, s' = s[n] :: r := ⟨_, by rw [h3, List.drop_eq_getElem_cons (by simpa using hlt)]; rfl⟩
    obtain ⟨r, hr⟩ := hs'
    have he : endB s n = s[n] + 1 := by simp [endB, hlt]
    rw [he, hr]
    rw [hr] at h
    cases t' with
    | nil => simp [Op.bytesLess] at h
    | cons y q =>
      have hne : s[n] ≠ y := by
        intro hxy
        rw [hr, hxy] at h0; simp [cmn] at h0
      generalize s[n] = x at *
      simp only [Op.bytesLess, Bool.or_eq_true, decide_eq_true_eq, Bool.and_eq_true, beq_iff_eq] at h
      have hxy : x < y := by
        rcases h with h | ⟨h, _⟩
        · exact h
        · exact absurd h hne
      have hx1 : (x + 1).toNat = x.toNat + 1 := by
        have := UInt8.lt_iff_toNat_lt.1 hxy; have := y.toNat_lt; simp [UInt8.toNat_add]; omega
      have hxy' := UInt8.lt_iff_toNat_lt.1 hxy
      refine ⟨fun hc => ?_, fun hc => ?_⟩
      · have hc' := UInt8.lt_iff_toNat_lt.1 hc
        rw [hx1] at hc'
        have : ¬ x < c := by rw [UInt8.lt_iff_toNat_lt]; omega
        simp [Op.bytesLess, this]
      · subst hc
        have h6 : x < x + 1 := by rw [UInt8.lt_iff_toNat_lt]; omega
        have h7 : ¬ y < x + 1 := by rw [UInt8.lt_iff_toNat_lt]; omega
        simp [Op.bytesLess, h6, h7]
  · have hs' : s' = [] := by rw [h3]; simp; omega
    have he : endB s n = 0 := by simp [endB, hlt]
    rw [he, hs']
    refine ⟨fun hc => ?_, fun hc => ?_⟩
    · exact absurd hc (by rw [UInt8.lt_iff_toNat_lt]; simp)
    · subst hc
      cases t' with
      | nil => rw [hs'] at h; simp [Op.bytesLess] at h
      | cons y q => simp [Op.bytesLess]
theorem betS_t (s t : ByteArray) (n : Nat) (hn : cmn s.data.toList t.data.toList = n) : betS s t = t.extract 0 n ++ ⟨#[endB s n]⟩ := by
  have h5 := cmn_take s.data.toList t.data.toList
  apply str_ext
  rw [betS, hn, cat_list, cat_list]; rw [hn] at h5; rw [h5]

end Go.Proofs.YtkbfjficmdgjpaaGreatDoor
/-
  Contracts of keys.CheckRange, In, Empty and of the reference's CheckRange, Has, Empty.
-/
namespace Go.Proofs.YtkbfjficmdgjpaaGreatDoor
open Go.RowKit
set_option linter.unusedSimpArgs false
set_option linter.unusedVariables false
set_option maxRecDepth 100000

structure Rng where
  lo : ByteArray
  hi : ByteArray
  bd : Bool
def Rng.v (r : Rng) : Value := .agg #[.string r.lo, .string r.hi, .bool r.bd]
def Rng.ok (r : Rng) : Prop := r.lo.size ≤ maxLen ∧ r.hi.size ≤ maxLen
def rchk (r : Rng) : Int := if ktwo r.lo r.hi ≠ 0 then 3 else if r.bd = false ∧ r.hi.size ≠ 0 then 6 else 0
def rhas (r : Rng) (k : ByteArray) : Bool := !slt k r.lo && (!r.bd || slt k r.hi)
theorem ktwo_cases (s t : ByteArray) : ktwo s t = 3 ∨ ktwo s t = 0 := by unfold ktwo; split <;> simp
theorem empty_iff (s : ByteArray) : (s.toList.isEmpty = true) ↔ s.size = 0 := by
  rw [toL, List.isEmpty_iff_length_eq_zero]; simp

set_option maxHeartbeats 400000 in
theorem keysCheckRange (r : Rng) (w : World) (hr : r.ok) : Calls Tryz.prog 55 #[r.v] w (RB w (.int .i64 (rchk r))) := by
  obtain ⟨s, t, b⟩ := r
  obtain ⟨hs, ht⟩ := hr
  simp only at hs ht
  unfold Rng.v rchk
  simp only
  have ha := fun a c w h => keysAll a c [s, t] w h (by unfold maxLen; simp)
  rw [kall_two] at ha
  have h2 := fun w => strs2 w s t hs ht 9
  have H2 := Lib.hid h2
  clear h2
  rcases ktwo_cases s t with hk | hk
  · rw [hk] at ha
    have Ha := Lib.hid ha
    rw [hk]
    clear ha hk
    go_enter Tryz.func55, Tryz.ntmps55
    go_wp2_with (go_at_call 80; refine (Ha.out _ _ _ (H2.out _ _ (by simp))).mono ?_; rintro e w' ⟨rfl, n1, rfl⟩)
    go_ret
    exact RB.mk rfl (by repeat (first | assumption | exact Bl.refl _ | apply Bl.drewN | apply Bl.drew | apply Bl.alloc | (refine Bl.dr ?_ (by assumption)) | (refine Bl.trans ?_ (by assumption))))
  · rw [hk] at ha
    have Ha := Lib.hid ha
    rw [hk]
    clear ha hk
    have he := empty_iff t
    cases b
    · by_cases h : t.size = 0
      · have he' := he.2 h
        rw [if_neg (by simp), if_neg (by simp [h])]
        clear he h
        go_enter Tryz.func55, Tryz.ntmps55
        go_wp2_with (go_at_call 80; refine (Ha.out _ _ _ (H2.out _ _ (by simp))).mono ?_; rintro e w' ⟨rfl, n1, rfl⟩)
        go_ret
        exact RB.mk rfl (by repeat (first | assumption | exact Bl.refl _ | apply Bl.drewN | apply Bl.drew | apply Bl.alloc | (refine Bl.dr ?_ (by assumption)) | (refine Bl.trans ?_ (by assumption))))
      · have he' : t.toList.isEmpty = false := by cases h' : t.toList.isEmpty; rfl; exact absurd (he.1 h') h
        rw [if_neg (by simp), if_pos (by simp [h])]
        clear he h
        go_enter Tryz.func55, Tryz.ntmps55
        go_wp2_with (go_at_call 80; refine (Ha.out _ _ _ (H2.out _ _ (by simp))).mono ?_; rintro e w' ⟨rfl, n1, rfl⟩)
        go_ret
        exact RB.mk rfl (by repeat (first | assumption | exact Bl.refl _ | apply Bl.drewN | apply Bl.drew | apply Bl.alloc | (refine Bl.dr ?_ (by assumption)) | (refine Bl.trans ?_ (by assumption))))
    · rw [if_neg (by simp), if_neg (by simp)]
      clear he
      go_enter Tryz.func55, Tryz.ntmps55
      go_wp2_with (go_at_call 80; refine (Ha.out _ _ _ (H2.out _ _ (by simp))).mono ?_; rintro e w' ⟨rfl, n1, rfl⟩)
      go_ret
      exact RB.mk rfl (by repeat (first | assumption | exact Bl.refl _ | apply Bl.drewN | apply Bl.drew | apply Bl.alloc | (refine Bl.dr ?_ (by assumption)) | (refine Bl.trans ?_ (by assumption))))

theorem cmpS_geq (a b : ByteArray) : decide (0 ≤ cmpS a b) = !slt a b := by
  unfold cmpS; cases h : slt a b
  · by_cases k : a.toList = b.toList <;> simp [k]
  · simp
theorem cmpS_lss (a b : ByteArray) : decide (cmpS a b < 0) = slt a b := by
  unfold cmpS; cases h : slt a b
  · by_cases k : a.toList = b.toList <;> simp [k]
  · simp
theorem cmpS_leq (a b : ByteArray) : decide (cmpS a b ≤ 0) = !slt b a := by
  rw [← cmpS_gt]; by_cases h : 0 < cmpS a b <;> simp [h] <;> omega

/-! ### Empty, In -/
def rin (r : Rng) (k : ByteArray) : Bool × Int := if rchk r ≠ 0 then (false, rchk r) else if kchk k ≠ 0 then (false, kchk k) else (rhas r k, 0)
def remp (r : Rng) : Bool × Int := if rchk r ≠ 0 then (false, rchk r) else (r.bd && !slt r.lo r.hi, 0)
theorem rchk_bd (r : Rng) : 0 ≤ rchk r ∧ rchk r ≤ 6 := by unfold rchk; split <;> (try split) <;> omega
theorem remp_in (r : Rng) : remp r = (decide ((rin r r.lo).2 = 0) && !(rin r r.lo).1, (rin r r.lo).2) := by
  unfold remp rin
  by_cases h : rchk r ≠ 0
  · simp [h]
  · have h0 : rchk r = 0 := by simpa using h
    have h1 : kchk r.lo = 0 := by
      unfold rchk ktwo at h0; unfold kchk
      split at h0
      · simp at h0
      · rename_i hh; simp at hh; rw [if_neg (by omega)]
    simp [h0, h1, rhas, slt_irrefl]


end Go.Proofs.YtkbfjficmdgjpaaGreatDoor
/-
  Contracts of fence.count, Span, Blocks and of the reference's blocks, below, Block, Span, Blocks.
-/
namespace Go.Proofs.YtkbfjficmdgjpaaGreatDoor
open Go.RowKit
set_option linter.unusedSimpArgs false
set_option linter.unusedVariables false
set_option maxRecDepth 100000

def cnt (n s : Nat) : Nat := (n + s - 1) / s - 1
set_option maxHeartbeats 400000 in
theorem fenceCount (n s : Nat) (w : World) (hn : n ≤ 1000000) (hs : 1 ≤ s) (hs2 : s ≤ 1000000) :
    Calls Tryz.prog 161 #[.int .i64 (n : Int), .int .i64 (s : Int)] w (RD w (.int .i64 (cnt n s : Int))) := by
  have hd : (n + s - 1) / s ≤ n + s - 1 := Nat.div_le_self _ _
  have e : ((n : Int) + (s : Int) - 1) / (s : Int) = (((n + s - 1) / s : Nat) : Int) := by
    rw [show ((n : Int) + (s : Int) - 1) = ((n + s - 1 : Nat) : Int) by omega]; rfl
  unfold cnt
  generalize (n + s - 1) / s = q at *
  have hne : ((s : Int) == 0) = false := by simp; omega
  by_cases h : 1 ≤ q
  · have e2 : ((q - 1 : Nat) : Int) = (q : Int) - 1 := by omega
    rw [e2]
    go_enter Tryz.func161, Tryz.ntmps161
    go_wp2_with fail
    go_ret
    exact RD.mk (ival (by omega)) (by repeat (first | assumption | exact Dr.refl _ | apply Dr.drewN | apply Dr.drew | (refine Dr.trans ?_ (by assumption))))
  · have e2 : ((q - 1 : Nat) : Int) = 0 := by omega
    rw [e2]
    go_enter Tryz.func161, Tryz.ntmps161
    go_wp2_with fail
    go_ret
    exact RD.mk (ival (by omega)) (by repeat (first | assumption | exact Dr.refl _ | apply Dr.drewN | apply Dr.drew | (refine Dr.trans ?_ (by assumption))))

def spn (f : Fnc) (n : Int) (k : ByteArray) : Int × Int × Int :=
  if (if (fchk f).2 ≠ 0 then (fchk f).2 else kchk k) ≠ 0 then (0, 0, if (fchk f).2 ≠ 0 then (fchk f).2 else kchk k)
  else if n < 0 ∨ 5000 < n then (0, 0, 7) else if f.marks.length ≠ cnt n.toNat f.step.toNat then (0, 0, 6)
  else ((cntLe f.marks k : Int) * f.step, min ((cntLe f.marks k : Int) * f.step + f.step) n, 0)
theorem minInt (a b : Int) : (if b < a then b else a) = min a b := by omega

set_option maxRecDepth 100000 in
set_option maxHeartbeats 1000000 in
theorem fenceSpan (a : Option Addr) (c : Nat) (f : Fnc) (n : Int) (k : ByteArray) (w : World) (hf : FOk w a f) (hk : k.size ≤ maxLen) (hn1 : -9223372036854775808 ≤ n) (hn2 : n ≤ 9223372036854775807) :
    Calls Tryz.prog 159 #[f.v a c, .int .i64 n, .string k] w (RB w (.tuple #[.int .i64 (spn f n k).1, .int .i64 (spn f n k).2.1, .int .i64 (spn f n k).2.2])) := by
  have hA := fun g w h => fenceAsked a c f k g w h hk
  have hB := fun (hs : Asc f.marks) g w h => fenceBlockIn a c f.marks k g w h hf.len hs
  have ho : (if (fchk f).2 ≠ 0 then (fchk f).2 else kchk k) = 0 → (fchk f).2 = 0 := by
    intro h; by_cases h' : (fchk f).2 = 0
    · exact h'
    · simp [h'] at h
  unfold spn
  by_cases hq : (if (fchk f).2 ≠ 0 then (fchk f).2 else kchk k) = 0
  · obtain ⟨s1, s2, s3, s4, s5⟩ := fchk_ok (ho hq)
    rw [if_neg (by simp [hq])]
    rw [hq] at hA
    have hB' := hB s5
    have HF := Lib.hid hf
    obtain ⟨s, l⟩ := f
    unfold Fnc.v
    simp only at hA hB' s1 s2 s3 ⊢
    have HA := Lib.hid hA
    have HB := Lib.hid hB'
    clear hA hB hB' ho hq s4 s5 hf
    obtain ⟨s, rfl⟩ := Int.eq_ofNat_of_zero_le (show 0 ≤ s by omega)
    by_cases h1 : n < 0 ∨ 5000 < n
    · rw [if_pos h1]
      rcases h1 with h1 | h1
      · go_enter Tryz.func159, Tryz.ntmps159
        go_wp2_with fail
        refine (HA.out _ _ (HF.out.bl (by repeat (first | assumption | exact Bl.refl _ | apply Bl.drewN | apply Bl.drew | apply Bl.alloc | (refine Bl.dr ?_ (by assumption)) | (refine Bl.trans ?_ (by assumption))))) (by simp [go_sem]) (by simp [go_sem])).mono ?_; rintro e w1 ⟨rfl, hb1⟩
        go_wp2_with fail
        go_ret3
        exact rb_tuple3 rfl rfl rfl (by repeat (first | assumption | exact Bl.refl _ | apply Bl.drewN | apply Bl.drew | apply Bl.alloc | (refine Bl.dr ?_ (by assumption)) | (refine Bl.trans ?_ (by assumption))))
      · have h1' : ¬ n < 0 := by omega
        go_enter Tryz.func159, Tryz.ntmps159
        go_wp2_with fail
        refine (HA.out _ _ (HF.out.bl (by repeat (first | assumption | exact Bl.refl _ | apply Bl.drewN | apply Bl.drew | apply Bl.alloc | (refine Bl.dr ?_ (by assumption)) | (refine Bl.trans ?_ (by assumption))))) (by simp [go_sem]) (by simp [go_sem])).mono ?_; rintro e w1 ⟨rfl, hb1⟩
        go_wp2_with fail
        go_ret3
        exact rb_tuple3 rfl rfl rfl (by repeat (first | assumption | exact Bl.refl _ | apply Bl.drewN | apply Bl.drew | apply Bl.alloc | (refine Bl.dr ?_ (by assumption)) | (refine Bl.trans ?_ (by assumption))))
    · rw [if_neg h1]
      have h1' : ¬ n < 0 := by omega
      have h1'' : ¬ 5000 < n := by omega
      clear h1
      obtain ⟨n, rfl⟩ := Int.eq_ofNat_of_zero_le (show 0 ≤ n by omega)
      rw [Int.toNat_natCast, Int.toNat_natCast]
      have hC := fun w => fenceCount n s w (by omega) (by omega) (by omega)
      have hcl := cntLe_le l k
      generalize cntLe l k = r at *
      generalize cnt n s = q at *
      have HC := Lib.hid hC
      clear hC
      by_cases h2 : l.length = q
      · rw [if_neg (by omega)]
        have h2' : ((l.length : Int) != (q : Int)) = false := by simp [h2]
        have hrs : (r : Int) * (s : Int) ≤ 4999 * 64 := by
          have := Nat.mul_le_mul (show r ≤ 4999 by omega) (show s ≤ 64 by omega)
          have e : ((r * s : Nat) : Int) = (r : Int) * (s : Int) := by simp
          omega
        have hrs0 : 0 ≤ (r : Int) * (s : Int) := Int.mul_nonneg (by omega) (by omega)
        clear h2
        go_enter Tryz.func159, Tryz.ntmps159
        go_wp2_with fail
        refine (HA.out _ _ (HF.out.bl (by repeat (first | assumption | exact Bl.refl _ | apply Bl.drewN | apply Bl.drew | apply Bl.alloc | (refine Bl.dr ?_ (by assumption)) | (refine Bl.trans ?_ (by assumption))))) (by simp [go_sem]) (by simp [go_sem])).mono ?_; rintro e w1 ⟨rfl, hb1⟩
        have hb : Bl w w1 := (by repeat (first | assumption | exact Bl.refl _ | apply Bl.drewN | apply Bl.drew | apply Bl.alloc | (refine Bl.dr ?_ (by assumption)) | (refine Bl.trans ?_ (by assumption))))
        have c0 : w1.cell? ⟨w.heap.size, 0, none⟩ = some (.int .i64 (s : Int)) := hb1.cell (by simp [go_sem])
        have c1 : w1.cell? ⟨w.heap.size, 1, none⟩ = some (.slice a l.length c) := hb1.cell (by simp [go_sem])
        clear hb1
        go_wp2_with fail
        go_quiet (((go_at_call 161; first | with_reducible exact quietD (HC.out _) | with_reducible exact quietD2 (HC.out _))))
        go_wp2_with fail
        have c0' : ∀ x : BW w1, x.w.cell? ⟨w.heap.size, 0, none⟩ = some (.int .i64 (s : Int)) := BW.cell c0
        
        refine wp_region_quiet_bw w1 (by kernel_rfl) (by kernel_rfl) (by repeat (first | assumption | exact Bl.refl _ | apply Bl.drewN | apply Bl.drew | apply Bl.alloc | (refine Bl.dr ?_ (by assumption)) | (refine Bl.trans ?_ (by assumption)))) ?_
        repeat (go_big_quiet_step ((go_at_call 162; exact quietB (HB.out _ _ (HF.out.strs.bl (hb.trans (BW.h _))) (BW.cell c1 _)))))
        refine wpQuiet_nil ?_
        intro wq hw'
        have hwq : Bl w1 wq := by obtain ⟨x, hx⟩ := hw'; rw [hx]; exact x.h
        clear hw'
        have cq : wq.cell? ⟨w.heap.size, 0, none⟩ = some (.int .i64 (s : Int)) := hwq.cell c0
        by_cases hm : (n : Int) < (r : Int) * (s : Int) + (s : Int)
        all_goals
          go_wp2_with fail
          go_region
          go_wp2
          go_ret3
          exact rb_tuple3 rfl (ival (by omega)) rfl (by repeat (first | assumption | exact Bl.refl _ | apply Bl.drewN | apply Bl.drew | apply Bl.alloc | (refine Bl.dr ?_ (by assumption)) | (refine Bl.trans ?_ (by assumption))))
      · rw [if_pos h2]
        have h2' : ((l.length : Int) != (q : Int)) = true := by rw [bne_iff_ne]; omega
        clear h2
        go_enter Tryz.func159, Tryz.ntmps159
        go_wp2_with fail
        refine (HA.out _ _ (HF.out.bl (by repeat (first | assumption | exact Bl.refl _ | apply Bl.drewN | apply Bl.drew | apply Bl.alloc | (refine Bl.dr ?_ (by assumption)) | (refine Bl.trans ?_ (by assumption))))) (by simp [go_sem]) (by simp [go_sem])).mono ?_; rintro e w1 ⟨rfl, hb1⟩
        have hb : Bl w w1 := (by repeat (first | assumption | exact Bl.refl _ | apply Bl.drewN | apply Bl.drew | apply Bl.alloc | (refine Bl.dr ?_ (by assumption)) | (refine Bl.trans ?_ (by assumption))))
        have c0 : w1.cell? ⟨w.heap.size, 0, none⟩ = some (.int .i64 (s : Int)) := hb1.cell (by simp [go_sem])
        have c1 : w1.cell? ⟨w.heap.size, 1, none⟩ = some (.slice a l.length c) := hb1.cell (by simp [go_sem])
        clear hb1
        go_wp2_with fail
        go_quiet (((go_at_call 161; first | with_reducible exact quietD (HC.out _) | with_reducible exact quietD2 (HC.out _))))
        go_wp2_with fail
        go_ret3
        exact rb_tuple3 rfl rfl rfl (by repeat (first | assumption | exact Bl.refl _ | apply Bl.drewN | apply Bl.drew | apply Bl.alloc | (refine Bl.dr ?_ (by assumption)) | (refine Bl.trans ?_ (by assumption))))
  · rw [if_pos hq]
    have hq' : ((if (fchk f).2 ≠ 0 then (fchk f).2 else kchk k) != 0) = true := by simpa using hq
    generalize (if (fchk f).2 ≠ 0 then (fchk f).2 else kchk k) = q at *
    have HF := Lib.hid hf
    obtain ⟨s, l⟩ := f
    unfold Fnc.v
    simp only at hA ⊢
    have HA := Lib.hid hA
    clear hA hB ho hq hf
    go_enter Tryz.func159, Tryz.ntmps159
    go_wp2_with fail
    refine (HA.out _ _ (HF.out.bl (by repeat (first | assumption | exact Bl.refl _ | apply Bl.drewN | apply Bl.drew | apply Bl.alloc | (refine Bl.dr ?_ (by assumption)) | (refine Bl.trans ?_ (by assumption))))) (by simp [go_sem]) (by simp [go_sem])).mono ?_; rintro e w1 ⟨rfl, hb1⟩
    go_wp2_with fail
    go_ret3
    exact rb_tuple3 rfl rfl rfl (by repeat (first | assumption | exact Bl.refl _ | apply Bl.drewN | apply Bl.drew | apply Bl.alloc | (refine Bl.dr ?_ (by assumption)) | (refine Bl.trans ?_ (by assumption))))
end Go.Proofs.YtkbfjficmdgjpaaGreatDoor
/-
  Contracts of the reference's blocks, below, Block, Span.
-/
namespace Go.Proofs.YtkbfjficmdgjpaaGreatDoor
open Go.RowKit
set_option linter.unusedSimpArgs false
set_option linter.unusedVariables false
set_option maxRecDepth 100000

theorem ceil_facts (n s : Nat) (hs : 1 ≤ s) : n ≤ (n + s - 1) / s * s ∧ (∀ m, m < (n + s - 1) / s → m * s < n) ∧ (n + s - 1) / s ≤ n := by
  have h1 := Nat.div_add_mod (n + s - 1) s
  have h2 := Nat.mod_lt (n + s - 1) (show 0 < s by omega)
  generalize hq : (n + s - 1) / s = q at *
  have h3 : s * q = q * s := Nat.mul_comm _ _
  refine ⟨by omega, fun m hm => ?_, ?_⟩
  · have h4 : (m + 1) * s ≤ q * s := Nat.mul_le_mul_right s (by omega)
    rw [Nat.add_mul] at h4; omega
  · rcases Nat.lt_or_ge n q with h | h
    · have h4 : (n + 1) * s ≤ q * s := Nat.mul_le_mul_right s (by omega)
      have h5 : n * 1 ≤ n * s := Nat.mul_le_mul_left n hs
      rw [Nat.add_mul] at h4; omega
    · exact h

/-- As the reference counts them. -/
theorem cntLt_take {l : List ByteArray} {j : Nat} {x : ByteArray} (h : l[j]? = some x) (k : ByteArray) : cntLt (l.take (j + 1)) k = cntLt (l.take j) k + if slt x k = true then 1 else 0 := by
  obtain ⟨hk, rfl⟩ := List.getElem?_eq_some_iff.1 h
  rw [List.take_succ_eq_append_getElem hk]; unfold cntLt; rw [List.filter_append, List.length_append]
  cases h : slt l[j] k <;> simp [h]
theorem cntLe_take {l : List ByteArray} {j : Nat} {x : ByteArray} (h : l[j]? = some x) (k : ByteArray) : cntLe (l.take (j + 1)) k = cntLe (l.take j) k + if slt k x = true then 0 else 1 := by
  obtain ⟨hk, rfl⟩ := List.getElem?_eq_some_iff.1 h
  rw [List.take_succ_eq_append_getElem hk]; unfold cntLe; rw [List.filter_append, List.length_append]
  cases h : slt k l[j] <;> simp [h]

end Go.Proofs.YtkbfjficmdgjpaaGreatDoor
/-
  Contracts of the reference's Block, Span, Blocks and of fence.Blocks.
-/
namespace Go.Proofs.YtkbfjficmdgjpaaGreatDoor
open Go.RowKit
set_option linter.unusedSimpArgs false
set_option linter.unusedVariables false
set_option maxRecDepth 100000

end Go.Proofs.YtkbfjficmdgjpaaGreatDoor
/-
  Contracts of fence.Blocks and of the reference's Blocks.
-/
namespace Go.Proofs.YtkbfjficmdgjpaaGreatDoor
open Go.RowKit
set_option linter.unusedSimpArgs false
set_option linter.unusedVariables false
set_option maxRecDepth 100000

def blks (f : Fnc) (r : Rng) : Int × Int × Int :=
  if (fchk f).2 ≠ 0 then (0, 0, (fchk f).2) else if (remp r).2 ≠ 0 then (0, 0, (remp r).2) else if (remp r).1 = true then (0, 0, 0)
  else ((cntLe f.marks r.lo : Int), (if r.bd = true then (cntLt f.marks r.hi : Int) else (f.marks.length : Int)) + 1, 0)

theorem remp_chk (r : Rng) : (remp r).2 = rchk r := by unfold remp; split <;> simp_all

end Go.Proofs.YtkbfjficmdgjpaaGreatDoor
/-
  Contracts of fence.fits, Fits and of the reference's fits, Fits.
-/
namespace Go.Proofs.YtkbfjficmdgjpaaGreatDoor
open Go.RowKit
set_option linter.unusedSimpArgs false
set_option linter.unusedVariables false
set_option maxRecDepth 100000

def fitAt (s : Nat) (m : List ByteArray) (l : List Ent) (i : Nat) : Bool :=
  match m[i]?, l[(i + 1) * s - 1]?, l[(i + 1) * s]? with
  | some m, some x, some y => slt x.key m && !slt y.key m
  | _, _, _ => false
def fitB (s : Nat) (m : List ByteArray) (l : List Ent) : Bool := decide (m.length = cnt l.length s) && (List.range m.length).all (fitAt s m l)
theorem fitB_len {s : Nat} {m : List ByteArray} {l : List Ent} (h : m.length ≠ cnt l.length s) : fitB s m l = false := by simp [fitB, h]
theorem fitB_no {s : Nat} {m : List ByteArray} {l : List Ent} {k : Nat} (hk : k < m.length) (h : fitAt s m l k = false) : fitB s m l = false := by
  unfold fitB
  rw [Bool.and_eq_false_iff]; right
  rw [List.all_eq_false]
  exact ⟨k, by simp [hk], by simp [h]⟩
theorem fitB_yes {s : Nat} {m : List ByteArray} {l : List Ent} (h0 : m.length = cnt l.length s) (h : ∀ k, k < m.length → fitAt s m l k = true) : fitB s m l = true := by
  unfold fitB
  rw [Bool.and_eq_true]
  exact ⟨by simp [h0], by rw [List.all_eq_true]; intro x hx; exact h x (by simpa using hx)⟩
theorem cnt_at {n s k : Nat} (hs : 1 ≤ s) (h : k < cnt n s) : (k + 1) * s < n := by
  unfold cnt at h
  exact (ceil_facts n s hs).2.1 _ (by omega)

end Go.Proofs.YtkbfjficmdgjpaaGreatDoor
/-
  Contracts of fence.Fits, Find and of the reference's Fits, Find.
-/
namespace Go.Proofs.YtkbfjficmdgjpaaGreatDoor
open Go.RowKit
set_option linter.unusedSimpArgs false
set_option linter.unusedVariables false
set_option maxRecDepth 100000

theorem clchk_len {l : List Ent} (h : (clchk l).2 = 0) : l.length ≤ 5000 := by
  unfold clchk at h; split at h
  · simp at h
  · omega
def ffits (f : Fnc) (l : List Ent) : Bool × Int := if (fchk f).2 ≠ 0 then (false, (fchk f).2) else if (clchk l).2 ≠ 0 then (false, (clchk l).2) else (fitB f.step.toNat f.marks l, 0)

end Go.Proofs.YtkbfjficmdgjpaaGreatDoor
/-
  Contracts of fence.Find and of the reference's Find.
-/
namespace Go.Proofs.YtkbfjficmdgjpaaGreatDoor
open Go.RowKit
set_option linter.unusedSimpArgs false
set_option linter.unusedVariables false
set_option maxRecDepth 100000

/-! ### What is looked for is in its span -/
abbrev AscE (l : List Ent) : Prop := l.Pairwise (fun a b => slt a.key b.key = true)
theorem clGo_ok : ∀ (l : List Ent) (i : Nat) (p : Option ByteArray), (clGo i p l).2 = 0 →
    (∀ m, m ∈ l → echk m = 0) ∧ (∀ q, p = some q → ∀ m, m ∈ l → slt q m.key = true) ∧ AscE l
  | [], _, _, _ => by simp
  | m :: r, i, p, h => by
    unfold clGo at h
    split at h
    · rename_i h1; exact absurd h h1
    · rename_i h1
      split at h
      · simp at h
      · rename_i h2
        obtain ⟨a, b, c⟩ := clGo_ok r (i + 1) (some m.key) h
        have hm := b m.key rfl
        refine ⟨?_, ?_, ?_⟩
        · intro x hx
          rcases List.mem_cons.1 hx with rfl | hx
          · simpa using h1
          · exact a x hx
        · rintro q rfl x hx
          have hq : slt q m.key = true := by simpa [pbad] using h2
          rcases List.mem_cons.1 hx with rfl | hx
          · exact hq
          · exact slt_trans hq (hm x hx)
        · exact List.pairwise_cons.2 ⟨hm, c⟩
theorem clchk_ok {l : List Ent} (h : (clchk l).2 = 0) : l.length ≤ 5000 ∧ (∀ m, m ∈ l → echk m = 0) ∧ AscE l := by
  have hl := clchk_len h
  unfold clchk at h; rw [if_neg (by omega)] at h
  obtain ⟨a, _, b⟩ := clGo_ok _ _ _ h
  exact ⟨hl, a, b⟩
theorem ascE_lt {l : List Ent} (h : AscE l) {i j : Nat} {x y : Ent} (hx : l[i]? = some x) (hy : l[j]? = some y) (hij : i < j) : slt x.key y.key = true := by
  obtain ⟨h1, rfl⟩ := List.getElem?_eq_some_iff.1 hx
  obtain ⟨h2, rfl⟩ := List.getElem?_eq_some_iff.1 hy
  exact List.pairwise_iff_getElem.1 h i j h1 h2 hij
theorem atGo_from : ∀ (l : List Ent) (n : Nat) (k : ByteArray) (i : Nat) (x : Ent), l[i]? = some x → x.key = k → (∀ j y, j < i → l[j]? = some y → y.key ≠ k) → atGo n k l = ((n + i : Nat) : Int)
  | [], _, _, _, _, h, _, _ => by simp at h
  | a :: l, n, k, i, x, h, hk, hj => by
    unfold atGo
    cases i with
    | zero => simp at h; subst h; subst hk; simp
    | succ i =>
      have h0 := hj 0 a (by omega) (by simp)
      have h1 : ¬ a.key.toList = k.toList := fun e => h0 (str_ext e)
      rw [if_neg h1, atGo_from l (n + 1) k i x (by simpa using h) hk (fun j y hji hy => hj (j + 1) y (by omega) (by simpa using hy))]
      congr 1; omega
theorem atGo_none : ∀ (l : List Ent) (n : Nat) (k : ByteArray), (∀ y, y ∈ l → y.key ≠ k) → atGo n k l = -1
  | [], _, _, _ => rfl
  | a :: l, n, k, h => by
    unfold atGo
    have h1 : ¬ a.key.toList = k.toList := fun e => h a (by simp) (str_ext e)
    rw [if_neg h1, atGo_none l (n + 1) k (fun y hy => h y (by simp [hy]))]
theorem fitB_spec {s : Nat} {m : List ByteArray} {l : List Ent} (h : fitB s m l = true) : m.length = cnt l.length s ∧ ∀ i x, m[i]? = some x → ∃ y z, l[(i + 1) * s - 1]? = some y ∧ l[(i + 1) * s]? = some z ∧ slt y.key x = true ∧ slt z.key x = false := by
  unfold fitB at h
  rw [Bool.and_eq_true] at h
  refine ⟨by simpa using h.1, fun i x hx => ?_⟩
  have h2 := List.all_eq_true.1 h.2 i (by simp; exact (List.getElem?_eq_some_iff.1 hx).1)
  unfold fitAt at h2
  rw [hx] at h2
  cases h3 : l[(i + 1) * s - 1]? with
  | none => simp [h3] at h2
  | some y =>
    cases h4 : l[(i + 1) * s]? with
    | none => simp [h3, h4] at h2
    | some z => simp [h3, h4] at h2; exact ⟨y, z, rfl, rfl, h2.1, h2.2⟩
/-- An entry of the key lies in the key's block. -/
theorem in_block {s : Nat} {m : List ByteArray} {l : List Ent} (hs : 1 ≤ s) (hm : Asc m) (hl : AscE l) (hf : fitB s m l = true) {i : Nat} {x : Ent} (hx : l[i]? = some x) :
    cntLe m x.key * s ≤ i ∧ i < cntLe m x.key * s + s := by
  obtain ⟨h1, h2⟩ := fitB_spec hf
  obtain ⟨p1, p2⟩ := cntLe_part hm x.key
  have hle := cntLe_le m x.key
  generalize cntLe m x.key = b at *
  have hi := (List.getElem?_eq_some_iff.1 hx).1
  constructor
  · rcases Nat.eq_zero_or_pos b with h0 | h0
    · rw [h0]; omega
    · obtain ⟨y, hy⟩ : ∃ y, m[b - 1]? = some y := ⟨_, List.getElem?_eq_getElem (by omega)⟩
      have q1 := p1 (b - 1) y hy (by omega)
      obtain ⟨u, v, hu, hv, q2, q3⟩ := h2 (b - 1) y hy
      rw [show b - 1 + 1 = b by omega] at hu hv
      rcases Nat.lt_or_ge i (b * s) with hlt | hge
      · exfalso
        have hk : slt x.key y = true := by
          rcases Nat.lt_or_ge i (b * s - 1) with h3 | h3
          · exact slt_trans (ascE_lt hl hx hu h3) q2
          · have : i = b * s - 1 := by omega
            rw [this, hu] at hx; injection hx with hx; rw [← hx]; exact q2
        rw [hk] at q1; cases q1
      · exact hge
  · rcases Nat.lt_or_ge b m.length with h0 | h0
    · obtain ⟨y, hy⟩ : ∃ y, m[b]? = some y := ⟨_, List.getElem?_eq_getElem h0⟩
      have q1 := p2 b y hy (Nat.le_refl _)
      obtain ⟨u, v, hu, hv, q2, q3⟩ := h2 b y hy
      rw [show (b + 1) * s = b * s + s by rw [Nat.add_mul]; omega] at hv
      rcases Nat.lt_or_ge i (b * s + s) with hlt | hge
      · exact hlt
      · exfalso
        have hvk : slt v.key x.key = true ∨ v = x := by
          rcases Nat.lt_or_ge (b * s + s) i with h3 | h3
          · exact .inl (ascE_lt hl hv hx h3)
          · have : i = b * s + s := by omega
            rw [this, hv] at hx; injection hx with hx; exact .inr hx
        have : slt v.key y = true := by
          rcases hvk with h3 | h3
          · exact slt_trans h3 q1
          · rw [h3]; exact q1
        rw [this] at q3; cases q3
    · have hb : b = m.length := by omega
      rw [hb, h1]
      have := (ceil_facts l.length s hs).1
      unfold cnt
      rcases Nat.eq_zero_or_pos ((l.length + s - 1) / s) with h3 | h3
      · rw [h3] at this; omega
      · have h4 : ((l.length + s - 1) / s - 1) * s + s = (l.length + s - 1) / s * s := by
          have h5 : ((l.length + s - 1) / s - 1 + 1) * s = ((l.length + s - 1) / s - 1) * s + s := by rw [Nat.add_mul]; omega
          rw [← h5]; congr 1; omega
        omega

def cntLtE (l : List Ent) (k : ByteArray) : Nat := (l.filter fun (x : Ent) => !!slt x.key k).length
theorem cntLtE_le (l : List Ent) (k : ByteArray) : cntLtE l k ≤ l.length := List.length_filter_le _ _
theorem cntLtE_part {l : List Ent} (h : AscE l) (k : ByteArray) :
    (∀ j x, l[j]? = some x → j < cntLtE l k → (!slt x.key k) = false) ∧ (∀ j x, l[j]? = some x → cntLtE l k ≤ j → (!slt x.key k) = true) :=
  part_point (fun (x : Ent) => !slt x.key k) (fun a b hab ha => by
    cases hb : slt b.key k
    · rfl
    · have := slt_trans hab hb; rw [this] at ha; cases ha) l h
/-- The search within a stretch that has the entry, if there is one. -/
theorem find_in {l : List Ent} (hl : AscE l) (k : ByteArray) (fr tox : Nat) (h1 : fr ≤ tox) (h2 : tox ≤ l.length) (hin : ∀ i x, l[i]? = some x → x.key = k → fr ≤ i ∧ i < tox) :
    (∃ x, l[fr + cntLtE ((l.drop fr).take (tox - fr)) k]? = some x ∧ fr + cntLtE ((l.drop fr).take (tox - fr)) k < tox ∧ x.key = k ∧ atGo 0 k l = ((fr + cntLtE ((l.drop fr).take (tox - fr)) k : Nat) : Int)) ∨
    ((fr + cntLtE ((l.drop fr).take (tox - fr)) k = tox ∨ ∃ x, l[fr + cntLtE ((l.drop fr).take (tox - fr)) k]? = some x ∧ fr + cntLtE ((l.drop fr).take (tox - fr)) k < tox ∧ x.key ≠ k) ∧ atGo 0 k l = -1) := by
  have hL : AscE ((l.drop fr).take (tox - fr)) := (hl.drop).take
  have hlen : ((l.drop fr).take (tox - fr)).length = tox - fr := by simp; omega
  have hget : ∀ j x, j < tox - fr → (((l.drop fr).take (tox - fr))[j]? = some x ↔ l[fr + j]? = some x) := by
    intro j x hj
    rw [List.getElem?_take_of_lt hj, List.getElem?_drop]
  have hcl := cntLtE_le ((l.drop fr).take (tox - fr)) k
  obtain ⟨p1, p2⟩ := cntLtE_part hL k
  generalize cntLtE ((l.drop fr).take (tox - fr)) k = r at *
  rw [hlen] at hcl
  by_cases he : ∃ (i : Nat) (x : Ent), l[i]? = some x ∧ x.key = k
  · obtain ⟨i, x, hx, hk⟩ := he
    obtain ⟨i1, i2⟩ := hin i x hx hk
    have hi : l[fr + (i - fr)]? = some x := by rw [show fr + (i - fr) = i by omega]; exact hx
    have hLi := (hget (i - fr) x (by omega)).2 hi
    have hr : r = i - fr := by
      rcases Nat.lt_trichotomy r (i - fr) with h | h | h
      · exfalso
        obtain ⟨y, hy⟩ : ∃ y, l[fr + r]? = some y := ⟨_, List.getElem?_eq_getElem (by omega)⟩
        have q := p2 r y ((hget r y (by omega)).2 hy) (Nat.le_refl _)
        have := ascE_lt hl hy hx (by omega)
        rw [← hk, this] at q; cases q
      · exact h
      · exfalso
        have q := p1 (i - fr) x hLi h
        rw [← hk, slt_irrefl] at q; cases q
    left
    refine ⟨x, by rw [hr]; exact hi, by omega, hk, ?_⟩
    rw [atGo_from l 0 k i x hx hk]
    · congr 1; omega
    · intro j y hj hy e
      have := ascE_lt hl hy hx hj
      rw [e, hk, slt_irrefl] at this; cases this
  · right
    refine ⟨?_, atGo_none l 0 k fun y hy e => by
      obtain ⟨i, hi, rfl⟩ := List.getElem_of_mem hy
      exact he ⟨i, _, List.getElem?_eq_getElem hi, e⟩⟩
    rcases Nat.lt_or_ge (fr + r) tox with h | h
    · right
      obtain ⟨y, hy⟩ : ∃ y, l[fr + r]? = some y := ⟨_, List.getElem?_eq_getElem (by omega)⟩
      exact ⟨y, hy, h, fun e => he ⟨_, y, hy, e⟩⟩
    · left; omega

/-! ### Find -/
def ffind (f : Fnc) (l : List Ent) (k : ByteArray) : Int × Int :=
  if (ffits f l).2 ≠ 0 then (0, (ffits f l).2) else if kchk k ≠ 0 then (0, kchk k) else if (ffits f l).1 = false then (0, 6) else if atGo 0 k l < 0 then (0, 4) else (atGo 0 k l, 0)
theorem ffits_ok {f : Fnc} {l : List Ent} (h : (ffits f l).2 = 0) : (fchk f).2 = 0 ∧ (clchk l).2 = 0 ∧ (ffits f l).1 = fitB f.step.toNat f.marks l := by
  unfold ffits at h ⊢
  by_cases h1 : (fchk f).2 = 0
  · by_cases h2 : (clchk l).2 = 0
    · simp [h1, h2]
    · simp [h1, h2] at h
  · simp [h1] at h

/-- A part of a list in memory. -/
theorem Ents.cut {w : World} {b off : Nat} {l : List Ent} (h : Ents w (some ⟨b, off, none⟩) l) (fr tox : Nat) : Ents w (some ⟨b, off + fr * 4, none⟩) ((l.drop fr).take (tox - fr)) := by
  refine ⟨fun x hx => h.ok x (List.mem_of_mem_drop (List.mem_of_mem_take hx)), fun hn => ?_⟩
  refine ⟨b, off + fr * 4, rfl, fun i x hx => ?_⟩
  have hl : l ≠ [] := by rintro rfl; simp at hn
  obtain ⟨b', off', e, hat⟩ := h.at_ hl
  injection e with e; injection e with e1 e2
  subst e1 e2
  have hi : i < tox - fr := by
    have := (List.getElem?_eq_some_iff.1 hx).1; simp at this; omega
  rw [List.getElem?_take_of_lt hi, List.getElem?_drop] at hx
  have := hat (fr + i) x hx
  rwa [show off + (fr + i) * 4 = off + fr * 4 + i * 4 by omega] at this


end Go.Proofs.YtkbfjficmdgjpaaGreatDoor
/-
  Contracts of fence.blocks over entries.
-/
namespace Go.Proofs.YtkbfjficmdgjpaaGreatDoor
open Go.RowKit
set_option linter.unusedSimpArgs false
set_option linter.unusedVariables false
set_option maxRecDepth 100000

/-- The block i of a list of n entries at b, off, with s entries a block. -/
def blkV (b off s n c i : Nat) : Value := .slice (some ⟨b, off + i * s * 4, none⟩) (min s (n - i * s)) (if (i + 1) * s < n then s else c - i * s)
def BlkOut (B b off s n c q : Nat) (w : World) (v : Value) : Prop := ∃ a' c', v = .slice a' q c' ∧ q ≤ c' ∧ (0 < q → ∃ g, a' = some ⟨g, 0, none⟩ ∧ B ≤ g ∧ ∀ i, i < q → w.cell? ⟨g, i, none⟩ = some (blkV b off s n c i))

set_option maxRecDepth 100000 in
set_option maxHeartbeats 2000000 in
theorem fenceBlocksE (b off c : Nat) (n s : Nat) (w : World) (hs1 : 1 ≤ s) (hs2 : s ≤ 64) (hn : n ≤ 5000) (hn0 : 0 < n) (hcap : n ≤ c) (hcap2 : c ≤ maxLen) :
    Calls Tryz.prog 110 #[.slice (some ⟨b, off, none⟩) n c, .int .i64 (s : Int)] w (RM w (BlkOut w.heap.size b off s n c ((n + s - 1) / s))) := by
  obtain ⟨i0, hi, hz0, hz1, hz2⟩ := info_parts inf_ents
  unfold maxLen at hcap2
  go_enter Tryz.func110, Tryz.ntmps110
  go_wp2_with fail
  go_loopg [0, 4] n (fun g l out wr => ∃ k : Nat, (0 < k → k * s < n) ∧ l = .slice (some ⟨b, off + k * s * 4, none⟩) (n - k * s) (c - k * s) ∧ wr.ownsRow w.heap.size 22 1 out k ((List.range k).map (blkV b off s n c)) ∧ Bl w wr ∧ g = n - k)
  case atStart => exact ⟨0, by omega, by simp, by simpa using own_nil _ _ _ _, Bl.refl _, rfl⟩
  case round =>
    obtain ⟨k, hk, rfl, hown, hb, hg⟩ := hrel
    have G := Lib.hid hg
    have hk' : k * s < n := by
      rcases Nat.eq_zero_or_pos k with h | h
      · rw [h]; omega
      · exact hk h
    have hkn : k ≤ k * s := Nat.le_mul_of_pos_right k (by omega)
    obtain ⟨t, ht⟩ : ∃ t, t = k * s := ⟨_, rfl⟩
    have hks : (k + 1) * s = k * s + s := by rw [Nat.add_mul]; omega
    have HO := Lib.hid hown
    clear hown hg
    by_cases h2 : s < n - k * s
    · go_wp2_with (at_builtin; refine wpList_append_own _ rfl _ _ 150 rfl w.heap.size 22 i0 (.slice none 0 0) 1 24 Tryz.underlying150 hi hz0 hz1 hz2 rfl (by decide) _ _ _ rfl (HO.out.alloc _) ⟨wr.heap.size, 0, none⟩ 1 1 [.slice (some ⟨b, off + k * s * 4, none⟩) s s] rfl rfl ?c1 ?c2 ?c3 ?c4 ?c5 ?_)
      case c1 => exact one_new _ _ _
      case c2 => intro u hu; simp at hu; subst hu; rfl
      case c3 => unfold maxLen; omega
      case c4 => omega
      case c5 => simp; have := hb.size; omega
      intro v' w1 hown1 hgrow _
      have hb1 : Bl w w1 := grown_bl (hb.alloc _) (HO.out.alloc _) hgrow (Nat.le_refl _)
      have hbv : blkV b off s n c k = .slice (some ⟨b, off + k * s * 4, none⟩) s s := by
        unfold blkV; rw [Nat.min_eq_left (by omega), if_pos (by omega)]
      rw [← hbv] at hown1
      have hown2 : w1.ownsRow w.heap.size 22 1 v' (k + 1) ((List.range (k + 1)).map (blkV b off s n c)) := by
        rw [List.range_succ, List.map_append]; exact hown1
      have HO2 := Lib.hid hown2
      have HKS := Lib.hid hks
      have hcs : ¬ c - k * s = s := by omega
      clear hown1 hown2 hgrow hbv hks
      go_wp2_with fail
      go_roundg (n - (k + 1))
      case rel =>
        refine ⟨k + 1, by intro _; rw [HKS.out]; omega, ?_, HO2.out, hb1, rfl⟩
        rw [HKS.out]
        congr 1
        · congr 2; omega
        · omega
        · omega
      case measure => rw [G.out]; omega
    · have hq : (n + s - 1) / s = k + 1 := by
        obtain ⟨f1, f2, f3⟩ := ceil_facts n s hs1
        rcases Nat.lt_trichotomy ((n + s - 1) / s) (k + 1) with h | h | h
        · have := Nat.mul_le_mul_right s (show (n + s - 1) / s ≤ k by omega); omega
        · exact h
        · have := f2 (k + 1) h; omega
      have HQ := Lib.hid hq
      have hpos : 0 < n - k * s := by omega
      clear hq
      go_wp2_with (at_builtin; refine wpList_append_own _ rfl _ _ 150 rfl w.heap.size 22 i0 (.slice none 0 0) 1 24 Tryz.underlying150 hi hz0 hz1 hz2 rfl (by decide) _ _ _ rfl (HO.out.alloc _) ⟨wr.heap.size, 0, none⟩ 1 1 [.slice (some ⟨b, off + k * s * 4, none⟩) (n - k * s) (c - k * s)] rfl rfl ?c1 ?c2 ?c3 ?c4 ?c5 ?_)
      case c1 => exact one_new _ _ _
      case c2 => intro u hu; simp at hu; subst hu; rfl
      case c3 => unfold maxLen; omega
      case c4 => omega
      case c5 => simp; have := hb.size; omega
      intro v' w1 hown1 hgrow _
      have hb1 : Bl w w1 := grown_bl (hb.alloc _) (HO.out.alloc _) hgrow (Nat.le_refl _)
      have hbv : blkV b off s n c k = .slice (some ⟨b, off + k * s * 4, none⟩) (n - k * s) (c - k * s) := by
        unfold blkV; rw [Nat.min_eq_right (by omega), if_neg (by omega)]
      rw [← hbv] at hown1
      have hown2 : w1.ownsRow w.heap.size 22 1 v' (k + 1) ((List.range (k + 1)).map (blkV b off s n c)) := by
        rw [List.range_succ, List.map_append]; exact hown1
      have HO2 := Lib.hid hown2
      clear hown1 hown2 hgrow hbv hks
      go_wp2_with fail
      go_ret
      refine RM.mk ?_ hb1
      obtain ⟨a', c', e, h1, h2, h3⟩ := own_form HO2.out
      refine ⟨a', c', by rw [e, HQ.out]; rfl, by rw [HQ.out]; exact h1, fun _ => ?_⟩
      obtain ⟨g, eg, hge, _, hc⟩ := h3 (by omega)
      refine ⟨g, eg, hge, fun i hi => hc i _ ?_⟩
      rw [HQ.out] at hi
      simp [hi]
end Go.Proofs.YtkbfjficmdgjpaaGreatDoor
/-
  Contracts of fence.Make and of the reference's Make.
-/
namespace Go.Proofs.YtkbfjficmdgjpaaGreatDoor
open Go.RowKit
set_option linter.unusedSimpArgs false
set_option linter.unusedVariables false
set_option maxRecDepth 100000

def mkM (l : List Ent) (s i : Nat) : ByteArray := match l[(i + 1) * s - 1]?, l[(i + 1) * s]? with
  | some x, some y => betS x.key y.key
  | _, _ => mt
def mkMs (l : List Ent) (s n : Nat) : List ByteArray := (List.range n).map (mkM l s)
def fmake (l : List Ent) (s : Int) : Fnc × Int := if (clchk l).2 ≠ 0 then (⟨0, []⟩, (clchk l).2) else if s < 1 ∨ 64 < s then (⟨0, []⟩, 7) else (⟨s, mkMs l s.toNat (cnt l.length s.toNat)⟩, 0)
theorem echk_key {x : Ent} (h : echk x = 0) : x.key.size ≤ 32 ∧ x.val.size ≤ 64 := by
  unfold echk at h
  split at h
  · simp at h
  · omega
theorem betS_size (s t : ByteArray) (hs : s.size ≤ 32) : (betS s t).size ≤ 33 := by
  have hle := (cmn_le s.data.toList t.data.toList).1
  simp only [Array.length_toList, ByteArray.size_data] at hle
  unfold betS
  rw [ByteArray.size_append, ByteArray.size_extract, show (⟨#[endB s (cmn s.data.toList t.data.toList)]⟩ : ByteArray).size = 1 from rfl]; omega
theorem betw_ok {s t : ByteArray} (hs : s.size ≤ 32) (ht : t.size ≤ 32) (h : slt s t = true) : betw s t = (betS s t, 0) := by
  unfold betw; rw [if_neg (by simp [ktwo]; omega), if_pos h]
def FOut (f : Fnc) (e : Int) (w : World) (v : Value) : Prop := ∃ a c, v = .tuple #[f.v a c, .int .i64 e] ∧ Strs w a f.marks ∧ f.marks.length ≤ c ∧ c ≤ maxLen
theorem mkMs_size {l : List Ent} (h : ∀ m, m ∈ l → echk m = 0) (s n : Nat) : ∀ x, x ∈ mkMs l s n → x.size ≤ 33 := by
  intro x hx
  obtain ⟨i, _, rfl⟩ := List.mem_map.1 hx
  unfold mkM
  split
  · rename_i x y h1 h2
    exact betS_size _ _ (echk_key (h _ (List.mem_of_getElem? h1))).1
  · show (0 : Nat) ≤ 33; omega
theorem mkMs_len (l : List Ent) (s n : Nat) : (mkMs l s n).length = n := by simp [mkMs]
theorem mkMs_succ (l : List Ent) (s n : Nat) : mkMs l s (n + 1) = mkMs l s n ++ [mkM l s n] := by simp [mkMs, List.range_succ]

theorem cnt_lt {n s k : Nat} (hs : 1 ≤ s) (h : (k + 1) * s < n) : k < cnt n s := by
  have h1 := (ceil_facts n s hs).1
  unfold cnt
  rcases Nat.lt_or_ge k ((n + s - 1) / s - 1) with h2 | h2
  · exact h2
  · have := Nat.mul_le_mul_right s (show (n + s - 1) / s ≤ k + 1 by omega); omega

end Go.Proofs.YtkbfjficmdgjpaaGreatDoor
/-
  Contract of fence.Make.
-/
namespace Go.Proofs.YtkbfjficmdgjpaaGreatDoor
open Go.RowKit
set_option linter.unusedSimpArgs false
set_option linter.unusedVariables false
set_option maxRecDepth 100000

theorem fenceBlocksE0 (a : Option Addr) (c : Nat) (s : Nat) (w : World) (hs1 : 1 ≤ s) (hs2 : s ≤ 64) :
    Calls Tryz.prog 110 #[.slice a 0 c, .int .i64 (s : Int)] w (RD w (.slice none 0 0)) := by
  have h1 : ¬ (s : Int) < 0 := by omega
  go_enter Tryz.func110, Tryz.ntmps110
  go_wp2_with fail
  go_loopg [0, 4] 1 (fun g l out wr => l = .slice a 0 c ∧ out = .slice none 0 0 ∧ Dr w wr ∧ g = 1)
  case atStart => exact ⟨rfl, rfl, Dr.refl _, rfl⟩
  case round =>
    obtain ⟨rfl, rfl, hd, -⟩ := hrel
    go_wp2_with fail
    go_ret
    exact RD.mk rfl hd
theorem fenceBlocksG (a : Option Addr) (b off c n s : Nat) (w : World) (ha : 0 < n → a = some ⟨b, off, none⟩) (hs1 : 1 ≤ s) (hs2 : s ≤ 64) (hn : n ≤ 5000) (hcap : n ≤ c) (hcap2 : c ≤ maxLen) :
    Calls Tryz.prog 110 #[.slice a n c, .int .i64 (s : Int)] w (RM w (BlkOut w.heap.size b off s n c ((n + s - 1) / s))) := by
  rcases Nat.eq_zero_or_pos n with h | h
  · subst h
    refine (fenceBlocksE0 a c s w hs1 hs2).mono ?_
    rintro e w' ⟨rfl, hd⟩
    have hq : (0 + s - 1) / s = 0 := Nat.div_eq_of_lt (by omega)
    exact RM.mk ⟨none, 0, by rw [hq], by rw [hq]; omega, fun h => by rw [hq] at h; omega⟩ (.of_dr hd)
  · rw [ha h]
    exact fenceBlocksE b off c n s w hs1 hs2 hn h hcap hcap2
def lastK (l : List Ent) (s k : Nat) : ByteArray := if k = 0 then mt else match l[min (k * s) l.length - 1]? with
  | some x => x.key
  | none => mt

set_option maxRecDepth 100000 in
set_option maxHeartbeats 4000000 in
theorem fenceMake (a : Option Addr) (c : Nat) (l : List Ent) (s : Int) (w : World) (hl : Ents w a l) (hn : l.length ≤ c) (hc : c ≤ maxLen) (hlo : -9223372036854775808 ≤ s) (hhi : s ≤ 9223372036854775807) :
    Calls Tryz.prog 79 #[.slice a l.length c, .int .i64 s] w (RM w (FOut (fmake l s).1 (fmake l s).2)) := by
  have hL := fun w h => entCheckList a c l w h (Nat.le_trans hn hc)
  have hlok := clchk_ok (l := l)
  unfold fmake
  generalize (clchk l).1 = q0 at *
  generalize (clchk l).2 = q1 at *
  have HL := Lib.hid hL
  have HE := Lib.hid hl
  clear hL hl
  by_cases e1 : q1 = 0
  · obtain ⟨l1, l2, l3⟩ := hlok e1
    have e1' : (q1 != 0) = false := by simp [e1]
    rw [if_neg (by simp [e1])]
    have L2 := Lib.hid l2
    have L3 := Lib.hid l3
    clear hlok l2 l3
    by_cases e2 : s < 1 ∨ 64 < s
    · rw [if_pos e2]
      have hlo' := hlo
      clear e1
      rcases e2 with e2 | e2
      · go_enter Tryz.func79, Tryz.ntmps79
        go_wp2_with fail
        
        refine (HL.out _ (HE.out.bl (by repeat (first | assumption | exact Bl.refl _ | apply Bl.drewN | apply Bl.drew | apply Bl.alloc | (refine Bl.dr ?_ (by assumption)) | (refine Bl.trans ?_ (by assumption)))))).mono ?_; rintro e w1 ⟨rfl, hb1⟩
        have r0 : w1.cell? ⟨w.heap.size, 0, none⟩ = some (.int .i64 0) := hb1.cell (by simp [go_sem])
        have r1 : w1.cell? ⟨w.heap.size, 1, none⟩ = some (.slice none 0 0) := hb1.cell (by simp [go_sem])
        have t0 : w1.frozen? ⟨w.heap.size, 0, none⟩ = false := hb1.frozen (by simp [go_sem]; rfl) (by simp [go_sem])
        have t1 : w1.frozen? ⟨w.heap.size, 1, none⟩ = false := hb1.frozen (by simp [go_sem]; rfl) (by simp [go_sem])
        have hb : Bl w w1 := (by repeat (first | assumption | exact Bl.refl _ | apply Bl.drewN | apply Bl.drew | apply Bl.alloc | (refine Bl.dr ?_ (by assumption)) | (refine Bl.trans ?_ (by assumption))))
        go_wp2_with fail
        refine bodyPost_ret (v := .tuple #[.agg #[.int .i64 0, .slice none 0 0], .int .i64 7]) (by simp [results, Tryz.results79, go_sem, *]) rfl ?_
        exact RM.mk ⟨none, 0, rfl, ⟨by simp, fun h => absurd rfl h⟩, by simp, by unfold maxLen; omega⟩ ((hb.setCell _ (by simp) _).setCell _ (by simp) _)
      · have e2' : ¬ s < 1 := by omega
        go_enter Tryz.func79, Tryz.ntmps79
        go_wp2_with fail
        
        refine (HL.out _ (HE.out.bl (by repeat (first | assumption | exact Bl.refl _ | apply Bl.drewN | apply Bl.drew | apply Bl.alloc | (refine Bl.dr ?_ (by assumption)) | (refine Bl.trans ?_ (by assumption)))))).mono ?_; rintro e w1 ⟨rfl, hb1⟩
        have r0 : w1.cell? ⟨w.heap.size, 0, none⟩ = some (.int .i64 0) := hb1.cell (by simp [go_sem])
        have r1 : w1.cell? ⟨w.heap.size, 1, none⟩ = some (.slice none 0 0) := hb1.cell (by simp [go_sem])
        have t0 : w1.frozen? ⟨w.heap.size, 0, none⟩ = false := hb1.frozen (by simp [go_sem]; rfl) (by simp [go_sem])
        have t1 : w1.frozen? ⟨w.heap.size, 1, none⟩ = false := hb1.frozen (by simp [go_sem]; rfl) (by simp [go_sem])
        have hb : Bl w w1 := (by repeat (first | assumption | exact Bl.refl _ | apply Bl.drewN | apply Bl.drew | apply Bl.alloc | (refine Bl.dr ?_ (by assumption)) | (refine Bl.trans ?_ (by assumption))))
        go_wp2_with fail
        refine bodyPost_ret (v := .tuple #[.agg #[.int .i64 0, .slice none 0 0], .int .i64 7]) (by simp [results, Tryz.results79, go_sem, *]) rfl ?_
        exact RM.mk ⟨none, 0, rfl, ⟨by simp, fun h => absurd rfl h⟩, by simp, by unfold maxLen; omega⟩ ((hb.setCell _ (by simp) _).setCell _ (by simp) _)
    · rw [if_neg e2]
      have s1 : ¬ s < 1 := by omega
      have s2 : ¬ 64 < s := by omega
      clear e2 e1
      obtain ⟨s, rfl⟩ := Int.eq_ofNat_of_zero_le (show 0 ≤ s by omega)
      rw [Int.toNat_natCast]
      obtain ⟨b, off, hadr, hat⟩ : ∃ b off, (0 < l.length → a = some ⟨b, off, none⟩) ∧ ∀ i x, l[i]? = some x → EntAt w b (off + i * 4) x := by
        by_cases hne : l = []
        · subst hne; exact ⟨0, 0, by simp, by simp⟩
        · obtain ⟨b, off, h1, h2⟩ := HE.out.at_ hne; exact ⟨b, off, fun _ => h1, h2⟩
      have hG := fun w => fenceBlocksG a b off c l.length s w hadr (by omega) (by omega) l1 hn hc
      have hq := ceil_facts l.length s (by omega)
      have hcq : cnt l.length s = (l.length + s - 1) / s - 1 := rfl
      rw [hcq]
      generalize (l.length + s - 1) / s = q at *
      obtain ⟨hq1, hq2, hq3⟩ := hq
      have HG := Lib.hid hG
      have HQ1 := Lib.hid hq1
      have HQ2 := Lib.hid hq2
      clear hG hcq hadr hq1 hq2
      obtain ⟨i0, hi, hz0, hz1, hz2⟩ := info_parts inf_string
      go_enter Tryz.func79, Tryz.ntmps79
      go_wp2_with fail
      refine (HL.out _ (HE.out.bl (by repeat (first | assumption | exact Bl.refl _ | apply Bl.drewN | apply Bl.drew | apply Bl.alloc | (refine Bl.dr ?_ (by assumption)) | (refine Bl.trans ?_ (by assumption)))))).mono ?_; rintro e w1 ⟨rfl, hb1⟩
      have r0 : w1.cell? ⟨w.heap.size, 0, none⟩ = some (.int .i64 0) := hb1.cell (by simp [go_sem])
      have r1 : w1.cell? ⟨w.heap.size, 1, none⟩ = some (.slice none 0 0) := hb1.cell (by simp [go_sem])
      have t0 : w1.frozen? ⟨w.heap.size, 0, none⟩ = false := hb1.frozen (by simp [go_sem]; rfl) (by simp [go_sem])
      have t1 : w1.frozen? ⟨w.heap.size, 1, none⟩ = false := hb1.frozen (by simp [go_sem]; rfl) (by simp [go_sem])
      have hb : Bl w w1 := (by repeat (first | assumption | exact Bl.refl _ | apply Bl.drewN | apply Bl.drew | apply Bl.alloc | (refine Bl.dr ?_ (by assumption)) | (refine Bl.trans ?_ (by assumption))))
      have hsz : w.heap.size < w1.heap.size := lt_of_cell r0
      clear hb1
      go_wp2_with fail
      refine (HG.out _).mono ?_; rintro e w2 ⟨bv, rfl, hbv, hb2⟩
      obtain ⟨ba, bc, rfl, hbc, hbcell⟩ := hbv
      have hb12 : Bl w1 w2 := ((Bl.refl w1).alloc _).trans hb2
      have g0 : w2.cell? ⟨w1.heap.size, 0, none⟩ = some (.int .i64 (s : Int)) := hb2.cell (by simp [go_sem])
      have g1 : w2.cell? ⟨w1.heap.size, 1, none⟩ = some (.slice none 0 0) := hb2.cell (by simp [go_sem])
      have gf : w2.frozen? ⟨w1.heap.size, 1, none⟩ = false := hb2.frozen (by simp [go_sem]; rfl) (by simp [go_sem])
      have hgs : w1.heap.size < w2.heap.size := lt_of_cell g0
      have hbw2 : Bl w w2 := hb.trans hb12
      have HBC := Lib.hid hbcell
      have HAT := Lib.hid hat
      clear hb2 hbcell hat
      go_wp2_with fail
      go_loopg [9, 36] q (fun g la i wr => ∃ (k : Nat) (v : Value), k ≤ q ∧ i = .int .i64 (k : Int) ∧ la = .string (lastK l s k) ∧ wr.cell? ⟨w1.heap.size, 1, none⟩ = some v ∧ wr.ownsRow w2.heap.size 9 1 v (k - 1) ((mkMs l s (k - 1)).map Value.string) ∧ Kp w2 ⟨w1.heap.size, 1, none⟩ wr ∧ Bl w wr ∧ g = q - k)
      case atStart => exact ⟨0, _, by omega, rfl, rfl, g1, by simpa [mkMs] using own_nil _ _ _ _, Kp.refl _ _, (by repeat (first | assumption | exact Bl.refl _ | apply Bl.drewN | apply Bl.drew | apply Bl.alloc | (refine Bl.dr ?_ (by assumption)) | (refine Bl.trans ?_ (by assumption)))), rfl⟩
      case round =>
        obtain ⟨k, v, hkc, rfl, rfl, hcv, hown, hkp, hbw, hg⟩ := hrel
        have G := Lib.hid hg
        have HO := Lib.hid hown
        have HK := Lib.hid hkp
        have b0 : wr.cell? ⟨w1.heap.size, 0, none⟩ = some (.int .i64 (s : Int)) := hkp.cell g0 (by simp)
        have f1 : wr.frozen? ⟨w1.heap.size, 1, none⟩ = false := hkp.2.1 _ _ g1 gf
        by_cases h2 : k < q
        · have hkn := HQ2.out k h2
          have hkk : k ≤ k * s := Nat.le_mul_of_pos_right k (by omega)
          have hks : (k + 1) * s = k * s + s := by rw [Nat.add_mul]; omega
          obtain ⟨gb, rfl, hgb, hbcell⟩ := HBC.out (by omega)
          simp at hgb
          have cb := hkp.cell (hbcell k h2) (by intro h; injection h with h; omega)
          unfold blkV at cb
          obtain ⟨y, hy⟩ : ∃ y, l[k * s]? = some y := ⟨_, List.getElem?_eq_getElem hkn⟩
          obtain ⟨z, hz⟩ : ∃ z, l[k * s + (min s (l.length - k * s) - 1)]? = some z := ⟨_, List.getElem?_eq_getElem (by omega)⟩
          have cy := hbw.cell (HAT.out _ y hy).key
          have cz := (HAT.out _ z hz).key
          rw [show off + (k * s + (min s (l.length - k * s) - 1)) * 4 = off + k * s * 4 + (min s (l.length - k * s) - 1) * 4 by omega] at cz
          have hlz : lastK l s (k + 1) = z.key := by
            unfold lastK; rw [if_neg (by omega), hks, show min (k * s + s) l.length - 1 = k * s + (min s (l.length - k * s) - 1) by omega, hz]
          have hyk := (echk_key (L2.out y (List.mem_of_getElem? hy))).1
          have hmn : 1 ≤ min s (l.length - k * s) := by omega
          have hmn2 : k * s + min s (l.length - k * s) ≤ l.length := by omega
          have HLZ := Lib.hid hlz
          have hkl : k ≤ 5000 := by omega
          by_cases hk0 : 0 < k
          · obtain ⟨x, hx⟩ : ∃ x, l[k * s - 1]? = some x := ⟨_, List.getElem?_eq_getElem (by omega)⟩
            have hls : lastK l s k = x.key := by
              unfold lastK; rw [if_neg (by omega), Nat.min_eq_left (by omega), hx]
            have hxk := (echk_key (L2.out x (List.mem_of_getElem? hx))).1
            have hlt := ascE_lt L3.out hx hy (by have : 1 * s ≤ k * s := Nat.mul_le_mul_right s hk0; omega)
            have hB := fun w => keysBetween x.key y.key w (by unfold maxLen; omega) (by unfold maxLen; omega)
            rw [betw_ok hxk hyk hlt] at hB
            have hm : mkM l s (k - 1) = betS x.key y.key := by simp [mkM, show k - 1 + 1 = k by omega, hx, hy]
            have hsz2 := betS_size x.key y.key hxk
            rw [hls]
            generalize betS x.key y.key = mk at *
            have HB := Lib.hid hB
            have HM := Lib.hid hm
            have hk5 : k ≤ 5000 := by omega
            have HKK := Lib.hid hks
            clear hB hm hlt hx hy hz hkp hown hg hks hls hlz hbcell hkk
            generalize (if (k + 1) * s < l.length then s else c - k * s) = cp at *
            generalize hgm : min s (l.length - k * s) = mm at *
            generalize hgt : k * s = t at *
            clear hgm hgt
            go_wp2_with fail
            refine (HB.out _).mono ?_; rintro e w3 ⟨rfl, hb3⟩
            have d1 := hb3.cell hcv
            have f3 := hb3.frozen hcv f1
            have HO3 := Lib.hid (own_bl HO.out hb3)
            have HK3 := Lib.hid (HK.out.bl hb3 ⟨_, hcv⟩)
            have hbw3 : Bl w w3 := hbw.trans hb3
            clear hb3
            go_wp2_with (at_builtin; refine wpList_append_own _ rfl _ _ 84 rfl w2.heap.size 9 i0 (.string ⟨#[]⟩) 1 16 Tryz.underlying84 hi hz0 hz1 hz2 rfl (by decide) _ _ _ rfl (HO3.out.alloc _) ⟨w3.heap.size, 0, none⟩ 1 1 [.string mk] rfl rfl ?c1 ?c2 ?c3 ?c4 ?c5 ?_)
            case c1 => exact one_new _ _ _
            case c2 => intro u hu; simp at hu; subst hu; rfl
            case c3 => unfold maxLen; omega
            case c4 => omega
            case c5 => have h5 := HK3.out.2.2; simp; omega
            intro v' w4 hown4 hgrow _
            have hown5 : w4.ownsRow w2.heap.size 9 1 v' (k - 1 + 1) ((mkMs l s (k - 1 + 1)).map Value.string) := by
              rw [mkMs_succ, List.map_append, HM.out]; exact hown4
            have hal : Bl w3 (w3.alloc (Obj.cells #[Value.string mk] 9)) := (Bl.refl _).alloc _
            have e1 : w4.cell? ⟨w1.heap.size, 1, none⟩ = some v := grown_cell (HO3.out.alloc _) hgrow (hal.cell d1) (by simp; omega)
            have f4 : w4.frozen? ⟨w1.heap.size, 1, none⟩ = false := grown_frozen (HO3.out.alloc _) hgrow (hal.cell d1) (hal.frozen d1 f3) (by simp; omega)
            have hkp4 := (HK3.out.bl hal ⟨_, d1⟩).grown (HO3.out.alloc _) hgrow (Nat.le_refl _) ⟨_, hal.cell d1⟩
            have hbw4 : Bl w w4 := grown_bl (hbw3.alloc _) (HO3.out.alloc _) hgrow (show w.heap.size ≤ w2.heap.size by omega)
            obtain ⟨av, cv, rfl, hcv5, hcv6, -⟩ := own_form hown5
            have hbw5 : Bl w (w4.setCell ⟨w1.heap.size, 1, none⟩ (.slice av (k - 1 + 1) cv)) := hbw4.setCell _ (by simp; omega) _
            have cz5 := hbw5.cell cz
            have hown6 := own_set hown5 ⟨w1.heap.size, 1, none⟩ (by simp; omega) (.slice av (k - 1 + 1) cv)
            have hcell6 := cell_set _ _ (.slice av (k - 1 + 1) cv) _ e1 rfl
            rw [show k - 1 + 1 = k by omega] at hown6 hcell6 cz5 hbw5
            have HO6 := Lib.hid hown6
            have HK6 := Lib.hid (hkp4.set (.slice av k cv))
            have HC6 := Lib.hid hcell6
            have hk1 : k - 1 + 1 = k := by omega
            rw [hk1] at hcv5 ⊢
            clear hown4 hown5 hgrow hkp4 hal hown6 hcell6 hk1
            have hm1 : IntKind.i64.wrap ((mm : Int) - 1) = (mm : Int) - 1 := IntWalk.i64_in _ (by omega)
            go_wp2_with fail
            go_roundg (q - (k + 1))
            case rel =>
              refine ⟨k + 1, .slice av k cv, by omega, by go_num, by rw [HLZ.out], HC6.out, ?_, HK6.out, hbw5, rfl⟩
              rw [show k + 1 - 1 = k by omega]; exact HO6.out
            case measure => rw [G.out]; omega
          · have hk00 : k = 0 := by omega
            subst hk00
            have hcz := hbw.cell cz
            have hlast : lastK l s 0 = mt := rfl
            clear hkp hown hg hks hlz hbcell hkk hz hy
            rw [hlast]
            generalize (if (0 + 1) * s < l.length then s else c - 0 * s) = cp at *
            generalize hgm : min s (l.length - 0 * s) = mm at *
            generalize hgt : 0 * s = t at *
            clear hgm hgt
            have hm1 : IntKind.i64.wrap ((mm : Int) - 1) = (mm : Int) - 1 := IntWalk.i64_in _ (by omega)
            go_wp2_with fail
            go_roundg (q - 1)
            case rel => exact ⟨1, v, by omega, rfl, by rw [HLZ.out], hcv, HO.out, HK.out, hbw, rfl⟩
            case measure => rw [G.out]; omega
        · obtain rfl : k = q := by omega
          have z0 := hkp.cell (hb12.cell r0) (by simp)
          have z1 := hkp.cell (hb12.cell r1) (by intro h; injection h with h; omega)
          have y0 : wr.frozen? ⟨w.heap.size, 0, none⟩ = false := hkp.2.1 _ _ (hb12.cell r0) (hb12.frozen r0 t0)
          have y1 : wr.frozen? ⟨w.heap.size, 1, none⟩ = false := hkp.2.1 _ _ (hb12.cell r1) (hb12.frozen r1 t1)
          obtain ⟨av, cv, rfl, hcv5, hcv6, -⟩ := own_form hown
          clear hkp hown hg
          go_wp2_with fail
          refine bodyPost_ret (v := .tuple #[.agg #[.int .i64 (s : Int), .slice av (k - 1) cv], .int .i64 0]) (by simp [results, Tryz.results79, go_sem, *]) rfl ?_
          refine RM.mk ?_ ((hbw.setCell _ (by simp) _).setCell _ (by simp) _)
          have hlm : (mkMs l s (k - 1)).length = k - 1 := mkMs_len _ _ _
          have hown9 := own_set (own_set HO.out ⟨w.heap.size, 0, none⟩ (by simp; omega) (.int .i64 (s : Int))) ⟨w.heap.size, 1, none⟩ (by simp; omega) (.slice av (k - 1) cv)
          obtain ⟨a', c', e, hst, h1, h2⟩ := own_strs (l := mkMs l s (k - 1)) (by rw [hlm]; exact own_base hown9 (Nat.zero_le _)) (fun x hx => by have := mkMs_size L2.out s (k - 1) x hx; unfold maxLen; omega)
          rw [hlm] at e h1
          injection e with e3 e4 e5
          subst e3 e5
          exact ⟨av, cv, by simp only [Fnc.v]; rw [hlm], hst, by simp only; rw [hlm]; exact h1, h2⟩
  · rw [if_pos e1]
    have e1' : (q1 == 0) = false := by simp [e1]
    have e1'' : (q1 != 0) = true := by simp [e1]
    clear e1 hlok
    go_enter Tryz.func79, Tryz.ntmps79
    go_wp2_with fail
    
    refine (HL.out _ (HE.out.bl (by repeat (first | assumption | exact Bl.refl _ | apply Bl.drewN | apply Bl.drew | apply Bl.alloc | (refine Bl.dr ?_ (by assumption)) | (refine Bl.trans ?_ (by assumption)))))).mono ?_; rintro e w1 ⟨rfl, hb1⟩
    have r0 : w1.cell? ⟨w.heap.size, 0, none⟩ = some (.int .i64 0) := hb1.cell (by simp [go_sem])
    have r1 : w1.cell? ⟨w.heap.size, 1, none⟩ = some (.slice none 0 0) := hb1.cell (by simp [go_sem])
    have t0 : w1.frozen? ⟨w.heap.size, 0, none⟩ = false := hb1.frozen (by simp [go_sem]; rfl) (by simp [go_sem])
    have t1 : w1.frozen? ⟨w.heap.size, 1, none⟩ = false := hb1.frozen (by simp [go_sem]; rfl) (by simp [go_sem])
    have hb : Bl w w1 := (by repeat (first | assumption | exact Bl.refl _ | apply Bl.drewN | apply Bl.drew | apply Bl.alloc | (refine Bl.dr ?_ (by assumption)) | (refine Bl.trans ?_ (by assumption))))
    go_wp2_with fail
    refine bodyPost_ret (v := .tuple #[.agg #[.int .i64 0, .slice none 0 0], .int .i64 q1]) (by simp [results, Tryz.results79, go_sem, *]) rfl ?_
    exact RM.mk ⟨none, 0, rfl, ⟨by simp, fun h => absurd rfl h⟩, by simp, by unfold maxLen; omega⟩ ((hb.setCell _ (by simp) _).setCell _ (by simp) _)
end Go.Proofs.YtkbfjficmdgjpaaGreatDoor
/-
  Plain laws of fences that fit a list.
-/
namespace Go.Proofs.YtkbfjficmdgjpaaGreatDoor
open Go.RowKit
set_option linter.unusedSimpArgs false
set_option linter.unusedVariables false
set_option maxRecDepth 100000

structure Fits (f : Fnc) (l : List Ent) : Prop where
  s1 : 1 ≤ f.step
  s2 : f.step ≤ 64
  ms : f.marks.length ≤ 4999
  asc : Asc f.marks
  ascE : AscE l
  ls : l.length ≤ 5000
  fit : fitB f.step.toNat f.marks l = true
  keys : ∀ x, x ∈ l → x.key.size ≤ 32
  e1 : (fchk f).2 = 0
  e2 : (clchk l).2 = 0
theorem fits_facts {f : Fnc} {l : List Ent} (h : (ffits f l).2 = 0) (h' : (ffits f l).1 = true) : Fits f l := by
  obtain ⟨a, b, c⟩ := ffits_ok h
  obtain ⟨f1, f2, f3, f4, f5⟩ := fchk_ok a
  obtain ⟨l1, l2, l3⟩ := clchk_ok b
  exact ⟨f1, f2, f3, f5, l3, l1, by rw [← c]; exact h', fun x hx => (echk_key (l2 x hx)).1, a, b⟩
theorem atGo_own {l : List Ent} (h : AscE l) {i : Nat} {x : Ent} (hx : l[i]? = some x) : atGo 0 x.key l = (i : Int) := by
  have := atGo_from l 0 x.key i x hx rfl (fun j y hj hy he => by
    have := ascE_lt h hy hx hj
    rw [he, slt_irrefl] at this; cases this)
  rw [this]; omega
theorem spans_at {f : Fnc} {l : List Ent} (h : Fits f l) (ht : (ffits f l).2 = 0) (ht' : (ffits f l).1 = true) {i : Nat} {x : Ent} (hx : l[i]? = some x) :
    ∃ A B : Int, spn f l.length x.key = (A, B, 0) ∧ ffind f l x.key = ((i : Int), 0) ∧ A ≤ i ∧ (i : Int) < B ∧ B - A ≤ f.step ∧ 1 ≤ B - A ∧ 0 ≤ A ∧ B ≤ 5000 := by
  have hk := h.keys x (List.mem_of_getElem? hx)
  have hk0 : kchk x.key = 0 := kchk_zero.2 hk
  have hin := in_block (show 1 ≤ f.step.toNat by have := h.s1; omega) h.asc h.ascE h.fit hx
  have hlen := (fitB_spec h.fit).1
  have hi : i < l.length := (List.getElem?_eq_some_iff.1 hx).1
  have hls := h.ls
  have hs1 := h.s1
  have hc : ((cntLe f.marks x.key * f.step.toNat : Nat) : Int) = (cntLe f.marks x.key : Int) * f.step := by
    rw [Int.natCast_mul]; congr 1; omega
  have h0 := h.e1
  refine ⟨(cntLe f.marks x.key : Int) * f.step, min ((cntLe f.marks x.key : Int) * f.step + f.step) l.length, ?_, ?_, ?_⟩
  · unfold spn
    rw [if_neg (by simp [h0, hk0]), if_neg (by omega), if_neg (by simpa using hlen)]
  · unfold ffind
    rw [if_neg (by simp [ht]), if_neg (by simp [hk0]), if_neg (by simp [ht']), atGo_own h.ascE hx, if_neg (by omega)]
  · rw [← hc]; omega
theorem find_same {f : Fnc} {l : List Ent} (ht : (ffits f l).2 = 0) (ht' : (ffits f l).1 = true) (k : ByteArray) : ffind f l k = fnd l k := by
  have h := (fits_facts ht ht').e2
  unfold ffind fnd
  simp [ht, ht', h]
end Go.Proofs.YtkbfjficmdgjpaaGreatDoor
/-
  Plain laws of the blocks of a range.
-/
namespace Go.Proofs.YtkbfjficmdgjpaaGreatDoor
open Go.RowKit
set_option linter.unusedSimpArgs false
set_option linter.unusedVariables false
set_option maxRecDepth 100000

theorem filter_le {α : Type} (p q : α → Bool) (h : ∀ a, p a = true → q a = true) : ∀ l : List α, (l.filter p).length ≤ (l.filter q).length
  | [] => by simp
  | a :: l => by
    have ih := filter_le p q h l
    cases hp : p a
    · rw [List.filter_cons_of_neg (by simp [hp])]
      cases hq : q a
      · rw [List.filter_cons_of_neg (by simp [hq])]; exact ih
      · rw [List.filter_cons_of_pos hq]; simp; omega
    · rw [List.filter_cons_of_pos hp, List.filter_cons_of_pos (h a hp)]; simp; omega
theorem le_trans' {a b c : ByteArray} (h : slt b a = false) (k : slt c b = false) : slt c a = false := by
  cases e : slt c a
  · rfl
  · cases e2 : slt a b
    · have := slt_tri e2 h; subst this; rw [e] at k; cases k
    · have := slt_trans e e2; rw [this] at k; cases k
theorem le_lt_trans {a b c : ByteArray} (h : slt b a = false) (k : slt b c = true) : slt a c = true := by
  cases e : slt a b
  · have := slt_tri e h; subst this; exact k
  · exact slt_trans e k
theorem cntLe_mono (m : List ByteArray) {a b : ByteArray} (h : slt b a = false) : cntLe m a ≤ cntLe m b :=
  filter_le _ _ (fun x hx => by simp only [Bool.not_eq_true'] at hx ⊢; exact le_trans' hx h) m
theorem cntLe_cntLt (m : List ByteArray) {a b : ByteArray} (h : slt a b = true) : cntLe m a ≤ cntLt m b :=
  filter_le _ _ (fun x hx => by
    simp only [Bool.not_eq_true', Bool.not_not] at hx ⊢
    exact le_lt_trans hx h) m
theorem remp_ok {r : Rng} (h : (remp r).2 = 0) : (remp r).1 = (r.bd && !slt r.lo r.hi) := by
  unfold remp at h ⊢
  by_cases k : rchk r = 0
  · simp [k]
  · simp [k] at h
theorem ranges_facts {f : Fnc} {l : List Ent} {r : Rng} (h : Fits f l) (hb : (blks f r).2.2 = 0) :
    ∃ A B : Nat, blks f r = ((A : Int), (B : Int), 0) ∧ (remp r).2 = 0 ∧ (remp r).1 = decide ((A : Int) = (B : Int)) ∧ A ≤ B ∧ B ≤ f.marks.length + 1 ∧
      ∀ i x, l[i]? = some x → rhas r x.key = true → A ≤ i / f.step.toNat ∧ i / f.step.toNat < B := by
  have hs1 := h.s1
  have e1 := h.e1
  have e2 : (remp r).2 = 0 := by
    by_cases k : (remp r).2 = 0
    · exact k
    · unfold blks at hb; simp [e1, k] at hb
  have e3 := remp_ok e2
  by_cases k : (remp r).1 = true
  · refine ⟨0, 0, by unfold blks; simp [e1, e2, k], e2, by simp [k], Nat.le_refl _, by omega, fun i x hx hr => ?_⟩
    rw [e3] at k
    unfold rhas at hr
    simp only [Bool.and_eq_true, Bool.not_eq_true', Bool.or_eq_true] at k hr
    obtain ⟨k1, k2⟩ := k
    obtain ⟨r1, r2⟩ := hr
    rw [k1] at r2
    have := le_lt_trans r1 (by simpa using r2)
    rw [this] at k2; cases k2
  · have k' : (remp r).1 = false := by simpa using k
    have hab : cntLe f.marks r.lo < (if r.bd = true then cntLt f.marks r.hi else f.marks.length) + 1 := by
      have := cntLe_le f.marks r.lo
      split
      · rename_i hbd
        rw [e3, hbd] at k'
        have := cntLe_cntLt f.marks (a := r.lo) (b := r.hi) (by simpa using k')
        omega
      · omega
    refine ⟨cntLe f.marks r.lo, (if r.bd = true then cntLt f.marks r.hi else f.marks.length) + 1, ?_, e2, ?_, by omega, ?_, fun i x hx hr => ?_⟩
    · unfold blks
      rw [if_neg (by simp [e1]), if_neg (by simp [e2]), if_neg k]
      split <;> simp
    · rw [k']; symm; simp; omega
    · have := cntLt_le f.marks r.hi
      split <;> omega
    · have hin := in_block (show 1 ≤ f.step.toNat by omega) h.asc h.ascE h.fit hx
      have hq : i / f.step.toNat = cntLe f.marks x.key := by
        apply Nat.div_eq_of_lt_le
        · exact hin.1
        · rw [Nat.add_mul]; omega
      rw [hq]
      unfold rhas at hr
      simp only [Bool.and_eq_true, Bool.not_eq_true', Bool.or_eq_true] at hr
      obtain ⟨r1, r2⟩ := hr
      refine ⟨cntLe_mono _ r1, ?_⟩
      split
      · rename_i hbd
        rw [hbd] at r2
        have := cntLe_cntLt f.marks (a := x.key) (b := r.hi) (by simpa using r2)
        omega
      · have := cntLe_le f.marks x.key; omega
end Go.Proofs.YtkbfjficmdgjpaaGreatDoor
/-
  Plain facts of the shortest string between two.
-/
namespace Go.Proofs.YtkbfjficmdgjpaaGreatDoor
open Go.RowKit
set_option linter.unusedSimpArgs false
set_option linter.unusedVariables false
set_option maxRecDepth 100000

theorem bet_pre : ∀ S T Y : List UInt8, Op.bytesLess S T = true → Op.bytesLess S Y = true → Op.bytesLess T Y = false → Y.take (cmn S T) = T.take (cmn S T) ∧ cmn S T < Y.length
  | [], T, [], _, h2, _ => by simp [Op.bytesLess] at h2
  | [], T, _ :: _, _, _, _ => by simp [cmn_nil1]
  | _ :: _, [], _, h1, _, _ => by simp [Op.bytesLess] at h1
  | _ :: _, _ :: _, [], _, h2, _ => by simp [Op.bytesLess] at h2
  | a :: l, b :: r, c :: q, h1, h2, h3 => by
    by_cases hab : a = b
    · subst hab
      simp only [Op.bytesLess, Bool.or_eq_true, Bool.and_eq_true, decide_eq_true_eq, beq_iff_eq, Bool.or_eq_false_iff, Bool.and_eq_false_iff, decide_eq_false_iff_not, beq_eq_false_iff_ne] at h1 h2 h3
      have h1' : Op.bytesLess l r = true := h1.elim (fun h => absurd h (UInt8.lt_irrefl a)) (fun h => h.2)
      obtain ⟨hac, h2'⟩ := h2.resolve_left h3.1
      subst hac
      have h3' := h3.2.resolve_left (by simp)
      obtain ⟨i1, i2⟩ := bet_pre l r q h1' h2' h3'
      simp only [cmn, if_true, List.take_succ_cons, List.length_cons, i1]
      exact ⟨trivial, by omega⟩
    · simp [cmn, hab]
theorem betS_in {s t : ByteArray} (h : slt s t = true) : slt s (betS s t) = true ∧ slt t (betS s t) = false := by
  rw [betS_t s t _ rfl]; exact (bet_try s t h _ _ rfl).2 rfl
theorem cmn_lt {s t : ByteArray} (h : slt s t = true) : cmn s.data.toList t.data.toList < t.size := by
  unfold slt at h
  rw [toL, toL, bl_cmn] at h
  have := of_decide_eq_true h
  simpa using this.1
theorem betS_len {s t : ByteArray} (h : slt s t = true) : (betS s t).size = cmn s.data.toList t.data.toList + 1 := by
  have := cmn_lt h
  rw [betS_t s t _ rfl, ByteArray.size_append, ByteArray.size_extract, show (⟨#[endB s (cmn s.data.toList t.data.toList)]⟩ : ByteArray).size = 1 from rfl]; omega
theorem betS_least {s t y : ByteArray} (h1 : slt s t = true) (h2 : slt s y = true) (h3 : slt t y = false) : (betS s t).size ≤ y.size ∧ (y.size = (betS s t).size → slt y (betS s t) = false) := by
  have hp := bet_pre s.data.toList t.data.toList y.data.toList (by rw [← toL, ← toL]; exact h1) (by rw [← toL, ← toL]; exact h2) (by rw [← toL, ← toL]; exact h3)
  have hb := betS_t s t _ rfl
  have ht := bet_try s t h1
  rw [betS_len h1]
  generalize cmn s.data.toList t.data.toList = n at *
  obtain ⟨p1, p2⟩ := hp
  have p2' : n < y.size := by simpa using p2
  refine ⟨p2', fun he => ?_⟩
  have hy : y = t.extract 0 n ++ ⟨#[y.data.toList[n]]⟩ := by
    apply str_ext
    rw [cat_list, toL, ← p1]
    conv => lhs; rw [← List.take_append_drop n y.data.toList]
    rw [List.drop_eq_getElem_cons p2, List.drop_of_length_le (by simp; omega)]
  have hc : ¬ y.data.toList[n] < endB s n := by
    intro hlt
    have := (ht _ n rfl).1 hlt
    rw [← hy, h2] at this; cases this
  rw [hb, hy]
  unfold slt
  rw [cat_list, cat_list, bl_app]
  have : ¬ y.data.toList[n] < endB s n := hc
  simp [Op.bytesLess] at this ⊢
  exact this
end Go.Proofs.YtkbfjficmdgjpaaGreatDoor
/-
  Plain laws of the shortest fence.
-/
namespace Go.Proofs.YtkbfjficmdgjpaaGreatDoor
open Go.RowKit
set_option linter.unusedSimpArgs false
set_option linter.unusedVariables false
set_option maxRecDepth 100000

theorem fmGo_zero : ∀ (l : List ByteArray) (i : Nat) (p : Option ByteArray), (∀ m, m ∈ l → m.size ≤ 32) → Asc l → (∀ q, p = some q → ∀ m, m ∈ l → slt q m = true) → fmGo i p l = (0, 0)
  | [], _, _, _, _, _ => rfl
  | m :: r, i, p, h1, h2, h3 => by
    have hk : kchk m = 0 := kchk_zero.2 (h1 m (by simp))
    have hp : pbad p m = false := by
      cases p with
      | none => rfl
      | some q => simp [pbad, h3 q rfl m (by simp)]
    obtain ⟨h4, h5⟩ := List.pairwise_cons.1 h2
    unfold fmGo
    rw [if_neg (by simp [hk]), if_neg (by simp [hp])]
    exact fmGo_zero r (i + 1) (some m) (fun x hx => h1 x (by simp [hx])) h5 (fun q hq x hx => by injection hq with hq; subst hq; exact h4 x hx)
theorem asc_of {m : List ByteArray} (h : ∀ (i j : Nat) x y, i < j → m[i]? = some x → m[j]? = some y → slt x y = true) : Asc m := by
  rw [Asc, List.pairwise_iff_getElem]
  intro i j hi hj hij
  exact h i j _ _ hij (List.getElem?_eq_getElem hi) (List.getElem?_eq_getElem hj)
theorem mkMs_get {l : List Ent} {s n i : Nat} {x : ByteArray} (h : (mkMs l s n)[i]? = some x) : i < n ∧ x = mkM l s i := by
  unfold mkMs at h
  rw [List.getElem?_map] at h
  obtain ⟨k, hk, rfl⟩ := Option.map_eq_some_iff.1 h
  obtain ⟨h1, h2⟩ := List.getElem?_eq_some_iff.1 hk
  simp at h1 h2
  subst h2
  exact ⟨h1, rfl⟩
/-- What is at a mark's place. -/
theorem mk_at {l : List Ent} (ha : AscE l) {s k : Nat} (hs : 1 ≤ s) (hk : k < cnt l.length s) :
    ∃ x y, l[(k + 1) * s - 1]? = some x ∧ l[(k + 1) * s]? = some y ∧ slt x.key y.key = true ∧ mkM l s k = betS x.key y.key := by
  have h1 := cnt_at hs hk
  have h2 : 1 * s ≤ (k + 1) * s := Nat.mul_le_mul_right s (by omega)
  obtain ⟨x, hx⟩ : ∃ x, l[(k + 1) * s - 1]? = some x := ⟨_, List.getElem?_eq_getElem (by omega)⟩
  obtain ⟨y, hy⟩ : ∃ y, l[(k + 1) * s]? = some y := ⟨_, List.getElem?_eq_getElem h1⟩
  exact ⟨x, y, hx, hy, ascE_lt ha hx hy (by omega), by simp [mkM, hx, hy]⟩
theorem mk_facts {l : List Ent} (hc : (clchk l).2 = 0) {s : Nat} (hs : 1 ≤ s) (hs2 : s ≤ 64) :
    fchk ⟨(s : Int), mkMs l s (cnt l.length s)⟩ = (0, 0) ∧ ffits ⟨(s : Int), mkMs l s (cnt l.length s)⟩ l = (true, 0) := by
  obtain ⟨l1, l2, l3⟩ := clchk_ok hc
  have hk : ∀ x, x ∈ l → x.key.size ≤ 32 := fun x hx => (echk_key (l2 x hx)).1
  have hn : cnt l.length s ≤ 4999 := by
    have := (ceil_facts l.length s hs).2.2
    unfold cnt; omega
  have e1 : fchk ⟨(s : Int), mkMs l s (cnt l.length s)⟩ = (0, 0) := by
    unfold fchk
    simp only
    rw [if_neg (by omega), if_neg (by rw [mkMs_len]; omega)]
    refine fmGo_zero _ _ _ (fun m hm => ?_) (asc_of fun i j x y hij hi hj => ?_) (fun q hq => by cases hq)
    · obtain ⟨i, hi, rfl⟩ := List.getElem_of_mem hm
      obtain ⟨h1, h2⟩ := mkMs_get (List.getElem?_eq_getElem hi)
      obtain ⟨x, y, hx, hy, hlt, he⟩ := mk_at l3 hs h1
      rw [h2, he, betS_len hlt]
      have := cmn_lt hlt
      have := hk y (List.mem_of_getElem? hy)
      omega
    · obtain ⟨h1, rfl⟩ := mkMs_get hi
      obtain ⟨h2, rfl⟩ := mkMs_get hj
      obtain ⟨x1, y1, hx1, hy1, hlt1, he1⟩ := mk_at l3 hs h1
      obtain ⟨x2, y2, hx2, hy2, hlt2, he2⟩ := mk_at l3 hs h2
      rw [he1, he2]
      have hle : (i + 1) * s + s ≤ (j + 1) * s := by
        have := Nat.mul_le_mul_right s (show i + 1 + 1 ≤ j + 1 by omega)
        rw [Nat.add_mul (i + 1) 1 s] at this; omega
      have hyx : slt x2.key y1.key = false := by
        rcases Nat.eq_or_lt_of_le (show (i + 1) * s ≤ (j + 1) * s - 1 by omega) with h | h
        · rw [h] at hy1
          rw [hx2] at hy1; injection hy1 with hy1; subst hy1; exact slt_irrefl _
        · exact slt_asymm (ascE_lt l3 hy1 hx2 h)
      exact le_lt_trans (le_trans' (betS_in hlt1).2 hyx) (betS_in hlt2).1
  refine ⟨e1, ?_⟩
  unfold ffits
  rw [if_neg (by simp [e1]), if_neg (by simp [hc])]
  have : fitB (s : Int).toNat (mkMs l s (cnt l.length s)) l = true := by
    rw [Int.toNat_natCast]
    refine fitB_yes (mkMs_len _ _ _) fun k hk' => ?_
    rw [mkMs_len] at hk'
    obtain ⟨x, y, hx, hy, hlt, he⟩ := mk_at l3 hs hk'
    have hm : (mkMs l s (cnt l.length s))[k]? = some (betS x.key y.key) := by
      unfold mkMs; rw [List.getElem?_map, List.getElem?_range hk']; simp [he]
    unfold fitAt
    rw [hm, hx, hy]
    simp [(betS_in hlt).1, (betS_in hlt).2]
  simp only [this]
theorem mk_least {l : List Ent} {f : Fnc} (h : Fits f l) {s : Nat} (hs : 1 ≤ s) (he : f.step = (s : Int)) :
    (mkMs l s (cnt l.length s)).length = f.marks.length ∧ ∀ (i : Nat) x y, (mkMs l s (cnt l.length s))[i]? = some x → f.marks[i]? = some y → x.size ≤ y.size ∧ (y.size = x.size → slt y x = false) := by
  have hf := fitB_spec h.fit
  rw [he, Int.toNat_natCast] at hf
  obtain ⟨f1, f2⟩ := hf
  refine ⟨by rw [mkMs_len, f1], fun i x y hx hy => ?_⟩
  obtain ⟨h1, rfl⟩ := mkMs_get hx
  obtain ⟨x1, y1, hx1, hy1, hlt1, he1⟩ := mk_at h.ascE hs h1
  obtain ⟨x2, y2, hx2, hy2, k1, k2⟩ := f2 i y hy
  rw [hx1] at hx2; injection hx2 with hx2; subst hx2
  rw [hy1] at hy2; injection hy2 with hy2; subst hy2
  rw [he1]
  exact betS_least hlt1 k1 k2
theorem sumSz_le : ∀ {m n : List ByteArray}, m.length = n.length → (∀ (i : Nat) (x y : ByteArray), m[i]? = some x → n[i]? = some y → x.size ≤ y.size) → sumSz m ≤ sumSz n
  | [], [], _, _ => Nat.le_refl _
  | [], _ :: _, h, _ => by simp at h
  | _ :: _, [], h, _ => by simp at h
  | a :: m, b :: n, h, k => by
    have ih := sumSz_le (m := m) (n := n) (by simpa using h) (fun i x y hx hy => k (i + 1) x y (by simpa using hx) (by simpa using hy))
    have h0 := k 0 a b rfl rfl
    unfold sumSz at ih ⊢
    simp only [List.map_cons, List.sum_cons]
    omega
/-- All that the law asks of the list's own fence. -/
theorem make_facts {l : List Ent} {s : Int} (h : (fmake l s).2 = 0) :
    fchk (fmake l s).1 = (0, 0) ∧ ffits (fmake l s).1 l = (true, 0) ∧ (fmake l s).1.step = s ∧ (fmake l s).1.marks.length ≤ 4999 ∧
    ∀ f : Fnc, (ffits f l).2 = 0 → (ffits f l).1 = true → f.step = s → (fmake l s).1.marks.length = f.marks.length ∧ sumSz (fmake l s).1.marks ≤ sumSz f.marks ∧
      ∀ (i : Nat) x y, (fmake l s).1.marks[i]? = some x → f.marks[i]? = some y → x.size ≤ y.size ∧ (y.size = x.size → slt y x = false) := by
  by_cases h1 : (clchk l).2 = 0
  · by_cases h2 : s < 1 ∨ 64 < s
    · unfold fmake at h; rw [if_neg (by simp [h1]), if_pos h2] at h; simp at h
    · have e : fmake l s = (⟨s, mkMs l s.toNat (cnt l.length s.toNat)⟩, 0) := by
        unfold fmake; rw [if_neg (by simp [h1]), if_neg h2]
      rw [e]
      obtain ⟨n, rfl⟩ := Int.eq_ofNat_of_zero_le (show 0 ≤ s by omega)
      rw [Int.toNat_natCast]
      obtain ⟨a, b⟩ := mk_facts h1 (s := n) (by omega) (by omega)
      have l1 := (clchk_ok h1).1
      have hn := (ceil_facts l.length n (by omega)).2.2
      refine ⟨a, b, rfl, by rw [mkMs_len]; unfold cnt; omega, fun f hf hf' he => ?_⟩
      obtain ⟨c, d⟩ := mk_least (fits_facts hf hf') (s := n) (by omega) he
      exact ⟨c, sumSz_le c (fun i x y hx hy => (d i x y hx hy).1), d⟩
  · unfold fmake at h; rw [if_pos (by simpa using h1)] at h
    exact absurd h (by simpa using h1)
theorem make_none {l : List Ent} {s : Int} (h : (fmake l s).2 ≠ 0) : (fmake l s).1.marks = [] := by
  unfold fmake at h ⊢
  split
  · rfl
  · rename_i h1
    rw [if_neg h1] at h
    split
    · rfl
    · rename_i h2
      rw [if_neg h2] at h; simp at h
theorem fmk_step (l : List Ent) (s : Int) (h1 : -9223372036854775808 ≤ s) (h2 : s ≤ 9223372036854775807) : -9223372036854775808 ≤ (fmake l s).1.step ∧ (fmake l s).1.step ≤ 9223372036854775807 := by
  unfold fmake
  split
  · simp
  · split
    · simp
    · exact ⟨h1, h2⟩
end Go.Proofs.YtkbfjficmdgjpaaGreatDoor
/-
  Plain facts of runs: how many keys are less than one, what a run answers.
-/
namespace Go.Proofs.YtkbfjficmdgjpaaGreatDoor
open Go.RowKit
set_option linter.unusedSimpArgs false
set_option linter.unusedVariables false
set_option maxRecDepth 100000

structure Rn where
  id : Int
  es : List Ent
def Rn.v (r : Rn) (a : Option Addr) (c : Nat) : Value := .agg #[.int .i64 r.id, .slice a r.es.length c]
structure ROk (w : World) (a : Option Addr) (c : Nat) (r : Rn) : Prop where
  ents : Ents w a r.es
  len : r.es.length ≤ c
  cap : c ≤ maxLen
  lo : -9223372036854775808 ≤ r.id
  hi : r.id ≤ 9223372036854775807
theorem ROk.bl {w w' : World} {a : Option Addr} {c : Nat} {r : Rn} (h : ROk w a c r) (k : Bl w w') : ROk w' a c r := ⟨h.ents.bl k, h.len, h.cap, h.lo, h.hi⟩
def rck (r : Rn) : Int × Int := if r.id < 1 ∨ 1000000 < r.id then (-1, 7) else clchk r.es
def rask (r : Rn) (k : ByteArray) : Int := if (rck r).2 ≠ 0 then (rck r).2 else kchk k
def ent0 : Ent := ⟨mt, mt, false, 0⟩
def atE (l : List Ent) (i : Int) : Ent × Int := if i < 0 ∨ (l.length : Int) ≤ i then (ent0, 4) else (l.getD i.toNat ent0, 0)
def hasK (l : List Ent) (k : ByteArray) : Bool := match l[cntLtE l k]? with
  | some x => x.key.toList == k.toList
  | none => false
def rget (r : Rn) (k : ByteArray) : Ent × Int := if rask r k ≠ 0 then (ent0, rask r k) else if hasK r.es k = true then atE r.es (cntLtE r.es k : Int) else (ent0, 4)
def rflo (r : Rn) (k : ByteArray) (s : Bool) : Ent × Int := if rask r k ≠ 0 then (ent0, rask r k) else if (hasK r.es k && !s) = true then atE r.es (cntLtE r.es k : Int) else atE r.es ((cntLtE r.es k : Int) - 1)
def rcei (r : Rn) (k : ByteArray) (s : Bool) : Ent × Int := if rask r k ≠ 0 then (ent0, rask r k) else if (hasK r.es k && s) = true then atE r.es ((cntLtE r.es k : Int) + 1) else atE r.es (cntLtE r.es k : Int)

theorem clchk_len2 {l : List Ent} (h : (clchk l).2 = 0) : l.length ≤ 5000 := (clchk_ok h).1
theorem rck_ok {r : Rn} (h : (rck r).2 = 0) : 1 ≤ r.id ∧ r.id ≤ 1000000 ∧ (clchk r.es).2 = 0 ∧ r.es.length ≤ 5000 ∧ (∀ m, m ∈ r.es → echk m = 0) ∧ AscE r.es := by
  unfold rck at h
  split at h
  · simp at h
  · exact ⟨by omega, by omega, h, clchk_ok h⟩
theorem rask_ok {r : Rn} {k : ByteArray} (h : rask r k = 0) : (rck r).2 = 0 ∧ k.size ≤ 32 := by
  unfold rask at h
  split at h
  · contradiction
  · exact ⟨by omega, kchk_zero.1 h⟩

theorem cntLtE_eq {l : List Ent} {k : ByteArray} (h : AscE l) {n : Nat} (hn : n ≤ l.length) (h1 : ∀ j x, j < n → l[j]? = some x → slt x.key k = true) (h2 : ∀ x, l[n]? = some x → slt x.key k = false) : cntLtE l k = n := by
  obtain ⟨p1, p2⟩ := cntLtE_part h k
  have hle := cntLtE_le l k
  rcases Nat.lt_trichotomy (cntLtE l k) n with c | c | c
  · have hx := List.getElem?_eq_getElem (show cntLtE l k < l.length by omega)
    have := p2 _ _ hx (Nat.le_refl _)
    rw [h1 _ _ c hx] at this; cases this
  · exact c
  · have hx := List.getElem?_eq_getElem (show n < l.length by omega)
    have := p1 _ _ hx c
    rw [h2 _ hx] at this; cases this
theorem cntLtE_lt {l : List Ent} (h : AscE l) {k : ByteArray} {j : Nat} {x : Ent} (hx : l[j]? = some x) (hj : j < cntLtE l k) : slt x.key k = true := by
  have := (cntLtE_part h k).1 j x hx hj
  simpa using this
theorem cntLtE_ge {l : List Ent} (h : AscE l) {k : ByteArray} {j : Nat} {x : Ent} (hx : l[j]? = some x) (hj : cntLtE l k ≤ j) : slt x.key k = false := by
  have := (cntLtE_part h k).2 j x hx hj
  simpa using this
theorem cntLtE_mono (l : List Ent) {a b : ByteArray} (h : slt b a = false) : cntLtE l a ≤ cntLtE l b :=
  filter_le _ _ (fun x hx => by
    simp only [Bool.not_not] at hx ⊢
    cases e : slt x.key b
    · have := le_lt_trans (a := b) (b := x.key) (c := a) e hx
      rw [this] at h; cases h
    · rfl) l

theorem in_blockK {s : Nat} {m : List ByteArray} {l : List Ent} (hs : 1 ≤ s) (hm : Asc m) (hl : AscE l) (hf : fitB s m l = true) (k : ByteArray) :
    (∀ i x, l[i]? = some x → i < cntLe m k * s → slt x.key k = true) ∧ (∀ i x, l[i]? = some x → cntLe m k * s + s ≤ i → slt x.key k = false) := by
  obtain ⟨h1, h2⟩ := fitB_spec hf
  obtain ⟨p1, p2⟩ := cntLe_part hm k
  have hle := cntLe_le m k
  generalize cntLe m k = b at *
  constructor
  · intro i x hx hi
    have h0 : 0 < b := by
      rcases Nat.eq_zero_or_pos b with h0 | h0
      · rw [h0] at hi; omega
      · exact h0
    obtain ⟨y, hy⟩ : ∃ y, m[b - 1]? = some y := ⟨_, List.getElem?_eq_getElem (by omega)⟩
    have q1 := p1 (b - 1) y hy (by omega)
    obtain ⟨u, v, hu, hv, q2, q3⟩ := h2 (b - 1) y hy
    rw [show b - 1 + 1 = b by omega] at hu hv
    have hxy : slt x.key y = true := by
      rcases Nat.lt_or_ge i (b * s - 1) with h3 | h3
      · exact slt_trans (ascE_lt hl hx hu h3) q2
      · have : i = b * s - 1 := by omega
        rw [this, hu] at hx; injection hx with hx; rw [← hx]; exact q2
    cases e : slt x.key k
    · have := le_lt_trans (a := k) (b := x.key) (c := y) e hxy
      simp [this] at q1
    · rfl
  · intro i x hx hi
    rcases Nat.lt_or_ge b m.length with h0 | h0
    · obtain ⟨y, hy⟩ : ∃ y, m[b]? = some y := ⟨_, List.getElem?_eq_getElem h0⟩
      have q1 := p2 b y hy (Nat.le_refl _)
      obtain ⟨u, v, hu, hv, q2, q3⟩ := h2 b y hy
      rw [show (b + 1) * s = b * s + s by rw [Nat.add_mul]; omega] at hv
      have hky : slt k y = true := by simpa using q1
      cases e : slt x.key k
      · rfl
      · exfalso
        have hvx : slt v.key k = true := by
          rcases Nat.lt_or_ge (b * s + s) i with h3 | h3
          · exact slt_trans (ascE_lt hl hv hx h3) e
          · have : i = b * s + s := by omega
            rw [this, hv] at hx; injection hx with hx; rw [hx]; exact e
        rw [slt_trans hvx hky] at q3; cases q3
    · have hb : b = m.length := by omega
      have hi2 := (List.getElem?_eq_some_iff.1 hx).1
      rw [hb, h1] at hi
      have := (ceil_facts l.length s hs).1
      unfold cnt at hi
      exfalso
      rcases Nat.eq_zero_or_pos ((l.length + s - 1) / s) with h3 | h3
      · rw [h3] at this; omega
      · have h4 : ((l.length + s - 1) / s - 1) * s + s = (l.length + s - 1) / s * s := by
          have h5 : ((l.length + s - 1) / s - 1 + 1) * s = ((l.length + s - 1) / s - 1) * s + s := by rw [Nat.add_mul]; omega
          rw [← h5]; congr 1; omega
        omega
theorem filter_all {α : Type} (p : α → Bool) : ∀ l : List α, (∀ x, x ∈ l → p x = true) → (l.filter p).length = l.length
  | [], _ => rfl
  | a :: l, h => by rw [List.filter_cons_of_pos (h a (by simp))]; simp [filter_all p l (fun x hx => h x (by simp [hx]))]
theorem filter_no {α : Type} (p : α → Bool) : ∀ l : List α, (∀ x, x ∈ l → p x = false) → (l.filter p).length = 0
  | [], _ => rfl
  | a :: l, h => by rw [List.filter_cons_of_neg (by simp [h a (by simp)])]; exact filter_no p l (fun x hx => h x (by simp [hx]))
theorem cnt_cut {l : List Ent} {k : ByteArray} (fr tox : Nat) (h1 : fr ≤ tox) (h2 : tox ≤ l.length) (hlo : ∀ i x, l[i]? = some x → i < fr → slt x.key k = true) (hhi : ∀ i x, l[i]? = some x → tox ≤ i → slt x.key k = false) :
    fr + cntLtE ((l.drop fr).take (tox - fr)) k = cntLtE l k := by
  have e : l = l.take fr ++ ((l.drop fr).take (tox - fr) ++ l.drop tox) := by
    conv => lhs; rw [← List.take_append_drop fr l, ← List.take_append_drop (tox - fr) (l.drop fr), List.drop_drop, show fr + (tox - fr) = tox by omega]
  have a1 : ((l.take fr).filter fun (x : Ent) => !!slt x.key k).length = fr := by
    rw [filter_all]
    · simp; omega
    · intro x hx
      obtain ⟨i, hi, rfl⟩ := List.getElem_of_mem hx
      simp at hi
      have := hlo i _ (List.getElem?_eq_getElem (by omega)) (by omega)
      rw [List.getElem_take, this]; rfl
  have a2 : ((l.drop tox).filter fun (x : Ent) => !!slt x.key k).length = 0 := by
    rw [filter_no]
    intro x hx
    obtain ⟨i, hi, rfl⟩ := List.getElem_of_mem hx
    simp at hi
    have := hhi (tox + i) _ (List.getElem?_eq_getElem (by omega)) (by omega)
    rw [List.getElem_drop, this]; rfl
  unfold cntLtE
  conv => rhs; rw [e]
  rw [List.filter_append, List.filter_append, List.length_append, List.length_append, a1, a2]; omega
/-- The fence of eight. -/
def f8 (l : List Ent) : Fnc := ⟨8, mkMs l 8 (cnt l.length 8)⟩
theorem fmake8 {l : List Ent} (h : (clchk l).2 = 0) : fmake l 8 = (f8 l, 0) := by
  unfold fmake; rw [if_neg (by simp [h]), if_neg (by omega)]; rfl
theorem f8_facts {l : List Ent} (h : (clchk l).2 = 0) : (fchk (f8 l)).2 = 0 ∧ (f8 l).marks.length = cnt l.length 8 ∧ Asc (f8 l).marks ∧ (f8 l).marks.length ≤ 5010 := by
  have h1 := (mk_facts h (s := 8) (by omega) (by omega)).1
  have h2 : (fchk (f8 l)).2 = 0 := by
    show (fchk ⟨((8:Nat):Int), mkMs l 8 (cnt l.length 8)⟩).2 = 0
    rw [h1]
  obtain ⟨-, -, h3, -, h5⟩ := fchk_ok h2
  exact ⟨h2, mkMs_len _ _ _, h5, by omega⟩
/-- The stretch of a key. -/
theorem span8 {l : List Ent} (h : (clchk l).2 = 0) {k : ByteArray} (hk : k.size ≤ 32) :
    ∃ fr tox : Nat, spn (f8 l) l.length k = ((fr : Int), (tox : Int), 0) ∧ fr ≤ tox ∧ tox ≤ l.length ∧ fr + cntLtE ((l.drop fr).take (tox - fr)) k = cntLtE l k := by
  obtain ⟨h1, h2, h3, h4⟩ := f8_facts h
  obtain ⟨l1, l2, l3⟩ := clchk_ok h
  have hfit : fitB 8 (f8 l).marks l = true := by
    have h5 := (mk_facts h (s := 8) (by omega) (by omega)).2
    have h6 := ffits_ok (f := ⟨((8:Nat):Int), mkMs l 8 (cnt l.length 8)⟩) (l := l) (by rw [h5])
    have h7 := h6.2.2
    rw [h5] at h7
    exact h7.symm
  have hin := in_blockK (by omega) h3 l3 hfit k
  have hcl := cntLe_le (f8 l).marks k
  have hfrn : cntLe (f8 l).marks k * 8 ≤ l.length := by
    rcases Nat.eq_zero_or_pos (cntLe (f8 l).marks k) with h | h
    · rw [h]; omega
    · have := cnt_at (n := l.length) (s := 8) (k := cntLe (f8 l).marks k - 1) (by omega) (by omega)
      rw [show cntLe (f8 l).marks k - 1 + 1 = cntLe (f8 l).marks k by omega] at this; omega
  refine ⟨cntLe (f8 l).marks k * 8, min (cntLe (f8 l).marks k * 8 + 8) l.length, ?_, by omega, by omega, cnt_cut _ _ (by omega) (by omega) hin.1 ?_⟩
  · have hst : (f8 l).step = 8 := rfl
    unfold spn
    rw [if_neg (by simp [h1, kchk_zero.2 hk]), if_neg (by omega), if_neg (by rw [hst, Int.toNat_natCast]; simpa using h2)]
    simp only [hst]
    congr 2
    omega
  · intro i x hx hi
    have := (List.getElem?_eq_some_iff.1 hx).1
    exact hin.2 i x hx (by omega)
end Go.Proofs.YtkbfjficmdgjpaaGreatDoor
/-
  Plain facts of runs: where a key is.
-/
namespace Go.Proofs.YtkbfjficmdgjpaaGreatDoor
open Go.RowKit
set_option linter.unusedSimpArgs false
set_option linter.unusedVariables false
set_option maxRecDepth 100000

theorem key_lt {l : List Ent} (h : AscE l) {k : ByteArray} {j : Nat} {x : Ent} (hx : l[j]? = some x) : slt x.key k = decide (j < cntLtE l k) := by
  rcases Nat.lt_or_ge j (cntLtE l k) with c | c
  · rw [cntLtE_lt h hx c]; simp [c]
  · rw [cntLtE_ge h hx c]; simp; omega
theorem hasK_iff (l : List Ent) (k : ByteArray) : hasK l k = true ↔ ∃ x, l[cntLtE l k]? = some x ∧ x.key = k := by
  unfold hasK
  constructor
  · intro h
    cases e : l[cntLtE l k]? with
    | none => rw [e] at h; cases h
    | some x => rw [e] at h; exact ⟨x, rfl, str_ext (by simpa using h)⟩
  · rintro ⟨x, e, rfl⟩
    rw [e]; simp
theorem key_eq {l : List Ent} (h : AscE l) {k : ByteArray} {j : Nat} {x : Ent} (hx : l[j]? = some x) : (x.key.toList == k.toList) = (decide (j = cntLtE l k) && hasK l k) := by
  rw [Bool.eq_iff_iff]
  simp only [beq_iff_eq, Bool.and_eq_true, decide_eq_true_eq]
  constructor
  · intro he
    have he := str_ext he
    have : cntLtE l k = j := cntLtE_eq h (by have := (List.getElem?_eq_some_iff.1 hx).1; omega)
      (fun i y hi hy => by rw [← he]; exact ascE_lt h hy hx hi) (fun y hy => by rw [hx] at hy; injection hy with hy; rw [← hy, he]; exact slt_irrefl _)
    refine ⟨this.symm, (hasK_iff l k).2 ⟨x, by rw [this]; exact hx, he⟩⟩
  · rintro ⟨rfl, hk⟩
    obtain ⟨y, hy, rfl⟩ := (hasK_iff l k).1 hk
    rw [hx] at hy; injection hy with hy; rw [hy]
theorem key_gt {l : List Ent} (h : AscE l) {k : ByteArray} {j : Nat} {x : Ent} (hx : l[j]? = some x) : slt k x.key = decide ((if hasK l k = true then cntLtE l k + 1 else cntLtE l k) ≤ j) := by
  have h1 := key_lt h (k := k) hx
  have h2 := key_eq h (k := k) hx
  cases e : slt k x.key
  · cases e2 : slt x.key k
    · have := slt_tri e2 e
      rw [this] at h2
      simp at h2
      rw [h2.2, h2.1]; simp
    · rw [e2] at h1; simp at h1; symm; simp; split <;> omega
  · have e2 := slt_asymm e
    rw [e2] at h1; simp at h1
    have h3 : (x.key.toList == k.toList) = false := by
      rw [beq_eq_false_iff_ne]; intro hh; have := str_ext hh; rw [this, slt_irrefl] at e; cases e
    rw [h3] at h2
    symm; simp
    split
    · rename_i hk
      rw [hk] at h2; simp at h2; omega
    · exact h1
/-- Behind the floor. -/
def flN (l : List Ent) (k : ByteArray) (s : Bool) : Nat := if (hasK l k && !s) = true then cntLtE l k + 1 else cntLtE l k
/-- The ceiling. -/
def ceN (l : List Ent) (k : ByteArray) (s : Bool) : Nat := if (hasK l k && s) = true then cntLtE l k + 1 else cntLtE l k
theorem hasK_lt {l : List Ent} {k : ByteArray} (h : hasK l k = true) : cntLtE l k < l.length := by
  obtain ⟨x, hx, _⟩ := (hasK_iff l k).1 h
  exact (List.getElem?_eq_some_iff.1 hx).1
theorem flN_le (l : List Ent) (k : ByteArray) (s : Bool) : flN l k s ≤ l.length := by
  unfold flN
  split
  · rename_i h; simp at h; have := hasK_lt h.1; omega
  · exact cntLtE_le l k
theorem ceN_le (l : List Ent) (k : ByteArray) (s : Bool) : ceN l k s ≤ l.length := by
  unfold ceN
  split
  · rename_i h; simp at h; have := hasK_lt h.1; omega
  · exact cntLtE_le l k
theorem rflo_at (r : Rn) (k : ByteArray) (s : Bool) : rflo r k s = if rask r k ≠ 0 then (ent0, rask r k) else atE r.es ((flN r.es k s : Int) - 1) := by
  unfold rflo flN
  split
  · rfl
  · split
    · congr 1; omega
    · rfl
theorem rcei_at (r : Rn) (k : ByteArray) (s : Bool) : rcei r k s = if rask r k ≠ 0 then (ent0, rask r k) else atE r.es (ceN r.es k s : Int) := by
  unfold rcei ceN
  split
  · rfl
  · split <;> simp
theorem fl_cond {l : List Ent} (h : AscE l) {k : ByteArray} (s : Bool) {j : Nat} {x : Ent} (hx : l[j]? = some x) : (slt x.key k || ((x.key.toList == k.toList) && !s)) = decide (j < flN l k s) := by
  rw [key_lt h hx, key_eq h hx]
  unfold flN
  cases hasK l k <;> cases s <;> simp
  rw [Bool.eq_iff_iff]; simp; omega
theorem ce_cond {l : List Ent} (h : AscE l) {k : ByteArray} (s : Bool) {j : Nat} {x : Ent} (hx : l[j]? = some x) : (slt k x.key || ((x.key.toList == k.toList) && !s)) = decide (ceN l k s ≤ j) := by
  rw [key_gt h hx, key_eq h hx]
  unfold ceN
  cases hasK l k <;> cases s <;> simp
  rw [Bool.eq_iff_iff]; simp; omega
theorem atE_some {l : List Ent} {i : Nat} {x : Ent} (h : l[i]? = some x) : atE l (i : Int) = (x, 0) := by
  have := (List.getElem?_eq_some_iff.1 h).1
  unfold atE
  rw [if_neg (by omega), Int.toNat_natCast]
  simp [List.getD_eq_getElem?_getD, h]
theorem atE_none {l : List Ent} {i : Int} (h : i < 0 ∨ (l.length : Int) ≤ i) : atE l i = (ent0, 4) := by
  unfold atE; rw [if_pos h]

/-! ### Parts -/
def pTo (l : List Ent) (x : Rng) : Nat := if x.bd = true then max (cntLtE l x.hi) (cntLtE l x.lo) else l.length
def rpart (r : Rn) (x : Rng) : Int × Int × Int := if (rck r).2 ≠ 0 then (0, 0, (rck r).2) else if rchk x ≠ 0 then (0, 0, rchk x) else ((cntLtE r.es x.lo : Int), (pTo r.es x : Int), 0)
def cutE (l : List Ent) (fr tox : Nat) : List Ent := (l.drop fr).take (tox - fr)
def nDead (l : List Ent) : Nat := (l.filter fun (x : Ent) => x.dead).length
def nLive (l : List Ent) : Nat := (l.filter fun (x : Ent) => !x.dead).length
def rcount (r : Rn) (x : Rng) : Int × Int × Int := if (rck r).2 ≠ 0 then (0, 0, (rck r).2) else if rchk x ≠ 0 then (0, 0, rchk x) else ((nLive (cutE r.es (cntLtE r.es x.lo) (pTo r.es x)) : Int), (nDead (cutE r.es (cntLtE r.es x.lo) (pTo r.es x)) : Int), 0)
theorem pTo_le (l : List Ent) (x : Rng) : pTo l x ≤ l.length := by
  unfold pTo
  split
  · have := cntLtE_le l x.hi; have := cntLtE_le l x.lo; omega
  · omega
theorem pTo_ge (l : List Ent) (x : Rng) : cntLtE l x.lo ≤ pTo l x := by
  unfold pTo
  split
  · omega
  · exact cntLtE_le l x.lo
theorem live_dead : ∀ l : List Ent, nLive l + nDead l = l.length
  | [] => rfl
  | x :: l => by
    have ih := live_dead l
    unfold nLive nDead at *
    cases h : x.dead
    · rw [List.filter_cons_of_pos (by simp [h]), List.filter_cons_of_neg (by simp [h])]; simp; omega
    · rw [List.filter_cons_of_neg (by simp [h]), List.filter_cons_of_pos (by simp [h])]; simp; omega
theorem nDead_snoc (l : List Ent) (x : Ent) : nDead (l ++ [x]) = nDead l + (if x.dead = true then 1 else 0) := by
  unfold nDead; rw [List.filter_append, List.length_append]; cases h : x.dead <;> simp [h]
theorem nLive_snoc (l : List Ent) (x : Ent) : nLive (l ++ [x]) = nLive l + (if x.dead = true then 0 else 1) := by
  unfold nLive; rw [List.filter_append, List.length_append]; cases h : x.dead <;> simp [h]
theorem cutE_succ {l : List Ent} {fr i : Nat} {x : Ent} (h : l[i]? = some x) (hi : fr ≤ i) : cutE l fr (i + 1) = cutE l fr i ++ [x] := by
  obtain ⟨h1, h2⟩ := List.getElem?_eq_some_iff.1 h
  unfold cutE
  rw [show i + 1 - fr = (i - fr) + 1 by omega, List.take_succ_eq_append_getElem (by simp; omega), List.getElem_drop]
  congr 2
  rw [← h2]; congr 1; omega
theorem cutE_nil (l : List Ent) (fr : Nat) : cutE l fr fr = [] := by simp [cutE]
theorem cutE_len {l : List Ent} {fr tox : Nat} (h : tox ≤ l.length) : (cutE l fr tox).length = tox - fr := by simp [cutE]; omega
theorem cutE_get {l : List Ent} {fr tox i : Nat} (h : i < tox - fr) : (cutE l fr tox)[i]? = l[fr + i]? := by
  unfold cutE; rw [List.getElem?_take_of_lt h, List.getElem?_drop]
/-- Who is in a range. -/
theorem in_part {l : List Ent} (h : AscE l) (x : Rng) {j : Nat} {y : Ent} (hy : l[j]? = some y) : rhas x y.key = (decide (cntLtE l x.lo ≤ j) && decide (j < pTo l x)) := by
  have hj := (List.getElem?_eq_some_iff.1 hy).1
  unfold rhas
  rw [key_lt h hy, key_lt h hy]
  unfold pTo
  cases x.bd <;> simp
  · rw [Bool.eq_iff_iff]; simp; omega
  · rw [Bool.eq_iff_iff]; simp; omega
end Go.Proofs.YtkbfjficmdgjpaaGreatDoor
/-
  Plain laws of keys: the least string above all that begin with one, the next key, common beginnings.
-/
namespace Go.Proofs.YtkbfjficmdgjpaaGreatDoor
open Go.RowKit
set_option linter.unusedSimpArgs false
set_option linter.unusedVariables false
set_option maxRecDepth 100000

/-- The least string above all that begin with one; empty: there is none. -/
def rsd : List UInt8 → List UInt8
  | [] => []
  | a :: l => if rsd l = [] then (if a = 255 then [] else [a + 1]) else a :: rsd l
theorem rsd_255 : ∀ l : List UInt8, rsd (l ++ [255]) = rsd l
  | [] => by simp [rsd]
  | a :: l => by simp [rsd, rsd_255 l]
theorem rsd_snoc {c : UInt8} (h : c ≠ 255) : ∀ l : List UInt8, rsd (l ++ [c]) = l ++ [c + 1]
  | [] => by simp [rsd, h]
  | a :: l => by simp [rsd, rsd_snoc h l]
theorem rsd_len : ∀ l : List UInt8, (rsd l).length ≤ l.length
  | [] => by simp [rsd]
  | a :: l => by
    have := rsd_len l
    unfold rsd
    split
    · split <;> simp
    · simp only [List.length_cons]; omega
/-- One begins with the other. -/
def begs (S Y : List UInt8) : Bool := decide (S.length ≤ Y.length) && (Y.take S.length == S)
theorem begs_nil (Y : List UInt8) : begs [] Y = true := by simp [begs]
theorem begs_cons_nil (a : UInt8) (S : List UInt8) : begs (a :: S) [] = false := by simp [begs]
theorem begs_cons (a b : UInt8) (S Y : List UInt8) : begs (a :: S) (b :: Y) = ((b == a) && begs S Y) := by
  unfold begs
  simp only [List.length_cons, Nat.add_le_add_iff_right, List.take_succ_cons]
  by_cases h : b = a
  · subst h; simp
  · have : (b == a) = false := by simpa using h
    simp [h, this]
theorem u8_le {a b : UInt8} : ¬ b < a ↔ a ≤ b := by rw [UInt8.not_lt]
theorem u8_255 (b : UInt8) : ¬ b < 255 ↔ b = 255 := by
  rw [UInt8.not_lt]
  constructor
  · intro h
    apply UInt8.le_antisymm _ h
    rw [UInt8.le_iff_toNat_le]; have := b.toNat_lt; simp; omega
  · rintro rfl; exact UInt8.le_refl _
theorem u8_succ {a b : UInt8} (h : a ≠ 255) : b < a + 1 ↔ b ≤ a := by
  have h1 : a.toNat ≠ 255 := fun k => h (UInt8.toNat.inj k)
  have h2 := a.toNat_lt
  rw [UInt8.lt_iff_toNat_lt, UInt8.le_iff_toNat_le, UInt8.toNat_add]
  simp; omega
theorem rsd_none : ∀ S Y : List UInt8, rsd S = [] → Op.bytesLess Y S = !begs S Y
  | [], Y, _ => by cases Y <;> simp [Op.bytesLess, begs_nil]
  | a :: l, [], _ => by simp [Op.bytesLess, begs_cons_nil]
  | a :: l, b :: q, h => by
    unfold rsd at h
    by_cases hl : rsd l = []
    · rw [if_pos hl] at h
      have ha : a = 255 := by
        by_cases ha : a = 255
        · exact ha
        · rw [if_neg ha] at h; cases h
      subst ha
      have ih := rsd_none l q hl
      rw [begs_cons]
      simp only [Op.bytesLess, ih]
      by_cases hb : b = 255
      · subst hb; simp
      · have : b < 255 := by
          by_cases k : b < 255
          · exact k
          · exact absurd ((u8_255 b).1 k) hb
        simp [hb, this]
    · rw [if_neg hl] at h; cases h
theorem rsd_some : ∀ S Y : List UInt8, rsd S ≠ [] → (!Op.bytesLess Y S && Op.bytesLess Y (rsd S)) = begs S Y
  | [], Y, h => absurd rfl h
  | a :: l, [], h => by simp [Op.bytesLess, begs_cons_nil]
  | a :: l, b :: q, h => by
    rw [begs_cons]
    unfold rsd at h ⊢
    by_cases hl : rsd l = []
    · rw [if_pos hl] at h ⊢
      have ha : a ≠ 255 := by rintro rfl; simp at h
      rw [if_neg ha]
      have ih := rsd_none l q hl
      simp only [Op.bytesLess, ih]
      by_cases hb : b = a
      · subst hb
        have : b < b + 1 := (u8_succ ha).2 (UInt8.le_refl _)
        simp [this]
      · by_cases hlt : b < a
        · simp [hb, hlt]
        · have h1 : ¬ b < a + 1 := by
            rw [u8_succ ha]; intro h2; exact hb (UInt8.le_antisymm h2 (UInt8.not_lt.1 hlt))
          have h2 : (b == a) = false := by simpa using hb
          simp [h2, h1, Op.bytesLess]
    · rw [if_neg hl] at h ⊢
      have ih := rsd_some l q hl
      simp only [Op.bytesLess]
      by_cases hb : b = a
      · subst hb; simp; simpa using ih
      · by_cases hlt : b < a
        · simp [hb, hlt]
        · have h2 : (b == a) = false := by simpa using hb
          simp [h2, hlt]
/-- Nothing is between a string and the string with a zero behind it. -/
theorem bl_zero : ∀ S Y : List UInt8, Op.bytesLess Y (S ++ [0]) = !Op.bytesLess S Y
  | [], [] => by simp [Op.bytesLess]
  | [], b :: q => by
    have : ¬ b < 0 := by rw [UInt8.lt_iff_toNat_lt]; simp
    cases q <;> simp [Op.bytesLess, this]
  | a :: l, [] => by simp [Op.bytesLess]
  | a :: l, b :: q => by
    simp only [List.cons_append, Op.bytesLess, bl_zero l q]
    by_cases h : a = b
    · subst h; simp
    · rcases UInt8.lt_or_lt_of_ne h with k | k
      · simp [h, Ne.symm h, k, UInt8.lt_asymm k]
      · simp [h, Ne.symm h, k, UInt8.lt_asymm k]
/-- Of three in order the first and the last one have as many bytes in common as the pairs. -/
theorem cmn_three : ∀ A B C : List UInt8, Op.bytesLess B A = false → Op.bytesLess C B = false → cmn A C = min (cmn A B) (cmn B C)
  | [], B, C, _, _ => by simp [cmn_nil1]
  | _ :: _, [], C, h, _ => by simp [Op.bytesLess] at h
  | _ :: _, _ :: _, [], _, h => by simp [Op.bytesLess] at h
  | a :: A, b :: B, c :: C, h1, h2 => by
    simp only [Op.bytesLess, Bool.or_eq_false_iff, Bool.and_eq_false_iff, decide_eq_false_iff_not, beq_eq_false_iff_ne] at h1 h2
    by_cases hab : a = b
    · subst hab
      by_cases hbc : a = c
      · subst hbc
        have ih := cmn_three A B C (h1.2.resolve_left (by simp)) (h2.2.resolve_left (by simp))
        simp only [cmn, if_true, ih]; omega
      · simp [cmn, hbc]
    · have hac : a ≠ c := by
        rintro rfl
        exact hab (UInt8.le_antisymm (UInt8.not_lt.1 h1.1) (UInt8.not_lt.1 h2.1))
      simp [cmn, hab, hac]
theorem bl_begs_len {S Y : List UInt8} (h : begs S Y = true) (hl : Y.length ≤ S.length) : Y = S := by
  unfold begs at h
  simp only [Bool.and_eq_true, decide_eq_true_eq, beq_iff_eq] at h
  rw [List.take_of_length_le hl] at h
  exact h.2
end Go.Proofs.YtkbfjficmdgjpaaGreatDoor
/-
  Contracts of keys.raised, Next, Past, Compare, Common and of the reference's.
-/
namespace Go.Proofs.YtkbfjficmdgjpaaGreatDoor
open Go.RowKit
set_option linter.unusedSimpArgs false
set_option linter.unusedVariables false
set_option maxRecDepth 100000

def rsdS (s : ByteArray) : ByteArray := ⟨(rsd s.data.toList).toArray⟩

/-- '[]byte(s)': a new row that holds the string's bytes. -/
theorem conv_bytes {P : Program} (src dst e : TypeId) (hs : P.underlying src = some .string) (hd : P.underlying dst = some (.slice e)) (he : P.underlying e = some (.int .u8)) (w : World) (s : ByteArray) :
    ∃ W c, (convert src dst (.string s)).run P w = .ok (.slice (some ⟨w.heap.size, 0, none⟩) s.size c) W ∧ Bl w W ∧ W.heap.size = w.heap.size + 1 ∧
      (∀ j (h : j < s.size), W.cell? ⟨w.heap.size, j, none⟩ = some (.int .u8 (s[j].toNat : Int))) ∧ (∀ j, j < s.size → W.frozen? ⟨w.heap.size, j, none⟩ = false) := by
  refine ⟨_, _, Lib.run_convert_string_bytes w src dst e s hs hd he, ⟨rfl, rfl, rfl, by rw [Lib.bytesWorld_size]; omega, fun k hk => Lib.bytesWorld_at_old w e s k hk⟩, Lib.bytesWorld_size w e s, fun j h => ?_, fun j h => ?_⟩
  · rw [Lib.bytesWorld_cell w e s j h]
    congr 2
    have : s.data.toList.getD j 0 = s[j] := by
      rw [List.getD_eq_getElem?_getD, List.getElem?_eq_getElem (by simpa using h)]; rfl
    rw [this]
  · have := Lib.bytesWorld_at_new w e s
    simp only [World.frozen?, this]
    have hl : s.size ≤ (Lib.bytesCells w e s).size := by simp [Lib.bytesCells]
    simp; omega
theorem last_split (t : ByteArray) (h : 0 < t.size) : t.data.toList = (t.extract 0 (t.size - 1)).data.toList ++ [t[t.size - 1]] := by
  rw [ByteArray.data_extract]
  have hl : t.data.toList.length = t.size := by simp
  conv => lhs; rw [← List.take_append_drop (t.size - 1) t.data.toList]
  rw [List.drop_eq_getElem_cons (by omega), List.drop_of_length_le (by omega)]
  congr 1
  simp [List.dropLast_eq_take, Array.length_toList]
/-- 'string(b)' of a row that holds bytes. -/
theorem conv_back {P : Program} (src dst e : TypeId) (hs : P.underlying src = some (.slice e)) (he : P.underlying e = some (.int .u8)) (hd : P.underlying dst = some .string) (w : World) (g n cap : Nat) (l : List UInt8) (hn : l.length = n)
    (hc : ∀ j (hj : j < l.length), w.cell? ⟨g, j, none⟩ = some (.int .u8 (l[j].toNat : Int))) :
    (convert src dst (.slice (some ⟨g, 0, none⟩) n cap)).run P w = .ok (.string ⟨l.toArray⟩) w := by
  subst hn
  exact run_convert_bytes_back w src dst e ⟨g, 0, none⟩ cap l hs he hd (fun j hj => by
    have : (⟨g, 0, none⟩ : Addr).add j = ⟨g, j, none⟩ := by unfold Addr.add; split <;> simp_all
    rw [this]; exact hc j hj)

theorem rsdS_nil (s : ByteArray) : (rsdS s).toList.isEmpty = (rsd s.data.toList).isEmpty := by rw [toL]; rfl
theorem rsdS_size (s : ByteArray) : (rsdS s).size ≤ s.size := by
  have := rsd_len s.data.toList
  unfold rsdS
  simp only [ByteArray.size, List.size_toArray] at this ⊢
  simpa using this
def nxt (s : ByteArray) : ByteArray × Int := if 32 < s.size then (mt, 3) else if s.size < 32 then (s ++ ⟨#[0]⟩, 0) else if (rsd s.data.toList).isEmpty = true then (mt, 9) else (rsdS s, 0)
def past (s : ByteArray) : ByteArray × Int := if 32 < s.size then (mt, 3) else if (rsd s.data.toList).isEmpty = true then (mt, 4) else (rsdS s, 0)

/-- There is such a string. -/
def rsdB (s : ByteArray) : Bool := !(rsd s.data.toList).isEmpty

end Go.Proofs.YtkbfjficmdgjpaaGreatDoor
/-
  Contracts of In (the reference's), Meet and Of (both).
-/
namespace Go.Proofs.YtkbfjficmdgjpaaGreatDoor
open Go.RowKit
set_option linter.unusedSimpArgs false
set_option linter.unusedVariables false
set_option maxRecDepth 100000

abbrev rng0 : Rng := ⟨mt, mt, false⟩
def meetR (r s : Rng) : Rng := if r.bd = false then ⟨if slt r.lo s.lo = true then s.lo else r.lo, s.hi, s.bd⟩ else if s.bd = true then ⟨if slt r.lo s.lo = true then s.lo else r.lo, if slt s.hi r.hi = true then s.hi else r.hi, true⟩ else ⟨if slt r.lo s.lo = true then s.lo else r.lo, r.hi, true⟩
def meet (r s : Rng) : Rng × Int := if rchk r ≠ 0 then (rng0, rchk r) else if rchk s ≠ 0 then (rng0, rchk s) else (meetR r s, 0)
def ofR (k : ByteArray) : Rng × Int := if 32 < k.size then (rng0, 3) else (⟨k, rsdS k, !(rsd k.data.toList).isEmpty⟩, 0)

theorem rchk_hi {lo hi : ByteArray} {bd : Bool} (h : rchk ⟨lo, hi, bd⟩ = 0) (hb : bd = false) : hi = mt := by
  unfold rchk at h
  split at h
  · simp at h
  · split at h
    · simp at h
    · rename_i h2
      have h4 : hi.size = 0 := by
        rcases Nat.eq_zero_or_pos hi.size with k | k
        · exact k
        · exact absurd ⟨hb, Nat.pos_iff_ne_zero.1 k⟩ h2
      apply str_ext
      rw [toL, toL]
      have h3 : hi.data.toList.length = hi.size := by simp
      exact List.length_eq_zero_iff.1 (h3.trans h4)

/-! ### Of -/
theorem rsdS_mt {k : ByteArray} (h : (rsd k.data.toList).isEmpty = true) : rsdS k = mt := by
  unfold rsdS
  rw [show rsd k.data.toList = [] by simpa using h]

end Go.Proofs.YtkbfjficmdgjpaaGreatDoor
/-
  Contract of keys.Meet.
-/
namespace Go.Proofs.YtkbfjficmdgjpaaGreatDoor
open Go.RowKit
set_option linter.unusedSimpArgs false
set_option linter.unusedVariables false
set_option maxRecDepth 100000

theorem maxS_eq (x y : ByteArray) : Lib.maxS x y = if slt x y = true then y else x := by
  unfold Lib.maxS slt
  rw [Proofs.bytesLess_eq, toL, toL]
  simp
theorem minS_eq (x y : ByteArray) : Lib.minS x y = if slt y x = true then y else x := by
  unfold Lib.minS
  have e1 : (x.data.toList < y.data.toList) ↔ slt x y = true := by unfold slt; rw [Proofs.bytesLess_eq, toL, toL]; simp
  have e2 : x.data.toList = y.data.toList ↔ x = y := by rw [← toL, ← toL]; exact ⟨str_ext, fun h => by rw [h]⟩
  simp only [e1, e2]
  cases h : slt y x
  · cases k : slt x y
    · have := slt_tri h k; subst this; simp
    · simp
  · have k := slt_asymm h
    have hne : x ≠ y := by rintro rfl; rw [slt_irrefl] at h; cases h
    simp [k, hne]


end Go.Proofs.YtkbfjficmdgjpaaGreatDoor
/-
  Plain facts of Next and Past.
-/
namespace Go.Proofs.YtkbfjficmdgjpaaGreatDoor
open Go.RowKit
set_option linter.unusedSimpArgs false
set_option linter.unusedVariables false
set_option maxRecDepth 100000

def begS (a t : ByteArray) : Bool := begs a.data.toList t.data.toList
theorem begs_self (l : List UInt8) : begs l l = true := by simp [begs]
theorem begS_long {a t : ByteArray} (h : t.size < a.size) : begS a t = false := by
  unfold begS begs
  rw [Bool.and_eq_false_iff]; left
  simp; omega
theorem begS_take {a t : ByteArray} (h : a.size ≤ t.size) : ((t.extract 0 a.size).toList == a.toList) = begS a t := by
  unfold begS begs
  rw [toL, toL, ByteArray.data_extract]
  have h1 : decide (a.data.toList.length ≤ t.data.toList.length) = true := by simpa using h
  have h2 : a.data.toList.length = a.size := by simp
  rw [h1, h2]
  simp
theorem begS_eq {a t : ByteArray} (h : begS a t = true) (hl : t.size ≤ a.size) : t = a := by
  have := bl_begs_len h (by simpa using hl)
  apply str_ext; rw [toL, toL, this]
theorem slt_rsdS (t a : ByteArray) : slt t (rsdS a) = Op.bytesLess t.data.toList (rsd a.data.toList) := by
  unfold slt; rw [toL, toL]; rfl
theorem past_facts (a t : ByteArray) (ha : a.size ≤ 32) :
    ((past a).2 = 0 ∧ (past a).1.size ≤ 32 ∧ begS a t = (!slt t a && slt t (past a).1)) ∨ ((past a).2 = 4 ∧ begS a t = !slt t a) := by
  unfold past
  rw [if_neg (by omega)]
  by_cases h : (rsd a.data.toList).isEmpty = true
  · rw [if_pos h]
    refine .inr ⟨rfl, ?_⟩
    have := rsd_none a.data.toList t.data.toList (by simpa using h)
    unfold slt begS
    rw [toL, toL, this]; simp
  · rw [if_neg h]
    refine .inl ⟨rfl, by have := rsdS_size a; simp only; omega, ?_⟩
    have := rsd_some a.data.toList t.data.toList (by simpa using h)
    simp only
    rw [slt_rsdS]
    unfold slt begS
    rw [toL, toL, this]
theorem next_facts (a t : ByteArray) (ha : a.size ≤ 32) (ht : t.size ≤ 32) :
    ((nxt a).2 = 0 ∧ (nxt a).1.size ≤ 32 ∧ slt a (nxt a).1 = true ∧ (slt a t = true → slt t (nxt a).1 = false)) ∨ ((nxt a).2 = 9 ∧ slt a t = false) := by
  unfold nxt
  rw [if_neg (by omega)]
  by_cases h1 : a.size < 32
  · rw [if_pos h1]
    have hz : ∀ y : ByteArray, slt y (a ++ ⟨#[0]⟩) = !slt a y := fun y => by
      unfold slt
      rw [toL, toL, toL, ByteArray.data_append, Array.toList_append]
      exact bl_zero a.data.toList y.data.toList
    refine .inl ⟨rfl, ?_, ?_, fun h => ?_⟩
    · simp only; rw [ByteArray.size_append]; show a.size + 1 ≤ 32; omega
    · simp only; rw [hz, slt_irrefl]; rfl
    · simp only; rw [hz, h]; rfl
  · rw [if_neg h1]
    by_cases h : (rsd a.data.toList).isEmpty = true
    · rw [if_pos h]
      refine .inr ⟨rfl, ?_⟩
      have hn := rsd_none a.data.toList t.data.toList (by simpa using h)
      cases k : slt a t
      · rfl
      · have k2 := slt_asymm k
        have : begS a t = true := by
          have k3 : Op.bytesLess t.data.toList a.data.toList = false := by rw [← toL, ← toL]; exact k2
          rw [k3] at hn
          simpa [begS] using hn.symm
        have := begS_eq this (by omega)
        subst this
        rw [slt_irrefl] at k; cases k
    · rw [if_neg h]
      have hs := fun y : ByteArray => rsd_some a.data.toList y.data.toList (by simpa using h)
      have hs' : ∀ y, (!slt y a && slt y (rsdS a)) = begS a y := fun y => by
        rw [slt_rsdS]; unfold slt begS; rw [toL, toL]; exact hs y
      refine .inl ⟨rfl, by have := rsdS_size a; simp only; omega, ?_, fun k => ?_⟩
      · have := hs' a
        rw [show begS a a = true from begs_self _, slt_irrefl] at this
        simpa using this
      · have k2 := hs' t
        rw [slt_asymm k] at k2
        simp only
        cases q : slt t (rsdS a)
        · rfl
        · rw [q] at k2
          have := begS_eq k2.symm (by omega)
          subst this
          rw [slt_irrefl] at k; cases k
theorem le_trans3 {a b c : ByteArray} (h : slt b a = false) (k : slt c b = false) : slt c a = false := by
  cases e : slt c a
  · rfl
  · cases e2 : slt a b
    · have := slt_tri e2 h; subst this; rw [e] at k; cases k
    · have := slt_trans e e2; rw [this] at k; cases k
end Go.Proofs.YtkbfjficmdgjpaaGreatDoor
/-
  Plain facts of ranges for the law KeysMeets.
-/
namespace Go.Proofs.YtkbfjficmdgjpaaGreatDoor
open Go.RowKit
set_option linter.unusedSimpArgs false
set_option linter.unusedVariables false
set_option maxRecDepth 100000

theorem slt_max (k x y : ByteArray) : slt k (if slt x y = true then y else x) = (slt k x || slt k y) := by
  cases h : slt x y
  · simp only [Bool.false_eq_true, if_false]
    cases hx : slt k x
    · simp [le_trans3 h hx]
    · simp
  · simp only [if_true]
    cases hy : slt k y
    · simp [le_trans3 (slt_asymm h) hy]
    · simp
theorem slt_min (k x y : ByteArray) : slt k (if slt y x = true then y else x) = (slt k x && slt k y) := by
  cases h : slt y x
  · simp only [Bool.false_eq_true, if_false]
    cases hy : slt k y
    · simp [le_trans3 h hy]
    · simp
  · simp only [if_true]
    cases hx : slt k x
    · simp [le_trans3 (slt_asymm h) hx]
    · simp
theorem meet_err {r s : Rng} (h : (meet r s).2 ≠ 0) : (meet r s).1 = rng0 := by
  unfold meet at *
  split
  · rfl
  · split
    · rfl
    · rename_i h1 h2
      rw [if_neg h1, if_neg h2] at h
      exact absurd rfl h
theorem rchk_zero {r : Rng} : rchk r = 0 ↔ r.lo.size ≤ 32 ∧ r.hi.size ≤ 32 ∧ (r.bd = false → r.hi.size = 0) := by
  unfold rchk ktwo
  by_cases h : 32 < r.lo.size ∨ 32 < r.hi.size
  · rw [if_pos h, if_pos (by omega)]
    constructor
    · intro h; omega
    · rintro ⟨a, b, c⟩; omega
  · rw [if_neg h, if_neg (by omega)]
    by_cases h2 : r.bd = false ∧ r.hi.size ≠ 0
    · rw [if_pos h2]
      constructor
      · intro h; omega
      · rintro ⟨a, b, c⟩; exact absurd (c h2.1) h2.2
    · rw [if_neg h2]
      exact ⟨fun _ => ⟨by omega, by omega, fun hb => by
        by_cases hz : r.hi.size = 0
        · exact hz
        · exact absurd ⟨hb, hz⟩ h2⟩, fun _ => rfl⟩
theorem sz_max {x y : ByteArray} (hx : x.size ≤ 32) (hy : y.size ≤ 32) : (if slt x y = true then y else x).size ≤ 32 := by split <;> assumption
theorem sz_min {x y : ByteArray} (hx : x.size ≤ 32) (hy : y.size ≤ 32) : (if slt y x = true then y else x).size ≤ 32 := by split <;> assumption

theorem meet_ok {r s : Rng} (h : (meet r s).2 = 0) : rchk r = 0 ∧ rchk s = 0 ∧ (meet r s).1 = meetR r s := by
  unfold meet at *
  by_cases h1 : rchk r = 0
  · by_cases h2 : rchk s = 0
    · rw [if_neg (by simpa using h1), if_neg (by simpa using h2)]
      exact ⟨h1, h2, rfl⟩
    · rw [if_neg (by simpa using h1), if_pos (by simpa using h2)] at h
      exact absurd h h2
  · rw [if_pos (by simpa using h1)] at h
    exact absurd h h1
theorem meetR_ok {r s : Rng} (h1 : rchk r = 0) (h2 : rchk s = 0) : rchk (meetR r s) = 0 := by
  rw [rchk_zero] at *
  obtain ⟨a1, a2, a3⟩ := h1
  obtain ⟨b1, b2, b3⟩ := h2
  unfold meetR
  by_cases hb : r.bd = false
  · rw [if_pos hb]
    exact ⟨sz_max a1 b1, b2, b3⟩
  · rw [if_neg hb]
    by_cases hs : s.bd = true
    · rw [if_pos hs]
      exact ⟨sz_max a1 b1, sz_min a2 b2, fun h => by simp at h⟩
    · rw [if_neg hs]
      exact ⟨sz_max a1 b1, a2, fun h => by simp at h⟩
theorem meetR_has (r s : Rng) (k : ByteArray) : rhas (meetR r s) k = (rhas r k && rhas s k) := by
  obtain ⟨rl, rh, rb⟩ := r
  obtain ⟨sl, sh, sb⟩ := s
  unfold rhas meetR
  cases rb <;> cases sb <;> simp only [Bool.false_eq_true, Bool.true_eq_false, if_true, if_false, slt_max, slt_min] <;>
    cases slt k rl <;> cases slt k sl <;> cases slt k rh <;> cases slt k sh <;> rfl
theorem rin_ok {r : Rng} (k : ByteArray) (h : rchk r = 0) : rin r k = (decide (k.size ≤ 32) && rhas r k, kchk k) := by
  unfold rin
  rw [if_neg (by simpa using h)]
  unfold kchk
  by_cases hk : 32 < k.size
  · rw [if_pos hk, if_pos (by omega)]
    rw [decide_eq_false (by omega)]; rfl
  · rw [if_neg hk, if_neg (by omega), decide_eq_true (by omega)]; simp
theorem ofR_ok {p : ByteArray} (h : p.size ≤ 32) : (ofR p).2 = 0 ∧ rchk (ofR p).1 = 0 ∧ ∀ k, rhas (ofR p).1 k = begS p k := by
  unfold ofR
  rw [if_neg (by omega)]
  refine ⟨rfl, ?_, fun k => ?_⟩
  · rw [rchk_zero]
    refine ⟨h, by have := rsdS_size p; simp only; omega, fun hb => ?_⟩
    simp only
    rw [rsdS_mt (by simpa using hb)]; rfl
  · unfold rhas
    simp only
    by_cases hr : (rsd p.data.toList).isEmpty = true
    · have := rsd_none p.data.toList k.data.toList (by simpa using hr)
      rw [hr]
      unfold slt begS
      rw [toL, toL, this]; simp
    · have := rsd_some p.data.toList k.data.toList (by simpa using hr)
      rw [slt_rsdS]
      unfold slt begS
      rw [toL, toL, show (rsd p.data.toList).isEmpty = false by simpa using hr]
      simpa using this

/-- What KeysMeets asks of the ranges where Meet answers. -/
theorem meets_facts {r s : Rng} (k : ByteArray) (h : (meet r s).2 = 0) :
    (rin s k).2 = kchk k ∧ (rin r k).2 = kchk k ∧ (rin (meet r s).1 k).2 = kchk k ∧ (rin (meet r s).1 k).1 = ((rin r k).1 && (rin s k).1) ∧
    rchk (meet r s).1 = 0 ∧ (remp r).2 = 0 ∧ (rin r r.lo).2 = 0 ∧ (rin r r.lo).1 = !(remp r).1 ∧ ((remp r).1 && (rin r k).1) = false ∧
    (ofR r.lo).2 = 0 ∧ (rin (ofR r.lo).1 k).2 = kchk k ∧ (k.size ≤ 32 → (rin (ofR r.lo).1 k).1 = begS r.lo k) := by
  obtain ⟨h1, h2, h3⟩ := meet_ok h
  have hm := meetR_ok h1 h2
  rw [h3]
  have hz := rchk_zero.1 h1
  obtain ⟨o1, o2, o3⟩ := ofR_ok hz.1
  have e1 : remp r = (r.bd && !slt r.lo r.hi, 0) := by unfold remp; rw [if_neg (by simpa using h1)]
  have k1 : kchk r.lo = 0 := by unfold kchk; rw [if_neg (by omega)]
  rw [rin_ok k h1, rin_ok k h2, rin_ok k hm, rin_ok r.lo h1, rin_ok k o2, meetR_has, e1, o1]
  refine ⟨rfl, rfl, rfl, ?_, hm, rfl, k1, ?_, ?_, rfl, rfl, fun hk => ?_⟩
  · simp only
    cases decide (k.size ≤ 32) <;> cases rhas r k <;> cases rhas s k <;> rfl
  · simp only
    rw [decide_eq_true hz.1]
    unfold rhas
    rw [slt_irrefl]
    cases r.bd <;> cases slt r.lo r.hi <;> rfl
  · simp only
    unfold rhas
    cases hb : r.bd
    · simp
    · cases hl : slt r.lo r.hi
      · cases hk : slt k r.lo
        · have := le_trans3 hl hk
          rw [this]; simp
        · simp
      · simp
  · simp only
    rw [decide_eq_true hk, o3]; simp
end Go.Proofs.YtkbfjficmdgjpaaGreatDoor
/-
  Plain facts of runs: the laws without the reference; covers.
-/
namespace Go.Proofs.YtkbfjficmdgjpaaGreatDoor
open Go.RowKit
set_option linter.unusedSimpArgs false
set_option linter.unusedVariables false
set_option maxRecDepth 100000

theorem echk_k {x : Ent} (h : echk x = 0) : x.key.size ≤ 32 := by
  unfold echk at h
  split at h
  · cases h
  · omega
theorem slt_nxt {k t : ByteArray} (hk : k.size ≤ 32) (ht : t.size ≤ 32) (h : (nxt k).2 = 0) : slt t (nxt k).1 = !slt k t := by
  rcases next_facts k t hk ht with ⟨_, _, h1, h2⟩ | ⟨h1, _⟩
  · cases e : slt k t
    · have := le_lt_trans e h1; rw [this]; rfl
    · rw [h2 e]; rfl
  · rw [h1] at h; cases h
theorem nxt_size {k : ByteArray} (hk : k.size ≤ 32) (h : (nxt k).2 = 0) : (nxt k).1.size ≤ 32 := by
  rcases next_facts k k hk hk with ⟨_, h1, _, _⟩ | ⟨h1, _⟩
  · exact h1
  · rw [h1] at h; cases h
theorem nxt_none {k t : ByteArray} (hk : k.size ≤ 32) (ht : t.size ≤ 32) (h : (nxt k).2 ≠ 0) : slt k t = false := by
  rcases next_facts k t hk ht with ⟨h1, _⟩ | ⟨_, h1⟩
  · exact absurd h1 h
  · exact h1
theorem cnt_nxt {l : List Ent} (ha : AscE l) (hs : ∀ m, m ∈ l → echk m = 0) {k : ByteArray} (hk : k.size ≤ 32) (h : (nxt k).2 = 0) : cntLtE l (nxt k).1 = ceN l k true := by
  refine cntLtE_eq ha (ceN_le l k true) (fun j x hj hx => ?_) (fun x hx => ?_)
  · rw [slt_nxt hk (echk_k (hs x (List.mem_of_getElem? hx))) h, key_gt ha hx]
    unfold ceN at hj
    simp only [Bool.and_true] at hj
    simp; exact hj
  · rw [slt_nxt hk (echk_k (hs x (List.mem_of_getElem? hx))) h, key_gt ha hx]
    unfold ceN
    simp
theorem flN_strict (l : List Ent) (k : ByteArray) : flN l k true = cntLtE l k := by simp [flN]
theorem flN_lax (l : List Ent) (k : ByteArray) : flN l k false = ceN l k true := by simp [flN, ceN]
theorem ceN_lax (l : List Ent) (k : ByteArray) : ceN l k false = cntLtE l k := by simp [ceN]
theorem slt_mt (x : ByteArray) : slt x mt = false := by
  unfold slt
  rw [toL mt]
  cases x.toList <;> rfl
theorem cnt_mt (l : List Ent) : cntLtE l mt = 0 := by
  unfold cntLtE
  exact filter_no _ _ fun x _ => by rw [slt_mt]; rfl

/-! ### Covers -/
def lastE (l : List Ent) : Ent := l.getD (l.length - 1) ent0
def headE (l : List Ent) : Ent := l.getD 0 ent0
def rcov (r : Rn) : Rng × Int := if (rck r).2 ≠ 0 then (rng0, (rck r).2) else if r.es.length = 0 then (rng0, 4) else (⟨(headE r.es).key, (nxt (lastE r.es).key).1, (nxt (lastE r.es).key).2 == 0⟩, 0)
def rover (r s : Rn) : Bool × Int := if (rck r).2 ≠ 0 then (false, (rck r).2) else if (rck s).2 ≠ 0 then (false, (rck s).2) else if r.es.length = 0 ∨ s.es.length = 0 then (false, 0)
  else (!slt (lastE s.es).key (headE r.es).key && !slt (lastE r.es).key (headE s.es).key, 0)
theorem headE_get {l : List Ent} (h : l.length ≠ 0) : l[0]? = some (headE l) := by
  unfold headE
  rw [List.getD_eq_getElem?_getD, List.getElem?_eq_getElem (by omega)]; rfl
theorem lastE_get {l : List Ent} (h : l.length ≠ 0) : l[l.length - 1]? = some (lastE l) := by
  unfold lastE
  rw [List.getD_eq_getElem?_getD, List.getElem?_eq_getElem (by omega)]; rfl
theorem head_le {l : List Ent} (ha : AscE l) {j : Nat} {x : Ent} (hx : l[j]? = some x) : slt x.key (headE l).key = false := by
  have hj := (List.getElem?_eq_some_iff.1 hx).1
  have h0 := headE_get (l := l) (by omega)
  rcases Nat.eq_zero_or_pos j with h | h
  · subst h; rw [h0] at hx; injection hx with hx; rw [← hx]; exact slt_irrefl _
  · exact slt_asymm (ascE_lt ha h0 hx h)
theorem le_last {l : List Ent} (ha : AscE l) {j : Nat} {x : Ent} (hx : l[j]? = some x) : slt (lastE l).key x.key = false := by
  have hj := (List.getElem?_eq_some_iff.1 hx).1
  have h0 := lastE_get (l := l) (by omega)
  rcases Nat.lt_or_ge j (l.length - 1) with h | h
  · exact slt_asymm (ascE_lt ha hx h0 h)
  · have : j = l.length - 1 := by omega
    subst this; rw [h0] at hx; injection hx with hx; rw [← hx]; exact slt_irrefl _
theorem nxt_err {k : ByteArray} (h : (nxt k).2 ≠ 0) : (nxt k).1 = mt := by
  unfold nxt at h ⊢
  by_cases h1 : 32 < k.size
  · rw [if_pos h1]
  · rw [if_neg h1] at h ⊢
    by_cases h2 : k.size < 32
    · rw [if_pos h2] at h; exact absurd rfl h
    · rw [if_neg h2] at h ⊢
      by_cases h3 : (rsd k.data.toList).isEmpty = true
      · rw [if_pos h3]
      · rw [if_neg h3] at h; exact absurd rfl h
theorem cov_facts {r : Rn} (h : (rck r).2 = 0) (hn : r.es.length ≠ 0) :
    (rcov r).2 = 0 ∧ rchk (rcov r).1 = 0 ∧ (rcov r).1.lo = (headE r.es).key ∧ ∀ k : ByteArray, k.size ≤ 32 → rhas (rcov r).1 k = (!slt k (headE r.es).key && !slt (lastE r.es).key k) := by
  obtain ⟨-, -, -, -, hs, -⟩ := rck_ok h
  have h1 := echk_k (hs _ (List.mem_of_getElem? (headE_get hn)))
  have h2 := echk_k (hs _ (List.mem_of_getElem? (lastE_get hn)))
  unfold rcov
  rw [if_neg (by simp [h]), if_neg hn]
  refine ⟨rfl, ?_, rfl, fun k hk => ?_⟩
  · rw [rchk_zero]
    refine ⟨h1, ?_, fun hb => ?_⟩
    · by_cases e : (nxt (lastE r.es).key).2 = 0
      · exact nxt_size h2 e
      · rw [nxt_err e]; exact Nat.zero_le _
    · simp at hb
      rw [nxt_err hb]; rfl
  · unfold rhas
    simp only
    by_cases e : (nxt (lastE r.es).key).2 = 0
    · rw [slt_nxt h2 hk e, e]; simp
    · rw [nxt_none h2 hk e]; simp [e]
theorem has_not_empty {x : Rng} (h : rchk x = 0) {k : ByteArray} (hk : rhas x k = true) : (remp x).1 = false := by
  unfold remp
  rw [if_neg (by simp [h])]
  unfold rhas at hk
  simp at hk ⊢
  intro hb
  rcases hk with ⟨h1, h2⟩
  rw [hb] at h2
  exact le_lt_trans h1 (by simpa using h2)
theorem emp_iff {x : Rng} (h : rchk x = 0) : (remp x).1 = !rhas x x.lo := by
  unfold remp rhas
  rw [if_neg (by simp [h])]
  simp [slt_irrefl]
theorem meet_zero {x y : Rng} (h1 : rchk x = 0) (h2 : rchk y = 0) : meet x y = (meetR x y, 0) := by
  unfold meet
  rw [if_neg (by simp [h1]), if_neg (by simp [h2])]
theorem meetR_lo (x y : Rng) : (meetR x y).lo = if slt x.lo y.lo = true then y.lo else x.lo := by
  unfold meetR
  split
  · rfl
  · split <;> rfl
theorem rover_val {r s : Rn} (h1 : (rck r).2 = 0) (h2 : (rck s).2 = 0) (n1 : r.es.length ≠ 0) (n2 : s.es.length ≠ 0) : (rover r s).1 = (!slt (lastE s.es).key (headE r.es).key && !slt (lastE r.es).key (headE s.es).key) := by
  unfold rover
  rw [if_neg (by simp [h1]), if_neg (by simp [h2]), if_neg (by omega)]
/-- Overlap by the covers. -/
theorem over_meet {r s : Rn} (h1 : (rck r).2 = 0) (h2 : (rck s).2 = 0) (n1 : r.es.length ≠ 0) (n2 : s.es.length ≠ 0) :
    meet (rcov r).1 (rcov s).1 = (meetR (rcov r).1 (rcov s).1, 0) ∧ remp (meetR (rcov r).1 (rcov s).1) = (!(rover r s).1, 0) := by
  obtain ⟨a1, a2, a3, a4⟩ := cov_facts h1 n1
  obtain ⟨b1, b2, b3, b4⟩ := cov_facts h2 n2
  have hm := meetR_ok a2 b2
  refine ⟨meet_zero a2 b2, ?_⟩
  have e2 : (remp (meetR (rcov r).1 (rcov s).1)).2 = 0 := by unfold remp; rw [if_neg (by simp [hm])]
  have e1 := emp_iff hm
  have hlo := (rchk_zero.1 hm).1
  rw [meetR_has, a4 _ hlo, b4 _ hlo, meetR_lo, a3, b3] at e1
  obtain ⟨-, -, -, -, -, q1⟩ := rck_ok h1
  obtain ⟨-, -, -, -, -, q2⟩ := rck_ok h2
  have t1 := le_last q1 (headE_get n1)
  have t2 := le_last q2 (headE_get n2)
  refine Prod.ext ?_ e2
  simp only
  rw [e1, rover_val h1 h2 n1 n2, slt_max, slt_max, t1, t2]
  cases e : slt (headE r.es).key (headE s.es).key
  · simp [slt_irrefl, e, Bool.and_comm]
  · simp [slt_irrefl, slt_asymm e, Bool.and_comm]
theorem rover_err {r s : Rn} (h : (rck r).2 ≠ 0 ∨ (rck s).2 ≠ 0) : (rover r s).1 = false ∧ (rover r s).2 ≠ 0 := by
  unfold rover
  by_cases e : (rck r).2 ≠ 0
  · rw [if_pos e]; exact ⟨rfl, e⟩
  · rw [if_neg e, if_pos (h.resolve_left e)]; exact ⟨rfl, h.resolve_left e⟩
theorem rover_ok {r s : Rn} (h1 : (rck r).2 = 0) (h2 : (rck s).2 = 0) : (rover r s).2 = 0 := by
  unfold rover
  rw [if_neg (by simp [h1]), if_neg (by simp [h2])]
  split <;> rfl
theorem rover_symm (r s : Rn) : (rover r s).1 = (rover s r).1 := by
  by_cases h1 : (rck r).2 = 0
  · by_cases h2 : (rck s).2 = 0
    · by_cases h3 : r.es.length = 0
      · unfold rover; simp [h1, h2, h3]
      · by_cases h4 : s.es.length = 0
        · unfold rover; simp [h1, h2, h4]
        · rw [rover_val h1 h2 h3 h4, rover_val h2 h1 h4 h3, Bool.and_comm]
    · rw [(rover_err (.inr h2)).1, (rover_err (.inl h2)).1]
  · rw [(rover_err (.inl h1)).1, (rover_err (.inr h1)).1]
theorem rcov_err {r : Rn} (h : (rcov r).2 ≠ 0) : (rck r).2 ≠ 0 ∨ r.es.length = 0 := by
  unfold rcov at h
  by_cases e : (rck r).2 ≠ 0
  · exact .inl e
  · rw [if_neg e] at h
    by_cases e2 : r.es.length = 0
    · exact .inr e2
    · rw [if_neg e2] at h; exact absurd rfl h
theorem rcov_ok {r : Rn} (h : (rcov r).2 = 0) : (rck r).2 = 0 ∧ r.es.length ≠ 0 := by
  unfold rcov at h
  by_cases e : (rck r).2 ≠ 0
  · rw [if_pos e] at h; exact absurd h e
  · rw [if_neg e] at h
    by_cases e2 : r.es.length = 0
    · rw [if_pos e2] at h; cases h
    · exact ⟨by omega, e2⟩
theorem over_none {r s : Rn} (h : (rcov r).2 ≠ 0 ∨ (rcov s).2 ≠ 0) : (rover r s).1 = false := by
  unfold rover
  split
  · rfl
  · split
    · rfl
    · rw [if_pos]
      rcases h with h | h
      · rcases rcov_err h with h | h <;> simp_all
      · rcases rcov_err h with h | h <;> simp_all
/-- The part of the cover. -/
theorem part_cov {r : Rn} (h : (rcov r).2 = 0) : rpart r (rcov r).1 = (0, (r.es.length : Int), 0) := by
  obtain ⟨h1, h2⟩ := rcov_ok h
  obtain ⟨-, c2, c3, c4⟩ := cov_facts h1 h2
  obtain ⟨-, -, -, -, hs, ha⟩ := rck_ok h1
  have e0 : cntLtE r.es (rcov r).1.lo = 0 := by
    rw [c3]
    refine cntLtE_eq ha (Nat.zero_le _) (fun j x hj => by omega) (fun x hx => head_le ha hx)
  have e1 : pTo r.es (rcov r).1 = r.es.length := by
    have hle := pTo_le r.es (rcov r).1
    have hl := lastE_get h2
    have hp := in_part ha (rcov r).1 hl
    have hh := c4 _ (echk_k (hs _ (List.mem_of_getElem? hl)))
    rw [hp, head_le ha hl, slt_irrefl] at hh
    simp at hh; omega
  unfold rpart
  rw [if_neg (by simp [h1]), if_neg (by simp [c2]), e0, e1]; rfl
theorem part_apart {r : Rn} {x : Rng} (h : (rcov r).2 = 0) (hx : rchk x = 0) (he : (remp (meet (rcov r).1 x).1).1 = true) : cntLtE r.es x.lo = pTo r.es x := by
  obtain ⟨h1, h2⟩ := rcov_ok h
  obtain ⟨-, c2, c3, c4⟩ := cov_facts h1 h2
  obtain ⟨-, -, -, -, hs, ha⟩ := rck_ok h1
  rw [meet_zero c2 hx] at he
  have hge := pTo_ge r.es x
  have hle := pTo_le r.es x
  rcases Nat.lt_or_ge (cntLtE r.es x.lo) (pTo r.es x) with hlt | hlt
  · exfalso
    have hg := List.getElem?_eq_getElem (show cntLtE r.es x.lo < r.es.length by omega)
    have i1 := in_part ha x hg
    have i2 := c4 _ (echk_k (hs _ (List.mem_of_getElem? hg)))
    rw [head_le ha hg, le_last ha hg] at i2
    have i3 := meetR_has (rcov r).1 x (r.es[cntLtE r.es x.lo]).key
    rw [i1, i2] at i3
    have := has_not_empty (meetR_ok c2 hx) (k := (r.es[cntLtE r.es x.lo]).key) (by rw [i3]; simp; omega)
    simp only at he
    rw [this] at he; cases he
  · omega
def anyIn (x : Rng) (l : List Ent) : Bool := l.any fun y => rhas x y.key
theorem anyIn_snoc (x : Rng) (l : List Ent) (y : Ent) : anyIn x (l ++ [y]) = (anyIn x l || rhas x y.key) := by simp [anyIn]
theorem over_any {r s : Rn} (h : (rcov r).2 = 0) (k : (rcov s).2 = 0) : (anyIn (rcov s).1 r.es || anyIn (rcov r).1 s.es) = (rover r s).1 := by
  obtain ⟨h1, h2⟩ := rcov_ok h
  obtain ⟨k1, k2⟩ := rcov_ok k
  obtain ⟨-, -, -, c4⟩ := cov_facts h1 h2
  obtain ⟨-, -, -, d4⟩ := cov_facts k1 k2
  obtain ⟨-, -, -, -, hs, ha⟩ := rck_ok h1
  obtain ⟨-, -, -, -, ks, ka⟩ := rck_ok k1
  have hr := rover_val h1 k1 h2 k2
  rw [hr, Bool.eq_iff_iff]
  unfold anyIn
  simp only [Bool.or_eq_true, List.any_eq_true, Bool.and_eq_true, Bool.not_eq_true']
  constructor
  · rintro (⟨x, hx, e⟩ | ⟨x, hx, e⟩)
    · rw [d4 _ (echk_k (hs x hx))] at e
      obtain ⟨i, hi, rfl⟩ := List.getElem_of_mem hx
      simp at e
      exact ⟨le_trans' (head_le ha (List.getElem?_eq_getElem hi)) e.2, le_trans' e.1 (le_last ha (List.getElem?_eq_getElem hi))⟩
    · rw [c4 _ (echk_k (ks x hx))] at e
      obtain ⟨i, hi, rfl⟩ := List.getElem_of_mem hx
      simp at e
      exact ⟨le_trans' e.1 (le_last ka (List.getElem?_eq_getElem hi)), le_trans' (head_le ka (List.getElem?_eq_getElem hi)) e.2⟩
  · rintro ⟨e1, e2⟩
    have g1 := headE_get h2
    have g2 := headE_get k2
    cases e : slt (headE r.es).key (headE s.es).key
    · refine .inl ⟨_, List.mem_of_getElem? g1, ?_⟩
      rw [d4 _ (echk_k (hs _ (List.mem_of_getElem? g1))), e, e1]; rfl
    · refine .inr ⟨_, List.mem_of_getElem? g2, ?_⟩
      rw [c4 _ (echk_k (ks _ (List.mem_of_getElem? g2))), slt_asymm e, e2]; rfl

/-! ### Counts -/
theorem cutE_cons {l : List Ent} {i up : Nat} {x : Ent} (h : l[i]? = some x) (hi : i < up) : cutE l i up = x :: cutE l (i + 1) up := by
  obtain ⟨h1, h2⟩ := List.getElem?_eq_some_iff.1 h
  unfold cutE
  rw [List.drop_eq_getElem_cons h1, h2, show up - i = (up - (i + 1)) + 1 by omega, List.take_succ_cons]
theorem cutE_app (l : List Ent) {a b c : Nat} (h1 : a ≤ b) (h2 : b ≤ c) : cutE l a c = cutE l a b ++ cutE l b c := by
  unfold cutE
  rw [show c - a = (b - a) + (c - b) by omega, List.take_add, List.drop_drop, show a + (b - a) = b by omega]
theorem cutE_over (l : List Ent) {a b : Nat} (h : b ≤ a) : cutE l a b = [] := by
  unfold cutE; rw [show b - a = 0 by omega]; rfl
theorem nDead_app (a b : List Ent) : nDead (a ++ b) = nDead a + nDead b := by unfold nDead; rw [List.filter_append, List.length_append]
theorem nLive_app (a b : List Ent) : nLive (a ++ b) = nLive a + nLive b := by unfold nLive; rw [List.filter_append, List.length_append]
theorem nDead_cons (x : Ent) (l : List Ent) : nDead (x :: l) = (if x.dead = true then 1 else 0) + nDead l := by
  have := nDead_app [x] l
  rw [show x :: l = [x] ++ l from rfl, this]; unfold nDead; cases h : x.dead <;> simp [h]
/-- The dead ones that are left. -/
def deadFrom (l : List Ent) (fr up i : Nat) : Nat := nDead (cutE l (max i fr) up)
theorem deadFrom_zero (l : List Ent) (fr up : Nat) : deadFrom l fr up 0 = nDead (cutE l fr up) := by unfold deadFrom; rw [show max 0 fr = fr by omega]
theorem deadFrom_end (l : List Ent) (fr up : Nat) (h : up ≤ l.length) : deadFrom l fr up l.length = 0 := by unfold deadFrom; rw [cutE_over _ (by omega)]; rfl
theorem deadFrom_in {l : List Ent} {fr up i : Nat} {x : Ent} (h : l[i]? = some x) (h1 : fr ≤ i) (h2 : i < up) : deadFrom l fr up i = (if x.dead = true then 1 else 0) + deadFrom l fr up (i + 1) := by
  unfold deadFrom
  rw [show max i fr = i by omega, show max (i + 1) fr = i + 1 by omega, cutE_cons h h2, nDead_cons]
theorem deadFrom_lo {l : List Ent} {fr up i : Nat} (h1 : i < fr) : deadFrom l fr up i = deadFrom l fr up (i + 1) := by
  unfold deadFrom; rw [show max i fr = fr by omega, show max (i + 1) fr = fr by omega]
theorem deadFrom_hi {l : List Ent} {fr up i : Nat} (h1 : up ≤ i) : deadFrom l fr up i = deadFrom l fr up (i + 1) := by
  unfold deadFrom; rw [cutE_over _ (by omega), cutE_over _ (by omega)]
theorem rcount_ok {r : Rn} {x : Rng} (h : (rck r).2 = 0) (hx : rchk x = 0) : rcount r x = ((nLive (cutE r.es (cntLtE r.es x.lo) (pTo r.es x)) : Int), (nDead (cutE r.es (cntLtE r.es x.lo) (pTo r.es x)) : Int), 0) := by
  unfold rcount; rw [if_neg (by simp [h]), if_neg (by simp [hx])]
theorem rpart_ok {r : Rn} {x : Rng} (h : (rck r).2 = 0) (hx : rchk x = 0) : rpart r x = ((cntLtE r.es x.lo : Int), (pTo r.es x : Int), 0) := by
  unfold rpart; rw [if_neg (by simp [h]), if_neg (by simp [hx])]
/-- Count of what is before a key, and from it on. -/
theorem counts_cut {r : Rn} {x : Rng} {k : ByteArray} (h : (rck r).2 = 0) (hx : rchk x = 0) (hk : k.size ≤ 32) (hh : rhas x k = true) :
    (rcount r ⟨x.lo, k, true⟩).2.2 = 0 ∧ (rcount r ⟨k, x.hi, x.bd⟩).2.2 = 0 ∧ (rcount r ⟨x.lo, k, true⟩).1 + (rcount r ⟨k, x.hi, x.bd⟩).1 = (rcount r x).1 ∧
      (rcount r ⟨x.lo, k, true⟩).2.1 + (rcount r ⟨k, x.hi, x.bd⟩).2.1 = (rcount r x).2.1 := by
  obtain ⟨z1, z2, z3⟩ := rchk_zero.1 hx
  have y1 : rchk ⟨x.lo, k, true⟩ = 0 := rchk_zero.2 ⟨z1, hk, by simp⟩
  have y2 : rchk ⟨k, x.hi, x.bd⟩ = 0 := rchk_zero.2 ⟨hk, z2, z3⟩
  unfold rhas at hh
  simp at hh
  have m1 := cntLtE_mono r.es hh.1
  have p1 : pTo r.es ⟨x.lo, k, true⟩ = cntLtE r.es k := by unfold pTo; simp; omega
  have p2 : pTo r.es ⟨k, x.hi, x.bd⟩ = pTo r.es x ∧ cntLtE r.es k ≤ pTo r.es x := by
    unfold pTo
    simp only
    cases hb : x.bd
    · simp; exact cntLtE_le _ _
    · have h2 := hh.2
      rw [hb] at h2
      have m2 := cntLtE_mono r.es (a := k) (b := x.hi) (slt_asymm (by simpa using h2))
      simp; omega
  rw [rcount_ok h y1, rcount_ok h y2, rcount_ok h hx]
  simp only
  rw [p1, p2.1, cutE_app r.es m1 p2.2, nLive_app, nDead_app]
  exact ⟨trivial, trivial, by omega, by omega⟩
end Go.Proofs.YtkbfjficmdgjpaaGreatDoor

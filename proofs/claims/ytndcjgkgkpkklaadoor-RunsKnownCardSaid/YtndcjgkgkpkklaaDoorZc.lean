/-
  Own texts laid together: FnB EntB FnC FnD.
-/
import Derived.Test.YtndcjgkgkpkklaaDoorZa
import Derived.Test.YtndcjgkgkpkklaaDoorZb
import Derived.StillTailTactics
/-
  The closures of fence.first, and fence.first itself, over strings and over entries.
-/
namespace Go.Proofs.YtndcjgkgkpkklaaDoor
open Go.RowKit
set_option linter.unusedSimpArgs false
set_option linter.unusedVariables false
set_option maxRecDepth 100000

/-- The closure of first over strings: block g holds the predicate, block g2 the slice. -/
theorem firstS1 (F : Nat) (cs : Array Value) (g g2 : Nat) (a : Option Addr) (c : Nat) (l : List ByteArray) (i : Nat) (x : ByteArray) (r : Bool) (w : World)
    (hcf : ∀ args W, (callFunc F args).run Tryd.prog W = .ok (.enter F args) W)
    (h1 : w.cell? ⟨g, 0, none⟩ = some (.func (.func F) #[] cs)) (h2 : w.cell? ⟨g2, 0, none⟩ = some (.slice a l.length c)) (hl : Strs w a l) (hn : l.length ≤ maxLen) (hx : l[i]? = some x)
    (hp : ∀ w', Bl w w' → Calls Tryd.prog F (#[.string x] ++ cs) w' (RB w' (.bool r))) :
    Calls Tryd.prog 78 #[.int .i64 (i : Int), .pointer (some ⟨g, 0, none⟩), .pointer (some ⟨g2, 0, none⟩)] w (RB w (.bool r)) := by
  unfold maxLen at hn
  have hi := (List.getElem?_eq_some_iff.1 hx).1
  obtain ⟨b, off, rfl, hat⟩ := hl.get hi
  have hc := hat i x hx
  have HP := Lib.hid hp
  clear hat hx hp hl
  go_enter Tryd.func78, Tryd.ntmps78
  go_wp2_with fail
  go_still_tail 5, (by kernel_rfl)
  change wpList _ _ _ _ _ w.drew
  go_wp2_with fail
  refine (HP.out _ (Bl.refl w).drew).mono ?_; rintro e w1 ⟨rfl, hb1⟩
  go_wp2_with fail
  go_ret
  exact RB.mk rfl (by repeat (first | assumption | exact Bl.refl _ | apply Bl.drewN | apply Bl.drew | apply Bl.alloc | (refine Bl.dr ?_ (by assumption)) | (refine Bl.trans ?_ (by assumption))))

theorem cfS1 : ∀ args W, (callFunc 78 args).run Tryd.prog W = .ok (.enter 78 args) W := by
  intro args W; simp [go_sem]
set_option maxHeartbeats 400000 in
theorem firstS (F : Nat) (cs : Array Value) (a : Option Addr) (c : Nat) (l : List ByteArray) (p : ByteArray → Bool) (r : Nat) (w : World)
    (hcf : ∀ args W, (callFunc F args).run Tryd.prog W = .ok (.enter F args) W)
    (hl : Strs w a l) (hn : l.length ≤ 4611686018427387904)
    (hp : ∀ x w', x ∈ l → Bl w w' → Calls Tryd.prog F (#[.string x] ++ cs) w' (RB w' (.bool (p x))))
    (hr : r ≤ l.length) (h0 : ∀ j x, l[j]? = some x → j < r → p x = false) (h1 : ∀ j x, l[j]? = some x → r ≤ j → p x = true) :
    Calls Tryd.prog 75 #[.slice a l.length c, .func (.func F) #[] cs] w (RB w (.int .i64 (r : Int))) := by
  have hS := fun W (hb : Bl w W) g g2 (e1 : W.cell? ⟨g, 0, none⟩ = some (.func (.func F) #[] cs)) (e2 : W.cell? ⟨g2, 0, none⟩ = some (.slice a l.length c)) =>
    sortSearch 78 (.pointer (some ⟨g, 0, none⟩)) (.pointer (some ⟨g2, 0, none⟩)) l.length (fun i => (l[i]?.map p).getD false) r W hn cfS1
      (fun w' i hw' hi => by
        obtain ⟨x, hx⟩ : ∃ x, l[i]? = some x := ⟨_, List.getElem?_eq_getElem hi⟩
        simp only [hx, Option.map_some, Option.getD_some]
        exact firstS1 F cs g g2 a c l i x (p x) w' hcf (hw'.cell e1) (hw'.cell e2) (hl.bl (hb.trans hw')) (by unfold maxLen; omega) hx
          (fun w'' hw'' => hp x w'' (List.mem_of_getElem? hx) ((hb.trans hw').trans hw'')))
      hr (fun j hj => by
        obtain ⟨x, hx⟩ : ∃ x, l[j]? = some x := ⟨_, List.getElem?_eq_getElem (by omega)⟩
        simp only [hx, Option.map_some, Option.getD_some]; exact h0 j x hx hj)
      (fun j hj hj2 => by
        obtain ⟨x, hx⟩ : ∃ x, l[j]? = some x := ⟨_, List.getElem?_eq_getElem hj2⟩
        simp only [hx, Option.map_some, Option.getD_some]; exact h1 j x hx hj)
  have HS := Lib.hid hS
  clear hS hp h0 h1 hl
  have hn' : l.length ≤ 9223372036854775807 := by omega
  go_enter Tryd.func75, Tryd.ntmps75
  go_wp2_with fail
  refine (HS.out _ (by repeat (first | assumption | exact Bl.refl _ | apply Bl.drewN | apply Bl.drew | apply Bl.alloc | (refine Bl.dr ?_ (by assumption)) | (refine Bl.trans ?_ (by assumption)))) _ _ (by simp [go_sem]) (by simp [go_sem])).mono ?_; rintro e w1 ⟨rfl, hb1⟩
  go_wp2_with fail
  go_ret
  exact RB.mk rfl (by repeat (first | assumption | exact Bl.refl _ | apply Bl.drewN | apply Bl.drew | apply Bl.alloc | (refine Bl.dr ?_ (by assumption)) | (refine Bl.trans ?_ (by assumption))))

/-! ### The predicates -/
theorem cfBlock1 : ∀ args W, (callFunc 76 args).run Tryd.prog W = .ok (.enter 76 args) W := by
  intro args W; simp [go_sem]
theorem gt_slt (m k : ByteArray) : (!(Op.bytesLess m.toList k.toList || m.toList == k.toList)) = slt k m := by
  cases h : Op.bytesLess m.toList k.toList
  · cases h2 : Op.bytesLess k.toList m.toList
    · have := slt_tri h h2; subst this; simp [slt, h2]
    · have : (m.toList == k.toList) = false := by
        rw [beq_eq_false_iff_ne]; intro e; have := str_ext e; subst this; rw [bl_irrefl] at h2; cases h2
      simp [slt, h2, this]
  · have := slt_asymm (a := m) (b := k) h; simp [this]
theorem le_slt (m k : ByteArray) : (Op.bytesLess m.toList k.toList || m.toList == k.toList) = !slt k m := by
  rw [← gt_slt]; simp

theorem block1 (m k : ByteArray) (g : Nat) (w : World) (h : w.cell? ⟨g, 0, none⟩ = some (.string k)) :
    Calls Tryd.prog 76 #[.string m, .pointer (some ⟨g, 0, none⟩)] w (RB w (.bool (slt k m))) := by
  rw [← gt_slt]
  go_enter Tryd.func76, Tryd.ntmps76
  go_wp2_with fail
  go_ret
  exact RB.mk (bval (by simp)) (by repeat (first | assumption | exact Bl.refl _ | apply Bl.drewN | apply Bl.drew | apply Bl.alloc | (refine Bl.dr ?_ (by assumption)) | (refine Bl.trans ?_ (by assumption))))
end Go.Proofs.YtndcjgkgkpkklaaDoor
/-
  Contracts of the reference's CheckList, at, Find.
-/
namespace Go.Proofs.YtndcjgkgkpkklaaDoor
open Go.RowKit
set_option linter.unusedSimpArgs false
set_option linter.unusedVariables false
set_option maxRecDepth 100000

theorem cmpS_geq' (a b : ByteArray) : (0 ≤ cmpS a b) ↔ slt a b = false := by
  unfold cmpS; cases h : slt a b
  · by_cases k : a.toList = b.toList <;> simp [k]
  · simp

/-- Where a key is, or -1. -/
def atGo : Nat → ByteArray → List Ent → Int
  | _, _, [] => -1
  | i, k, x :: r => if x.key.toList = k.toList then (i : Int) else atGo (i + 1) k r
theorem atGo_drop {l : List Ent} {k : Nat} {x : Ent} (h : l[k]? = some x) (s : ByteArray) : atGo k s (l.drop k) = if x.key.toList = s.toList then (k : Int) else atGo (k + 1) s (l.drop (k + 1)) := by
  obtain ⟨hk, rfl⟩ := List.getElem?_eq_some_iff.1 h
  rw [List.drop_eq_getElem_cons hk]; rfl

def fnd (l : List Ent) (s : ByteArray) : Int × Int := if (clchk l).2 ≠ 0 then (0, (clchk l).2) else if kchk s ≠ 0 then (0, kchk s) else if atGo 0 s l < 0 then (0, 4) else (atGo 0 s l, 0)

end Go.Proofs.YtndcjgkgkpkklaaDoor
/-
  Contracts of fence.Check, Size, asked and of the reference's Check, Size.
-/
namespace Go.Proofs.YtndcjgkgkpkklaaDoor
open Go.RowKit
set_option linter.unusedSimpArgs false
set_option linter.unusedVariables false
set_option maxRecDepth 100000

structure Fnc where
  step : Int
  marks : List ByteArray
def Fnc.v (f : Fnc) (a : Option Addr) (c : Nat) : Value := .agg #[.int .i64 f.step, .slice a f.marks.length c]
structure FOk (w : World) (a : Option Addr) (f : Fnc) : Prop where
  strs : Strs w a f.marks
  len : f.marks.length ≤ 4611686018427387904
  lo : -9223372036854775808 ≤ f.step
  hi : f.step ≤ 9223372036854775807
theorem FOk.bl {w w' : World} {a : Option Addr} {f : Fnc} (h : FOk w a f) (k : Bl w w') : FOk w' a f := ⟨h.strs.bl k, h.len, h.lo, h.hi⟩
def fmGo : Nat → Option ByteArray → List ByteArray → Int × Int
  | _, _, [] => (0, 0)
  | i, p, m :: r => if kchk m ≠ 0 then ((i : Int), kchk m) else if pbad p m = true then ((i : Int), 6) else fmGo (i + 1) (some m) r
def fchk (f : Fnc) : Int × Int := if f.step < 1 ∨ 64 < f.step then (-1, 7) else if 4999 < f.marks.length then (-1, 3) else fmGo 0 none f.marks
def prevM (l : List ByteArray) (k : Nat) : Option ByteArray := if k = 0 then none else l[k - 1]?
theorem fmGo_drop {l : List ByteArray} {k : Nat} {x : ByteArray} (h : l[k]? = some x) (p : Option ByteArray) : fmGo k p (l.drop k) = if kchk x ≠ 0 then ((k : Int), kchk x) else if pbad p x = true then ((k : Int), 6) else fmGo (k + 1) (some x) (l.drop (k + 1)) := by
  obtain ⟨hk, rfl⟩ := List.getElem?_eq_some_iff.1 h
  rw [List.drop_eq_getElem_cons hk]; rfl
theorem prevM_succ {l : List ByteArray} {k : Nat} {x : ByteArray} (h : l[k]? = some x) : prevM l (k + 1) = some x := by simp [prevM, h]


set_option maxHeartbeats 1000000 in
set_option maxRecDepth 100000 in
theorem fenceCheck (a : Option Addr) (c : Nat) (f : Fnc) (w : World) (hf : FOk w a f) :
    Calls Tryd.prog 74 #[f.v a c] w (RB w (.tuple #[.int .i64 (fchk f).1, .int .i64 (fchk f).2])) := by
  obtain ⟨s, l⟩ := f
  obtain ⟨hl, hn, hs1, hs2⟩ := hf
  simp only at hl hn hs1 hs2
  unfold Fnc.v fchk
  simp only
  by_cases h1 : s < 1 ∨ 64 < s
  · rw [if_pos h1]
    rcases h1 with h1 | h1
    · go_enter Tryd.func74, Tryd.ntmps74
      go_wp2
      go_ret2
      exact rb_tuple rfl rfl (by repeat (first | assumption | exact Bl.refl _ | apply Bl.drewN | apply Bl.drew | apply Bl.alloc | (refine Bl.dr ?_ (by assumption)) | (refine Bl.trans ?_ (by assumption))))
    · have h1' : ¬ s < 1 := by omega
      go_enter Tryd.func74, Tryd.ntmps74
      go_wp2
      go_ret2
      exact rb_tuple rfl rfl (by repeat (first | assumption | exact Bl.refl _ | apply Bl.drewN | apply Bl.drew | apply Bl.alloc | (refine Bl.dr ?_ (by assumption)) | (refine Bl.trans ?_ (by assumption))))
  · rw [if_neg h1]
    have h1' : ¬ s < 1 := by omega
    have h1'' : ¬ 64 < s := by omega
    clear h1
    by_cases h0 : 4999 < l.length
    · rw [if_pos h0]
      have h0' : 5000 ≤ (l.length : Int) := by omega
      go_enter Tryd.func74, Tryd.ntmps74
      go_wp2
      go_ret2
      exact rb_tuple rfl rfl (by repeat (first | assumption | exact Bl.refl _ | apply Bl.drewN | apply Bl.drew | apply Bl.alloc | (refine Bl.dr ?_ (by assumption)) | (refine Bl.trans ?_ (by assumption))))
    · rw [if_neg h0]
      have h0' : ¬ 5000 ≤ (l.length : Int) := by omega
      generalize hR : fmGo 0 none l = R
      go_enter Tryd.func74, Tryd.ntmps74
      go_wp2
      go_loopg [24] l.length (fun g i wr => ∃ k : Nat, k ≤ l.length ∧ i = .int .i64 k ∧ R = fmGo k (prevM l k) (l.drop k) ∧ Dr (w.alloc (Obj.cells #[Value.int IntKind.i64 s, Value.slice a l.length c] 61)) wr ∧ g = l.length - k)
      case atStart => exact ⟨0, by omega, rfl, by rw [← hR]; rfl, Dr.refl _, rfl⟩
      case round =>
        obtain ⟨k, hk1, rfl, hc, hd, hg⟩ := hrel
        have H := Lib.hid hc
        have G := Lib.hid hg
        have hb : Bl w wr := ((Bl.refl w).alloc _).dr hd
        have hbox : wr.cell? ⟨w.heap.size, 1, none⟩ = some (.slice a l.length c) := by rw [hd.cell]; simp [go_sem]
        clear hc hg hR
        by_cases h2 : k < l.length
        · obtain ⟨b, off, rfl, hat⟩ := hl.get h2
          obtain ⟨x, hx⟩ : ∃ x, l[k]? = some x := ⟨_, List.getElem?_eq_getElem h2⟩
          have c0 := hb.cell (hat k x hx)
          have hxo : x.size ≤ maxLen := hl.ok x (List.mem_of_getElem? hx)
          have X := Lib.hid hx
          clear hx
          have hE := fun w => keysCheck x w hxo
          by_cases e1 : kchk x = 0
          · have e1' : (kchk x == 0) = true := by simp [e1]
            have e1'' : (kchk x != 0) = false := by simp [e1]
            generalize hq : kchk x = q at *
            have Hq := Lib.hid hq
            have HE := Lib.hid hE
            have E1 := Lib.hid e1
            clear hE hq e1
            by_cases hk0 : 0 < k
            · obtain ⟨y, hy⟩ : ∃ y, l[k - 1]? = some y := ⟨_, List.getElem?_eq_getElem (by omega)⟩
              have d0 := hb.cell (hat (k - 1) y hy)
              have hyo : y.size ≤ maxLen := hl.ok y (List.mem_of_getElem? hy)
              have hO := (fun (w : World) => trivial)
              have g := cmpS_geq' y x
              have hpk : prevM l k = some y := by simp [prevM, show k ≠ 0 by omega, hy]
              have Hp := Lib.hid hpk
              generalize cmpS y x = q2 at *
              have HO := Lib.hid hO
              have Hl := Lib.hid hl
              clear hpk hy hO hl hat
              by_cases hlt : slt y x = true
              · have hlt1 : Op.bytesLess x.toList y.toList = false := slt_asymm hlt
                have hlt2 : (x.toList == y.toList) = false := by
                  rw [beq_eq_false_iff_ne]; intro h; have := str_ext h; rw [this, slt_irrefl] at hlt; cases hlt
                have g' : ¬ 0 ≤ q2 := by rw [g, hlt]; simp
                have Hlt := Lib.hid hlt
                clear hlt g
                go_wp2_with fail
                refine (HE.out _).mono ?_; rintro e w' ⟨rfl, n1, rfl⟩
                go_wp2_with fail
                go_roundg (l.length - (k + 1))
                case rel =>
                  refine ⟨k + 1, by omega, by go_num, ?_, (by repeat (first | assumption | exact Dr.refl _ | apply Dr.drewN | apply Dr.drew | (refine Dr.trans ?_ (by assumption)))), rfl⟩
                  rw [H.out, fmGo_drop X.out, Hq.out, E1.out, prevM_succ X.out, Hp.out]; simp [pbad, Hlt.out]
                case measure => rw [G.out]; omega
              · have hge : (Op.bytesLess x.toList y.toList || x.toList == y.toList) = true := by
                  rw [le_slt]; simpa using hlt
                have g' : 0 ≤ q2 := by rw [g]; simpa using hlt
                have hlt1 : slt y x = false := by simpa using hlt
                have Hlt := Lib.hid hlt1
                clear hlt hlt1 g
                go_wp2_with fail
                refine (HE.out _).mono ?_; rintro e w' ⟨rfl, n1, rfl⟩
                go_wp2_with fail
                go_ret2
                refine rb_tuple (ival ?_) (ival ?_) (by repeat (first | assumption | exact Bl.refl _ | apply Bl.drewN | apply Bl.drew | apply Bl.alloc | (refine Bl.dr ?_ (by assumption)) | (refine Bl.trans ?_ (by assumption)))) <;> (rw [H.out, fmGo_drop X.out, Hq.out, E1.out, Hp.out]; simp [pbad, Hlt.out])
            · have hpk : prevM l k = none := by simp [prevM, show k = 0 by omega]
              have Hp := Lib.hid hpk
              have Hl := Lib.hid hl
              clear hpk hl hat
              go_wp2_with fail
              refine (HE.out _).mono ?_; rintro e w' ⟨rfl, n1, rfl⟩
              go_wp2_with fail
              go_roundg (l.length - (k + 1))
              case rel =>
                refine ⟨k + 1, by omega, by go_num, ?_, (by repeat (first | assumption | exact Dr.refl _ | apply Dr.drewN | apply Dr.drew | (refine Dr.trans ?_ (by assumption)))), rfl⟩
                rw [H.out, fmGo_drop X.out, Hq.out, E1.out, prevM_succ X.out, Hp.out]; simp [pbad]
              case measure => rw [G.out]; omega
          · have e1' : (kchk x != 0) = true := by simp [e1]
            have e1'' : (kchk x == 0) = false := by simp [e1]
            generalize hq : kchk x = q at *
            have Hq := Lib.hid hq
            have HE := Lib.hid hE
            have E1 := Lib.hid e1
            have Hl := Lib.hid hl
            clear hE hq e1 hl hat
            go_wp2_with fail
            refine (HE.out _).mono ?_; rintro e w' ⟨rfl, n1, rfl⟩
            go_wp2_with fail
            go_ret2
            refine rb_tuple (ival ?_) (ival ?_) (by repeat (first | assumption | exact Bl.refl _ | apply Bl.drewN | apply Bl.drew | apply Bl.alloc | (refine Bl.dr ?_ (by assumption)) | (refine Bl.trans ?_ (by assumption)))) <;> (rw [H.out, fmGo_drop X.out, Hq.out]; simp [E1.out])
        · go_wp2
          go_ret2
          refine rb_tuple (ival ?_) (ival ?_) hb <;> (rw [H.out, List.drop_of_length_le (by omega)]; rfl)

end Go.Proofs.YtndcjgkgkpkklaaDoor
/-
  Contracts of fence.Size, asked, block, Block and of the reference's Size, below, Block.
-/
namespace Go.Proofs.YtndcjgkgkpkklaaDoor
open Go.RowKit
set_option linter.unusedSimpArgs false
set_option linter.unusedVariables false
set_option maxRecDepth 100000

/-! ### Plain facts on ascending lists -/
abbrev Asc (l : List ByteArray) : Prop := l.Pairwise (fun a b => slt a b = true)
theorem kchk_zero {m : ByteArray} : kchk m = 0 ↔ m.size ≤ 32 := by unfold kchk; split <;> simp <;> omega
theorem fmGo_ok : ∀ (l : List ByteArray) (i : Nat) (p : Option ByteArray), (fmGo i p l).2 = 0 →
    (∀ m, m ∈ l → m.size ≤ 32) ∧ (∀ q, p = some q → ∀ m, m ∈ l → slt q m = true) ∧ Asc l
  | [], _, _, _ => by simp
  | m :: r, i, p, h => by
    unfold fmGo at h
    split at h
    · rename_i h1; exact absurd h h1
    · rename_i h1
      split at h
      · simp at h
      · rename_i h2
        obtain ⟨a, b, c⟩ := fmGo_ok r (i + 1) (some m) h
        have hm := b m rfl
        refine ⟨?_, ?_, ?_⟩
        · intro x hx
          rcases List.mem_cons.1 hx with rfl | hx
          · exact kchk_zero.1 (by simpa using h1)
          · exact a x hx
        · rintro q rfl x hx
          have hq : slt q m = true := by simpa [pbad] using h2
          rcases List.mem_cons.1 hx with rfl | hx
          · exact hq
          · exact slt_trans hq (hm x hx)
        · exact List.pairwise_cons.2 ⟨hm, c⟩
theorem fchk_ok {f : Fnc} (h : (fchk f).2 = 0) : 1 ≤ f.step ∧ f.step ≤ 64 ∧ f.marks.length ≤ 4999 ∧ (∀ m, m ∈ f.marks → m.size ≤ 32) ∧ Asc f.marks := by
  unfold fchk at h
  split at h
  · simp at h
  · split at h
    · simp at h
    · obtain ⟨a, b, c⟩ := fmGo_ok _ _ _ h
      exact ⟨by omega, by omega, by omega, a, c⟩
theorem part_point {α : Type} {R : α → α → Prop} (p : α → Bool) (hm : ∀ a b, R a b → p a = true → p b = true) : ∀ (l : List α), l.Pairwise R →
    (∀ j x, l[j]? = some x → j < (l.filter fun x => !p x).length → p x = false) ∧ (∀ j x, l[j]? = some x → (l.filter fun x => !p x).length ≤ j → p x = true)
  | [], _ => by simp
  | a :: l, h => by
    obtain ⟨h1, h2⟩ := List.pairwise_cons.1 h
    obtain ⟨i1, i2⟩ := part_point p hm l h2
    cases ha : p a
    · simp only [List.filter_cons, ha, Bool.not_false, if_true, List.length_cons]
      refine ⟨fun j x hx hj => ?_, fun j x hx hj => ?_⟩
      · cases j with
        | zero => simp at hx; rw [← hx]; exact ha
        | succ j => simp at hx; exact i1 j x hx (by omega)
      · cases j with
        | zero => omega
        | succ j => simp at hx; exact i2 j x hx (by omega)
    · have hall : ∀ x, x ∈ l → p x = true := fun x hx => hm a x (h1 x hx) ha
      have hf : (l.filter fun x => !p x) = [] := by
        rw [List.filter_eq_nil_iff]; intro x hx; simp [hall x hx]
      simp only [List.filter_cons, ha, Bool.not_true, hf]
      refine ⟨fun j x hx hj => by simp at hj, fun j x hx hj => ?_⟩
      rcases List.mem_cons.1 (List.mem_of_getElem? hx) with rfl | hx'
      · exact ha
      · exact hall x hx'
/-- How many are not greater | less. -/
def cntLe (l : List ByteArray) (k : ByteArray) : Nat := (l.filter fun m => !slt k m).length
def cntLt (l : List ByteArray) (k : ByteArray) : Nat := (l.filter fun m => !!slt m k).length
theorem cntLe_le (l : List ByteArray) (k : ByteArray) : cntLe l k ≤ l.length := List.length_filter_le _ _
theorem cntLt_le (l : List ByteArray) (k : ByteArray) : cntLt l k ≤ l.length := List.length_filter_le _ _
theorem cntLe_part {l : List ByteArray} (h : Asc l) (k : ByteArray) :
    (∀ j x, l[j]? = some x → j < cntLe l k → slt k x = false) ∧ (∀ j x, l[j]? = some x → cntLe l k ≤ j → slt k x = true) :=
  part_point (fun m => slt k m) (fun a b hab ha => slt_trans ha hab) l h
theorem cntLt_part {l : List ByteArray} (h : Asc l) (k : ByteArray) :
    (∀ j x, l[j]? = some x → j < cntLt l k → (!slt x k) = false) ∧ (∀ j x, l[j]? = some x → cntLt l k ≤ j → (!slt x k) = true) :=
  part_point (fun m => !slt m k) (fun a b hab ha => by
    cases hb : slt b k
    · rfl
    · have := slt_trans hab hb; rw [this] at ha; cases ha) l h
def sumSz (l : List ByteArray) : Nat := (l.map (·.size)).sum
theorem sumSz_take {l : List ByteArray} {k : Nat} {x : ByteArray} (h : l[k]? = some x) : sumSz (l.take (k + 1)) = sumSz (l.take k) + x.size := by
  obtain ⟨hk, rfl⟩ := List.getElem?_eq_some_iff.1 h
  rw [List.take_succ_eq_append_getElem hk]; simp only [sumSz, List.map_append, List.sum_append, List.map_cons, List.map_nil, List.sum_cons, List.sum_nil, Nat.add_zero]
theorem sumSz_bd : ∀ {l : List ByteArray}, (∀ m, m ∈ l → m.size ≤ 32) → sumSz l ≤ 32 * l.length
  | [], _ => by simp [sumSz]
  | m :: l, h => by
    have := sumSz_bd (l := l) (fun x hx => h x (by simp [hx]))
    have := h m (by simp)
    simp [sumSz] at *; omega
def fsz (f : Fnc) : Int × Int := if (fchk f).2 ≠ 0 then (0, (fchk f).2) else ((sumSz f.marks : Int), 0)
def fblk (f : Fnc) (k : ByteArray) : Int × Int := if (fchk f).2 ≠ 0 then (0, (fchk f).2) else if kchk k ≠ 0 then (0, kchk k) else ((cntLe f.marks k : Int), 0)

/-! ### Block -/
theorem fenceAsked (a : Option Addr) (c : Nat) (f : Fnc) (k : ByteArray) (g : Nat) (w : World) (hf : FOk w a f) (hk : k.size ≤ maxLen)
    (h0 : w.cell? ⟨g, 0, none⟩ = some (.int .i64 f.step)) (h1 : w.cell? ⟨g, 1, none⟩ = some (.slice a f.marks.length c)) :
    Calls Tryd.prog 71 #[.pointer (some ⟨g, 0, none⟩), .string k] w (RB w (.int .i64 (if (fchk f).2 ≠ 0 then (fchk f).2 else kchk k))) := by
  have hC := fun w h => fenceCheck a c f w h
  have hK := fun w => keysCheck k w hk
  have HF := Lib.hid hf
  by_cases e : (fchk f).2 = 0
  · rw [if_neg (by simp [e])]
    have e' : ((fchk f).2 != 0) = false := by simp [e]
    generalize (fchk f).1 = q0 at *
    generalize (fchk f).2 = q1 at *
    generalize kchk k = q2 at *
    obtain ⟨s, l⟩ := f
    unfold Fnc.v at hC
    simp only at hC h0 h1
    have HC := Lib.hid hC
    have HK := Lib.hid hK
    clear hC hK e hf
    go_enter Tryd.func71, Tryd.ntmps71
    go_wp2_with fail
    refine (HC.out _ HF.out).mono ?_; rintro e w1 ⟨rfl, hb1⟩
    go_wp2_with fail
    refine (HK.out _).mono ?_; rintro e w' ⟨rfl, n1, rfl⟩
    go_wp2_with fail
    go_ret
    exact RB.mk rfl (by repeat (first | assumption | exact Bl.refl _ | apply Bl.drewN | apply Bl.drew | apply Bl.alloc | (refine Bl.dr ?_ (by assumption)) | (refine Bl.trans ?_ (by assumption))))
  · rw [if_pos e]
    have e' : ((fchk f).2 != 0) = true := by simp [e]
    generalize (fchk f).1 = q0 at *
    generalize (fchk f).2 = q1 at *
    obtain ⟨s, l⟩ := f
    unfold Fnc.v at hC
    simp only at hC h0 h1
    have HC := Lib.hid hC
    clear hC hK e hf
    go_enter Tryd.func71, Tryd.ntmps71
    go_wp2_with fail
    refine (HC.out _ HF.out).mono ?_; rintro e w1 ⟨rfl, hb1⟩
    go_wp2_with fail
    go_ret
    exact RB.mk rfl (by repeat (first | assumption | exact Bl.refl _ | apply Bl.drewN | apply Bl.drew | apply Bl.alloc | (refine Bl.dr ?_ (by assumption)) | (refine Bl.trans ?_ (by assumption))))

theorem fenceBlockIn (a : Option Addr) (c : Nat) (l : List ByteArray) (k : ByteArray) (g : Nat) (w : World) (hl : Strs w a l) (hn : l.length ≤ 4611686018427387904) (hs : Asc l)
    (h1 : w.cell? ⟨g, 1, none⟩ = some (.slice a l.length c)) :
    Calls Tryd.prog 73 #[.pointer (some ⟨g, 0, none⟩), .string k] w (RB w (.int .i64 (cntLe l k : Int))) := by
  have hp := cntLe_part hs k
  have hF := fun W (hb : Bl w W) (g : Nat) (hg : W.cell? ⟨g, 0, none⟩ = some (.string k)) =>
    firstS 76 #[.pointer (some ⟨g, 0, none⟩)] a c l (fun m => slt k m) (cntLe l k) W cfBlock1 (hl.bl hb) hn
      (fun x w' _ hb' => block1 x k g w' (hb'.cell hg)) (cntLe_le l k) hp.1 hp.2
  have HF := Lib.hid hF
  have h1' := ((Bl.refl w).alloc (Obj.cells #[.string k] 9)).cell h1
  clear hF hp hs hl
  go_enter Tryd.func73, Tryd.ntmps73
  go_wp2_with fail
  refine (HF.out _ (by repeat (first | assumption | exact Bl.refl _ | apply Bl.drewN | apply Bl.drew | apply Bl.alloc | (refine Bl.dr ?_ (by assumption)) | (refine Bl.trans ?_ (by assumption)))) _ (by simp [go_sem])).mono ?_; rintro e w1 ⟨rfl, hb1⟩
  go_wp2_with fail
  go_ret
  exact RB.mk rfl (by repeat (first | assumption | exact Bl.refl _ | apply Bl.drewN | apply Bl.drew | apply Bl.alloc | (refine Bl.dr ?_ (by assumption)) | (refine Bl.trans ?_ (by assumption))))

end Go.Proofs.YtndcjgkgkpkklaaDoor

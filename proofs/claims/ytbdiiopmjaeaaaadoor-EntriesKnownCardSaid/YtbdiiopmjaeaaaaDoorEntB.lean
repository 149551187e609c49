
/-
  Contracts of the reference's CheckList, at, Find.
-/
import Derived.Test.YtbdiiopmjaeaaaaDoorEntA
namespace Go.Proofs.YtbdiiopmjaeaaaaDoor
open Go.RowKit
set_option linter.unusedSimpArgs false
set_option linter.unusedVariables false
set_option maxRecDepth 100000

theorem cmpS_geq' (a b : ByteArray) : (0 ≤ cmpS a b) ↔ slt a b = false := by
  unfold cmpS; cases h : slt a b
  · by_cases k : a.toList = b.toList <;> simp [k]
  · simp

set_option maxHeartbeats 1000000 in
theorem refCheckList (a : Option Addr) (c : Nat) (l : List Ent) (w : World) (hl : Ents w a l) (hn : l.length ≤ maxLen) :
    Calls Tryd.prog 28 #[.slice a l.length c] w (RB w (.tuple #[.int .i64 (clchk l).1, .int .i64 (clchk l).2])) := by
  unfold maxLen at hn
  unfold clchk
  by_cases h0 : 5000 < l.length
  · rw [if_pos h0]
    go_enter Tryd.func28, Tryd.ntmps28
    go_wp2
    go_ret2
    exact rb_tuple rfl rfl (by repeat (first | assumption | exact Bl.refl _ | apply Bl.drewN | apply Bl.drew | apply Bl.alloc | (refine Bl.dr ?_ (by assumption)) | (refine Bl.trans ?_ (by assumption))))
  · rw [if_neg h0]
    generalize hR : clGo 0 none l = R
    go_enter Tryd.func28, Tryd.ntmps28
    go_wp2
    go_loopg [4] l.length (fun g i wr => ∃ k : Nat, k ≤ l.length ∧ i = .int .i64 k ∧ R = clGo k (prevK l k) (l.drop k) ∧ Bl w wr ∧ g = l.length - k)
    case atStart => exact ⟨0, by omega, rfl, by rw [← hR]; rfl, Bl.refl _, rfl⟩
    case round =>
      obtain ⟨k, hk1, rfl, hc, hb, hg⟩ := hrel
      have H := Lib.hid hc
      have G := Lib.hid hg
      clear hc hg hR
      by_cases h1 : k < l.length
      · obtain ⟨b, off, rfl, hat⟩ := hl.get h1
        obtain ⟨x, hx⟩ : ∃ x, l[k]? = some x := ⟨_, List.getElem?_eq_getElem h1⟩
        obtain ⟨c0, c1, c2, c3⟩ := (hat k x hx).bl hb
        have hxo : x.ok := hl.ok x (List.mem_of_getElem? hx)
        have X := Lib.hid hx
        clear hx
        have hE := fun w => refEntCheck x w hxo
        unfold Ent.v at hE
        by_cases e1 : echk x = 0
        · have e1' : (echk x == 0) = true := by simp [e1]
          have e1'' : (echk x != 0) = false := by simp [e1]
          generalize hq : echk x = q at *
          have Hq := Lib.hid hq
          have HE := Lib.hid hE
          have E1 := Lib.hid e1
          clear hE hq e1
          by_cases hk0 : 0 < k
          · obtain ⟨y, hy⟩ : ∃ y, l[k - 1]? = some y := ⟨_, List.getElem?_eq_getElem (by omega)⟩
            have d0 := ((hat (k - 1) y hy).bl hb).key
            have hyo : y.ok := hl.ok y (List.mem_of_getElem? hy)
            have hO := fun w => refOrder y.key x.key w hyo.1 hxo.1
            have g := cmpS_geq' y.key x.key
            have hpk : prevK l k = some y.key := by simp [prevK, show k ≠ 0 by omega, hy]
            have Hp := Lib.hid hpk
            generalize cmpS y.key x.key = q2 at *
            have HO := Lib.hid hO
            clear hpk hy hO
            by_cases hlt : slt y.key x.key = true
            · have g' : ¬ 0 ≤ q2 := by rw [g, hlt]; simp
              have Hlt := Lib.hid hlt
              clear hlt g
              go_wp2_with fail
              refine (HE.out _).mono ?_; rintro e w1 ⟨rfl, hb1⟩
              have d0' : w1.cell? ⟨b, off + (k - 1) * 4, none⟩ = some (.string y.key) := hb1.cell d0
              have d1' : w1.cell? ⟨b, off + k * 4, none⟩ = some (.string x.key) := hb1.cell c0
              go_wp2_with fail
              go_quiet ((go_at_call 52; exact quietD (HO.out _)))
              go_wp2
              go_roundg (l.length - (k + 1))
              case rel =>
                refine ⟨k + 1, by omega, by go_num, ?_, (hb.trans hb1).drewN _, rfl⟩
                rw [H.out, clGo_drop X.out, Hq.out, E1.out, prevK_succ X.out, Hp.out]; simp [pbad, Hlt.out]
              case measure => rw [G.out]; omega
            · have g' : 0 ≤ q2 := by rw [g]; simpa using hlt
              have hlt1 : slt y.key x.key = false := by simpa using hlt
              have Hlt := Lib.hid hlt1
              clear hlt hlt1 g
              go_wp2_with fail
              refine (HE.out _).mono ?_; rintro e w1 ⟨rfl, hb1⟩
              have d0' : w1.cell? ⟨b, off + (k - 1) * 4, none⟩ = some (.string y.key) := hb1.cell d0
              have d1' : w1.cell? ⟨b, off + k * 4, none⟩ = some (.string x.key) := hb1.cell c0
              go_wp2_with fail
              go_quiet ((go_at_call 52; exact quietD (HO.out _)))
              go_wp2
              go_ret2
              refine rb_tuple (ival ?_) (ival ?_) ((hb.trans hb1).drewN _) <;> (rw [H.out, clGo_drop X.out, Hq.out, E1.out, Hp.out]; simp [pbad, Hlt.out])
          · have hpk : prevK l k = none := by simp [prevK, show k = 0 by omega]
            have Hp := Lib.hid hpk
            clear hpk
            go_wp2_with fail
            refine (HE.out _).mono ?_; rintro e w1 ⟨rfl, hb1⟩
            go_wp2_with fail
            go_quiet (fail)
            go_wp2
            go_roundg (l.length - (k + 1))
            case rel =>
              refine ⟨k + 1, by omega, by go_num, ?_, (hb.trans hb1).drewN _, rfl⟩
              rw [H.out, clGo_drop X.out, Hq.out, E1.out, prevK_succ X.out, Hp.out]; simp [pbad]
            case measure => rw [G.out]; omega
        · have e1' : (echk x == 0) = false := by simp [e1]
          have e1'' : (echk x != 0) = true := by simp [e1]
          generalize hq : echk x = q at *
          have Hq := Lib.hid hq
          have HE := Lib.hid hE
          have E1 := Lib.hid e1
          clear hE hq e1
          go_wp2_with fail
          refine (HE.out _).mono ?_; rintro e w1 ⟨rfl, hb1⟩
          go_wp2_with fail
          go_quiet (fail)
          go_wp2
          go_ret2
          refine rb_tuple (ival ?_) (ival ?_) ((hb.trans hb1).drewN _) <;> (rw [H.out, clGo_drop X.out, Hq.out]; simp [E1.out])
      · go_wp2
        go_ret2
        refine rb_tuple (ival ?_) (ival ?_) hb <;> (rw [H.out, List.drop_of_length_le (by omega)]; rfl)

/-- Where a key is, or -1. -/
def atGo : Nat → ByteArray → List Ent → Int
  | _, _, [] => -1
  | i, k, x :: r => if x.key.toList = k.toList then (i : Int) else atGo (i + 1) k r
theorem atGo_drop {l : List Ent} {k : Nat} {x : Ent} (h : l[k]? = some x) (s : ByteArray) : atGo k s (l.drop k) = if x.key.toList = s.toList then (k : Int) else atGo (k + 1) s (l.drop (k + 1)) := by
  obtain ⟨hk, rfl⟩ := List.getElem?_eq_some_iff.1 h
  rw [List.drop_eq_getElem_cons hk]; rfl

set_option maxHeartbeats 1000000 in
theorem refAt (a : Option Addr) (c : Nat) (l : List Ent) (s : ByteArray) (w : World) (hl : Ents w a l) (hn : l.length ≤ maxLen) :
    Calls Tryd.prog 51 #[.slice a l.length c, .string s] w (RD w (.int .i64 (atGo 0 s l))) := by
  unfold maxLen at hn
  generalize hR : atGo 0 s l = R
  go_enter Tryd.func51, Tryd.ntmps51
  go_wp2
  go_loopg [5] l.length (fun g i wr => ∃ k : Nat, k ≤ l.length ∧ i = .int .i64 k ∧ R = atGo k s (l.drop k) ∧ Dr w wr ∧ g = l.length - k)
  case atStart => exact ⟨0, by omega, rfl, by rw [← hR]; rfl, Dr.refl _, rfl⟩
  case round =>
    obtain ⟨k, hk1, rfl, hc, hd, hg⟩ := hrel
    have H := Lib.hid hc
    have G := Lib.hid hg
    clear hc hg hR
    by_cases h1 : k < l.length
    · obtain ⟨b, off, rfl, hat⟩ := hl.get h1
      obtain ⟨x, hx⟩ : ∃ x, l[k]? = some x := ⟨_, List.getElem?_eq_getElem h1⟩
      obtain ⟨c0, c1, c2, c3⟩ := (hat k x hx).bl (.of_dr hd)
      have X := Lib.hid hx
      clear hx c1 c2 c3
      by_cases h2 : x.key.toList = s.toList
      · have h2' : (x.key.toList == s.toList) = true := by simp [h2]
        have H2 := Lib.hid h2
        clear h2
        go_wp2
        go_ret
        exact RD.mk (ival (by rw [H.out, atGo_drop X.out]; simp [H2.out])) hd
      · have h2' : (x.key.toList == s.toList) = false := by simp [h2]
        have H2 := Lib.hid h2
        clear h2
        go_wp2
        go_roundg (l.length - (k + 1))
        case rel =>
          refine ⟨k + 1, by omega, by go_num, ?_, hd, rfl⟩
          rw [H.out, atGo_drop X.out]; simp [H2.out]
        case measure => rw [G.out]; omega
    · go_wp2
      go_ret
      exact RD.mk (ival (by rw [H.out, List.drop_of_length_le (by omega)]; rfl)) hd

def fnd (l : List Ent) (s : ByteArray) : Int × Int := if (clchk l).2 ≠ 0 then (0, (clchk l).2) else if kchk s ≠ 0 then (0, kchk s) else if atGo 0 s l < 0 then (0, 4) else (atGo 0 s l, 0)

set_option maxHeartbeats 1000000 in
theorem refFind (a : Option Addr) (c : Nat) (l : List Ent) (s : ByteArray) (w : World) (hl : Ents w a l) (hn : l.length ≤ maxLen) (hs : s.size ≤ maxLen) :
    Calls Tryd.prog 31 #[.slice a l.length c, .string s] w (RB w (.tuple #[.int .i64 (fnd l s).1, .int .i64 (fnd l s).2])) := by
  have h1 := fun w h => refCheckList a c l w h hn
  have h2 := fun w => refCheck s w hs
  have h3 := fun w h => refAt a c l s w h hn
  unfold maxLen at hn
  unfold fnd
  generalize (clchk l).1 = q0 at *
  generalize (clchk l).2 = q1 at *
  generalize kchk s = q2 at *
  generalize atGo 0 s l = q3 at *
  have H1 := Lib.hid h1
  have H2 := Lib.hid h2
  have H3 := Lib.hid h3
  have HL := Lib.hid hl
  clear h1 h2 h3 hl
  by_cases e1 : q1 = 0
  · by_cases e2 : q2 = 0
    · rw [if_neg (by simp [e1]), if_neg (by simp [e2])]
      have e1' : (q1 == 0) = true := by simp [e1]
      have e2' : (q2 != 0) = false := by simp [e2]
      clear e1 e2
      by_cases e3 : q3 < 0
      all_goals
        first | rw [if_pos e3] | rw [if_neg e3]
        go_enter Tryd.func31, Tryd.ntmps31
        go_wp2_with fail
        refine (H1.out _ HL.out).mono ?_; rintro e w1 ⟨rfl, hb⟩
        go_wp2_with fail
        refine (H2.out _).mono ?_; rintro e w1 ⟨rfl, hd1⟩
        go_wp2_with fail
        refine (H3.out _ ((HL.out.bl hb).bl (.of_dr hd1))).mono ?_; rintro e w1 ⟨rfl, hd2⟩
        go_wp2_with fail
        go_ret2
        exact rb_tuple rfl rfl (by repeat (first | assumption | exact Bl.refl _ | apply Bl.drewN | apply Bl.drew | apply Bl.alloc | (refine Bl.dr ?_ (by assumption)) | (refine Bl.trans ?_ (by assumption))))
    · rw [if_neg (by simp [e1]), if_pos e2]
      have e1' : (q1 == 0) = true := by simp [e1]
      have e2' : (q2 != 0) = true := by simp [e2]
      clear e1 e2
      go_enter Tryd.func31, Tryd.ntmps31
      go_wp2_with fail
      refine (H1.out _ HL.out).mono ?_; rintro e w1 ⟨rfl, hb⟩
      go_wp2_with fail
      refine (H2.out _).mono ?_; rintro e w1 ⟨rfl, hd1⟩
      go_wp2_with fail
      go_ret2
      exact rb_tuple rfl rfl (by repeat (first | assumption | exact Bl.refl _ | apply Bl.drewN | apply Bl.drew | apply Bl.alloc | (refine Bl.dr ?_ (by assumption)) | (refine Bl.trans ?_ (by assumption))))
  · rw [if_pos e1]
    have e1' : (q1 == 0) = false := by simp [e1]
    have e2' : (q1 != 0) = true := by simp [e1]
    clear e1
    go_enter Tryd.func31, Tryd.ntmps31
    go_wp2_with fail
    refine (H1.out _ HL.out).mono ?_; rintro e w1 ⟨rfl, hb⟩
    go_wp2_with fail
    go_ret2
    exact rb_tuple rfl rfl (by repeat (first | assumption | exact Bl.refl _ | apply Bl.drewN | apply Bl.drew | apply Bl.alloc | (refine Bl.dr ?_ (by assumption)) | (refine Bl.trans ?_ (by assumption))))
end Go.Proofs.YtbdiiopmjaeaaaaDoor

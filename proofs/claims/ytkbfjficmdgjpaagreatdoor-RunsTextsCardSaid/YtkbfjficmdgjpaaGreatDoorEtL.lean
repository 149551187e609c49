
/-
  Entries: what texts of lists need, without the sorting: all, Same, rows of two spellings.
-/
import Derived.Test.YtkbfjficmdgjpaaGreatDoorEpA
import Derived.Test.YtkbfjficmdgjpaaGreatDoorOwn
namespace Go.Proofs.YtkbfjficmdgjpaaGreatDoor
open Go.RowKit Go.Sort
set_option linter.unusedSimpArgs false
set_option linter.unusedVariables false
set_option maxRecDepth 100000

theorem beq_key {x y : ByteArray} (h : x = y) : (x.toList == y.toList) = true := by rw [beq_iff_eq, h]
theorem bne_key {x y : ByteArray} (h : ¬ x = y) : (x.toList == y.toList) = false := by rw [beq_eq_false_iff_ne]; exact fun e => h (str_ext e)
theorem own_cast {w : World} {B : Nat} {e : TypeId} {sz : Nat} {v : Value} {n m : Nat} {xs ys : List Value} (h : w.ownsRow B e sz v n xs) (h1 : n = m) (h2 : xs = ys) : w.ownsRow B e sz v m ys := h1 ▸ h2 ▸ h
theorem eall_iff (l : List Ent) : eall l = 0 ↔ ∀ x ∈ l, echk x = 0 := by
  induction l with
  | nil => simp [eall]
  | cons x r ih =>
    unfold eall
    simp only [List.mem_cons, forall_eq_or_imp]
    split
    · rename_i h; exact ⟨fun k => absurd k h, fun k => absurd k.1 h⟩
    · rename_i h; rw [ih]; exact ⟨fun k => ⟨by omega, k⟩, fun k => k.2⟩
/-! ### all -/
def rall (l : List Ent) : Int := if 5000 < l.length then 3 else eall l
set_option maxHeartbeats 1000000 in
theorem refAllE (a : Option Addr) (c : Nat) (l : List Ent) (w : World) (hl : Ents w a l) (hn : l.length ≤ maxLen) : Calls Tryz.prog 41 #[.slice a l.length c] w (RB w (.int .i64 (rall l))) := by
  unfold maxLen at hn
  unfold rall
  by_cases h5 : 5000 < l.length
  · rw [if_pos h5]
    have i1 : (5000 : Int) < (l.length : Int) := by omega
    clear hl h5
    go_enter Tryz.func41, Tryz.ntmps41
    go_wp2_with fail
    go_ret
    exact RB.mk rfl (by repeat (first | assumption | exact Bl.refl _ | apply Bl.drewN | apply Bl.drew | apply Bl.alloc | (refine Bl.dr ?_ (by assumption)) | (refine Bl.trans ?_ (by assumption))))
  · rw [if_neg h5]
    have i1 : ¬ (5000 : Int) < (l.length : Int) := by omega
    have HL := Lib.hid hl
    obtain ⟨R, hR⟩ : ∃ R, eall l = R := ⟨_, rfl⟩
    rw [hR]
    have HR := Lib.hid hR
    clear hl hR h5
    go_enter Tryz.func41, Tryz.ntmps41
    go_wp2_with fail
    go_loopg [3] l.length (fun g i wr => ∃ k : Nat, i = .int .i64 k ∧ Hid (k ≤ l.length ∧ R = eall (l.drop k) ∧ g = l.length - k) ∧ Bl w wr)
    case atStart => exact ⟨0, rfl, Lib.hid ⟨by omega, by rw [← HR.out]; rfl, rfl⟩, Bl.refl _⟩
    case round =>
      obtain ⟨k, rfl, H, hb⟩ := hrel
      by_cases h1 : k < l.length
      · obtain ⟨b, off, rfl, hat⟩ := HL.out.get h1
        obtain ⟨x, hx⟩ : ∃ x, l[k]? = some x := ⟨_, List.getElem?_eq_getElem h1⟩
        obtain ⟨c0, c1, c2, c3⟩ := (hat k x hx).bl hb
        have hxo : x.ok := HL.out.ok x (List.mem_of_getElem? hx)
        have X := Lib.hid hx
        have hE := fun w => refEntCheck x w hxo
        unfold Ent.v at hE
        obtain ⟨q, hq⟩ : ∃ q, echk x = q := ⟨_, rfl⟩
        rw [hq] at hE
        have Hq := Lib.hid hq
        have HE := Lib.hid hE
        have HMs := Lib.hid (show l.length - (k + 1) < gk by have := H.out; omega)
        clear hx hE hq hat hxo
        by_cases e1 : q = 0
        · subst e1
          go_wp2_with fail
          refine (HE.out _).mono ?_; rintro e w1 ⟨rfl, hb1⟩
          go_wp2_with fail
          go_roundg (l.length - (k + 1))
          case rel => exact ⟨k + 1, by go_num, Lib.hid ⟨by omega, by rw [H.out.2.1, eall_drop X.out, Hq.out]; simp, rfl⟩, hb.trans hb1⟩
          case measure => exact HMs.out
        · have e1' : (q != 0) = true := by rw [bne_iff_ne]; exact e1
          have E1 := Lib.hid e1
          clear e1
          go_wp2_with fail
          refine (HE.out _).mono ?_; rintro e w1 ⟨rfl, hb1⟩
          go_wp2_with fail
          go_ret
          exact RB.mk (ival (by rw [H.out.2.1, eall_drop X.out, Hq.out, if_pos E1.out])) (hb.trans hb1)
      · obtain rfl : k = l.length := by have := H.out; omega
        have hr := H.out.2.1
        rw [List.drop_length] at hr
        subst hr
        go_wp2_with fail
        go_ret
        exact RB.mk rfl hb
/-! ### Same -/
instance : DecidableEq Ent := fun x y =>
  if h : x.key = y.key ∧ x.val = y.val ∧ x.dead = y.dead ∧ x.seq = y.seq then isTrue (by cases x; cases y; simp_all) else isFalse (by intro e; subst e; exact h ⟨rfl, rfl, rfl, rfl⟩)
theorem drop_cmp {l m : List Ent} {k : Nat} {x y : Ent} (hx : l[k]? = some x) (hy : m[k]? = some y) : (l.drop k = m.drop k) ↔ (x = y ∧ l.drop (k + 1) = m.drop (k + 1)) := by
  obtain ⟨h1, rfl⟩ := List.getElem?_eq_some_iff.1 hx
  obtain ⟨h2, rfl⟩ := List.getElem?_eq_some_iff.1 hy
  rw [List.drop_eq_getElem_cons h1, List.drop_eq_getElem_cons h2]
  exact List.cons_eq_cons
theorem ent_parts {x y : Ent} (h : x ≠ y) : (x.key.toList == y.key.toList) = false ∨ ((x.key.toList == y.key.toList) = true ∧ (x.val.toList == y.val.toList) = false) ∨ ((x.key.toList == y.key.toList) = true ∧ (x.val.toList == y.val.toList) = true ∧ (x.dead == y.dead) = false) ∨ ((x.key.toList == y.key.toList) = true ∧ (x.val.toList == y.val.toList) = true ∧ (x.dead == y.dead) = true ∧ (x.seq == y.seq) = false) := by
  by_cases h1 : x.key = y.key
  · by_cases h2 : x.val = y.val
    · by_cases h3 : x.dead = y.dead
      · refine .inr (.inr (.inr ⟨beq_key h1, beq_key h2, by simp [h3], ?_⟩))
        rw [beq_eq_false_iff_ne]
        intro h4
        apply h
        cases x; cases y; simp_all
      · exact .inr (.inr (.inl ⟨beq_key h1, beq_key h2, by simp [h3]⟩))
    · exact .inr (.inl ⟨beq_key h1, bne_key h2⟩)
  · exact .inl (bne_key h1)
set_option maxHeartbeats 4000000 in
theorem refSameE (a b : Option Addr) (c d : Nat) (l m : List Ent) (w : World) (hl : Ents w a l) (hm : Ents w b m) (hn : l.length ≤ maxLen) (hn2 : m.length ≤ maxLen) :
    Calls Tryz.prog 28 #[.slice a l.length c, .slice b m.length d] w (RB w (.bool (decide (l = m)))) := by
  unfold maxLen at hn hn2
  by_cases hlen : l.length = m.length
  · have i0 : ((l.length : Int) != (m.length : Int)) = false := by rw [bne_eq_false_iff_eq]; omega
    have HL := Lib.hid hl
    have HM := Lib.hid hm
    have HLen := Lib.hid hlen
    clear hl hm hlen
    go_enter Tryz.func28, Tryz.ntmps28
    go_wp2_with fail
    go_loopg [5] l.length (fun g i wr => ∃ k : Nat, i = .int .i64 k ∧ Hid ((l = m → l.drop k = m.drop k) ∧ (l.drop k = m.drop k → l = m) ∧ k ≤ l.length ∧ g = l.length - k) ∧ Bl w wr)
    case atStart => exact ⟨0, rfl, Lib.hid ⟨fun h => by rw [h], fun h => by simpa using h, by omega, rfl⟩, Bl.refl _⟩
    case round =>
      obtain ⟨k, rfl, H, hb⟩ := hrel
      by_cases hk : k < l.length
      · have hlen := HLen.out
        obtain ⟨g1, o1, rfl, hat1⟩ := HL.out.get hk
        obtain ⟨g2, o2, rfl, hat2⟩ := HM.out.get (k := k) (by omega)
        obtain ⟨x, hx⟩ : ∃ x, l[k]? = some x := ⟨_, List.getElem?_eq_getElem hk⟩
        obtain ⟨y, hy⟩ : ∃ y, m[k]? = some y := ⟨_, List.getElem?_eq_getElem (by omega)⟩
        obtain ⟨x0, x1, x2, x3⟩ := (hat1 k x hx).bl hb
        obtain ⟨y0, y1, y2, y3⟩ := (hat2 k y hy).bl hb
        have hk2 : k < m.length := by omega
        have HX := Lib.hid hx
        have HY := Lib.hid hy
        have HG := Lib.hid (show l.length - (k + 1) < gk by have := H.out.2.2.2; omega)
        clear hat1 hat2 hx hy hlen
        by_cases he : x = y
        · subst he
          go_wp2_with fail
          go_quiet (fail)
          go_wp2_with fail
          go_roundg (l.length - (k + 1))
          case rel =>
            have hdr := drop_cmp HX.out HY.out
            refine ⟨k + 1, by go_num, Lib.hid ⟨fun h => (hdr.1 (H.out.1 h)).2, fun h => H.out.2.1 (hdr.2 ⟨rfl, h⟩), by omega, rfl⟩, (by repeat (first | assumption | exact Bl.refl _ | apply Bl.drewN | apply Bl.drew | apply Bl.alloc | (refine Bl.dr ?_ (by assumption)) | (refine Bl.trans ?_ (by assumption))))⟩
          case measure => exact HG.out
        · have HNe := Lib.hid he
          rcases ent_parts he with p0 | ⟨p0, p1⟩ | ⟨p0, p1, p2⟩ | ⟨p0, p1, p2, p3⟩
          · clear he
            go_wp2_with fail
            go_quiet (fail)
            go_wp2_with fail
            go_ret
            exact RB.mk (bval (decide_eq_false fun e => HNe.out ((drop_cmp HX.out HY.out).1 (H.out.1 e)).1).symm) (by repeat (first | assumption | exact Bl.refl _ | apply Bl.drewN | apply Bl.drew | apply Bl.alloc | (refine Bl.dr ?_ (by assumption)) | (refine Bl.trans ?_ (by assumption))))
          · clear he
            go_wp2_with fail
            go_quiet (fail)
            go_wp2_with fail
            go_ret
            exact RB.mk (bval (decide_eq_false fun e => HNe.out ((drop_cmp HX.out HY.out).1 (H.out.1 e)).1).symm) (by repeat (first | assumption | exact Bl.refl _ | apply Bl.drewN | apply Bl.drew | apply Bl.alloc | (refine Bl.dr ?_ (by assumption)) | (refine Bl.trans ?_ (by assumption))))
          · clear he
            go_wp2_with fail
            go_quiet (fail)
            go_wp2_with fail
            go_ret
            exact RB.mk (bval (decide_eq_false fun e => HNe.out ((drop_cmp HX.out HY.out).1 (H.out.1 e)).1).symm) (by repeat (first | assumption | exact Bl.refl _ | apply Bl.drewN | apply Bl.drew | apply Bl.alloc | (refine Bl.dr ?_ (by assumption)) | (refine Bl.trans ?_ (by assumption))))
          · clear he
            go_wp2_with fail
            go_quiet (fail)
            go_wp2_with fail
            go_ret
            exact RB.mk (bval (decide_eq_false fun e => HNe.out ((drop_cmp HX.out HY.out).1 (H.out.1 e)).1).symm) (by repeat (first | assumption | exact Bl.refl _ | apply Bl.drewN | apply Bl.drew | apply Bl.alloc | (refine Bl.dr ?_ (by assumption)) | (refine Bl.trans ?_ (by assumption))))
      · have hd : l.drop k = m.drop k := by
          rw [List.drop_of_length_le (by omega), List.drop_of_length_le (by have := HLen.out; omega)]
        have he := H.out.2.1 hd
        have HE := Lib.hid he
        have hk' : ¬ (k : Int) < (l.length : Int) := by omega
        clear he hd H
        go_wp2_with fail
        go_ret
        exact RB.mk (bval (decide_eq_true HE.out).symm) hb
  · have i0 : ((l.length : Int) != (m.length : Int)) = true := by rw [bne_iff_ne]; omega
    have HLen := Lib.hid hlen
    clear hl hm hlen
    go_enter Tryz.func28, Tryz.ntmps28
    go_wp2_with fail
    go_ret
    exact RB.mk (bval (decide_eq_false fun e => HLen.out (by rw [e])).symm) (by repeat (first | assumption | exact Bl.refl _ | apply Bl.drewN | apply Bl.drew | apply Bl.alloc | (refine Bl.dr ?_ (by assumption)) | (refine Bl.trans ?_ (by assumption))))
end Go.Proofs.YtkbfjficmdgjpaaGreatDoor

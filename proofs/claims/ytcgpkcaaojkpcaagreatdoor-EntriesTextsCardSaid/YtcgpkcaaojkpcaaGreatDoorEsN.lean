
/-
  The reference's Compare and Wins; Same; the law's examples.
-/
import Derived.Test.YtcgpkcaaojkpcaaGreatDoorEsM
namespace Go.Proofs.YtcgpkcaaojkpcaaGreatDoor
open Go.RowKit Go.Sort
set_option linter.unusedSimpArgs false
set_option linter.unusedVariables false
set_option maxRecDepth 100000

theorem e2_is (x y : Ent) : e2 x y = if echk x ≠ 0 then echk x else echk y := by
  unfold e2 eall eall eall
  split
  · rfl
  · by_cases h : echk y = 0
    · rw [if_neg (by simp [h]), h]
    · rw [if_pos h]
/-! ### Same -/
instance : DecidableEq Ent := fun x y =>
  if h : x.key = y.key ∧ x.val = y.val ∧ x.dead = y.dead ∧ x.seq = y.seq then isTrue (by cases x; cases y; simp_all) else isFalse (by intro e; subst e; exact h ⟨rfl, rfl, rfl, rfl⟩)
theorem drop_cmp {l m : List Ent} {k : Nat} {x y : Ent} (hx : l[k]? = some x) (hy : m[k]? = some y) : (l.drop k = m.drop k) ↔ (x = y ∧ l.drop (k + 1) = m.drop (k + 1)) := by
  obtain ⟨h1, rfl⟩ := List.getElem?_eq_some_iff.1 hx
  obtain ⟨h2, rfl⟩ := List.getElem?_eq_some_iff.1 hy
  rw [List.drop_eq_getElem_cons h1, List.drop_eq_getElem_cons h2]
  exact List.cons_eq_cons
theorem ent_parts {x y : Ent} (h : x ≠ y) : (x.key.toList == y.key.toList) = false ∨ ((x.key.toList == y.key.toList) = true ∧ (x.val.toList == y.val.toList) = false) ∨ ((x.key.toList == y.key.toList) = true ∧ (x.val.toList == y.val.toList) = true ∧ (x.dead == y.dead) = false) ∨ ((x.key.toList == y.key.toList) = true ∧ (x.val.toList == y.val.toList) = true ∧ (x.dead == y.dead) = true ∧ (x.seq == y.seq) = false) := by
  by_cases h1 : x.key = y.key
  · by_cases h2 : x.val = y.val
    · by_cases h3 : x.dead = y.dead
      · refine .inr (.inr (.inr ⟨beq_key h1, beq_key h2, by simp [h3], ?_⟩))
        rw [beq_eq_false_iff_ne]
        intro h4
        apply h
        cases x; cases y; simp_all
      · exact .inr (.inr (.inl ⟨beq_key h1, beq_key h2, by simp [h3]⟩))
    · exact .inr (.inl ⟨beq_key h1, bne_key h2⟩)
  · exact .inl (bne_key h1)
set_option maxHeartbeats 4000000 in
theorem refSameE (a b : Option Addr) (c d : Nat) (l m : List Ent) (w : World) (hl : Ents w a l) (hm : Ents w b m) (hn : l.length ≤ maxLen) (hn2 : m.length ≤ maxLen) :
    Calls Tryz.prog 10 #[.slice a l.length c, .slice b m.length d] w (RB w (.bool (decide (l = m)))) := by
  unfold maxLen at hn hn2
  by_cases hlen : l.length = m.length
  · have i0 : ((l.length : Int) != (m.length : Int)) = false := by rw [bne_eq_false_iff_eq]; omega
    have HL := Lib.hid hl
    have HM := Lib.hid hm
    have HLen := Lib.hid hlen
    clear hl hm hlen
    go_enter Tryz.func10, Tryz.ntmps10
    go_wp2_with fail
    go_loopg [5] l.length (fun g i wr => ∃ k : Nat, i = .int .i64 k ∧ Hid ((l = m → l.drop k = m.drop k) ∧ (l.drop k = m.drop k → l = m) ∧ k ≤ l.length ∧ g = l.length - k) ∧ Bl w wr)
    case atStart => exact ⟨0, rfl, Lib.hid ⟨fun h => by rw [h], fun h => by simpa using h, by omega, rfl⟩, Bl.refl _⟩
    case round =>
      obtain ⟨k, rfl, H, hb⟩ := hrel
      by_cases hk : k < l.length
      · have hlen := HLen.out
        obtain ⟨g1, o1, rfl, hat1⟩ := HL.out.get hk
        obtain ⟨g2, o2, rfl, hat2⟩ := HM.out.get (k := k) (by omega)
        obtain ⟨x, hx⟩ : ∃ x, l[k]? = some x := ⟨_, List.getElem?_eq_getElem hk⟩
        obtain ⟨y, hy⟩ : ∃ y, m[k]? = some y := ⟨_, List.getElem?_eq_getElem (by omega)⟩
        obtain ⟨x0, x1, x2, x3⟩ := (hat1 k x hx).bl hb
        obtain ⟨y0, y1, y2, y3⟩ := (hat2 k y hy).bl hb
        have hk2 : k < m.length := by omega
        have HX := Lib.hid hx
        have HY := Lib.hid hy
        have HG := Lib.hid (show l.length - (k + 1) < gk by have := H.out.2.2.2; omega)
        clear hat1 hat2 hx hy hlen
        by_cases he : x = y
        · subst he
          go_wp2_with fail
          go_quiet (fail)
          go_wp2_with fail
          go_roundg (l.length - (k + 1))
          case rel =>
            have hdr := drop_cmp HX.out HY.out
            refine ⟨k + 1, by go_num, Lib.hid ⟨fun h => (hdr.1 (H.out.1 h)).2, fun h => H.out.2.1 (hdr.2 ⟨rfl, h⟩), by omega, rfl⟩, (by repeat (first | assumption | exact Bl.refl _ | apply Bl.drewN | apply Bl.drew | apply Bl.alloc | (refine Bl.dr ?_ (by assumption)) | (refine Bl.trans ?_ (by assumption))))⟩
          case measure => exact HG.out
        · have HNe := Lib.hid he
          rcases ent_parts he with p0 | ⟨p0, p1⟩ | ⟨p0, p1, p2⟩ | ⟨p0, p1, p2, p3⟩
          · clear he
            go_wp2_with fail
            go_quiet (fail)
            go_wp2_with fail
            go_ret
            exact RB.mk (bval (decide_eq_false fun e => HNe.out ((drop_cmp HX.out HY.out).1 (H.out.1 e)).1).symm) (by repeat (first | assumption | exact Bl.refl _ | apply Bl.drewN | apply Bl.drew | apply Bl.alloc | (refine Bl.dr ?_ (by assumption)) | (refine Bl.trans ?_ (by assumption))))
          · clear he
            go_wp2_with fail
            go_quiet (fail)
            go_wp2_with fail
            go_ret
            exact RB.mk (bval (decide_eq_false fun e => HNe.out ((drop_cmp HX.out HY.out).1 (H.out.1 e)).1).symm) (by repeat (first | assumption | exact Bl.refl _ | apply Bl.drewN | apply Bl.drew | apply Bl.alloc | (refine Bl.dr ?_ (by assumption)) | (refine Bl.trans ?_ (by assumption))))
          · clear he
            go_wp2_with fail
            go_quiet (fail)
            go_wp2_with fail
            go_ret
            exact RB.mk (bval (decide_eq_false fun e => HNe.out ((drop_cmp HX.out HY.out).1 (H.out.1 e)).1).symm) (by repeat (first | assumption | exact Bl.refl _ | apply Bl.drewN | apply Bl.drew | apply Bl.alloc | (refine Bl.dr ?_ (by assumption)) | (refine Bl.trans ?_ (by assumption))))
          · clear he
            go_wp2_with fail
            go_quiet (fail)
            go_wp2_with fail
            go_ret
            exact RB.mk (bval (decide_eq_false fun e => HNe.out ((drop_cmp HX.out HY.out).1 (H.out.1 e)).1).symm) (by repeat (first | assumption | exact Bl.refl _ | apply Bl.drewN | apply Bl.drew | apply Bl.alloc | (refine Bl.dr ?_ (by assumption)) | (refine Bl.trans ?_ (by assumption))))
      · have hd : l.drop k = m.drop k := by
          rw [List.drop_of_length_le (by omega), List.drop_of_length_le (by have := HLen.out; omega)]
        have he := H.out.2.1 hd
        have HE := Lib.hid he
        have hk' : ¬ (k : Int) < (l.length : Int) := by omega
        clear he hd H
        go_wp2_with fail
        go_ret
        exact RB.mk (bval (decide_eq_true HE.out).symm) hb
  · have i0 : ((l.length : Int) != (m.length : Int)) = true := by rw [bne_iff_ne]; omega
    have HLen := Lib.hid hlen
    clear hl hm hlen
    go_enter Tryz.func10, Tryz.ntmps10
    go_wp2_with fail
    go_ret
    exact RB.mk (bval (decide_eq_false fun e => HLen.out (by rw [e])).symm) (by repeat (first | assumption | exact Bl.refl _ | apply Bl.drewN | apply Bl.drew | apply Bl.alloc | (refine Bl.dr ?_ (by assumption)) | (refine Bl.trans ?_ (by assumption))))
/-! ### The examples -/
def xA : Ent := ⟨⟨#[97]⟩, ⟨#[49]⟩, false, 5⟩
def xB : Ent := ⟨⟨#[97]⟩, ⟨#[]⟩, true, 7⟩
def xC : Ent := ⟨⟨#[98]⟩, ⟨#[50]⟩, false, 6⟩
theorem lawA (w : World) : Calls Tryz.prog 13 #[] w (RB w xA.v) := by
  unfold xA Ent.v
  go_enter Tryz.func13, Tryz.ntmps13
  go_wp2_with fail
  
  refine bodyPost_ret (v := .agg #[.string ⟨#[97]⟩, .string ⟨#[49]⟩, .bool false, .int .i64 5]) (by simp [results, Tryz.results13, go_sem, *]) rfl ?_
  exact ⟨rfl, (by repeat (first | assumption | exact Bl.refl _ | apply Bl.drewN | apply Bl.drew | apply Bl.alloc | (refine Bl.setCell ?_ _ (by first | (simp; done) | (simp; omega)) _) | (refine Bl.dr ?_ (by assumption)) | (refine Bl.trans ?_ (by assumption))))⟩
theorem lawB (w : World) : Calls Tryz.prog 14 #[] w (RB w xB.v) := by
  unfold xB Ent.v
  go_enter Tryz.func14, Tryz.ntmps14
  go_wp2_with fail
  
  refine bodyPost_ret (v := .agg #[.string ⟨#[97]⟩, .string ⟨#[]⟩, .bool true, .int .i64 7]) (by simp [results, Tryz.results14, go_sem, *]) rfl ?_
  exact ⟨rfl, (by repeat (first | assumption | exact Bl.refl _ | apply Bl.drewN | apply Bl.drew | apply Bl.alloc | (refine Bl.setCell ?_ _ (by first | (simp; done) | (simp; omega)) _) | (refine Bl.dr ?_ (by assumption)) | (refine Bl.trans ?_ (by assumption))))⟩
theorem lawC (w : World) : Calls Tryz.prog 17 #[] w (RB w xC.v) := by
  unfold xC Ent.v
  go_enter Tryz.func17, Tryz.ntmps17
  go_wp2_with fail
  
  refine bodyPost_ret (v := .agg #[.string ⟨#[98]⟩, .string ⟨#[50]⟩, .bool false, .int .i64 6]) (by simp [results, Tryz.results17, go_sem, *]) rfl ?_
  exact ⟨rfl, (by repeat (first | assumption | exact Bl.refl _ | apply Bl.drewN | apply Bl.drew | apply Bl.alloc | (refine Bl.setCell ?_ _ (by first | (simp; done) | (simp; omega)) _) | (refine Bl.dr ?_ (by assumption)) | (refine Bl.trans ?_ (by assumption))))⟩
end Go.Proofs.YtcgpkcaaojkpcaaGreatDoor

/-
  Contracts of the law's own helpers: Same of equal fences, far, wide, example, awake.
-/
import Derived.Test.YteafcbpogomioaaFnN
namespace Go.Proofs.Yteafcbpogomioaa
open Go.RowKit
set_option linter.unusedSimpArgs false
set_option linter.unusedVariables false

set_option maxHeartbeats 1000000 in
theorem refSame (a : Option Addr) (c : Nat) (a2 : Option Addr) (c2 : Nat) (f : Fnc) (w : World) (hf : Strs w a f.marks) (hg : Strs w a2 f.marks) (hn : f.marks.length ≤ 5010) :
    Calls Try.prog 17 #[f.v a c, f.v a2 c2] w (RB w (.bool true)) := by
  obtain ⟨s, m⟩ := f
  simp only at hf hg hn
  unfold Fnc.v
  simp only
  go_enter Try.func17, Try.ntmps17
  go_wp2_with fail
  go_loopg [5] m.length (fun g i wr => ∃ k : Nat, k ≤ m.length ∧ i = .int .i64 k ∧ Dr ((w.alloc (Obj.cells #[Value.int IntKind.i64 s, Value.slice a m.length c] 25)).alloc (Obj.cells #[Value.int IntKind.i64 s, Value.slice a2 m.length c2] 25)) wr ∧ g = m.length - k)
  case atStart => exact ⟨0, by omega, rfl, Dr.refl _, rfl⟩
  case round =>
    obtain ⟨k, hk1, rfl, hd, hg'⟩ := hrel
    have G := Lib.hid hg'
    have hb : Bl w wr := (((Bl.refl w).alloc _).alloc _).dr hd
    have c0 : wr.cell? ⟨w.heap.size, 1, none⟩ = some (.slice a m.length c) := by rw [hd.cell]; simp [go_sem]
    have c1 : wr.cell? ⟨w.heap.size + 1, 1, none⟩ = some (.slice a2 m.length c2) := by rw [hd.cell]; simp [go_sem]
    clear hg'
    by_cases h2 : k < m.length
    · obtain ⟨b, off, rfl, hat⟩ := hf.get h2
      obtain ⟨b2, off2, rfl, hat2⟩ := hg.get h2
      obtain ⟨x, hx⟩ : ∃ x, m[k]? = some x := ⟨_, List.getElem?_eq_getElem h2⟩
      have d0 := hb.cell (hat k x hx)
      have d1 := hb.cell (hat2 k x hx)
      have HF := Lib.hid hf
      have HG := Lib.hid hg
      clear hat hat2 hx hf hg
      go_wp2_with fail
      go_quiet (fail)
      go_wp2_with fail
      go_roundg (m.length - (k + 1))
      case rel => exact ⟨k + 1, by omega, by go_num, (by repeat (first | assumption | exact Dr.refl _ | apply Dr.drewN | apply Dr.drew | (refine Dr.trans ?_ (by assumption)))), rfl⟩
      case measure => rw [G.out]; omega
    · go_wp2_with fail
      go_ret
      exact RB.mk rfl (by repeat (first | assumption | exact Bl.refl _ | apply Bl.drewN | apply Bl.drew | apply Bl.alloc | (refine Bl.dr ?_ (by assumption)) | (refine Bl.trans ?_ (by assumption))))

/-- A bool of which one side is known. -/
def BoolIf (P : Prop) (w : World) (e : Ending) (w' : World) : Prop := ∃ b, e = .returned (.bool b) ∧ (b = false → P) ∧ Bl w w'
theorem BoolIf.mk {P : Prop} {w w' : World} {b : Bool} (h : b = false → P) (hb : Bl w w') : BoolIf P w (.returned (.bool b)) w' := ⟨b, rfl, h, hb⟩

set_option maxHeartbeats 1000000 in
theorem lawFar (a : Option Addr) (c : Nat) (l : List Ent) (w : World) (hl : Ents w a l) (hn : l.length ≤ maxLen) :
    Calls Try.prog 10 #[.slice a l.length c] w (BoolIf (l.length ≤ 5010) w) := by
  unfold maxLen at hn
  by_cases h : 80 < l.length
  · by_cases h1 : l.length ≤ 5000
    · go_enter Try.func10, Try.ntmps10
      go_wp2_with fail
      go_ret
      exact BoolIf.mk (by omega) (by repeat (first | assumption | exact Bl.refl _ | apply Bl.drewN | apply Bl.drew | apply Bl.alloc | (refine Bl.dr ?_ (by assumption)) | (refine Bl.trans ?_ (by assumption))))
    · go_enter Try.func10, Try.ntmps10
      go_wp2_with fail
      go_ret
      refine BoolIf.mk ?_ (by repeat (first | assumption | exact Bl.refl _ | apply Bl.drewN | apply Bl.drew | apply Bl.alloc | (refine Bl.dr ?_ (by assumption)) | (refine Bl.trans ?_ (by assumption))))
      intro hb; simp at hb; omega
  · go_enter Try.func10, Try.ntmps10
    go_wp2_with fail
    go_loopg [3] l.length (fun g i wr => ∃ k : Nat, k ≤ l.length ∧ i = .int .i64 k ∧ Dr w wr ∧ g = l.length - k)
    case atStart => exact ⟨0, by omega, rfl, Dr.refl _, rfl⟩
    case round =>
      obtain ⟨k, hk1, rfl, hd, hg⟩ := hrel
      have G := Lib.hid hg
      clear hg
      by_cases h2 : k < l.length
      · obtain ⟨b, off, rfl, hat⟩ := hl.get h2
        obtain ⟨x, hx⟩ : ∃ x, l[k]? = some x := ⟨_, List.getElem?_eq_getElem h2⟩
        obtain ⟨c0, c1, -, -⟩ := (hat k x hx).bl (.of_dr hd)
        obtain ⟨o1, o2, -, -⟩ := hl.ok x (List.mem_of_getElem? hx)
        have HL := Lib.hid hl
        unfold maxLen at o1 o2
        clear hat hx hl
        by_cases p1 : 100 < x.key.size
        · go_wp2_with fail
          go_ret
          exact BoolIf.mk (by simp) (by repeat (first | assumption | exact Bl.refl _ | apply Bl.drewN | apply Bl.drew | apply Bl.alloc | (refine Bl.dr ?_ (by assumption)) | (refine Bl.trans ?_ (by assumption))))
        · by_cases p2 : 100 < x.val.size
          · go_wp2_with fail
            go_ret
            exact BoolIf.mk (by simp) (by repeat (first | assumption | exact Bl.refl _ | apply Bl.drewN | apply Bl.drew | apply Bl.alloc | (refine Bl.dr ?_ (by assumption)) | (refine Bl.trans ?_ (by assumption))))
          · go_wp2_with fail
            go_roundg (l.length - (k + 1))
            case rel => exact ⟨k + 1, by omega, by go_num, hd, rfl⟩
            case measure => rw [G.out]; omega
      · go_wp2_with fail
        go_ret
        exact BoolIf.mk (by omega) (by repeat (first | assumption | exact Bl.refl _ | apply Bl.drewN | apply Bl.drew | apply Bl.alloc | (refine Bl.dr ?_ (by assumption)) | (refine Bl.trans ?_ (by assumption))))

set_option maxRecDepth 100000 in
set_option maxHeartbeats 1000000 in
theorem lawWide (a : Option Addr) (c : Nat) (f : Fnc) (w : World) (hf : Strs w a f.marks) (hn : f.marks.length ≤ maxLen) :
    Calls Try.prog 11 #[f.v a c] w (BoolIf (f.marks.length ≤ 5010) w) := by
  unfold maxLen at hn
  obtain ⟨s, m⟩ := f
  simp only at hf hn ⊢
  unfold Fnc.v
  simp only
  by_cases h : 80 < m.length
  · by_cases h1 : (m.length : Int) < 5000
    · go_enter Try.func11, Try.ntmps11
      go_wp2_with fail
      go_ret
      exact BoolIf.mk (by omega) (by repeat (first | assumption | exact Bl.refl _ | apply Bl.drewN | apply Bl.drew | apply Bl.alloc | (refine Bl.dr ?_ (by assumption)) | (refine Bl.trans ?_ (by assumption))))
    · go_enter Try.func11, Try.ntmps11
      go_wp2_with fail
      go_ret
      refine BoolIf.mk ?_ (by repeat (first | assumption | exact Bl.refl _ | apply Bl.drewN | apply Bl.drew | apply Bl.alloc | (refine Bl.dr ?_ (by assumption)) | (refine Bl.trans ?_ (by assumption))))
      intro hb; simp at hb; omega
  · go_enter Try.func11, Try.ntmps11
    go_wp2_with fail
    go_loopg [3] m.length (fun g i wr => ∃ k : Nat, k ≤ m.length ∧ i = .int .i64 k ∧ Dr (w.alloc (Obj.cells #[Value.int IntKind.i64 s, Value.slice a m.length c] 25)) wr ∧ g = m.length - k)
    case atStart => exact ⟨0, by omega, rfl, Dr.refl _, rfl⟩
    case round =>
      obtain ⟨k, hk1, rfl, hd, hg⟩ := hrel
      have G := Lib.hid hg
      have hb : Bl w wr := ((Bl.refl w).alloc _).dr hd
      have cb : wr.cell? ⟨w.heap.size, 1, none⟩ = some (.slice a m.length c) := by rw [hd.cell]; simp [go_sem]
      clear hg
      by_cases h2 : k < m.length
      · obtain ⟨b, off, rfl, hat⟩ := hf.get h2
        obtain ⟨x, hx⟩ : ∃ x, m[k]? = some x := ⟨_, List.getElem?_eq_getElem h2⟩
        have c0 := hb.cell (hat k x hx)
        have o1 := hf.ok x (List.mem_of_getElem? hx)
        have HF := Lib.hid hf
        unfold maxLen at o1
        clear hat hx hf
        by_cases p1 : 100 < x.size
        · go_wp2_with fail
          go_ret
          exact BoolIf.mk (by simp) (by repeat (first | assumption | exact Bl.refl _ | apply Bl.drewN | apply Bl.drew | apply Bl.alloc | (refine Bl.dr ?_ (by assumption)) | (refine Bl.trans ?_ (by assumption))))
        · go_wp2_with fail
          go_roundg (m.length - (k + 1))
          case rel => exact ⟨k + 1, by omega, by go_num, hd, rfl⟩
          case measure => rw [G.out]; omega
      · go_wp2_with fail
        go_ret
        exact BoolIf.mk (by omega) (by repeat (first | assumption | exact Bl.refl _ | apply Bl.drewN | apply Bl.drew | apply Bl.alloc | (refine Bl.dr ?_ (by assumption)) | (refine Bl.trans ?_ (by assumption))))

/-! ### The list L -/
def exE (k : ByteArray) (i : Int) : Ent := ⟨k, ⟨#[]⟩, false, i⟩
def exK : List ByteArray := [⟨#[97, 97]⟩, ⟨#[97, 98]⟩, ⟨#[98]⟩, ⟨#[98, 99, 100]⟩, ⟨#[98, 99, 101]⟩]
def exL : List Ent := [exE ⟨#[97, 97]⟩ 1, exE ⟨#[97, 98]⟩ 2, exE ⟨#[98]⟩ 3, exE ⟨#[98, 99, 100]⟩ 4, exE ⟨#[98, 99, 101]⟩ 5]
def EntsOut (l : List Ent) (w : World) (v : Value) : Prop := ∃ a c, v = .slice a l.length c ∧ Ents w a l ∧ l.length ≤ c ∧ c ≤ maxLen

theorem exL_ok : ∀ x, x ∈ exL → x.ok := by
  intro x hx
  simp only [exL, exE, List.mem_cons, List.not_mem_nil, or_false] at hx
  rcases hx with rfl | rfl | rfl | rfl | rfl <;> exact ⟨Nat.le_trans (show _ ≤ 3 by decide) (by unfold maxLen; omega), Nat.le_trans (show _ ≤ 3 by decide) (by unfold maxLen; omega), by decide, by decide⟩
theorem exL_get : ∀ k : Nat, k < 5 → ∃ key, exL[k]? = some (exE key (k + 1)) ∧ (#[Value.string ⟨#[97, 97]⟩, Value.string ⟨#[97, 98]⟩, Value.string ⟨#[98]⟩, Value.string ⟨#[98, 99, 100]⟩, Value.string ⟨#[98, 99, 101]⟩] : Array Value)[k]? = some (Value.string key)
  | 0, _ => ⟨_, rfl, rfl⟩
  | 1, _ => ⟨_, rfl, rfl⟩
  | 2, _ => ⟨_, rfl, rfl⟩
  | 3, _ => ⟨_, rfl, rfl⟩
  | 4, _ => ⟨_, rfl, rfl⟩
  | k + 5, h => by omega

set_option maxHeartbeats 2000000 in
theorem lawExample (w : World) : Calls Try.prog 34 #[] w (RM w (EntsOut exL)) := by
  obtain ⟨i0, hi, hz0, hz1, hz2⟩ := info_parts inf_ent
  go_enter Try.func34, Try.ntmps34
  go_wp2_with fail
  go_loopg [2, 3] 5 (fun g v i wr => ∃ k : Nat, k ≤ 5 ∧ i = .int .i64 k ∧ wr.ownsRow (w.heap.size + 1) 52 4 v k (entCells (exL.take k)) ∧ Bl (w.alloc (Obj.cells #[Value.string ⟨#[97, 97]⟩, Value.string ⟨#[97, 98]⟩, Value.string ⟨#[98]⟩, Value.string ⟨#[98, 99, 100]⟩, Value.string ⟨#[98, 99, 101]⟩] 81)) wr ∧ g = 5 - k)
  case atStart => exact ⟨0, by omega, rfl, by simpa [entCells] using own_nil _ _ _ _, Bl.refl _, rfl⟩
  case round =>
    obtain ⟨k, hk, rfl, hown, hb, hg⟩ := hrel
    have G := Lib.hid hg
    have HO := Lib.hid hown
    have hsz := hb.size
    rw [show (w.alloc (Obj.cells #[Value.string ⟨#[97, 97]⟩, Value.string ⟨#[97, 98]⟩, Value.string ⟨#[98]⟩, Value.string ⟨#[98, 99, 100]⟩, Value.string ⟨#[98, 99, 101]⟩] 81)).heap.size = w.heap.size + 1 by simp] at hsz
    clear hg hown
    by_cases h2 : k < 5
    · obtain ⟨key, h3, h4⟩ := exL_get k h2
      have hc := hb.cell (p := ⟨w.heap.size, k, none⟩) (v := .string key) (by rw [new_cell]; exact h4)
      have H3 := Lib.hid h3
      clear h3 h4
      go_wp2_with (at_builtin; refine wpList_append_own _ rfl _ _ 22 rfl (w.heap.size + 1) 52 i0 (.agg #[.string ⟨#[]⟩, .string ⟨#[]⟩, .bool false, .int .i64 0]) 4 48 Try.underlying22 hi hz0 hz1 hz2 rfl (by decide) _ _ _ rfl (HO.out.alloc _) ⟨wr.heap.size, 0, none⟩ 1 1 [.string key, .string ⟨#[]⟩, .bool false, .int .i64 ((k : Int) + 1)] rfl rfl ?c1 ?c2 ?c3 ?c4 ?c5 ?_)
      case c1 => exact multi_new _ _ _
      case c2 => intro u hu; simp at hu; rcases hu with rfl | rfl | rfl | rfl <;> rfl
      case c3 => unfold maxLen; omega
      case c4 => omega
      case c5 => simp; omega
      intro v' w4 hown4 hgrow _
      have hb4 := grown_bl (hb.alloc _) (HO.out.alloc _) hgrow (by simp)
      have hown5 : w4.ownsRow (w.heap.size + 1) 52 4 v' (k + 1) (entCells (exL.take (k + 1))) := by
        obtain ⟨hlt, hge⟩ := List.getElem?_eq_some_iff.1 H3.out
        rw [List.take_succ_eq_append_getElem hlt, entCells_snoc, hge]; exact hown4
      have HO5 := Lib.hid hown5
      clear hown4 hown5 hgrow
      go_wp2_with fail
      go_roundg (5 - (k + 1))
      case rel => exact ⟨k + 1, by omega, by go_num, HO5.out, hb4, rfl⟩
      case measure => rw [G.out]; omega
    · obtain rfl : k = 5 := by omega
      go_wp2_with fail
      go_ret
      refine RM.mk ?_ (((Bl.refl w).alloc _).trans hb)
      obtain ⟨a, c, e, h5, h6, h7⟩ := own_ents (l := exL) (show wr.ownsRow (w.heap.size + 1) 52 4 _ 5 (entCells exL) from HO.out) exL_ok
      exact ⟨a, c, e, h5, h6, h7⟩
end Go.Proofs.Yteafcbpogomioaa

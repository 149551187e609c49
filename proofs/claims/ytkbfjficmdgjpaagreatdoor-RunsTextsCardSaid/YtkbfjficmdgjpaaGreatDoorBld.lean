
/-
  Writing into a strings.Builder: besides what the laid contracts say, a row that '[]byte(s)' made stands as it stood.
-/
import Derived.Test.YtkbfjficmdgjpaaGreatDoorLib
import Derived.Test.YtkbfjficmdgjpaaGreatDoorShelf
import Derived.Lib.ConvBytes
import Derived.BigCall
namespace Go.Proofs.YtkbfjficmdgjpaaGreatDoor
open Go.RowKit
set_option linter.unusedSimpArgs false
set_option linter.unusedVariables false
set_option maxRecDepth 100000

abbrev tBl : TypeId := 68
abbrev tU8 : TypeId := 5
/-- A row that '[]byte(s)' made. -/
def MRow (w : World) (g : Nat) (cur : Array Value) : Prop := w.heap[g]? = some (.cells cur tU8 (cur.size, cur.size + 1))
def MKept (w w' : World) : Prop := ∀ g cur, MRow w g cur → MRow w' g cur
theorem MKept.refl (w : World) : MKept w w := fun _ _ h => h
theorem MKept.trans {a b c : World} (h : MKept a b) (k : MKept b c) : MKept a c := fun g cur x => k g cur (h g cur x)
theorem heap_bl {w w' : World} {g : Nat} {o : Obj} (h : w.heap[g]? = some o) (k : Bl w w') : w'.heap[g]? = some o := by
  rw [k.block g (Array.getElem?_eq_some_iff.1 h).1]; exact h
theorem MRow.bl {w w' : World} {g : Nat} {cur : Array Value} (h : MRow w g cur) (k : Bl w w') : MRow w' g cur := heap_bl h k
theorem IsBuilderF_bl {T e : TypeId} {B b : Nat} {bs : List Value} {w w' : World} (h : Lib.IsBuilderF T e B b bs w) (k : Bl w w') : Lib.IsBuilderF T e B b bs w' := by
  have hk : ∀ g o, w.heap[g]? = some o → w'.heap[g]? = some o := fun g o hg => heap_bl hg k
  have hA : ∀ p, Lib.BuilderAtF T e B b p bs w → Lib.BuilderAtF T e B b p bs w' := by
    rintro p ⟨hB, v, hb, ⟨ho, hv⟩, hne⟩
    refine ⟨hB, v, hk _ _ hb, ⟨ho, ?_⟩, hne⟩
    rcases hv with hv | ⟨g, cap, cur, fz, e1, e2, e3, e4⟩
    · exact .inl hv
    · exact .inr ⟨g, cap, cur, fz, e1, e2, hk _ _ e3, e4⟩
  exact h.elim (fun x => .inl (hA _ x)) (fun x => .inr (hA _ x))
/-- A builder's row is none that '[]byte(s)' made. -/
theorem mrow_ne {w : World} {B n : Nat} {v : Value} {xs : List Value} (h : w.ownsRowF B tU8 1 v n xs) {g : Nat} {cur : Array Value} (hm : MRow w g cur) : some g ≠ v.ownBlock := by
  rcases h.2 with ⟨rfl, _⟩ | ⟨g', cap, cur', fz, rfl, _, hg, hf, hn, _, hs, _⟩
  · simp [Value.ownBlock]
  · intro he
    simp [Value.ownBlock] at he
    subst he
    unfold MRow at hm
    rw [hm] at hg
    injection hg with hg
    injection hg with h1 h2 h3
    subst h1 h3
    simp at hf hs
    omega
theorem mkept_grown {w w' : World} {B n : Nat} {v : Value} {xs : List Value} (h : w.ownsRowF B tU8 1 v n xs) (hg : w.grownBy w' v.ownBlock) : MKept w w' := fun g cur hm => by
  unfold MRow
  rw [hg.block g (Array.getElem?_eq_some_iff.1 hm).1 (mrow_ne h hm)]
  exact hm
theorem mkept_set {w : World} {b : Nat} {cs : Array Value} (hb : w.heap[b]? = some (.cells cs tBl (0, 0))) (i : Nat) (v : Value) : MKept w (w.setCell ⟨b, i, none⟩ v) := fun g cur hm => by
  unfold MRow at hm ⊢
  have hne : b ≠ g := by
    rintro rfl
    rw [hm] at hb
    injection hb with hb
    injection hb with _ ht
    exact absurd ht (by decide)
  rw [Below.heap_setCell w ⟨b, i, none⟩ v g (fun e => hne e.symm)]
  exact hm
/-- What a write leaves. -/
def Wrote (B b : Nat) (bs : List Value) (w w' : World) : Prop :=
  Lib.IsBuilderF tBl tU8 B b bs w' ∧ Below B w w' ∧ Lib.OthersKept tU8 (some b) w w' ∧ MKept w w'

theorem bldCopy (B b : Nat) (bs : List Value) (w : World) (h : Lib.IsBuilderF tBl tU8 B b bs w) :
    Calls Tryz.prog 57 #[.pointer (some ⟨b, 0, none⟩)] w fun e w' => e = .returned (.tuple #[]) ∧ (Lib.BuilderAtF tBl tU8 B b (.pointer (some ⟨b, 0, none⟩)) bs w' ∧ Below B w w' ∧ Lib.OthersKept tU8 (some b) w w' ∧ MKept w w') := by
  rcases h with h | h
  · refine (Any.Builder_copyCheck_fresh Tryz.lays240 Tryz.Builder_X72_240 b w h.cell0 h.shape h.frozen0).mono ?_
    rintro e w' ⟨rfl, rfl⟩
    obtain ⟨_, v, hb, _⟩ := id h
    exact ⟨rfl, h.used _, (Below.refl B w).setCell (p := ⟨b, 0, none⟩) h.1 _, (Lib.OthersKept.refl _ _ w).setCell ⟨b, 0, none⟩ rfl _, mkept_set hb 0 _⟩
  · refine (Any.Builder_copyCheck_used Tryz.lays240 Tryz.Builder_X72_240 b w h.cell0).mono ?_
    rintro e w' ⟨rfl, rfl⟩
    exact ⟨rfl, h, Below.refl B _, Lib.OthersKept.refl _ _ _, MKept.refl _⟩

theorem inf_u8 : (Tryz.prog.info? tU8).map (fun i => (i.zero, i.size, i.bytes)) = some (some (.int .u8 0), 1, 1) := by kernel_rfl

set_option maxHeartbeats 2000000 in
set_option maxRecDepth 100000 in
theorem bldWriteString (B b : Nat) (bs : List Value) (s : ByteArray) (w : World) (h : Lib.IsBuilderF tBl tU8 B b bs w) (hlen : bs.length + s.size ≤ 140737488355328) (hBw : B ≤ w.heap.size) :
    Calls Tryz.prog 35 #[.pointer (some ⟨b, 0, none⟩), .string s] w fun e w' => e = .returned (.tuple #[.int .i64 s.size, .nilIface]) ∧ Wrote B b (bs ++ Lib.strCells s) w w' := by
  obtain ⟨i0, hi, hz0, hz1, hz2⟩ := info_parts inf_u8
  go_enter Tryz.func35, Tryz.ntmps35
  go_wp2_with (go_at_call 57; refine (bldCopy B b bs _ h).mono ?_)
  rintro e w1 ⟨rfl, h1, hb1, hk1, hm1⟩
  obtain ⟨hB, v, hbk, hown, hne⟩ := h1
  have c0 : w1.cell? ⟨b, 0, none⟩ = some (.pointer (some ⟨b, 0, none⟩)) := by rw [Lib.cell_of_heap hbk]; rfl
  have c1 : w1.cell? ⟨b, 1, none⟩ = some v := by rw [Lib.cell_of_heap hbk]; rfl
  go_wp2_with (at_builtin; refine Lib.wpList_append_own_stringF _ rfl _ _ 66 9 rfl B tU8 i0 Tryz.underlying66 Tryz.underlying9 hi hz0 hz1 hz2 _ _ _ rfl hown s rfl ?c3 ?c4 ?c5 ?_)
  case c3 => unfold maxLen; omega
  case c4 => omega
  case c5 => have := hb1.size; omega
  intro v' w2 hown' hgrow _
  have hlt : b < w1.heap.size := (Array.getElem?_eq_some_iff.1 hbk).1
  have hb2 : w2.heap[b]? = some (.cells #[.pointer (some ⟨b, 0, none⟩), v] tBl (0, 0)) := by
    rw [hgrow.block b hlt (fun e => hne e.symm)]
    exact hbk
  have d0 : w2.cell? ⟨b, 0, none⟩ = some (.pointer (some ⟨b, 0, none⟩)) := by rw [Lib.cell_of_heap hb2]; rfl
  have d1 : w2.cell? ⟨b, 1, none⟩ = some v := by rw [Lib.cell_of_heap hb2]; rfl
  have f1 : w2.frozen? ⟨b, 1, none⟩ = false := Lib.frozen_of_heap hb2 1
  obtain ⟨ao, n', cap, rfl⟩ : ∃ ao n' cap, v' = .slice ao n' cap := by
    rcases hown'.2 with ⟨hv, _⟩ | ⟨g, cap, cur, fz, hv, _⟩
    · exact ⟨_, _, _, hv⟩
    · exact ⟨_, _, _, hv⟩
  have HM := Lib.hid ((hm1.trans (mkept_grown hown hgrow)).trans (mkept_set hb2 1 (.slice ao n' cap)))
  clear hm1
  go_wp2
  go_ret2
  refine ⟨rfl, .inr ?_, ?_, (hk1.grown hgrow (Lib.ownsRowF_kind hown)).setCell ⟨b, 1, none⟩ rfl _, HM.out⟩
  · exact Lib.BuilderAtF.put (T := tBl) (e := tU8) hB hb2 (bs' := bs ++ Lib.strCells s) (by simpa [Lib.strCells_length] using hown') (by decide)
  · exact (hb1.grown hgrow (by have := hb1.size; omega) (fun k hk => (hown.lt k hk).1)).setCell (p := ⟨b, 1, none⟩) hB _

end Go.Proofs.YtkbfjficmdgjpaaGreatDoor


/-
  Contracts of handles: Print.
-/
import Derived.Test.YtidclkojekodpaaGreatDoorHnF
import Derived.Lib.ItoaLen
namespace Go.Proofs.YtidclkojekodpaaGreatDoor
open Go.RowKit
set_option linter.unusedSimpArgs false
set_option linter.unusedVariables false
set_option maxRecDepth 100000

/-- Itoa answers, from a world on. -/
def ItoaAt (w : World) (n : Int) : Prop := ∀ w', Bl w w' → Calls Tryz.prog 15 #[.int .i64 n] w' (RB w' (.string ⟨(Lib.itoa n).toArray⟩))
theorem ItoaAt.bl {w w' : World} {n : Int} (h : ItoaAt w n) (k : Bl w w') : ItoaAt w' n := fun x hx => h x (k.trans hx)
def wordB (u : Bool) : List UInt8 := if u then [117, 115, 101, 100] else [102, 114, 101, 101]
def rowB (s : Slot) : List UInt8 := wordB s.used ++ [32] ++ Lib.itoa s.gen ++ [10]
def headB (m : Int) : List UInt8 := [116, 97, 98, 108, 101, 32] ++ Lib.itoa m ++ [10]
def rowsB (l : List Slot) : List UInt8 := l.flatMap rowB
def printB (t : Tb) : List UInt8 := headB t.most ++ rowsB t.slots
theorem rows_step {l : List Slot} {k : Nat} {z : Slot} (h : l[k]? = some z) : rowsB (l.take (k + 1)) = rowsB (l.take k) ++ rowB z := by
  obtain ⟨hk, hz⟩ := List.getElem?_eq_some_iff.1 h
  rw [List.take_succ_eq_append_getElem hk, hz]
  simp [rowsB]
theorem rowB_len {s : Slot} (h : s.ok) : (rowB s).length ≤ 40 := by
  have := Lib.itoa_length_le s.gen h.1 h.2
  unfold rowB wordB
  split <;> simp <;> omega
theorem rowsB_len : ∀ {l : List Slot}, (∀ s, s ∈ l → s.ok) → (rowsB l).length ≤ 40 * l.length
  | [], _ => by simp [rowsB]
  | s :: l, h => by
    have h1 := rowB_len (h s (by simp))
    have h2 := rowsB_len (l := l) (fun x hx => h x (by simp [hx]))
    simp [rowsB] at h2 ⊢
    omega
theorem cells_cat3 (a b c : List UInt8) : Lib.strCells ((⟨a.toArray⟩ : ByteArray) ++ ⟨b.toArray⟩ ++ ⟨c.toArray⟩) = Lib.byteCells (a ++ b ++ c) := by
  rw [Lib.strCells_eq]; simp [ByteArray.data_append]
theorem size_cat (a b : ByteArray) : (a ++ b).size = a.size + b.size := ByteArray.size_append
set_option maxHeartbeats 8000000 in
theorem hnPrint (a : Option Addr) (c : Nat) (t : Tb) (w : World) (h : TOk w a c t) (e : (tchk t).2 = 0) (hI : ∀ n, n = t.most ∨ (∃ s, s ∈ t.slots ∧ n = s.gen) → ItoaAt w n) : Calls Tryz.prog 6 #[t.v a c] w (RB w (.tuple #[.string ⟨(printB t).toArray⟩, .int .i64 0])) := by
  have hG := tchk_good e
  have hl16 : t.slots.length ≤ 16 := by have := hG.len; have := hG.most2; omega
  have hC := fun w h => hnCheck a c t w h
  rw [good_tchk hG] at hC
  have hm1 := hG.most1
  have hm2 := hG.most2
  have hrl := rowsB_len h.slots.ok
  have hok := h.slots.ok
  have hIm := hI t.most (.inl rfl)
  have hIg := fun s hs => hI s.gen (.inr ⟨s, hs, rfl⟩)
  have him := Lib.itoa_length_le t.most (by omega) (by omega)
  obtain ⟨R, hR⟩ : ∃ R, R = printB t := ⟨_, rfl⟩
  rw [← hR]
  unfold printB at hR
  have HR := Lib.hid hR
  clear hG e hI hR
  
  have HO := Lib.hid h
  obtain ⟨mo, l⟩ := t
  have hs := h.slots
  have hc1 := h.len
  have hc2 := h.cap
  simp only at hs hc1
  unfold maxLen at hc2
  unfold Tb.v
  simp only
  clear h
  simp only at hl16 hC hm1 hm2 hrl hok hIm hIg him HR
  have HC := Lib.hid hC
  have HS := Lib.hid hs
  have HIm := Lib.hid hIm
  have HIg := Lib.hid hIg
  have HK := Lib.hid hok
  obtain ⟨q, hq⟩ : ∃ q : ByteArray, q = ⟨(Lib.itoa mo).toArray⟩ := ⟨_, rfl⟩
  have hqs : q.size = (Lib.itoa mo).length := by rw [hq]; rfl
  have HQ0 := Lib.hid hq
  clear hC hs hIm hIg hok
  go_enter Tryz.func6, Tryz.ntmps6
  go_wp2_with fail
  refine (HC.out _ (HO.out.bl (by repeat (first | assumption | exact Bl.refl _ | apply Bl.drewN | apply Bl.drew | apply Bl.alloc | (refine Bl.dr ?_ (by assumption)) | (refine Bl.trans ?_ (by assumption)))))).mono ?_; rintro e w1 ⟨rfl, hb1⟩
  have hr : Mem w1 [(⟨w.heap.size, 0, none⟩, .int .i64 mo), (⟨w.heap.size, 1, none⟩, .slice a l.length c)] := by
    refine Mem.bl ?_ hb1
    simp [Mem, go_sem]
  have hb : Bl w w1 := (by repeat (first | assumption | exact Bl.refl _ | apply Bl.drewN | apply Bl.drew | apply Bl.alloc | (refine Bl.dr ?_ (by assumption)) | (refine Bl.trans ?_ (by assumption))))
  have hs1 := hb1.size
  simp at hs1
  clear hb1
  have hI1 := Lib.IsBuilderF.of (Lib.fresh_isBuilder 46 5 w1)
  have HI1 := Lib.hid hI1
  have hr := hr.alloc (.cells #[.pointer none, .slice none 0 0] 46)
  
  have hm := hr
  simp only [Mem, VE, List.cons_append, List.nil_append, and_true] at hm
  have HRm := Lib.hid hr
  clear hI1 hr
  go_wp2_with fail
  have hb2 : Bl w1 (w1.alloc (.cells #[.pointer none, .slice none 0 0] 46)) := (by repeat (first | assumption | exact Bl.refl _ | apply Bl.drewN | apply Bl.drew | apply Bl.alloc | (refine Bl.dr ?_ (by assumption)) | (refine Bl.trans ?_ (by assumption))))
  refine (HIm.out _ (hb.trans hb2)).mono ?_; rintro e w3 ⟨rfl, hb3⟩
  rw [← HQ0.out]
  have hI3 := IsBuilderF_bl HI1.out hb3
  have hr3 := HRm.out.bl hb3
  have hs3 := hb3.size
  simp at hs3
  have hbw3 : Bl w w3 := (hb.trans hb2).trans hb3
  have HI3 := Lib.hid hI3
  have HR3 := Lib.hid hr3
  clear hm hI3 hb3 hb2
  
  have hm := hr3
  simp only [Mem, VE, List.cons_append, List.nil_append, and_true] at hm
  clear hr3
  go_wp2_with fail
  refine (bldWriteString w1.heap.size w1.heap.size _ _ _ HI3.out (by simp only [size_cat]; show 0 + (6 + (Lib.itoa mo).length + 1) ≤ _; omega) (by omega)).mono ?_
  rintro e w4 ⟨rfl, hI4, hB4, -, -⟩
  have hI5 : Lib.IsBuilderF tBl tU8 w1.heap.size w1.heap.size (Lib.byteCells (headB mo)) w4 := by
    have := hI4
    rw [cells_cat3] at this
    exact this
  have hs4 := hB4.size
  have hbw4 : Bl w w4 := Below.trans hbw3 (Below.mono hB4 (by omega))
  have hm4 : w4.cell? ⟨w.heap.size, 0, none⟩ = some (.int .i64 mo) ∧ w4.cell? ⟨w.heap.size, 1, none⟩ = some (.slice a l.length c) := ⟨(hB4.cell (by simp only; omega)).trans hm.1, (hB4.cell (by simp only; omega)).trans hm.2.2.1⟩
  have HI5 := Lib.hid hI5
  clear hI4 hI5 hB4 hm
  go_wp2_with fail
  have hsb : ∀ k, (rowsB (l.take k)).length ≤ 40 * 16 := fun k => Nat.le_trans (rowsB_len (fun s hs => HK.out s (List.mem_of_mem_take hs))) (by rw [List.length_take]; omega)
  go_loopg [27] l.length (fun g i wr => ∃ k : Nat, k ≤ l.length ∧ i = .int .i64 k ∧ Lib.IsBuilderF tBl tU8 w1.heap.size w1.heap.size (Lib.byteCells (headB mo ++ rowsB (l.take k))) wr ∧ Bl w wr ∧ w1.heap.size < wr.heap.size ∧ g = l.length - k)
  case atStart => exact ⟨0, by omega, rfl, by simpa [rowsB] using HI5.out, hbw4, by omega, rfl⟩
  case round =>
    obtain ⟨k, hk, rfl, hI, hbw, hsz, hg⟩ := hrel
    have G := Lib.hid hg
    clear hg
    have hsbk := hsb k
    have hhl : (headB mo).length = 7 + (Lib.itoa mo).length := by simp [headB]; omega
    by_cases hkl : k < l.length
    · obtain ⟨b, off, rfl, hat⟩ := HS.out.get hkl
      obtain ⟨z, hz⟩ : ∃ z, l[k]? = some z := ⟨_, List.getElem?_eq_getElem hkl⟩
      obtain ⟨d0, d1⟩ := (hat k z hz).bl hbw
      have HZ := Lib.hid hz
      have hzm := List.mem_of_getElem? hz
      have hiz := Lib.itoa_length_le z.gen (HK.out z hzm).1 (HK.out z hzm).2
      have hIz := HIg.out z hzm
      have HIz := Lib.hid hIz
      have hk0 : (0 : Int) ≤ (k : Int) := by omega
      have hkL : (k : Int) < (l.length : Int) := by omega
      clear hat hz hIz hzm
      have hI2 := hI.alloc (Obj.cells #[.int .i64 z.gen, .bool z.used] 35)
      have hb2 : Bl w (wr.alloc (Obj.cells #[.int .i64 z.gen, .bool z.used] 35)) := hbw.alloc _
      clear hI
      cases hzu : z.used
      · rw [hzu] at d1 hI2 hb2
        go_wp2_with fail
        refine (HIz.out _ (by repeat (first | assumption | exact Bl.refl _ | apply Bl.drewN | apply Bl.drew | apply Bl.alloc | (refine Bl.dr ?_ (by assumption)) | (refine Bl.trans ?_ (by assumption))))).mono ?_; rintro e w5 ⟨rfl, hb5⟩
        have hI5 := IsBuilderF_bl hI2 hb5
        have hb6 : Bl w w5 := hb2.trans hb5
        have hs5 := hb5.size
        simp at hs5
        have HI5 := Lib.hid hI5
        clear hI2 hI5 hb5
        go_wp2_with fail
        refine (bldWriteString w1.heap.size w1.heap.size _ _ _ HI5.out (by rw [Lib.byteCells_length, List.length_append]; simp only [size_cat]; show _ + (5 + (Lib.itoa z.gen).length + 1) ≤ _; omega) (by omega)).mono ?_
        rintro e w6 ⟨rfl, hI6, hB6, -, -⟩
        have hI7 : Lib.IsBuilderF tBl tU8 w1.heap.size w1.heap.size (Lib.byteCells (headB mo ++ rowsB (l.take (k + 1)))) w6 := by
          have := hI6
          rw [rows_step HZ.out, ← List.append_assoc, Lib.byteCells_append _ (rowB z)]
          rw [show (rowB z) = ([102, 114, 101, 101] ++ [32]) ++ Lib.itoa z.gen ++ [10] by unfold rowB wordB; rw [hzu]; simp, ← cells_cat3]
          exact this
        have hs6 := hB6.size
        have hbw6 : Bl w w6 := Below.trans hb6 (Below.mono hB6 (by omega))
        have HI7 := Lib.hid hI7
        clear hI6 hI7 hB6
        go_wp2_with fail
        go_roundg (l.length - (k + 1))
        case rel => exact ⟨k + 1, by omega, by go_num, HI7.out, hbw6, by omega, rfl⟩
        case measure => rw [G.out]; omega
      · rw [hzu] at d1 hI2 hb2
        go_wp2_with fail
        refine (HIz.out _ (by repeat (first | assumption | exact Bl.refl _ | apply Bl.drewN | apply Bl.drew | apply Bl.alloc | (refine Bl.dr ?_ (by assumption)) | (refine Bl.trans ?_ (by assumption))))).mono ?_; rintro e w5 ⟨rfl, hb5⟩
        have hI5 := IsBuilderF_bl hI2 hb5
        have hb6 : Bl w w5 := hb2.trans hb5
        have hs5 := hb5.size
        simp at hs5
        have HI5 := Lib.hid hI5
        clear hI2 hI5 hb5
        go_wp2_with fail
        refine (bldWriteString w1.heap.size w1.heap.size _ _ _ HI5.out (by rw [Lib.byteCells_length, List.length_append]; simp only [size_cat]; show _ + (5 + (Lib.itoa z.gen).length + 1) ≤ _; omega) (by omega)).mono ?_
        rintro e w6 ⟨rfl, hI6, hB6, -, -⟩
        have hI7 : Lib.IsBuilderF tBl tU8 w1.heap.size w1.heap.size (Lib.byteCells (headB mo ++ rowsB (l.take (k + 1)))) w6 := by
          have := hI6
          rw [rows_step HZ.out, ← List.append_assoc, Lib.byteCells_append _ (rowB z)]
          rw [show (rowB z) = ([117, 115, 101, 100] ++ [32]) ++ Lib.itoa z.gen ++ [10] by unfold rowB wordB; rw [hzu]; simp, ← cells_cat3]
          exact this
        have hs6 := hB6.size
        have hbw6 : Bl w w6 := Below.trans hb6 (Below.mono hB6 (by omega))
        have HI7 := Lib.hid hI7
        clear hI6 hI7 hB6
        go_wp2_with fail
        go_roundg (l.length - (k + 1))
        case rel => exact ⟨k + 1, by omega, by go_num, HI7.out, hbw6, by omega, rfl⟩
        case measure => rw [G.out]; omega
    · obtain rfl : k = l.length := by omega
      go_wp2_with fail
      refine (Tryz.Builder_String_any_k w1.heap.size w1.heap.size (headB mo ++ rowsB (l.take l.length)) _ hI (by omega)).mono ?_
      rintro e W1 ⟨rfl, _, b1, _⟩
      go_wp2_with fail
      go_ret2
      exact RB.mk (by rw [HR.out]; simp [List.take_length]) (Below.trans hbw (Below.mono b1 (by omega)))
end Go.Proofs.YtidclkojekodpaaGreatDoor


/-
  Contracts of keys.show and of the reference's text.
-/
import Derived.Test.YtldccffbjohokaaDoorKyA
import Derived.Test.YtldccffbjohokaaDoorKyR
import Derived.Test.YtldccffbjohokaaDoorBld
import Derived.BigCall
namespace Go.Proofs.YtldccffbjohokaaDoor
open Go.RowKit
set_option linter.unusedSimpArgs false
set_option linter.unusedVariables false
set_option maxRecDepth 100000

/-- A hexadecimal digit. -/
def hexD (n : Nat) : UInt8 := if n < 10 then UInt8.ofNat (48 + n) else UInt8.ofNat (87 + n)
def escB (b : UInt8) : List UInt8 := [92, 120, hexD (b.toNat / 16), hexD (b.toNat % 16)]
/-- The text of the first rune of some bytes: its number, how many bytes it has. -/
def piece (c n : Nat) (l : List UInt8) : List UInt8 :=
  if c = 65533 ∧ n = 1 then (l.take 1).flatMap escB
  else if c = 92 then [92, 92] else if 32 ≤ c ∧ c ≤ 126 ∨ 160 ≤ c then l.take n else (l.take n).flatMap escB
def showG : Nat → List UInt8 → List UInt8
  | 0, _ => []
  | fuel + 1, l => if l = [] then [] else piece (Lib.decodeL l).1 (Lib.decodeL l).2 l ++ showG fuel (l.drop (Lib.decodeL l).2)
def showL (s : ByteArray) : List UInt8 := showG s.size s.data.toList
theorem showG_nil (fuel : Nat) : showG fuel [] = [] := by cases fuel <;> simp [showG]
theorem escs_len (l : List UInt8) : (l.flatMap escB).length = 4 * l.length := by
  induction l with
  | nil => rfl
  | cons a l ih => rw [List.flatMap_cons, List.length_append, ih]; simp [escB]; omega
theorem piece_len (c n : Nat) (l : List UInt8) (h : 1 ≤ n) : (piece c n l).length ≤ 4 * n := by
  have h1 : (l.take n).length ≤ n := List.length_take_le _ _
  have h2 : (l.take 1).length ≤ 1 := List.length_take_le _ _
  unfold piece
  split
  · rw [escs_len]; omega
  · split
    · simp; omega
    · split
      · omega
      · rw [escs_len]; omega
theorem dec_extract (s : ByteArray) (pos : Nat) (h : pos < s.size) : Lib.decodeGo (s.extract pos s.size) = Lib.decodeL (s.data.toList.drop pos) := by
  unfold Lib.decodeGo
  rw [if_neg (by simp; omega), ← Lib.decodeL_drop, List.drop_zero]
  congr 1
  rw [ByteArray.data_extract]
  simp
  rw [List.take_of_length_le (by simp)]
/-- '[]byte(s)': a row that stands while a builder is written. -/
theorem conv_row (w : World) (s : ByteArray) :
    ∃ W c cur, (convert 9 49 (.string s)).run Tryd.prog w = .ok (.slice (some ⟨w.heap.size, 0, none⟩) s.size c) W ∧ Bl w W ∧ MRow W w.heap.size cur ∧
      (∀ j (h : j < s.size), cur[j]? = some (.int .u8 (s[j].toNat : Int))) := by
  refine ⟨_, _, _, Lib.run_convert_string_bytes w 9 49 tU8 s Tryd.underlying9 Tryd.underlying49 Tryd.underlying5, ⟨rfl, rfl, rfl, by rw [Lib.bytesWorld_size]; omega, fun k hk => Lib.bytesWorld_at_old w tU8 s k hk⟩, Lib.bytesWorld_at_new w tU8 s, fun j h => ?_⟩
  unfold Lib.bytesCells
  rw [Array.getElem?_append_left (by simpa using h)]
  rw [Array.getElem?_map, Array.getElem?_eq_getElem (show j < s.data.size from h)]
  rfl
theorem mrow_cell {w : World} {g j : Nat} {cur : Array Value} {v : Value} (h : MRow w g cur) (hj : cur[j]? = some v) : w.cell? ⟨g, j, none⟩ = some v := by
  unfold MRow at h; simp [World.cell?, h, hj]

theorem hexS_get : ∀ (n : Nat) (h : n < 16), (⟨#[48, 49, 50, 51, 52, 53, 54, 55, 56, 57, 97, 98, 99, 100, 101, 102]⟩ : ByteArray)[n]'h = hexD n
  | 0, _ => rfl
  | 1, _ => rfl
  | 2, _ => rfl
  | 3, _ => rfl
  | 4, _ => rfl
  | 5, _ => rfl
  | 6, _ => rfl
  | 7, _ => rfl
  | 8, _ => rfl
  | 9, _ => rfl
  | 10, _ => rfl
  | 11, _ => rfl
  | 12, _ => rfl
  | 13, _ => rfl
  | 14, _ => rfl
  | 15, _ => rfl
  | n + 16, h => by omega
theorem esc_step (t : List UInt8) (j : Nat) (x : UInt8) (acc : List UInt8) (h : t[j]? = some x) {hp : x.toNat / 16 < 16} {hq : x.toNat % 16 < 16} :
    Lib.byteCells (acc ++ (t.take j).flatMap escB) ++ Lib.strCells ⟨#[92, 120]⟩ ++ [.int .u8 ((⟨#[48, 49, 50, 51, 52, 53, 54, 55, 56, 57, 97, 98, 99, 100, 101, 102]⟩ : ByteArray)[x.toNat / 16]'hp).toNat] ++ [.int .u8 ((⟨#[48, 49, 50, 51, 52, 53, 54, 55, 56, 57, 97, 98, 99, 100, 101, 102]⟩ : ByteArray)[x.toNat % 16]'hq).toNat]
      = Lib.byteCells (acc ++ (t.take (j + 1)).flatMap escB) := by
  rw [hexS_get _ hp, hexS_get _ hq]
  obtain ⟨hj, hx⟩ := List.getElem?_eq_some_iff.1 h
  rw [List.take_succ_eq_append_getElem hj, hx, List.flatMap_append]
  simp [Lib.byteCells, Lib.strCells, escB]
theorem ext_take (s : ByteArray) (pos m : Nat) : (s.extract pos (pos + m)).data.toList = (s.data.toList.drop pos).take m := by
  rw [ByteArray.data_extract]
  simp


set_option maxHeartbeats 4000000 in
set_option maxRecDepth 1000000 in
theorem keysShowIn (s : ByteArray) (w : World) (hs : s.size ≤ 200) (hT : Lib.Utf8Tabs 1 2 w) :
    Calls Tryd.prog 49 #[.string s] w (RB w (.string ⟨(showL s).toArray⟩)) := by
  have hd0 := dec_extract s
  have hD := fun W h pos => Tryd.utf8_DecodeRuneInString (s.extract pos s.size) W h
  have hTb : ∀ W, Bl w W → Lib.Utf8Tabs 1 2 W := fun W h => ⟨fun c hc => h.cell (hT.1 c hc), fun i hi => ⟨h.cell (hT.2 i hi).1, h.cell (hT.2 i hi).2⟩⟩
  have HD0 := Lib.hid hd0
  have HD := Lib.hid hD
  have HT := Lib.hid hTb
  clear hd0 hD hT hTb
  obtain ⟨R, hR⟩ : ∃ R, R = showL s := ⟨_, rfl⟩
  rw [← hR]
  have HR := Lib.hid hR
  clear hR
  go_enter Tryd.func49, Tryd.ntmps49
  go_wp2_with fail
  go_loopg [] s.size (fun g wr => ∃ (pos fuel : Nat) (acc : List UInt8), Lib.IsBuilderF 58 5 w.heap.size w.heap.size (Lib.byteCells acc) wr ∧ wr.heap[w.heap.size + 1]? = some (.stringIter s pos) ∧ Bl w wr ∧ acc ++ showG fuel (s.data.toList.drop pos) = R ∧ s.size ≤ pos + fuel ∧ acc.length ≤ 4 * pos ∧ pos ≤ s.size ∧ g = s.size - pos)
  case atStart =>
    refine ⟨0, s.size, [], (Lib.IsBuilderF.of (Lib.fresh_isBuilder 58 5 w)).alloc _, ?_, ((Below.refl _ w).alloc (Nat.le_refl _) _).alloc (by simp) _, by rw [HR.out]; rfl, by omega, by simp, by omega, rfl⟩
    have := World.iter_heap (w.alloc (.cells #[.pointer none, .slice none 0 0] 58)) s 0
    simpa using this
  case round =>
    obtain ⟨pos, fuel, acc, hI, hit, hbw, hacc, hfu, hal, hps, hg⟩ := hrel
    have G := Lib.hid hg
    have HA := Lib.hid hacc
    clear hg hacc
    have hsz : w.heap.size + 1 < wr.heap.size := (Array.getElem?_eq_some_iff.1 hit).1
    by_cases hp : pos < s.size
    · have hnx : ∀ ty, (Instr.next (.pointer (some ⟨w.heap.size + 1, 0, none⟩)) true ty).run Tryd.prog wr = _ := fun ty => Lib.run_next_any_at wr (w.heap.size + 1) s pos ty hit hp
      rw [← Lib.decodeL_drop] at hnx
      have hdx := HD0.out pos hp
      have hne : s.data.toList.drop pos ≠ [] := by
        intro h
        have := congrArg List.length h
        simp at this; omega
      obtain ⟨f, rfl⟩ : ∃ f, fuel = f + 1 := ⟨fuel - 1, by omega⟩
      have hsp := dec_spec _ hne
      have hDp := fun W h => HD.out W h pos
      rw [hdx] at hDp
      have hll : (s.data.toList.drop pos).length = s.size - pos := by simp
      have hacc := HA.out
      unfold showG at hacc
      rw [if_neg hne] at hacc
      clear HA hdx
      obtain ⟨l, hl⟩ : ∃ l, l = s.data.toList.drop pos := ⟨_, rfl⟩
      rw [← hl] at hnx hDp hsp hll hacc
      have HDL := Lib.hid hl
      clear hl hne
      have hI2 := fun n => hI.iterAt hit (pos + n)
      have hit2 := fun n => Lib.iterAt_heap wr (w.heap.size + 1) s pos (pos + n) hit
      have hbw2 := fun n => Lib.below_iterAt hbw (k := w.heap.size + 1) (by omega) s (pos + n)
      rcases hsp with hbad | ⟨c, n, hgood⟩
      · rw [hbad] at hnx hDp hacc
        simp only at hnx hDp hacc
        have hI2 := hI2 1
        have hit2 := hit2 1
        have hbw2 := hbw2 1
        obtain ⟨W0, hW0⟩ : ∃ W0, W0 = wr.iterAt (w.heap.size + 1) s (pos + 1) := ⟨_, rfl⟩
        rw [← hW0] at hI2 hit2 hbw2 hnx
        obtain ⟨pc, hpc⟩ : ∃ pc, pc = piece 65533 1 l := ⟨_, rfl⟩
        rw [← hpc] at hacc
        have HPc := Lib.hid (show pc = (l.take 1).flatMap escB by rw [hpc]; rfl)
        have HA := Lib.hid hacc
        have HLL := Lib.hid hll
        have HDp := Lib.hid hDp
        have HI := Lib.hid hI2
        have HIt := Lib.hid hit2
        clear hI hit hI2 hit2 hacc hll hDp hbad hW0 hpc
        have hrl : Lib.runeLen 65533 = 3 := by decide
        go_wp2_with fail
        refine (Tryd.utf8_RuneLen _ _).mono ?_; rintro e w1 ⟨rfl, rfl⟩
        go_wp2_with fail
        refine (HDp.out _ (HT.out _ hbw2)).mono ?_; rintro e W1 ⟨rfl, hb1⟩
        have HI := Lib.hid (IsBuilderF_bl HI.out hb1)
        have HIt := Lib.hid (heap_bl HIt.out hb1)
        have hbw2 : Bl w W1 := Bl.trans hbw2 hb1
        clear hb1
        obtain ⟨W2, cp, cur, hcv, hW2, hrow, hcur⟩ := conv_row W1 (s.extract pos (pos + 1))
        have HI := Lib.hid (IsBuilderF_bl HI.out hW2)
        have HIt := Lib.hid (heap_bl HIt.out hW2)
        have hbw2 : Bl w W2 := Bl.trans hbw2 hW2
        have hszx : (s.extract pos (pos + 1)).size = 1 := by simp; omega
        clear hW2
        go_wp2_with fail
        have hm1 : 1 ≤ 4 := by omega
        have hal4 : acc.length ≤ 800 := by omega
        obtain ⟨t, ht⟩ : ∃ t, t = s.extract pos (pos + 1) := ⟨_, rfl⟩
        rw [← ht] at hcur hszx
        have HTt := Lib.hid ht
        have HSx := Lib.hid hszx
        have HCur := Lib.hid hcur
        clear ht hcur hszx
        go_loopg [38] 1 (fun g2 i wi => ∃ j : Nat, i = .int .i64 j ∧ j ≤ 1 ∧ Lib.IsBuilderF tBl tU8 w.heap.size w.heap.size (Lib.byteCells (acc ++ (t.data.toList.take j).flatMap escB)) wi ∧ wi.heap[w.heap.size + 1]? = some (.stringIter s (pos + 1)) ∧ MRow wi W1.heap.size cur ∧ Bl w wi ∧ g2 = 1 - j)
        case atStart => exact ⟨0, rfl, by omega, by simpa using HI.out, HIt.out, hrow, hbw2, rfl⟩
        case round =>
          obtain ⟨j, rfl, hj, hI3, hit3, hrow3, hbw3, hg3⟩ := hrel
          have G3 := Lib.hid hg3
          clear hg3
          have HI3 := Lib.hid hI3
          have HIt3 := Lib.hid hit3
          clear hI3 hit3
          by_cases hlt : j < 1
          · have hx := HCur.out j (by rw [HSx.out]; exact hlt)
            have hc := mrow_cell hrow3 hx
            generalize hxx : (t[j]'(by rw [HSx.out]; exact hlt)) = x at hc
            have HX := Lib.hid hxx
            have hx256 := x.toNat_lt
            clear hx hxx
            have hfl : ((t.data.toList.take j).flatMap escB).length ≤ 16 := by
              rw [escs_len]; have := List.length_take_le j t.data.toList; omega
            have hszw := hbw3.size
            go_wp2_with fail
            refine (bldWriteString w.heap.size w.heap.size _ ⟨#[92, 120]⟩ _ HI3.out (by rw [Lib.byteCells_length, List.length_append]; show _ + 2 ≤ _; omega) hszw).mono ?_
            rintro e w4 ⟨rfl, hI4, hB4, hO4, hK4⟩
            have HIt4 := Lib.hid (hO4.iter HIt3.out (by omega))
            have hrow4 := hK4 _ _ hrow3
            have HI4 := Lib.hid hI4
            have hbw4 : Bl w w4 := Below.trans hbw3 hB4
            clear hI4 hB4 hO4 hK4 hrow3
            have hszw := hbw4.size
            go_wp2_with fail
            refine (bldWriteByte w.heap.size w.heap.size _ _ _ HI4.out (by rw [List.length_append, Lib.byteCells_length, List.length_append, Lib.strCells_length]; show _ + 2 + 1 ≤ _; omega) hszw).mono ?_
            rintro e w5 ⟨rfl, hI5, hB5, hO5, hK5⟩
            have HIt5 := Lib.hid (hO5.iter HIt4.out (by omega))
            have hrow5 := hK5 _ _ hrow4
            have HI5 := Lib.hid hI5
            have hbw5 : Bl w w5 := Below.trans hbw4 hB5
            clear hI5 hB5 hO5 hK5 hrow4
            have hszw := hbw5.size
            go_wp2_with fail
            refine (bldWriteByte w.heap.size w.heap.size _ _ _ HI5.out (by rw [List.length_append, List.length_append, Lib.byteCells_length, List.length_append, Lib.strCells_length]; show _ + 2 + 1 + 1 ≤ _; omega) hszw).mono ?_
            rintro e w6 ⟨rfl, hI6, hB6, hO6, hK6⟩
            have HIt6 := Lib.hid (hO6.iter HIt5.out (by omega))
            have hrow6 := hK6 _ _ hrow5
            have hbw6 : Bl w w6 := Below.trans hbw5 hB6
            have hI6' : Lib.IsBuilderF tBl tU8 w.heap.size w.heap.size (Lib.byteCells (acc ++ (t.data.toList.take (j + 1)).flatMap escB)) w6 := by
              rw [← esc_step t.data.toList j x acc (by rw [← HX.out]; exact List.getElem?_eq_getElem (by simp; rw [HSx.out]; exact hlt))]
              exact hI6
            have HI6 := Lib.hid hI6'
            clear hI6 hI6' hB6 hO6 hK6 hrow5
            go_wp2_with fail
            go_roundg (1 - (j + 1))
            case rel => exact ⟨j + 1, by go_num, by omega, HI6.out, HIt6.out, hrow6, hbw6, rfl⟩
            case measure => rw [G3.out]; omega
          · have hjm : 1 = j := by omega
            subst hjm
            have hfin : (t.data.toList.take 1).flatMap escB = t.data.toList.flatMap escB := by rw [List.take_of_length_le (by simp; rw [HSx.out]; exact Nat.le_refl _)]
            have hlt3 : t.data.toList = l.take 1 := by rw [HTt.out, ext_take, HDL.out]
            have hI7 : Lib.IsBuilderF tBl tU8 w.heap.size w.heap.size (Lib.byteCells (acc ++ pc)) wr := by rw [HPc.out, ← hlt3, ← hfin]; exact HI3.out
            have HI7 := Lib.hid hI7
            clear hfin hlt3 hI7
            go_wp2_with fail
            go_roundg (s.size - (pos + 1))
            case rel =>
              refine ⟨pos + 1, f, acc ++ pc, HI7.out, HIt3.out, hbw3, ?_, by omega, ?_, ?_, rfl⟩
              · rw [← HA.out, HDL.out, List.drop_drop, List.append_assoc]
              · rw [List.length_append, HPc.out, escs_len]; have := List.length_take_le 1 l; omega
              · have := HLL.out; omega
            case measure => rw [G.out]; omega
      · have gdec := hgood.dec
        have grl := hgood.len
        have genc := hgood.enc
        have gn1 := hgood.n1
        have gn4 := hgood.n4
        have gle := hgood.le
        have glow := hgood.low
        have ghigh := hgood.high
        have gmax := hgood.max
        rw [gdec] at hnx hDp hacc
        simp only at hnx hDp hacc
        have hI2 := hI2 n
        have hit2 := hit2 n
        have hbw2 := hbw2 n
        obtain ⟨W0, hW0⟩ : ∃ W0, W0 = wr.iterAt (w.heap.size + 1) s (pos + n) := ⟨_, rfl⟩
        rw [← hW0] at hI2 hit2 hbw2 hnx
        obtain ⟨pc, hpc⟩ : ∃ pc, pc = piece c n l := ⟨_, rfl⟩
        rw [← hpc] at hacc
        have HA := Lib.hid hacc
        have HLL := Lib.hid hll
        have HDp := Lib.hid hDp
        have HI := Lib.hid hI2
        have HIt := Lib.hid hit2
        have hpn : pos + n ≤ s.size := by omega
        have hal4 : acc.length ≤ 800 := by omega
        have hnb : ¬ (c = 65533 ∧ n = 1) := by
          rintro ⟨rfl, rfl⟩; exact absurd (ghigh (by omega)).1 (by omega)
        clear hI hit hI2 hit2 hacc hll hDp hgood hW0 gdec glow ghigh gle
        by_cases c92 : c = 92
        · have hp2 : pc = [92, 92] := by rw [hpc, c92]; rfl
          have c92' : ((c : Int) == 92) = true := by rw [c92]; rfl
          have HPc := Lib.hid hp2
          clear hpc hp2 hnb c92
          go_wp2_with fail
          refine (Tryd.utf8_RuneLen _ _).mono ?_; rintro e w1 ⟨rfl, rfl⟩
          go_wp2_with fail
          refine (HDp.out _ (HT.out _ hbw2)).mono ?_; rintro e W1 ⟨rfl, hb1⟩
          have HI := Lib.hid (IsBuilderF_bl HI.out hb1)
          have HIt := Lib.hid (heap_bl HIt.out hb1)
          have hbw2 : Bl w W1 := Bl.trans hbw2 hb1
          clear hb1
          have hszw := hbw2.size
          go_wp2_with fail
          refine (bldWriteString w.heap.size w.heap.size _ ⟨#[92, 92]⟩ _ HI.out (by rw [Lib.byteCells_length]; show _ + 2 ≤ _; omega) hszw).mono ?_
          rintro e w4 ⟨rfl, hI4, hB4, hO4, hK4⟩
          have HIt4 := Lib.hid (hO4.iter HIt.out (by omega))
          have HI4 := Lib.hid (show Lib.IsBuilderF tBl tU8 w.heap.size w.heap.size (Lib.byteCells (acc ++ [92, 92])) w4 from by rw [Lib.byteCells_append]; exact hI4)
          have hbw4 : Bl w w4 := Below.trans hbw2 hB4
          clear hI4 hB4 hO4 hK4
          go_wp2_with fail
          go_roundg (s.size - (pos + n))
          case rel => exact ⟨pos + n, f, acc ++ [92, 92], HI4.out, HIt4.out, hbw4, by rw [← HA.out, HDL.out, List.drop_drop, List.append_assoc, HPc.out], by omega, by simp; omega, hpn, rfl⟩
          case measure => rw [G.out]; omega
        · have c92' : ((c : Int) == 92) = false := by rw [beq_eq_false_iff_ne]; omega
          by_cases cp : 32 ≤ c ∧ c ≤ 126
          · have hp2 : pc = l.take n := by rw [hpc]; unfold piece; rw [if_neg hnb, if_neg c92, if_pos (.inl cp)]
            have HPc := Lib.hid hp2
            have p1 : (32 : Int) ≤ (c : Int) := by omega
            have p2 : (c : Int) ≤ 126 := by omega
            clear hpc hp2 hnb c92
            go_wp2_with fail
            refine (Tryd.utf8_RuneLen _ _).mono ?_; rintro e w1 ⟨rfl, rfl⟩
            go_wp2_with fail
            refine (HDp.out _ (HT.out _ hbw2)).mono ?_; rintro e W1 ⟨rfl, hb1⟩
            have HI := Lib.hid (IsBuilderF_bl HI.out hb1)
            have HIt := Lib.hid (heap_bl HIt.out hb1)
            have hbw2 : Bl w W1 := Bl.trans hbw2 hb1
            clear hb1
            have hszw := hbw2.size
            go_wp2_with fail
            refine (Tryd.Builder_WriteRune_k w.heap.size w.heap.size _ _ (by omega) (by omega) _ HI.out (by rw [Lib.byteCells_length]; omega) hszw).mono ?_
            rintro e w4 ⟨rfl, hI4, hB4, hO4⟩
            have HIt4 := Lib.hid (hO4.iter HIt.out (by omega))
            have HI4 := Lib.hid (show Lib.IsBuilderF tBl tU8 w.heap.size w.heap.size (Lib.byteCells (acc ++ pc)) w4 from by rw [HPc.out, ← genc, Lib.byteCells_append, Lib.byteCells_encodeRune]; exact .inr hI4)
            have hbw4 : Bl w w4 := Below.trans hbw2 hB4
            clear hI4 hB4 hO4
            go_wp2_with fail
            go_roundg (s.size - (pos + n))
            case rel =>
              refine ⟨pos + n, f, acc ++ pc, HI4.out, HIt4.out, hbw4, ?_, by omega, ?_, hpn, rfl⟩
              · rw [← HA.out, HDL.out, List.drop_drop, List.append_assoc]
              · rw [List.length_append, HPc.out]; have := List.length_take_le n l; omega
            case measure => rw [G.out]; omega
          · by_cases cq : 160 ≤ c
            · have hp2 : pc = l.take n := by rw [hpc]; unfold piece; rw [if_neg hnb, if_neg c92, if_pos (.inr cq)]
              have HPc := Lib.hid hp2
              have p1 : (32 : Int) ≤ (c : Int) := by omega
              have p2 : ¬ (c : Int) ≤ 126 := by omega
              have p3 : (160 : Int) ≤ (c : Int) := by omega
              clear hpc hp2 hnb c92
              go_wp2_with fail
              refine (Tryd.utf8_RuneLen _ _).mono ?_; rintro e w1 ⟨rfl, rfl⟩
              go_wp2_with fail
              refine (HDp.out _ (HT.out _ hbw2)).mono ?_; rintro e W1 ⟨rfl, hb1⟩
              have HI := Lib.hid (IsBuilderF_bl HI.out hb1)
              have HIt := Lib.hid (heap_bl HIt.out hb1)
              have hbw2 : Bl w W1 := Bl.trans hbw2 hb1
              clear hb1
              have hszw := hbw2.size
              go_wp2_with fail
              refine (Tryd.Builder_WriteRune_k w.heap.size w.heap.size _ _ (by omega) (by omega) _ HI.out (by rw [Lib.byteCells_length]; omega) hszw).mono ?_
              rintro e w4 ⟨rfl, hI4, hB4, hO4⟩
              have HIt4 := Lib.hid (hO4.iter HIt.out (by omega))
              have HI4 := Lib.hid (show Lib.IsBuilderF tBl tU8 w.heap.size w.heap.size (Lib.byteCells (acc ++ pc)) w4 from by rw [HPc.out, ← genc, Lib.byteCells_append, Lib.byteCells_encodeRune]; exact .inr hI4)
              have hbw4 : Bl w w4 := Below.trans hbw2 hB4
              clear hI4 hB4 hO4
              go_wp2_with fail
              go_roundg (s.size - (pos + n))
              case rel =>
                refine ⟨pos + n, f, acc ++ pc, HI4.out, HIt4.out, hbw4, ?_, by omega, ?_, hpn, rfl⟩
                · rw [← HA.out, HDL.out, List.drop_drop, List.append_assoc]
                · rw [List.length_append, HPc.out]; have := List.length_take_le n l; omega
              case measure => rw [G.out]; omega
            · have hp2 : pc = (l.take n).flatMap escB := by rw [hpc]; unfold piece; rw [if_neg hnb, if_neg c92, if_neg (by omega)]
              have HPc := Lib.hid hp2
              have p3 : ¬ (160 : Int) ≤ (c : Int) := by omega
              clear hpc hp2 hnb c92
              by_cases c32 : (32 : Int) ≤ (c : Int)
              · have p2 : ¬ (c : Int) ≤ 126 := by omega
                go_wp2_with fail
                refine (Tryd.utf8_RuneLen _ _).mono ?_; rintro e w1 ⟨rfl, rfl⟩
                go_wp2_with fail
                refine (HDp.out _ (HT.out _ hbw2)).mono ?_; rintro e W1 ⟨rfl, hb1⟩
                have HI := Lib.hid (IsBuilderF_bl HI.out hb1)
                have HIt := Lib.hid (heap_bl HIt.out hb1)
                have hbw2 : Bl w W1 := Bl.trans hbw2 hb1
                clear hb1
                obtain ⟨W2, cp, cur, hcv, hW2, hrow, hcur⟩ := conv_row W1 (s.extract pos (pos + n))
                have HI := Lib.hid (IsBuilderF_bl HI.out hW2)
                have HIt := Lib.hid (heap_bl HIt.out hW2)
                have hbw2 : Bl w W2 := Bl.trans hbw2 hW2
                have hszx : (s.extract pos (pos + n)).size = n := by simp; omega
                rw [hszx] at hcv
                clear hW2
                go_wp2_with fail
                have hal4 : acc.length ≤ 800 := by omega
                obtain ⟨t, ht⟩ : ∃ t, t = s.extract pos (pos + n) := ⟨_, rfl⟩
                rw [← ht] at hcur hszx
                have HTt := Lib.hid ht
                have HSx := Lib.hid hszx
                have HCur := Lib.hid hcur
                clear ht hcur hszx
                go_loopg [38] n (fun g2 i wi => ∃ j : Nat, i = .int .i64 j ∧ j ≤ n ∧ Lib.IsBuilderF tBl tU8 w.heap.size w.heap.size (Lib.byteCells (acc ++ (t.data.toList.take j).flatMap escB)) wi ∧ wi.heap[w.heap.size + 1]? = some (.stringIter s (pos + n)) ∧ MRow wi W1.heap.size cur ∧ Bl w wi ∧ g2 = n - j)
                case atStart => exact ⟨0, rfl, by omega, by simpa using HI.out, HIt.out, hrow, hbw2, rfl⟩
                case round =>
                  obtain ⟨j, rfl, hj, hI3, hit3, hrow3, hbw3, hg3⟩ := hrel
                  have G3 := Lib.hid hg3
                  clear hg3
                  have HI3 := Lib.hid hI3
                  have HIt3 := Lib.hid hit3
                  clear hI3 hit3
                  by_cases hlt : j < n
                  · have hx := HCur.out j (by rw [HSx.out]; exact hlt)
                    have hc := mrow_cell hrow3 hx
                    generalize hxx : (t[j]'(by rw [HSx.out]; exact hlt)) = x at hc
                    have HX := Lib.hid hxx
                    have hx256 := x.toNat_lt
                    clear hx hxx
                    have hfl : ((t.data.toList.take j).flatMap escB).length ≤ 16 := by
                      rw [escs_len]; have := List.length_take_le j t.data.toList; omega
                    have hszw := hbw3.size
                    go_wp2_with fail
                    refine (bldWriteString w.heap.size w.heap.size _ ⟨#[92, 120]⟩ _ HI3.out (by rw [Lib.byteCells_length, List.length_append]; show _ + 2 ≤ _; omega) hszw).mono ?_
                    rintro e w4 ⟨rfl, hI4, hB4, hO4, hK4⟩
                    have HIt4 := Lib.hid (hO4.iter HIt3.out (by omega))
                    have hrow4 := hK4 _ _ hrow3
                    have HI4 := Lib.hid hI4
                    have hbw4 : Bl w w4 := Below.trans hbw3 hB4
                    clear hI4 hB4 hO4 hK4 hrow3
                    have hszw := hbw4.size
                    go_wp2_with fail
                    refine (bldWriteByte w.heap.size w.heap.size _ _ _ HI4.out (by rw [List.length_append, Lib.byteCells_length, List.length_append, Lib.strCells_length]; show _ + 2 + 1 ≤ _; omega) hszw).mono ?_
                    rintro e w5 ⟨rfl, hI5, hB5, hO5, hK5⟩
                    have HIt5 := Lib.hid (hO5.iter HIt4.out (by omega))
                    have hrow5 := hK5 _ _ hrow4
                    have HI5 := Lib.hid hI5
                    have hbw5 : Bl w w5 := Below.trans hbw4 hB5
                    clear hI5 hB5 hO5 hK5 hrow4
                    have hszw := hbw5.size
                    go_wp2_with fail
                    refine (bldWriteByte w.heap.size w.heap.size _ _ _ HI5.out (by rw [List.length_append, List.length_append, Lib.byteCells_length, List.length_append, Lib.strCells_length]; show _ + 2 + 1 + 1 ≤ _; omega) hszw).mono ?_
                    rintro e w6 ⟨rfl, hI6, hB6, hO6, hK6⟩
                    have HIt6 := Lib.hid (hO6.iter HIt5.out (by omega))
                    have hrow6 := hK6 _ _ hrow5
                    have hbw6 : Bl w w6 := Below.trans hbw5 hB6
                    have hI6' : Lib.IsBuilderF tBl tU8 w.heap.size w.heap.size (Lib.byteCells (acc ++ (t.data.toList.take (j + 1)).flatMap escB)) w6 := by
                      rw [← esc_step t.data.toList j x acc (by rw [← HX.out]; exact List.getElem?_eq_getElem (by simp; rw [HSx.out]; exact hlt))]
                      exact hI6
                    have HI6 := Lib.hid hI6'
                    clear hI6 hI6' hB6 hO6 hK6 hrow5
                    go_wp2_with fail
                    go_roundg (n - (j + 1))
                    case rel => exact ⟨j + 1, by go_num, by omega, HI6.out, HIt6.out, hrow6, hbw6, rfl⟩
                    case measure => rw [G3.out]; omega
                  · have hjm : n = j := by omega
                    subst hjm
                    have hfin : (t.data.toList.take n).flatMap escB = t.data.toList.flatMap escB := by rw [List.take_of_length_le (by simp; rw [HSx.out]; exact Nat.le_refl _)]
                    have hlt3 : t.data.toList = l.take n := by rw [HTt.out, ext_take, HDL.out]
                    have hI7 : Lib.IsBuilderF tBl tU8 w.heap.size w.heap.size (Lib.byteCells (acc ++ pc)) wr := by rw [HPc.out, ← hlt3, ← hfin]; exact HI3.out
                    have HI7 := Lib.hid hI7
                    clear hfin hlt3 hI7
                    go_wp2_with fail
                    go_roundg (s.size - (pos + n))
                    case rel =>
                      refine ⟨pos + n, f, acc ++ pc, HI7.out, HIt3.out, hbw3, ?_, by omega, ?_, ?_, rfl⟩
                      · rw [← HA.out, HDL.out, List.drop_drop, List.append_assoc]
                      · rw [List.length_append, HPc.out, escs_len]; have := List.length_take_le n l; omega
                      · have := HLL.out; omega
                    case measure => rw [G.out]; omega
              · go_wp2_with fail
                refine (Tryd.utf8_RuneLen _ _).mono ?_; rintro e w1 ⟨rfl, rfl⟩
                go_wp2_with fail
                refine (HDp.out _ (HT.out _ hbw2)).mono ?_; rintro e W1 ⟨rfl, hb1⟩
                have HI := Lib.hid (IsBuilderF_bl HI.out hb1)
                have HIt := Lib.hid (heap_bl HIt.out hb1)
                have hbw2 : Bl w W1 := Bl.trans hbw2 hb1
                clear hb1
                obtain ⟨W2, cp, cur, hcv, hW2, hrow, hcur⟩ := conv_row W1 (s.extract pos (pos + n))
                have HI := Lib.hid (IsBuilderF_bl HI.out hW2)
                have HIt := Lib.hid (heap_bl HIt.out hW2)
                have hbw2 : Bl w W2 := Bl.trans hbw2 hW2
                have hszx : (s.extract pos (pos + n)).size = n := by simp; omega
                rw [hszx] at hcv
                clear hW2
                go_wp2_with fail
                have hal4 : acc.length ≤ 800 := by omega
                obtain ⟨t, ht⟩ : ∃ t, t = s.extract pos (pos + n) := ⟨_, rfl⟩
                rw [← ht] at hcur hszx
                have HTt := Lib.hid ht
                have HSx := Lib.hid hszx
                have HCur := Lib.hid hcur
                clear ht hcur hszx
                go_loopg [38] n (fun g2 i wi => ∃ j : Nat, i = .int .i64 j ∧ j ≤ n ∧ Lib.IsBuilderF tBl tU8 w.heap.size w.heap.size (Lib.byteCells (acc ++ (t.data.toList.take j).flatMap escB)) wi ∧ wi.heap[w.heap.size + 1]? = some (.stringIter s (pos + n)) ∧ MRow wi W1.heap.size cur ∧ Bl w wi ∧ g2 = n - j)
                case atStart => exact ⟨0, rfl, by omega, by simpa using HI.out, HIt.out, hrow, hbw2, rfl⟩
                case round =>
                  obtain ⟨j, rfl, hj, hI3, hit3, hrow3, hbw3, hg3⟩ := hrel
                  have G3 := Lib.hid hg3
                  clear hg3
                  have HI3 := Lib.hid hI3
                  have HIt3 := Lib.hid hit3
                  clear hI3 hit3
                  by_cases hlt : j < n
                  · have hx := HCur.out j (by rw [HSx.out]; exact hlt)
                    have hc := mrow_cell hrow3 hx
                    generalize hxx : (t[j]'(by rw [HSx.out]; exact hlt)) = x at hc
                    have HX := Lib.hid hxx
                    have hx256 := x.toNat_lt
                    clear hx hxx
                    have hfl : ((t.data.toList.take j).flatMap escB).length ≤ 16 := by
                      rw [escs_len]; have := List.length_take_le j t.data.toList; omega
                    have hszw := hbw3.size
                    go_wp2_with fail
                    refine (bldWriteString w.heap.size w.heap.size _ ⟨#[92, 120]⟩ _ HI3.out (by rw [Lib.byteCells_length, List.length_append]; show _ + 2 ≤ _; omega) hszw).mono ?_
                    rintro e w4 ⟨rfl, hI4, hB4, hO4, hK4⟩
                    have HIt4 := Lib.hid (hO4.iter HIt3.out (by omega))
                    have hrow4 := hK4 _ _ hrow3
                    have HI4 := Lib.hid hI4
                    have hbw4 : Bl w w4 := Below.trans hbw3 hB4
                    clear hI4 hB4 hO4 hK4 hrow3
                    have hszw := hbw4.size
                    go_wp2_with fail
                    refine (bldWriteByte w.heap.size w.heap.size _ _ _ HI4.out (by rw [List.length_append, Lib.byteCells_length, List.length_append, Lib.strCells_length]; show _ + 2 + 1 ≤ _; omega) hszw).mono ?_
                    rintro e w5 ⟨rfl, hI5, hB5, hO5, hK5⟩
                    have HIt5 := Lib.hid (hO5.iter HIt4.out (by omega))
                    have hrow5 := hK5 _ _ hrow4
                    have HI5 := Lib.hid hI5
                    have hbw5 : Bl w w5 := Below.trans hbw4 hB5
                    clear hI5 hB5 hO5 hK5 hrow4
                    have hszw := hbw5.size
                    go_wp2_with fail
                    refine (bldWriteByte w.heap.size w.heap.size _ _ _ HI5.out (by rw [List.length_append, List.length_append, Lib.byteCells_length, List.length_append, Lib.strCells_length]; show _ + 2 + 1 + 1 ≤ _; omega) hszw).mono ?_
                    rintro e w6 ⟨rfl, hI6, hB6, hO6, hK6⟩
                    have HIt6 := Lib.hid (hO6.iter HIt5.out (by omega))
                    have hrow6 := hK6 _ _ hrow5
                    have hbw6 : Bl w w6 := Below.trans hbw5 hB6
                    have hI6' : Lib.IsBuilderF tBl tU8 w.heap.size w.heap.size (Lib.byteCells (acc ++ (t.data.toList.take (j + 1)).flatMap escB)) w6 := by
                      rw [← esc_step t.data.toList j x acc (by rw [← HX.out]; exact List.getElem?_eq_getElem (by simp; rw [HSx.out]; exact hlt))]
                      exact hI6
                    have HI6 := Lib.hid hI6'
                    clear hI6 hI6' hB6 hO6 hK6 hrow5
                    go_wp2_with fail
                    go_roundg (n - (j + 1))
                    case rel => exact ⟨j + 1, by go_num, by omega, HI6.out, HIt6.out, hrow6, hbw6, rfl⟩
                    case measure => rw [G3.out]; omega
                  · have hjm : n = j := by omega
                    subst hjm
                    have hfin : (t.data.toList.take n).flatMap escB = t.data.toList.flatMap escB := by rw [List.take_of_length_le (by simp; rw [HSx.out]; exact Nat.le_refl _)]
                    have hlt3 : t.data.toList = l.take n := by rw [HTt.out, ext_take, HDL.out]
                    have hI7 : Lib.IsBuilderF tBl tU8 w.heap.size w.heap.size (Lib.byteCells (acc ++ pc)) wr := by rw [HPc.out, ← hlt3, ← hfin]; exact HI3.out
                    have HI7 := Lib.hid hI7
                    clear hfin hlt3 hI7
                    go_wp2_with fail
                    go_roundg (s.size - (pos + n))
                    case rel =>
                      refine ⟨pos + n, f, acc ++ pc, HI7.out, HIt3.out, hbw3, ?_, by omega, ?_, ?_, rfl⟩
                      · rw [← HA.out, HDL.out, List.drop_drop, List.append_assoc]
                      · rw [List.length_append, HPc.out, escs_len]; have := List.length_take_le n l; omega
                      · have := HLL.out; omega
                    case measure => rw [G.out]; omega
    · have hnx : ∀ ty, (Instr.next (.pointer (some ⟨w.heap.size + 1, 0, none⟩)) true ty).run Tryd.prog wr = _ := fun ty => Lib.run_next_end_at wr (w.heap.size + 1) s pos ty hit hp
      have hRa : R = acc := by
        rw [← HA.out]
        have : s.data.toList.drop pos = [] := List.drop_of_length_le (by simp; omega)
        rw [this, showG_nil, List.append_nil]
      have HRa := Lib.hid hRa
      clear hRa
      go_wp2_with fail
      refine (Tryd.Builder_String_any_k w.heap.size w.heap.size acc _ hI (by omega)).mono ?_
      rintro e W1 ⟨rfl, _, b1, _⟩
      go_wp2_with fail
      go_ret
      exact RB.mk (sval (by rw [HRa.out])) (Below.trans hbw b1)
end Go.Proofs.YtldccffbjohokaaDoor

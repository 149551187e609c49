
/-
  Contracts of entries: all, Print.
-/
import Derived.Test.YtkbfjficmdgjpaaGreatDoorEntA
import Derived.Test.YtkbfjficmdgjpaaGreatDoorBld
import Derived.Test.YtkbfjficmdgjpaaGreatDoorWoF
import Derived.Test.YtkbfjficmdgjpaaGreatDoorWoL
import Derived.Lib.ItoaLen
import Derived.Deep.LoopGhost
import Derived.Deep.DeepCutAuto
namespace Go.Proofs.YtkbfjficmdgjpaaGreatDoor
open Go.RowKit
set_option linter.unusedSimpArgs false
set_option linter.unusedVariables false
set_option maxRecDepth 100000

/-- What printing asks of the world. -/
structure PEnv (w : World) : Prop where
  esc : EscTab w
  pow : Lib.TabIs Tryz.prog w "internal/strconv.uint64pow10" .u64 Lib.pow10Tab
theorem PEnv.bl {w w' : World} (h : PEnv w) (k : Bl w w') : PEnv w' := ⟨h.esc.bl k, tab_bl h.pow k⟩
theorem digitsP (n : Int) (h0 : -9223372036854775808 ≤ n) (h1 : n ≤ 9223372036854775807) (w : World) (hE : PEnv w) : Calls Tryz.prog 18 #[.int .i64 n] w (RB w (.string ⟨(Lib.itoa n).toArray⟩)) := by
  have HF := Lib.hid (fun w hp => Tryz.strconv_FormatInt_10 n h0 h1 w hp)
  have HE := Lib.hid hE
  clear hE
  go_enter Tryz.func18, Tryz.ntmps18
  go_wp2_with fail
  refine (HF.out _ HE.out.pow).mono ?_; rintro e w1 ⟨rfl, k, os, rfl⟩
  go_wp2_with fail
  go_ret
  exact RB.mk rfl (((Bl.refl w).drewN k).trans (bl_grow _ _))

/-! ### The errors of entries in any order -/
def eall : List Ent → Int
  | [] => 0
  | x :: r => if echk x ≠ 0 then echk x else eall r
theorem eall_drop {l : List Ent} {k : Nat} {x : Ent} (h : l[k]? = some x) : eall (l.drop k) = if echk x ≠ 0 then echk x else eall (l.drop (k + 1)) := by
  obtain ⟨hk, rfl⟩ := List.getElem?_eq_some_iff.1 h
  rw [List.drop_eq_getElem_cons hk]; rfl
theorem eall_ok : ∀ {l : List Ent}, eall l = 0 → ∀ x ∈ l, echk x = 0
  | [], _, x, h => by cases h
  | y :: l, h, x, hx => by
    unfold eall at h
    split at h
    · contradiction
    · rename_i hy
      rcases List.mem_cons.1 hx with rfl | hx
      · simpa using hy
      · exact eall_ok h x hx
theorem echk_ok {x : Ent} (h : echk x = 0) : x.key.size ≤ 32 ∧ x.val.size ≤ 64 ∧ (x.dead = true → x.val.size = 0) ∧ 1 ≤ x.seq ∧ x.seq ≤ 1000000000 := by
  unfold echk at h
  split at h
  · cases h
  · split at h
    · cases h
    · rename_i h1 h2
      split at h
      · cases h
      · rename_i h3
        refine ⟨by omega, by omega, fun hd => ?_, by omega, by omega⟩
        exact Decidable.byContradiction fun hv => h2 ⟨hd, hv⟩
set_option maxHeartbeats 1000000 in
theorem entAll (a : Option Addr) (c : Nat) (l : List Ent) (w : World) (hl : Ents w a l) (hn : l.length ≤ maxLen) : Calls Tryz.prog 34 #[.slice a l.length c] w (RB w (.int .i64 (eall l))) := by
  unfold maxLen at hn
  have HL := Lib.hid hl
  obtain ⟨R, hR⟩ : ∃ R, eall l = R := ⟨_, rfl⟩
  rw [hR]
  have HR := Lib.hid hR
  clear hl hR
  go_enter Tryz.func34, Tryz.ntmps34
  go_wp2_with fail
  go_loopg [8] l.length (fun g i wr => ∃ k : Nat, k ≤ l.length ∧ i = .int .i64 k ∧ R = eall (l.drop k) ∧ Bl w wr ∧ g = l.length - k)
  case atStart => exact ⟨0, by omega, rfl, by rw [← HR.out]; rfl, Bl.refl _, rfl⟩
  case round =>
    obtain ⟨k, hk1, rfl, hc, hb, hg⟩ := hrel
    have H := Lib.hid hc
    have G := Lib.hid hg
    clear hc hg
    by_cases h1 : k < l.length
    · obtain ⟨b, off, rfl, hat⟩ := HL.out.get h1
      obtain ⟨x, hx⟩ : ∃ x, l[k]? = some x := ⟨_, List.getElem?_eq_getElem h1⟩
      obtain ⟨c0, c1, c2, c3⟩ := (hat k x hx).bl hb
      have hxo : x.ok := HL.out.ok x (List.mem_of_getElem? hx)
      have X := Lib.hid hx
      have hE := fun w => entCheck x w hxo
      unfold Ent.v at hE
      obtain ⟨q, hq⟩ : ∃ q, echk x = q := ⟨_, rfl⟩
      rw [hq] at hE
      have Hq := Lib.hid hq
      have HE := Lib.hid hE
      clear hx hE hq hat hxo
      by_cases e1 : q = 0
      · subst e1
        go_wp2_with fail
        refine (HE.out _).mono ?_; rintro e w1 ⟨rfl, hb1⟩
        go_wp2_with fail
        go_roundg (l.length - (k + 1))
        case rel => exact ⟨k + 1, by omega, by go_num, by rw [H.out, eall_drop X.out, Hq.out]; simp, (hb.alloc _).trans hb1, rfl⟩
        case measure => rw [G.out]; omega
      · have e1' : (q != 0) = true := by rw [bne_iff_ne]; exact e1
        have E1 := Lib.hid e1
        clear e1
        go_wp2_with fail
        refine (HE.out _).mono ?_; rintro e w1 ⟨rfl, hb1⟩
        go_wp2_with fail
        go_ret
        exact RB.mk (ival (by rw [H.out, eall_drop X.out, Hq.out, if_pos E1.out])) ((hb.alloc _).trans hb1)
    · obtain rfl : k = l.length := by omega
      have hr := H.out
      rw [List.drop_length] at hr
      subst hr
      go_wp2_with fail
      go_ret
      exact RB.mk rfl hb

/-! ### Print -/
def lhdE (x : Ent) : List UInt8 := if x.dead then [100, 101, 108, 32] ++ quoteW x.key.data.toList else [112, 117, 116, 32] ++ quoteW x.key.data.toList ++ [32] ++ quoteW x.val.data.toList
def ltlE (x : Ent) : List UInt8 := [32] ++ Lib.itoa x.seq ++ [10]
def lineE (x : Ent) : List UInt8 := lhdE x ++ ltlE x
def linesE (l : List Ent) : List UInt8 := l.flatMap lineE
def eprint (l : List Ent) : List UInt8 × Int := if 5000 < l.length then ([], 3) else if eall l ≠ 0 then ([], eall l) else if 1048576 < (linesE l).length then ([], 3) else (linesE l, 0)
theorem quote_most (l : List UInt8) : (quoteW l).length ≤ 4 * l.length + 2 := by
  have := escs_len l
  unfold quoteW
  simp only [List.length_cons, List.length_append, List.length_nil]; omega
theorem lineE_len {x : Ent} (h : echk x = 0) : (lineE x).length ≤ 450 := by
  obtain ⟨h1, h2, _, h4, h5⟩ := echk_ok h
  have q1 := quote_most x.key.data.toList
  have q2 := quote_most x.val.data.toList
  have q3 := Lib.itoa_length_le x.seq (by omega) (by omega)
  rw [← Lib.size_eq] at q1 q2
  unfold lineE lhdE ltlE
  split <;> simp only [List.length_append, List.length_cons, List.length_nil] <;> omega
theorem linesE_len : ∀ {l : List Ent}, (∀ x ∈ l, echk x = 0) → (linesE l).length ≤ 450 * l.length
  | [], _ => by simp [linesE]
  | x :: l, h => by
    have h1 := lineE_len (h x (by simp))
    have h2 := linesE_len (l := l) (fun y hy => h y (by simp [hy]))
    unfold linesE at h2 ⊢
    rw [List.flatMap_cons, List.length_append, List.length_cons]; omega
theorem linesE_step {l : List Ent} {k : Nat} {x : Ent} (h : l[k]? = some x) : linesE (l.take (k + 1)) = linesE (l.take k) ++ lhdE x ++ ltlE x := by
  obtain ⟨hk, hz⟩ := List.getElem?_eq_some_iff.1 h
  rw [List.take_succ_eq_append_getElem hk, hz]
  simp [linesE, lineE]
theorem catB (a b : ByteArray) : (a ++ b).data.toList = a.data.toList ++ b.data.toList := by rw [ByteArray.data_append]; simp
theorem cellsB (acc : List UInt8) (s : ByteArray) (l : List UInt8) (h : s.data.toList = l) : Lib.byteCells acc ++ Lib.strCells s = Lib.byteCells (acc ++ l) := by
  rw [Lib.strCells_eq, Lib.byteCells_append, h]
set_option maxHeartbeats 8000000 in
theorem entPrint (a : Option Addr) (c : Nat) (l : List Ent) (w : World) (hl : Ents w a l) (hn : l.length ≤ maxLen) (hE : PEnv w) : Calls Tryz.prog 17 #[.slice a l.length c] w (RB w (.tuple #[.string ⟨(eprint l).1.toArray⟩, .int .i64 (eprint l).2])) := by
  obtain ⟨res, hres⟩ : ∃ r, eprint l = r := ⟨_, rfl⟩
  rw [hres]
  unfold eprint at hres
  by_cases h5 : 5000 < l.length
  · rw [if_pos h5] at hres
    subst hres
    have i1 : (5000 : Int) < (l.length : Int) := by omega
    clear hl h5 hE
    go_enter Tryz.func17, Tryz.ntmps17
    go_wp2_with fail
    go_ret2
    exact rb_tuple rfl rfl (by repeat (first | assumption | exact Bl.refl _ | apply Bl.drewN | apply Bl.drew | apply Bl.alloc | (refine Bl.dr ?_ (by assumption)) | (refine Bl.trans ?_ (by assumption))))
  · rw [if_neg h5] at hres
    have i1 : ¬ (5000 : Int) < (l.length : Int) := by omega
    have HL := Lib.hid hl
    have HE := Lib.hid hE
    have hA := fun w h => entAll a c l w h hn
    obtain ⟨q, hq⟩ : ∃ q, eall l = q := ⟨_, rfl⟩
    rw [hq] at hA hres
    have HA := Lib.hid hA
    clear hA hl hE
    by_cases hq0 : q = 0
    · subst hq0
      rw [if_neg (by simp)] at hres
      have hgood := eall_ok hq
      have hlen := fun k => linesE_len (l := l.take k) (fun x hx => hgood x (List.mem_of_mem_take hx))
      have HGd := Lib.hid hgood
      have HLen := Lib.hid hlen
      have HR := Lib.hid hres
      clear hq hres hgood hlen
      go_enter Tryz.func17, Tryz.ntmps17
      go_wp2_with fail
      refine (HA.out _ HL.out).mono ?_; rintro e w1 ⟨rfl, hb1⟩
      go_wp2_with fail
      obtain ⟨W, hW⟩ : ∃ W, w1.alloc (.cells #[.pointer none, .slice none 0 0] 68) = W := ⟨_, rfl⟩
      obtain ⟨bb, hbb⟩ : ∃ bb, w1.heap.size = bb := ⟨_, rfl⟩
      have hbW : Bl w W := hW ▸ (hb1.alloc _)
      have hI0 : Lib.IsBuilderF tBl tU8 bb bb (Lib.byteCells []) W := hbb ▸ hW ▸ Lib.IsBuilderF.of (Lib.fresh_isBuilder 68 5 w1)
      have hWs : bb < W.heap.size := by rw [← hW, ← hbb]; simp
      have HBb := Lib.hid (show w.heap.size ≤ bb by have := hb1.size; omega)
      have HI := Lib.hid hI0
      rw [hW, hbb]
      clear hW hI0 hbb hb1
      go_loopg [18] l.length (fun g i wr => ∃ k : Nat, k ≤ l.length ∧ i = .int .i64 k ∧ Lib.IsBuilderF tBl tU8 bb bb (Lib.byteCells (linesE (l.take k))) wr ∧ Bl w wr ∧ bb < wr.heap.size ∧ g = l.length - k)
      case atStart => exact ⟨0, by omega, rfl, by simpa [linesE] using HI.out, hbW, hWs, rfl⟩
      case round =>
        clear hbW hWs HI
        obtain ⟨k, hk, rfl, hI, hbw, hsz, hg⟩ := hrel
        have G := Lib.hid hg
        have HI := Lib.hid hI
        clear hg hI
        by_cases hkl : k < l.length
        · obtain ⟨b, off, rfl, hat⟩ := HL.out.get hkl
          obtain ⟨x, hx⟩ : ∃ x, l[k]? = some x := ⟨_, List.getElem?_eq_getElem hkl⟩
          obtain ⟨c0, c1, c2, c3⟩ := (hat k x hx).bl hbw
          have hxg := HGd.out x (List.mem_of_getElem? hx)
          obtain ⟨g1, g2, g3, g4, g5⟩ := echk_ok hxg
          have HX := Lib.hid hx
          have hlk := HLen.out k
          have htk : (l.take k).length ≤ k := List.length_take_le _ _
          have hDg := fun w h => digitsP x.seq (by omega) (by omega) w h
          have hdl := Lib.itoa_length_le x.seq (by omega) (by omega)
          obtain ⟨dg, hdg⟩ : ∃ q : ByteArray, (⟨(Lib.itoa x.seq).toArray⟩ : ByteArray) = q := ⟨_, rfl⟩
          have hdd : dg.data.toList = Lib.itoa x.seq := by rw [← hdg]
          have hds : dg.size ≤ 21 := by rw [Lib.size_eq, hdd]; exact hdl
          rw [hdg] at hDg
          have hQk := fun w h => woQuote x.key (by omega) w h
          have hkl1 := quote_most x.key.data.toList
          obtain ⟨qk, hqk⟩ : ∃ q : ByteArray, (⟨(quoteW x.key.data.toList).toArray⟩ : ByteArray) = q := ⟨_, rfl⟩
          have hkd : qk.data.toList = quoteW x.key.data.toList := by rw [← hqk]
          have hks : qk.size ≤ 130 := by rw [← Lib.size_eq] at hkl1; rw [Lib.size_eq, hkd]; omega
          rw [hqk] at hQk
          have HDg := Lib.hid hDg
          have HDd := Lib.hid hdd
          have HQk := Lib.hid hQk
          have HKd := Lib.hid hkd
          have i2 : ¬ 9223372036854775807 < 4 + qk.size := by omega
          have i3 : ¬ 9223372036854775807 < 1 + dg.size := by omega
          have i4 : ¬ 9223372036854775807 < 1 + dg.size + 1 := by omega
          have hbx : Bl w (wr.alloc (.cells #[.string x.key, .string x.val, .bool x.dead, .int .i64 x.seq] 35)) := hbw.alloc _
          have hXn : (wr.alloc (.cells #[.string x.key, .string x.val, .bool x.dead, .int .i64 x.seq] 35)).heap[wr.heap.size]? = some (.cells #[.string x.key, .string x.val, .bool x.dead, .int .i64 x.seq] 35 (0, 0)) := heap_alloc_new _ _
          have hIx := IsBuilderF_bl HI.out ((Bl.refl wr).alloc (.cells #[.string x.key, .string x.val, .bool x.dead, .int .i64 x.seq] 35))
          obtain ⟨wx, hwx⟩ : ∃ z, wr.alloc (.cells #[.string x.key, .string x.val, .bool x.dead, .int .i64 x.seq] 35) = z := ⟨_, rfl⟩
          obtain ⟨X, hXe⟩ : ∃ z, wr.heap.size = z := ⟨_, rfl⟩
          rw [hwx] at hbx hXn hIx
          rw [hXe] at hXn
          have hXb : X ≠ bb := by omega
          have hwxs : bb < wx.heap.size := by rw [← hwx]; simp; omega
          have HWx := Lib.hid (And.intro hwx hXe)
          have HIx := Lib.hid hIx
          have HXn := Lib.hid hXn
          clear hat hx hxg hDg hdl hdg hdd hQk hkl1 hqk hkd hwx hXe hIx hXn
          cases hxd : x.dead with
          | true =>
            have hwx := HWx.out
            have hX0 := HXn.out
            rw [hxd] at c2 hwx hX0
            have HW := Lib.hid hwx
            have HX0 := Lib.hid hX0
            have hhd : lhdE x = [100, 101, 108, 32] ++ quoteW x.key.data.toList := by unfold lhdE; rw [hxd]; rfl
            have HHd := Lib.hid hhd
            have HLn := Lib.hid (show (Lib.byteCells (linesE (l.take k))).length + ((⟨#[100, 101, 108, 32]⟩ : ByteArray) ++ qk).size ≤ 140737488355328 by rw [Lib.byteCells_length, ByteArray.size_append]; show _ + (4 + qk.size) ≤ _; omega)
            have HLn2 := Lib.hid (show (Lib.byteCells (linesE (l.take k) ++ lhdE x)).length + ((⟨#[32]⟩ : ByteArray) ++ dg ++ ⟨#[10]⟩).size ≤ 140737488355328 by
              rw [Lib.byteCells_length, ByteArray.size_append, ByteArray.size_append, hhd, List.length_append, List.length_append, ← HKd.out, ← Lib.size_eq]
              show _ + (1 + dg.size + 1) ≤ _
              simp only [List.length_cons, List.length_nil]; omega)
            clear hwx hX0 hxd hhd
            go_wp2_with fail
            rw [HW.out.1, HW.out.2]
            refine (HQk.out _ (HE.out.bl hbx).esc).mono ?_; rintro e w5 ⟨rfl, hb5⟩
            have hX5 : w5.heap[X]? = _ := (hb5.block X (Array.getElem?_eq_some_iff.1 HX0.out).1).trans HX0.out
            have HI5 := Lib.hid (IsBuilderF_bl HIx.out hb5)
            have hbw5 := hbx.trans hb5
            have hs5 := hb5.size
            have HX5 := Lib.hid hX5
            clear hb5 hX5
            go_wp2_with fail
            refine (bldWriteString bb bb _ _ _ HI5.out (by exact HLn.out) (by omega)).mono ?_; rintro e w6 ⟨rfl, hI6, hB6, hO6, -⟩
            have hX6 := hO6 X _ HX5.out (by simpa using hXb) (by intro c fz e; injection e with _ e; exact absurd e (by decide))
            have hbw6 : Bl w w6 := Below.trans hbw5 (Below.mono hB6 HBb.out)
            have hs6 := hB6.size
            rw [cellsB _ _ (lhdE x) (by rw [catB, HKd.out, HHd.out])] at hI6
            clear hB6 hO6
            have hc3 : World.cell? w6 ⟨X, 3, none⟩ = some (.int .i64 x.seq) := by rw [Lib.cell_of_heap hX6]; rfl
            have HX6 := Lib.hid hX6
            have hs6 := hbw6.size
            have HI6 := Lib.hid hI6
            clear hI6 hX6
            go_wp2_with fail
            refine (HDg.out _ (HE.out.bl hbw6)).mono ?_; rintro e w7 ⟨rfl, hb7⟩
            have hI7 := IsBuilderF_bl HI6.out hb7
            have hbw7 := hbw6.trans hb7
            have hs7 := hb7.size
            have HI7 := Lib.hid hI7
            clear hI7 hb7 hc3
            go_wp2_with fail
            refine (bldWriteString bb bb _ _ _ HI7.out (by exact HLn2.out) (by omega)).mono ?_; rintro e w8 ⟨rfl, hI8, hB8, -, -⟩
            have hI9 : Lib.IsBuilderF tBl tU8 bb bb (Lib.byteCells (linesE (l.take (k + 1)))) w8 := by
              rw [linesE_step HX.out]
              rw [cellsB _ _ (ltlE x) (by rw [catB, catB, HDd.out]; rfl)] at hI8
              exact hI8
            have HI9 := Lib.hid hI9
            have hbw8 : Bl w w8 := Below.trans hbw7 (Below.mono hB8 HBb.out)
            have hs8 := hB8.size
            clear hI8 hI9 hB8
            go_wp2_with fail
            go_roundg (l.length - (k + 1))
            case rel => exact ⟨k + 1, by omega, by go_num, HI9.out, hbw8, by omega, rfl⟩
            case measure => rw [G.out]; omega
          | false =>
            have hwx := HWx.out
            have hX0 := HXn.out
            rw [hxd] at c2 hwx hX0
            have HW := Lib.hid hwx
            have HX0 := Lib.hid hX0
            have hhd : lhdE x = [112, 117, 116, 32] ++ quoteW x.key.data.toList ++ [32] ++ quoteW x.val.data.toList := by unfold lhdE; rw [hxd]; rfl
            have hQv := fun w h => woQuote x.val (by omega) w h
            have hvl1 := quote_most x.val.data.toList
            obtain ⟨qv, hqv⟩ : ∃ q : ByteArray, (⟨(quoteW x.val.data.toList).toArray⟩ : ByteArray) = q := ⟨_, rfl⟩
            have hvd : qv.data.toList = quoteW x.val.data.toList := by rw [← hqv]
            have hvs : qv.size ≤ 258 := by rw [← Lib.size_eq] at hvl1; rw [Lib.size_eq, hvd]; omega
            rw [hqv] at hQv
            have HQv := Lib.hid hQv
            have HVd := Lib.hid hvd
            have HHd := Lib.hid hhd
            have HLn := Lib.hid (show (Lib.byteCells (linesE (l.take k))).length + ((⟨#[112, 117, 116, 32]⟩ : ByteArray) ++ qk ++ ⟨#[32]⟩ ++ qv).size ≤ 140737488355328 by
              rw [Lib.byteCells_length, ByteArray.size_append, ByteArray.size_append, ByteArray.size_append]
              show _ + (4 + qk.size + 1 + qv.size) ≤ _; omega)
            have HLn2 := Lib.hid (show (Lib.byteCells (linesE (l.take k) ++ lhdE x)).length + ((⟨#[32]⟩ : ByteArray) ++ dg ++ ⟨#[10]⟩).size ≤ 140737488355328 by
              rw [Lib.byteCells_length, ByteArray.size_append, ByteArray.size_append, hhd, List.length_append, List.length_append, List.length_append, List.length_append, ← HKd.out, ← HVd.out, ← Lib.size_eq, ← Lib.size_eq]
              show _ + (1 + dg.size + 1) ≤ _
              simp only [List.length_cons, List.length_nil]; omega)
            have i5 : ¬ 9223372036854775807 < 4 + qk.size + 1 := by omega
            have i6 : ¬ 9223372036854775807 < 4 + qk.size + 1 + qv.size := by omega
            clear hwx hX0 hxd hhd hqv hvd hQv hvl1
            go_upto_region 12 with fail
            rw [HW.out.1, HW.out.2]
            go_cut [] (fun wz => Lib.IsBuilderF tBl tU8 bb bb (Lib.byteCells (linesE (l.take k) ++ lhdE x)) wz ∧ wz.heap[X]? = some (.cells #[.string x.key, .string x.val, .bool false, .int .i64 x.seq] 35 (0, 0)) ∧ Bl w wz ∧ bb < wz.heap.size)
            case first =>
              have hC0 : ∀ w', Bl wx w' → w'.cell? ⟨X, 0, none⟩ = some (.string x.key) := fun w' h => h.cell (by rw [Lib.cell_of_heap HX0.out]; rfl)
              have hC1 : ∀ w', Bl wx w' → w'.cell? ⟨X, 1, none⟩ = some (.string x.val) := fun w' h => h.cell (by rw [Lib.cell_of_heap HX0.out]; rfl)
              have hX9 : ∀ w', Bl wx w' → w'.heap[X]? = some (.cells #[.string x.key, .string x.val, .bool false, .int .i64 x.seq] 35 (0, 0)) := fun w' h => (h.block X (Array.getElem?_eq_some_iff.1 HX0.out).1).trans HX0.out
              have HC0 := Lib.hid hC0
              have HC1 := Lib.hid hC1
              have HX9 := Lib.hid hX9
              have a0 := hC0 wx (Bl.refl wx)
              have a1 := hC1 wx (Bl.refl wx)
              clear hC0 hC1 hX9 c0 c1 c2 c3
              go_region_with ((first | (go_at_call_of 36 (Value.string x.key); (with_reducible refine (HQk.out _ (HE.out.bl (by repeat (first | assumption | exact Bl.refl _ | apply Bl.drewN | apply Bl.drew | apply Bl.alloc | (refine Bl.dr ?_ (by assumption)) | (refine Bl.trans ?_ (by assumption))))).esc).mono ?_); rintro e w5 ⟨rfl, hb5⟩; (have q0 := HC0.out w5 (by repeat (first | assumption | exact Bl.refl _ | apply Bl.drewN | apply Bl.drew | apply Bl.alloc | (refine Bl.dr ?_ (by assumption)) | (refine Bl.trans ?_ (by assumption))))); (have q1 := HC1.out w5 (by repeat (first | assumption | exact Bl.refl _ | apply Bl.drewN | apply Bl.drew | apply Bl.alloc | (refine Bl.dr ?_ (by assumption)) | (refine Bl.trans ?_ (by assumption)))))) | (go_at_call_of 36 (Value.string x.val); (with_reducible refine (HQv.out _ (HE.out.bl (by repeat (first | assumption | exact Bl.refl _ | apply Bl.drewN | apply Bl.drew | apply Bl.alloc | (refine Bl.dr ?_ (by assumption)) | (refine Bl.trans ?_ (by assumption))))).esc).mono ?_); rintro e w5 ⟨rfl, hb5⟩; (have q0 := HC0.out w5 (by repeat (first | assumption | exact Bl.refl _ | apply Bl.drewN | apply Bl.drew | apply Bl.alloc | (refine Bl.dr ?_ (by assumption)) | (refine Bl.trans ?_ (by assumption))))); (have q1 := HC1.out w5 (by repeat (first | assumption | exact Bl.refl _ | apply Bl.drewN | apply Bl.drew | apply Bl.alloc | (refine Bl.dr ?_ (by assumption)) | (refine Bl.trans ?_ (by assumption)))))) | (go_at_call 35; refine (bldWriteString bb bb _ _ _ (IsBuilderF_bl HIx.out (by repeat (first | assumption | exact Bl.refl _ | apply Bl.drewN | apply Bl.drew | apply Bl.alloc | (refine Bl.dr ?_ (by assumption)) | (refine Bl.trans ?_ (by assumption))))) (by exact HLn.out) (Nat.le_trans (Nat.le_of_lt hwxs) (Bl.size (show Bl wx _ from (by repeat (first | assumption | exact Bl.refl _ | apply Bl.drewN | apply Bl.drew | apply Bl.alloc | (refine Bl.dr ?_ (by assumption)) | (refine Bl.trans ?_ (by assumption)))))))).mono ?_; rintro e w6 ⟨rfl, hI6, hB6, hO6, -⟩)))
              all_goals go_wp2_with fail
              all_goals go_meet
              all_goals refine ⟨?_, hO6 X _ (HX9.out _ (by repeat (first | assumption | exact Bl.refl _ | apply Bl.drewN | apply Bl.drew | apply Bl.alloc | (refine Bl.dr ?_ (by assumption)) | (refine Bl.trans ?_ (by assumption))))) (by simpa using hXb) (by intro c fz e; injection e with _ e; exact absurd e (by decide)), Below.trans (hbx.trans (by repeat (first | assumption | exact Bl.refl _ | apply Bl.drewN | apply Bl.drew | apply Bl.alloc | (refine Bl.dr ?_ (by assumption)) | (refine Bl.trans ?_ (by assumption))))) (Below.mono hB6 HBb.out), Nat.lt_of_lt_of_le hwxs (Nat.le_trans (Bl.size (by repeat (first | assumption | exact Bl.refl _ | apply Bl.drewN | apply Bl.drew | apply Bl.alloc | (refine Bl.dr ?_ (by assumption)) | (refine Bl.trans ?_ (by assumption))))) hB6.size)⟩
              all_goals (rw [cellsB _ _ (lhdE x) (by rw [catB, catB, catB, HKd.out, HVd.out, HHd.out])] at hI6; exact hI6)
            case rest =>
              obtain ⟨hI6, hX6, hbw6, hs6⟩ := hcut
              have hc3 : World.cell? wc ⟨X, 3, none⟩ = some (.int .i64 x.seq) := by rw [Lib.cell_of_heap hX6]; rfl
              have HX6 := Lib.hid hX6
              have hs6 := hbw6.size
              have HI6 := Lib.hid hI6
              clear hI6 hX6
              go_wp2_with fail
              refine (HDg.out _ (HE.out.bl hbw6)).mono ?_; rintro e w7 ⟨rfl, hb7⟩
              have hI7 := IsBuilderF_bl HI6.out hb7
              have hbw7 := hbw6.trans hb7
              have hs7 := hb7.size
              have HI7 := Lib.hid hI7
              clear hI7 hb7 hc3
              go_wp2_with fail
              refine (bldWriteString bb bb _ _ _ HI7.out (by exact HLn2.out) (by omega)).mono ?_; rintro e w8 ⟨rfl, hI8, hB8, -, -⟩
              have hI9 : Lib.IsBuilderF tBl tU8 bb bb (Lib.byteCells (linesE (l.take (k + 1)))) w8 := by
                rw [linesE_step HX.out]
                rw [cellsB _ _ (ltlE x) (by rw [catB, catB, HDd.out]; rfl)] at hI8
                exact hI8
              have HI9 := Lib.hid hI9
              have hbw8 : Bl w w8 := Below.trans hbw7 (Below.mono hB8 HBb.out)
              have hs8 := hB8.size
              clear hI8 hI9 hB8
              go_wp2_with fail
              go_roundg (l.length - (k + 1))
              case rel => exact ⟨k + 1, by omega, by go_num, HI9.out, hbw8, by omega, rfl⟩
              case measure => rw [G.out]; omega
        · obtain rfl : k = l.length := by omega
          have hr := HR.out
          have hll := HLen.out l.length
          rw [List.take_length] at hll
          have hI := HI.out
          rw [List.take_length] at hI
          obtain ⟨acc, hacc⟩ : ∃ acc, linesE l = acc := ⟨_, rfl⟩
          rw [hacc] at hr hll hI
          have HI2 := Lib.hid hI
          clear hI HI hacc
          by_cases hbig : 1048576 < acc.length
          · rw [if_pos hbig] at hr
            subst hr
            have n1 : decide (1048576 < acc.length) = true := by rw [decide_eq_true_eq]; exact hbig
            have n2 : (1048576 : Int) < (acc.length : Int) := by omega
            clear hbig
            go_wp2_with fail
            refine (Tryz.Builder_Len_f bb bb _ _ HI2.out).mono ?_; rintro e w' ⟨rfl, rfl⟩
            rw [Lib.byteCells_length]
            go_wp2_with fail
            go_ret2
            exact rb_tuple rfl rfl hbw
          · rw [if_neg hbig] at hr
            subst hr
            have n1 : decide (1048576 < acc.length) = false := by rw [decide_eq_false_iff_not]; exact hbig
            have n2 : ¬ (1048576 : Int) < (acc.length : Int) := by omega
            clear hbig
            go_wp2_with fail
            refine (Tryz.Builder_Len_f bb bb _ _ HI2.out).mono ?_; rintro e w' ⟨rfl, rfl⟩
            rw [Lib.byteCells_length]
            go_wp2_with fail
            refine (Tryz.Builder_String_any_f bb bb acc _ HI2.out (by omega)).mono ?_
            rintro e W1 ⟨rfl, _, b1⟩
            go_wp2_with fail
            go_ret2
            exact rb_tuple rfl rfl (Below.trans hbw (Below.mono b1 HBb.out))
    · rw [if_pos hq0] at hres
      subst hres
      have t1 : (q != 0) = true := by rw [bne_iff_ne]; exact hq0
      clear hq0 hq
      go_enter Tryz.func17, Tryz.ntmps17
      go_wp2_with fail
      refine (HA.out _ HL.out).mono ?_; rintro e w1 ⟨rfl, hb1⟩
      go_wp2_with fail
      go_ret2
      exact rb_tuple rfl rfl hb1
end Go.Proofs.YtkbfjficmdgjpaaGreatDoor

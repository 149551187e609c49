
/-
  Contracts of words: the reference's Quote.
-/
import Derived.Test.YtkbfjficmdgjpaaGreatDoorWoD
import Derived.Lib.AppendStr
namespace Go.Proofs.YtkbfjficmdgjpaaGreatDoor
open Go.RowKit
set_option linter.unusedSimpArgs false
set_option linter.unusedVariables false
set_option maxRecDepth 100000

theorem inf_by : (Tryz.prog.info? 5).map (fun i => (i.zero, i.size, i.bytes)) = some (some (.int .u8 0), 1, 1) := by kernel_rfl
theorem escW_len (c : UInt8) : (escW c).length ≤ 4 := by unfold escW; split <;> (try split) <;> simp
theorem escs_len : ∀ l : List UInt8, (l.flatMap escW).length ≤ 4 * l.length
  | [] => by simp
  | c :: l => by have := escs_len l; have := escW_len c; simp [List.flatMap_cons] at *; omega
theorem quote_step {l : List UInt8} {k : Nat} {c : UInt8} (h : l[k]? = some c) : 34 :: (l.take (k + 1)).flatMap escW = 34 :: (l.take k).flatMap escW ++ escW c := by
  obtain ⟨hk, hz⟩ := List.getElem?_eq_some_iff.1 h
  rw [List.take_succ_eq_append_getElem hk, hz]
  simp
theorem own_lit (w : World) (c : UInt8) : (w.alloc (.cells #[.int .u8 (c.toNat : Nat)] 5)).ownsRow w.heap.size 5 1 (.slice (some ⟨w.heap.size, 0, none⟩) 1 1) 1 [.int .u8 (c.toNat : Nat)] :=
  World.ownsRow_lit w #[.int .u8 (c.toNat : Nat)] 1 (Nat.le_refl _) (by unfold maxLen; omega) (by simp)
set_option maxHeartbeats 4000000 in
theorem refQuote (s : ByteArray) (hs : s.size ≤ 100000) (w : World) : Calls Tryz.prog 63 #[.string s] w (RB w (.string ⟨(quoteW s.data.toList).toArray⟩)) := by
  obtain ⟨i0, hi, hz0, hz1, hz2⟩ := info_parts inf_by
  have hE := fun c w => refEscaped c w
  have HE := Lib.hid hE
  clear hE
  obtain ⟨R, hR⟩ : ∃ R, quoteW s.data.toList = R := ⟨_, rfl⟩
  rw [hR]
  have HR := Lib.hid hR
  clear hR
  go_enter Tryz.func63, Tryz.ntmps63
  go_wp2_with fail
  go_loopg [3, 4] s.size (fun g v i wr => ∃ k : Nat, k ≤ s.size ∧ i = .int .i64 k ∧ wr.ownsRow w.heap.size 5 1 v (34 :: (s.data.toList.take k).flatMap escW).length (Lib.byteCells (34 :: (s.data.toList.take k).flatMap escW)) ∧ Bl w wr ∧ g = s.size - k)
  case atStart => exact ⟨0, by omega, rfl, own_lit w 34, (by repeat (first | assumption | exact Bl.refl _ | apply Bl.drewN | apply Bl.drew | apply Bl.alloc | (refine Bl.dr ?_ (by assumption)) | (refine Bl.trans ?_ (by assumption)))), rfl⟩
  case round =>
    obtain ⟨k, hk, rfl, hown, hbw, hg⟩ := hrel
    have G := Lib.hid hg
    clear hg
    have hlen := escs_len (s.data.toList.take k)
    have htk : (s.data.toList.take k).length ≤ k := List.length_take_le _ _
    obtain ⟨acc, hac⟩ : ∃ acc, acc = 34 :: (s.data.toList.take k).flatMap escW := ⟨_, rfl⟩
    have hal : acc.length ≤ 400001 := by rw [hac, List.length_cons]; omega
    rw [← hac] at hown
    have HA := Lib.hid hac
    clear hac hlen htk
    by_cases hkl : k < s.size
    · have hx := str_get hkl
      have h1 : (0 : Int) ≤ (k : Int) := by omega
      have h2 : (k : Int) < (s.size : Int) := by omega
      generalize hc : s[k]'hkl = c at hx
      have HX := Lib.hid hx
      have hcl := escW_len c
      clear hx
      go_wp2_with fail
      refine (HE.out c _).mono ?_; rintro e w1 ⟨rfl, hb1⟩
      have hown1 := own_bl hown hb1
      have hbw1 : Bl w w1 := hbw.trans hb1
      clear hown hb1
      obtain ⟨q, hq⟩ : ∃ q : ByteArray, q = ⟨(escW c).toArray⟩ := ⟨_, rfl⟩
      have hqs : q.size = (escW c).length := by rw [hq]; rfl
      rw [← hq]
      have HQ := Lib.hid hq
      clear hq
      have hsz := hbw1.size
      go_wp2_with (at_builtin; refine Lib.wpList_append_own_string _ rfl _ _ 66 9 rfl w.heap.size 5 i0 Tryz.underlying66 Tryz.underlying9 hi hz0 hz1 hz2 _ _ _ rfl hown1 q rfl ?c3 ?c4 ?c5 ?_)
      case c3 => unfold maxLen; omega
      case c4 => omega
      case c5 => omega
      intro v' w2 hown2 hgrow _
      have hb2 := grown_bl hbw1 hown1 hgrow (Nat.le_refl _)
      have hown3 : w2.ownsRow w.heap.size 5 1 v' (34 :: (s.data.toList.take (k + 1)).flatMap escW).length (Lib.byteCells (34 :: (s.data.toList.take (k + 1)).flatMap escW)) := by
        rw [quote_step HX.out, ← HA.out, Lib.byteCells_append, List.length_append]
        rw [Lib.strCells_eq, show q.data.toList = escW c by rw [HQ.out]] at hown2
        exact hown2
      have HW := Lib.hid hown3
      clear hown1 hown2 hown3 hgrow
      go_wp2_with fail
      go_roundg (s.size - (k + 1))
      case rel => exact ⟨k + 1, by omega, by go_num, HW.out, hb2, rfl⟩
      case measure => rw [G.out]; omega
    · obtain rfl : k = s.size := by omega
      have hr : R = acc ++ [34] := by
        rw [← HR.out, HA.out, List.take_of_length_le (by simp)]
        rfl
      have HR2 := Lib.hid hr
      have hsz := hbw.size
      clear hr
      go_wp2_with (at_builtin; refine wpList_append_own _ rfl _ _ 66 rfl w.heap.size 5 i0 (.int .u8 0) 1 1 Tryz.underlying66 hi hz0 hz1 hz2 rfl (by decide) _ _ _ rfl (hown.alloc _) ⟨wr.heap.size, 0, none⟩ 1 1 [.int .u8 34] rfl rfl ?c1 ?c2 ?c3 ?c4 ?c5 ?_)
      case c1 =>
        intro j u hj
        match j, hj with
        | 0, hj => simp at hj; subst hj; simp [Addr.add]
      case c2 => intro u hu; simp at hu; subst hu; rfl
      case c3 => unfold maxLen; omega
      case c4 => omega
      case c5 => simp; omega
      intro v' w2 hown2 hgrow _
      have hb2 := grown_bl (hbw.alloc _) (hown.alloc _) hgrow (Nat.le_refl _)
      have hown3 : w2.ownsRow w.heap.size 5 1 v' (acc ++ [34]).length (Lib.byteCells (acc ++ [34])) := by
        rw [Lib.byteCells_append, List.length_append]; exact hown2
      have hcv := conv_own hown3
      rw [← HR2.out] at hcv
      clear hown hown2 hown3 hgrow
      go_wp2_with fail
      go_ret
      exact RB.mk rfl hb2
end Go.Proofs.YtkbfjficmdgjpaaGreatDoor


/-
  Contracts of words: Quote.
-/
import Derived.Test.YtkbfjficmdgjpaaGreatDoorWoE
import Derived.Deep.DeepCutAuto
import Derived.Deep.AppendLies
import Derived.Deep.RegionHeld3
namespace Go.Proofs.YtkbfjficmdgjpaaGreatDoor
open Go.RowKit
set_option linter.unusedSimpArgs false
set_option linter.unusedVariables false
set_option maxRecDepth 100000

theorem and15 : ∀ c : UInt8, bits BinOp.and IntKind.u8 (c.toNat : Int) 15 = ((c.toNat % 16 : Nat) : Int) := byte_all (by decide +kernel)
abbrev hxB : ByteArray := ⟨#[48, 49, 50, 51, 52, 53, 54, 55, 56, 57, 97, 98, 99, 100, 101, 102]⟩
set_option maxHeartbeats 4000000 in
theorem woQuote (s : ByteArray) (hs : s.size ≤ 100000) (w : World) (hE : EscTab w) : Calls Tryz.prog 36 #[.string s] w (RB w (.string ⟨(quoteW s.data.toList).toArray⟩)) := by
  obtain ⟨i0, hi, hz0, hz1, hz2⟩ := info_parts inf_by
  obtain ⟨R, hR⟩ : ∃ R, quoteW s.data.toList = R := ⟨_, rfl⟩
  rw [hR]
  have HR := Lib.hid hR
  clear hR
  go_enter Tryz.func36, Tryz.ntmps36
  obtain ⟨wm, hms, hom, hgm⟩ := run_make_own (P := Tryz.prog) (w := w) w.heap.size 66 5 i0 (.int .u8 0) 1 Tryz.underlying66 hi hz0 hz1 .i64 .i64 (s.size + 2) (by rw [hz2]; omega) (by unfold maxLen; omega) (Nat.le_refl _)
  rw [show ((s.size + 2 : Nat) : Int) = (s.size : Int) + 2 by push_cast; rfl] at hms
  have hbm : Bl w wm := Bl.grown (Bl.refl w) hgm (by intro k hk; cases hk)
  have hszm := hbm.size
  clear hgm
  go_wp2_with (at_builtin; refine wpList_append_own _ rfl _ _ 66 rfl w.heap.size 5 i0 (.int .u8 0) 1 1 Tryz.underlying66 hi hz0 hz1 hz2 rfl (by decide) _ _ _ rfl (hom.alloc _) ⟨wm.heap.size, 0, none⟩ 1 1 [.int .u8 34] rfl rfl ?c1 ?c2 ?c3 ?c4 ?c5 ?_)
  case c1 => exact multi_new _ _ _
  case c2 => intro u hu; simp at hu; subst hu; rfl
  case c3 => unfold maxLen; omega
  case c4 => omega
  case c5 => simp; omega
  intro v0 w0 hown0 hg0 _
  have hb0 := grown_bl (hbm.alloc _) (hom.alloc _) hg0 (Nat.le_refl _)
  have HO := Lib.hid hown0
  clear hom hown0 hg0 hms hbm hszm
  go_wp2_with fail
  go_loopg [3, 16] s.size (fun g v i wr => ∃ k : Nat, k ≤ s.size ∧ i = .int .i64 k ∧ wr.ownsRow w.heap.size 5 1 v (34 :: (s.data.toList.take k).flatMap escW).length (Lib.byteCells (34 :: (s.data.toList.take k).flatMap escW)) ∧ Bl w wr ∧ g = s.size - k)
  case atStart => exact ⟨0, by omega, rfl, HO.out, hb0, rfl⟩
  case round =>
    obtain ⟨k, hk, rfl, hown, hbw, hg⟩ := hrel
    have G := Lib.hid hg
    clear hg HO
    have hlen := escs_len (s.data.toList.take k)
    have htk : (s.data.toList.take k).length ≤ k := List.length_take_le _ _
    obtain ⟨acc, hac⟩ : ∃ acc, acc = 34 :: (s.data.toList.take k).flatMap escW := ⟨_, rfl⟩
    have hal : acc.length ≤ 400001 := by rw [hac, List.length_cons]; omega
    rw [← hac] at hown
    have HA := Lib.hid hac
    clear hac hlen htk
    by_cases hkl : k < s.size
    · have hx := str_get hkl
      have h1 : (0 : Int) ≤ (k : Int) := by omega
      have h2 : (k : Int) < (s.size : Int) := by omega
      generalize hc : s[k]'hkl = c at hx
      have HX := Lib.hid hx
      clear hx
      go_wp2_with fail
      refine (woLetter c _ (hE.bl hbw)).mono ?_; rintro e w1 ⟨rfl, hb1⟩
      go_wp2_with fail
      refine (woPlain c _).mono ?_; rintro e w2 ⟨rfl, hb2⟩
      have hown := own_bl (own_bl hown hb1) hb2
      have hbw : Bl w w2 := (hbw.trans hb1).trans hb2
      have hsz := hbw.size
      clear hb1 hb2
      cases hpl : plainB c
      · by_cases hl : letB c = 0
        · have hlt : c.toNat < 256 := c.toNat_lt
          obtain ⟨n1, k1⟩ : ∃ n, n = c.toNat / 16 := ⟨_, rfl⟩
          obtain ⟨n2, k2⟩ : ∃ n, n = c.toNat % 16 := ⟨_, rfl⟩
          have hp1 : n1 < 16 := by omega
          have hp2 : n2 < 16 := by omega
          have hd : (c.toNat : Int) / 16 = (n1 : Int) := by omega
          have hr : (c.toNat : Int) % 16 = (n2 : Int) := by omega
          have ha : bits BinOp.and IntKind.u8 (c.toNat : Int) 15 = (n2 : Int) := by rw [and15 c, ← k2]
          have i1 : (0 : Int) ≤ (n1 : Int) := by omega
          have i2 : (n1 : Int) < 16 := by omega
          have i3 : (0 : Int) ≤ (n2 : Int) := by omega
          have i4 : (n2 : Int) < 16 := by omega
          have hes : escW c = [92, 120, hxB[n1]'hp1, hxB[n2]'hp2] := by
            rw [hxs_get _ hp1, hxs_get _ hp2]; unfold escW; rw [hpl, if_neg (by simp), if_neg (by simp [hl]), k1, k2]
          have e1 : (((letB c).toNat : Int) != 0) = false := by rw [hl]; rfl
          have HO := Lib.hid hown
          have HEs := Lib.hid hes
          clear hpl hl hown hes k1 k2
          go_wp2_with fail
          go_region_held3 (fun w' => True) (trivial)
            ((refine step_append_lies _ (by rfl) _ _ _ (by rfl) w.heap.size 5 i0 _ 1 1 Tryz.underlying66 hi hz0 hz1 hz2 rfl (by omega) _ acc.length (Lib.byteCells acc) (by rfl) ((HO.out.alloc _).drew)
                ⟨w2.heap.size, 0, none⟩ 4 4 #[.int .u8 92, .int .u8 120, .int .u8 ((hxB[n1]'hp1).toNat : Nat), .int .u8 ((hxB[n2]'hp2).toNat : Nat)].toList (by rfl) (by rfl) (World.news_of_block (cs := #[.int .u8 92, .int .u8 120, .int .u8 ((hxB[n1]'hp1).toNat : Nat), .int .u8 ((hxB[n2]'hp2).toNat : Nat)]) (t := 5) (fr := (0, 0)) (heap_alloc_new w2 _)) (by simp [Value.oneCell'])
                (by omega) (by unfold maxLen; omega) (by omega) (by simp; omega) (w2.heap.size + 1) (by simp) ?_; intro gg cap w3 hown1 hgrow hat hlt3))
          all_goals
            have hb3 := grown_bl ((hbw.alloc _).drew) ((HO.out.alloc _).drew) hgrow (Nat.le_refl _)
            have hown3 : w3.ownsRow w.heap.size 5 1 (Value.slice (some { block := gg, off := 0 }) (acc.length + 4) cap) (34 :: (s.data.toList.take (k + 1)).flatMap escW).length (Lib.byteCells (34 :: (s.data.toList.take (k + 1)).flatMap escW)) := by
              rw [show 34 :: (s.data.toList.take (k + 1)).flatMap escW = acc ++ escW c by rw [quote_step HX.out, HA.out]]
              rw [HEs.out, Lib.byteCells_append, List.length_append]; exact hown1
            have HW := Lib.hid hown3
            clear hown1 hown3 hgrow hat hlt3
            go_wp2_with fail
            go_roundg (s.size - (k + 1))
            (case rel => exact ⟨k + 1, by omega, by go_num, HW.out, hb3, rfl⟩)
            (case measure => rw [G.out]; omega)
        · have hes : escW c = [92, letB c] := by unfold escW; rw [hpl, if_neg (by simp), if_pos hl]
          have e1 : (((letB c).toNat : Int) != 0) = true := u8_bne (d := 0) hl
          clear hpl hl
          go_wp2_with (at_builtin; refine wpList_append_own _ rfl _ _ 66 rfl w.heap.size 5 i0 (.int .u8 0) 1 1 Tryz.underlying66 hi hz0 hz1 hz2 rfl (by decide) _ _ _ rfl (hown.alloc _) ⟨w2.heap.size, 0, none⟩ 2 2 [.int .u8 92, .int .u8 ((letB c).toNat : Nat)] rfl rfl ?c1 ?c2 ?c3 ?c4 ?c5 ?_)
          case c1 => exact multi_new _ _ _
          case c2 => intro u hu; simp at hu; (first | subst hu; rfl | (rcases hu with rfl | rfl <;> rfl))
          case c3 => unfold maxLen; omega
          case c4 => omega
          case c5 => simp; omega
          intro v' w3 hown2 hgrow _
          have hb3 := grown_bl (hbw.alloc _) (hown.alloc _) hgrow (Nat.le_refl _)
          have hown3 : w3.ownsRow w.heap.size 5 1 v' (acc ++ [92, letB c]).length (Lib.byteCells (acc ++ [92, letB c])) := by
            rw [Lib.byteCells_append, List.length_append]; exact hown2
          have hes : escW c = [92, letB c] := by assumption
          rw [← hes, HA.out, ← quote_step HX.out] at hown3
          have HW := Lib.hid hown3
          clear hown hown2 hown3 hgrow hes
          go_wp2_with fail
          go_roundg (s.size - (k + 1))
          case rel => exact ⟨k + 1, by omega, by go_num, HW.out, hb3, rfl⟩
          case measure => rw [G.out]; omega
      · have hes : escW c = [c] := by unfold escW; rw [if_pos hpl]
        clear hpl
        go_wp2_with (at_builtin; refine wpList_append_own _ rfl _ _ 66 rfl w.heap.size 5 i0 (.int .u8 0) 1 1 Tryz.underlying66 hi hz0 hz1 hz2 rfl (by decide) _ _ _ rfl (hown.alloc _) ⟨w2.heap.size, 0, none⟩ 1 1 [.int .u8 (c.toNat : Nat)] rfl rfl ?c1 ?c2 ?c3 ?c4 ?c5 ?_)
        case c1 => exact multi_new _ _ _
        case c2 => intro u hu; simp at hu; (first | subst hu; rfl | (rcases hu with rfl | rfl <;> rfl))
        case c3 => unfold maxLen; omega
        case c4 => omega
        case c5 => simp; omega
        intro v' w3 hown2 hgrow _
        have hb3 := grown_bl (hbw.alloc _) (hown.alloc _) hgrow (Nat.le_refl _)
        have hown3 : w3.ownsRow w.heap.size 5 1 v' (acc ++ [c]).length (Lib.byteCells (acc ++ [c])) := by
          rw [Lib.byteCells_append, List.length_append]; exact hown2
        have hes : escW c = [c] := by assumption
        rw [← hes, HA.out, ← quote_step HX.out] at hown3
        have HW := Lib.hid hown3
        clear hown hown2 hown3 hgrow hes
        go_wp2_with fail
        go_roundg (s.size - (k + 1))
        case rel => exact ⟨k + 1, by omega, by go_num, HW.out, hb3, rfl⟩
        case measure => rw [G.out]; omega
    · obtain rfl : k = s.size := by omega
      have hr : R = acc ++ [34] := by
        rw [← HR.out, HA.out, List.take_of_length_le (by simp)]
        rfl
      have HR2 := Lib.hid hr
      have hsz := hbw.size
      clear hr
      go_wp2_with (at_builtin; refine wpList_append_own _ rfl _ _ 66 rfl w.heap.size 5 i0 (.int .u8 0) 1 1 Tryz.underlying66 hi hz0 hz1 hz2 rfl (by decide) _ _ _ rfl (hown.alloc _) ⟨wr.heap.size, 0, none⟩ 1 1 [.int .u8 34] rfl rfl ?c1 ?c2 ?c3 ?c4 ?c5 ?_)
      case c1 =>
        intro j u hj
        match j, hj with
        | 0, hj => simp at hj; subst hj; simp [Addr.add]
      case c2 => intro u hu; simp at hu; subst hu; rfl
      case c3 => unfold maxLen; omega
      case c4 => omega
      case c5 => simp; omega
      intro v' w2 hown2 hgrow _
      have hb2 := grown_bl (hbw.alloc _) (hown.alloc _) hgrow (Nat.le_refl _)
      have hown3 : w2.ownsRow w.heap.size 5 1 v' (acc ++ [34]).length (Lib.byteCells (acc ++ [34])) := by
        rw [Lib.byteCells_append, List.length_append]; exact hown2
      have hcv := conv_own hown3
      rw [← HR2.out] at hcv
      clear hown hown2 hown3 hgrow
      go_wp2_with fail
      go_ret
      exact RB.mk rfl hb2
end Go.Proofs.YtkbfjficmdgjpaaGreatDoor

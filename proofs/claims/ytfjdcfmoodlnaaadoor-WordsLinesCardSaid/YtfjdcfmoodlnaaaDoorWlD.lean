
/-
  The law WordsLines walked.
-/
import Derived.Test.YtfjdcfmoodlnaaaDoorWlC
import Derived.Test.YtfjdcfmoodlnaaaDoorWoS
namespace Go.Proofs.YtfjdcfmoodlnaaaDoor
open Go.RowKit
set_option linter.unusedSimpArgs false
set_option linter.unusedVariables false
set_option maxRecDepth 100000

theorem strs_same {L K : List ByteArray} (h : L.map (·.data.toList) = K.map (·.data.toList)) : L = K :=
  (List.map_inj_right (fun x y e => ByteArray.ext (Array.ext' e))).1 h
set_option maxHeartbeats 4000000 in
theorem lawLines1 (s : ByteArray) (w : World) (hs : s.size ≤ 2000000) : Calls Tryd.prog 26 #[.string s] w (RB w (.bool true)) := by
  have hA := fun w => woLines s w hs
  have hB := fun w => refLines s w hs
  generalize wlines s.data.toList = r at hA hB
  obtain ⟨ls, er⟩ := r
  have HA := Lib.hid hA
  have HB := Lib.hid hB
  clear hA hB hs
  go_enter Tryd.func26, Tryd.ntmps26
  go_wp2_with fail
  refine (HA.out _).mono ?_; rintro e w1 ⟨v1, rfl, ⟨a, c, L, rfl, hS1, hM1, h51⟩, hb1⟩
  have HS1 := Lib.hid hS1
  have HM1 := Lib.hid hM1
  have HL1 := Lib.hid h51
  clear hS1 hM1 h51
  go_wp2_with fail
  refine (HB.out _).mono ?_; rintro e w2 ⟨v2, rfl, ⟨a2, c2, K, rfl, hS2, hM2, h52⟩, hb2⟩
  obtain rfl : L = K := strs_same (HM1.out.trans hM2.symm)
  have hb : Bl w w2 := hb1.trans hb2
  have HS3 := Lib.hid (HS1.out.bl hb2)
  have HS2 := Lib.hid hS2
  clear hS2 hM2 h52 hb1 hb2 HA HB HM1 HS1
  go_wp2_with fail
  go_loopg [7] L.length (fun g i wr => ∃ k : Nat, k ≤ L.length ∧ i = .int .i64 k ∧ Bl w2 wr ∧ g = L.length - k)
  case atStart => exact ⟨0, by omega, rfl, Bl.refl _, rfl⟩
  case round =>
    obtain ⟨k, hk, rfl, hbw, hg⟩ := hrel
    have G := Lib.hid hg
    have h5 := HL1.out
    clear hg
    by_cases hkl : k < L.length
    · obtain ⟨b, off, rfl, hat⟩ := (HS3.out.bl hbw).get hkl
      obtain ⟨b2, off2, rfl, hat2⟩ := (HS2.out.bl hbw).get hkl
      obtain ⟨x, hx⟩ : ∃ x, L[k]? = some x := ⟨_, List.getElem?_eq_getElem hkl⟩
      have d1 := hat k x hx
      have d2 := hat2 k x hx
      have j0 : (0 : Int) ≤ (k : Int) := by omega
      have j1 : (k : Int) < (L.length : Int) := by omega
      clear hat hat2 hx
      go_wp2_with fail
      go_quiet (fail)
      go_wp2_with fail
      go_roundg (L.length - (k + 1))
      case rel => exact ⟨k + 1, by omega, by go_num, (by repeat (first | assumption | exact Bl.refl _ | apply Bl.drewN | apply Bl.drew | apply Bl.alloc | (refine Bl.dr ?_ (by assumption)) | (refine Bl.trans ?_ (by assumption)))), rfl⟩
      case measure => rw [G.out]; omega
    · obtain rfl : k = L.length := by omega
      go_wp2_with fail
      go_ret
      exact RB.mk rfl (hb.trans hbw)
theorem own_zero (w : World) (n : Nat) (hn : n ≤ maxLen) : (w.alloc (.cells (madeCells #[.int .u8 0] n) 5)).ownsRow w.heap.size 5 1 (.slice (some ⟨w.heap.size, 0, none⟩) n n) n (Lib.byteCells (List.replicate n 0)) := by
  have h := World.ownsRow_lit (base := w.heap.size) (e := 5) (size := 1) w (madeCells #[.int .u8 0] n) n (Nat.le_refl _) hn (by rw [size_madeCells]; omega)
  rw [toList_madeCells_one] at h
  have e : Lib.byteCells (List.replicate n 0) = List.replicate n (.int .u8 0) := by unfold Lib.byteCells; rw [List.map_replicate]; rfl
  rw [e]; exact h
theorem own_at {w : World} {B N : Nat} {L : List UInt8} (h : w.ownsRow B 5 1 (.slice (some ⟨B, 0, none⟩) N N) N (Lib.byteCells L)) (hl : L.length = N) {k : Nat} (hk : k < N) : (∃ c : UInt8, w.cell? ⟨B, k, none⟩ = some (.int .u8 (c.toNat : Nat))) ∧ w.frozen? ⟨B, k, none⟩ = false := by
  refine ⟨?_, h.frozenAt k⟩
  obtain ⟨a, c, e, h1, h2, h3⟩ := own_form h
  obtain ⟨g, rfl, _, _, hc⟩ := h3 (by omega)
  injection e with e1 e2 e3
  injection e1 with e1
  injection e1 with e1
  subst e1
  refine ⟨L[k], hc k _ ?_⟩
  unfold Lib.byteCells
  rw [List.getElem?_map, List.getElem?_eq_getElem (by omega)]; rfl
theorem own_put {w : World} {B N : Nat} {L : List UInt8} (h : w.ownsRow B 5 1 (.slice (some ⟨B, 0, none⟩) N N) N (Lib.byteCells L)) (k : Nat) (c : UInt8) (z : Int) (hz : ((c.toNat : Nat) : Int) = z) : (w.setCell ⟨B, k, none⟩ (.int .u8 z)).ownsRow B 5 1 (.slice (some ⟨B, 0, none⟩) N N) N (Lib.byteCells (L.set k c)) := by
  subst hz
  have := (h.stored k (.int .u8 (c.toNat : Nat))).1
  unfold Lib.byteCells at this ⊢
  rw [List.map_set]
  exact this
theorem own_made (w : World) (n B : Nat) (hn : n ≤ maxLen) (hB : w.heap.size = B) : ∃ L : List UInt8, L.length = n ∧ (w.alloc (.cells (madeCells #[.int .u8 0] n) 5)).ownsRow B 5 1 (.slice (some ⟨B, 0, none⟩) n n) n (Lib.byteCells L) := by
  subst hB
  exact ⟨_, List.length_replicate, own_zero w n hn⟩
set_option maxHeartbeats 4000000 in
theorem lawLines (s tail : ByteArray) (long : Bool) (w : World) (hE : WEnv w) : Calls Tryd.prog 8 #[.string s, .string tail, .bool long] w (RB w (.bool true)) := by
  have HE := Lib.hid hE
  clear hE
  obtain ⟨N, hN, hm1⟩ : ∃ N : Nat, N ≤ 1048556 ∧ ∀ w, (Instr.makeSlice 38 (.int .i64 5000) (.int .i64 5000)).run Tryd.prog w = .ok (.slice (some ⟨w.heap.size, 0, none⟩) N N) (w.alloc (.cells (madeCells #[.int .u8 0] N) 5)) := ⟨5000, by omega, run_make_row' (P := Tryd.prog) 38 5 (.int .u8 0) 1 Tryd.underlying38 inf_by rfl .i64 .i64 5000 (by omega) (by omega)⟩
  obtain ⟨M, hM, hm2⟩ : ∃ N : Nat, N ≤ 1048556 ∧ ∀ w, (Instr.makeSlice 38 (.int .i64 1048556) (.int .i64 1048556)).run Tryd.prog w = .ok (.slice (some ⟨w.heap.size, 0, none⟩) N N) (w.alloc (.cells (madeCells #[.int .u8 0] N) 5)) := ⟨1048556, by omega, run_make_row' (P := Tryd.prog) 38 5 (.int .u8 0) 1 Tryd.underlying38 inf_by rfl .i64 .i64 1048556 (by omega) (by omega)⟩
  by_cases h1 : 12000 < s.size
  · have i1 : (12000 : Int) < (s.size : Int) := by omega
    clear h1 hm1 hm2
    go_enter Tryd.func8, Tryd.ntmps8
    go_wp2_with fail
    refine (lawShown _ HE.out).mono ?_; rintro e w8 ⟨rfl, hb8⟩
    go_wp2_with fail
    go_ret
    exact RB.mk rfl hb8
  · have i1 : ¬ (12000 : Int) < (s.size : Int) := by omega
    by_cases h2 : 100 < tail.size
    · have i2 : (100 : Int) < (tail.size : Int) := by omega
      clear h1 h2 hm1 hm2
      go_enter Tryd.func8, Tryd.ntmps8
      go_wp2_with fail
      refine (lawShown _ HE.out).mono ?_; rintro e w8 ⟨rfl, hb8⟩
      go_wp2_with fail
      go_ret
      exact RB.mk rfl hb8
    · have i2 : ¬ (100 : Int) < (tail.size : Int) := by omega
      have H1 := Lib.hid (fun w => lawLines1 s w (by omega))
      have ht : tail.size ≤ 100 := by omega
      clear h1 h2
      go_enter Tryd.func8, Tryd.ntmps8
      cases long
      · go_wp2_with fail
        clear hm1 hm2
        obtain ⟨L0, hL0, ho0⟩ := own_made w N w.heap.size (by unfold maxLen; omega) rfl
        go_loopg [8] N (fun g i wr => ∃ (k : Nat) (L : List UInt8), k ≤ N ∧ i = .int .i64 k ∧ L.length = N ∧ wr.ownsRow (w.heap.size) 5 1 (.slice (some ⟨w.heap.size, 0, none⟩) N N) N (Lib.byteCells L) ∧ Bl w wr ∧ g = N - k)
        case atStart => exact ⟨0, L0, by omega, rfl, hL0, ho0, (Bl.refl w).alloc _, rfl⟩
        case round =>
          clear ho0 hL0
          clear L0
          obtain ⟨k, L, hk, rfl, hL, hown, hbw, hg⟩ := hrel
          have G := Lib.hid hg
          have HO := Lib.hid hown
          have HL := Lib.hid hL
          clear hg
          by_cases hkl : k < N
          · obtain ⟨⟨c0, hc0⟩, hf0⟩ := own_at hown hL hkl
            have hp := own_put hown k 10 10 rfl
            have hpl : (L.set k 10).length = N := by rw [List.length_set]; exact hL
            obtain ⟨⟨c1, hc1⟩, hf1⟩ := own_at hp hpl hkl
            have HP := Lib.hid hp
            have HPL := Lib.hid hpl
            have hp2 := own_put hp k 120 120 rfl
            have HP2 := Lib.hid hp2
            have j0 : (0 : Int) ≤ (k : Int) := by omega
            have j1 : (k : Int) < (N : Int) := by omega
            have hsz := hbw.size
            clear hown hp hpl hp2 hL
            go_wp2_with fail
            go_roundg (N - (k + 1))
            case rel => exact ⟨k + 1, L.set k 10, by omega, by go_num, HPL.out, HP.out, (by repeat (first | assumption | exact Bl.refl _ | apply Bl.drewN | apply Bl.drew | apply Bl.alloc | (refine Bl.setCell ?_ _ (by first | (simp; done) | (simp; omega)) _) | (refine Bl.dr ?_ (by assumption)) | (refine Bl.trans ?_ (by assumption)))), rfl⟩
            case measure => rw [G.out]; omega
          · obtain rfl : k = N := by omega
            clear hown hL
            go_wp2_with fail
            refine (H1.out _).mono ?_; rintro e w3 ⟨rfl, hb3⟩
            have hown := own_bl HO.out hb3
            have hcv := conv_own (acc := L) (by rw [HL.out]; exact hown)
            obtain ⟨q, hq⟩ : ∃ q : ByteArray, (⟨L.toArray⟩ : ByteArray) = q := ⟨_, rfl⟩
            have hqs : q.size = k := by rw [← HL.out, ← hq]; rfl
            rw [hq] at hcv
            have i5 : ¬ (9223372036854775807 : Int) < (q.size : Int) + (tail.size : Int) := by omega
            have i6 : ¬ 9223372036854775807 < q.size + tail.size := by omega
            have H2 := Lib.hid (fun w => lawLines1 (q ++ tail) w (by rw [ByteArray.size_append]; omega))
            have hb : Bl w w3 := hbw.trans hb3
            clear hown hq HL HO hqs
            go_wp2_with fail
            refine (H2.out _).mono ?_; rintro e w4 ⟨rfl, hb4⟩
            have hb := hb.trans hb4
            clear hb4
            go_wp2_with fail
            refine (lawShown _ (HE.out.bl hb)).mono ?_; rintro e w8 ⟨rfl, hb8⟩
            go_wp2_with fail
            go_ret
            exact RB.mk rfl (hb.trans hb8)
      · go_wp2_with fail
        clear hm1 hm2
        obtain ⟨L0, hL0, ho0⟩ := own_made (w.alloc (.cells (madeCells #[.int .u8 0] N) 5)) M (w.heap.size + 1) (by unfold maxLen; omega) (by simp)
        go_loopg [8] M (fun g i wr => ∃ (k : Nat) (L : List UInt8), k ≤ M ∧ i = .int .i64 k ∧ L.length = M ∧ wr.ownsRow (w.heap.size + 1) 5 1 (.slice (some ⟨w.heap.size + 1, 0, none⟩) M M) M (Lib.byteCells L) ∧ Bl w wr ∧ g = M - k)
        case atStart => exact ⟨0, L0, by omega, rfl, hL0, ho0, ((Bl.refl w).alloc _).alloc _, rfl⟩
        case round =>
          clear ho0 hL0
          clear L0
          obtain ⟨k, L, hk, rfl, hL, hown, hbw, hg⟩ := hrel
          have G := Lib.hid hg
          have HO := Lib.hid hown
          have HL := Lib.hid hL
          clear hg
          by_cases hkl : k < M
          · obtain ⟨⟨c0, hc0⟩, hf0⟩ := own_at hown hL hkl
            have hp := own_put hown k 10 10 rfl
            have hpl : (L.set k 10).length = M := by rw [List.length_set]; exact hL
            obtain ⟨⟨c1, hc1⟩, hf1⟩ := own_at hp hpl hkl
            have HP := Lib.hid hp
            have HPL := Lib.hid hpl
            have hp2 := own_put hp k 120 120 rfl
            have HP2 := Lib.hid hp2
            have j0 : (0 : Int) ≤ (k : Int) := by omega
            have j1 : (k : Int) < (M : Int) := by omega
            have hsz := hbw.size
            clear hown hp hpl hp2 hL
            obtain ⟨r, hr⟩ : ∃ r, ((k : Int) % 1000 != 0) = r := ⟨_, rfl⟩
            cases r
            · go_wp2_with fail
              go_roundg (M - (k + 1))
              case rel => exact ⟨k + 1, L.set k 10, by omega, by go_num, HPL.out, HP.out, (by repeat (first | assumption | exact Bl.refl _ | apply Bl.drewN | apply Bl.drew | apply Bl.alloc | (refine Bl.setCell ?_ _ (by first | (simp; done) | (simp; omega)) _) | (refine Bl.dr ?_ (by assumption)) | (refine Bl.trans ?_ (by assumption)))), rfl⟩
              case measure => rw [G.out]; omega
            · go_wp2_with fail
              go_roundg (M - (k + 1))
              case rel => exact ⟨k + 1, (L.set k 10).set k 120, by omega, by go_num, by rw [List.length_set]; exact HPL.out, HP2.out, (by repeat (first | assumption | exact Bl.refl _ | apply Bl.drewN | apply Bl.drew | apply Bl.alloc | (refine Bl.setCell ?_ _ (by first | (simp; done) | (simp; omega)) _) | (refine Bl.dr ?_ (by assumption)) | (refine Bl.trans ?_ (by assumption)))), rfl⟩
              case measure => rw [G.out]; omega
          · obtain rfl : k = M := by omega
            clear hown hL
            go_wp2_with fail
            refine (H1.out _).mono ?_; rintro e w3 ⟨rfl, hb3⟩
            have hown := own_bl HO.out hb3
            have hcv := conv_own (acc := L) (by rw [HL.out]; exact hown)
            obtain ⟨q, hq⟩ : ∃ q : ByteArray, (⟨L.toArray⟩ : ByteArray) = q := ⟨_, rfl⟩
            have hqs : q.size = k := by rw [← HL.out, ← hq]; rfl
            rw [hq] at hcv
            have i5 : ¬ (9223372036854775807 : Int) < (q.size : Int) + (tail.size : Int) := by omega
            have i6 : ¬ 9223372036854775807 < q.size + tail.size := by omega
            have H2 := Lib.hid (fun w => lawLines1 (q ++ tail) w (by rw [ByteArray.size_append]; omega))
            have hb : Bl w w3 := hbw.trans hb3
            clear hown hq HL HO hqs
            go_wp2_with fail
            refine (H2.out _).mono ?_; rintro e w4 ⟨rfl, hb4⟩
            have hb := hb.trans hb4
            clear hb4
            go_wp2_with fail
            refine (lawShown _ (HE.out.bl hb)).mono ?_; rintro e w8 ⟨rfl, hb8⟩
            go_wp2_with fail
            go_ret
            exact RB.mk rfl (hb.trans hb8)
end Go.Proofs.YtfjdcfmoodlnaaaDoor

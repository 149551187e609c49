
/-
  Contracts of words (over 01.ZD): ParseList.
-/
import Derived.Test.YtfjdcfmoodlnaaaGreatDoorWpK
import Derived.Test.YtfjdcfmoodlnaaaGreatDoorWpB
import Derived.Test.YtfjdcfmoodlnaaaGreatDoorWpD
import Derived.Maps.AppendAt
import Derived.Laws.AppendOwn
import Derived.Deep.LoopGhost
namespace Go.Proofs.YtfjdcfmoodlnaaaGreatDoor
open Go.RowKit
set_option linter.unusedSimpArgs false
set_option linter.unusedVariables false
set_option maxRecDepth 100000

theorem woSplitPcs (b : UInt8) (s : ByteArray) (w : World) (hs : s.size ≤ 100000) : Calls Tryz.prog 27 #[.string s, .string ⟨#[b]⟩] w (RM w (PcsIs (pcs b [] s.data.toList))) := by
  have hl := Lib.splitB_all ⟨#[b]⟩ (Nat.le_refl 1) 0 _ s rfl
  have hp := splitB_pcs b s
  refine (woSplitC b s w (by omega)).mono ?_
  rintro e w' ⟨rfl, rfl⟩
  generalize Lib.splitB ⟨#[b]⟩ 0 (Lib.countB s ⟨#[b]⟩) s = SB at hl hp ⊢
  rw [← hl]
  refine RM.mk ⟨some ⟨w.heap.size, 0, none⟩, SB.length, SB, rfl, ⟨?_, fun _ => ⟨w.heap.size, 0, rfl, ?_⟩⟩, hp⟩ (by repeat (first | assumption | exact Bl.refl _ | apply Bl.drewN | apply Bl.drew | apply Bl.alloc | (refine Bl.dr ?_ (by assumption)) | (refine Bl.trans ?_ (by assumption))))
  · intro x hx
    have h1 : x.data.toList ∈ pcs b [] s.data.toList := by rw [← hp]; exact List.mem_map_of_mem hx
    have h2 := pcs_len b _ _ _ h1
    rw [← Lib.size_eq, ← Lib.size_eq] at h2
    unfold maxLen; simp at h2; omega
  · intro i x hx
    rw [Nat.zero_add, new_cell]
    simp [hx]
set_option maxHeartbeats 16000000 in
theorem woParse (s : ByteArray) (hs : s.size ≤ 100000) (w : World) (hE : WEnv w) : Calls Tryz.prog 9 #[.string s] w (RM w (NumsV (wparse s.data.toList))) := by
  obtain ⟨i0, hi, hz0, hz1, hz2⟩ := info_parts inf_ends
  obtain ⟨i1, hj, hy0, hy1, hy2⟩ := info_parts inf_int
  obtain ⟨res, hres⟩ : ∃ r, wparse s.data.toList = r := ⟨_, rfl⟩
  rw [hres]
  unfold wparse at hres
  by_cases h45 : s.data.toList = [45]
  · rw [if_pos h45] at hres
    subst hres
    have hq : (s.toList == [45]) = true := by rw [toL, h45]; rfl
    clear h45 hi hj hz0 hz1 hz2 hy0 hy1 hy2
    go_enter Tryz.func9, Tryz.ntmps9
    go_wp2_with fail
    go_ret2
    exact RM.mk (nums_none _ _) (by repeat (first | assumption | exact Bl.refl _ | apply Bl.drewN | apply Bl.drew | apply Bl.alloc | (refine Bl.dr ?_ (by assumption)) | (refine Bl.trans ?_ (by assumption))))
  · rw [if_neg h45] at hres
    have hq : (s.toList == [45]) = false := by rw [toL, beq_eq_false_iff_ne]; exact h45
    have HSp := Lib.hid (fun w => woSplitPcs 44 s w hs)
    have HDec := Lib.hid (fun x (hx : ByteArray.size x ≤ 100000) w => woDec x hx w)
    have HCut := Lib.hid (fun x (hx : ByteArray.size x ≤ 100000000) w => woCut x 45 hx w)
    have HC := Lib.hid (fun a b (ha : ByteArray.size a ≤ 100000000) (hb : ByteArray.size b ≤ 100000000) w => woCompare a b ha hb w)
    have HF := Lib.hid (fun a b (ha : ByteArray.size a ≤ 100000) (hb : ByteArray.size b ≤ 100000) h1 h2 w => woFollows a b ha hb h1 h2 w)
    have hit := fun w h => woItoa ((1000000000 : Nat) : Int) (by omega) (by omega) w h
    rw [itoa_nat] at hit
    obtain ⟨q9, hq9⟩ : ∃ q : ByteArray, (⟨(Lib.decDigits 1000000000).toArray⟩ : ByteArray) = q := ⟨_, rfl⟩
    have hq9s : q9.size ≤ 10 := by rw [← hq9]; exact dd_len (Nat.le_refl _)
    have hq9n : isNat q9.data.toList = true := by rw [← hq9]; exact (dd_facts 1000000000).1
    have hq9v : natV 0 q9.data.toList = 1000000000 := by rw [← hq9]; exact (dd_facts 1000000000).2.1
    rw [hq9] at hit
    have HIt := Lib.hid hit
    have Hq9 := Lib.hid (And.intro hq9n hq9v)
    clear hit hq9 hq9n hq9v
    have HAt := Lib.hid (fun m (hm : m ≤ 1000000000) w => woAtoi m hm w)
    have HE := Lib.hid hE
    have hpl9 := pcs_len 44 s.data.toList []
    have hpn9 := pcs_num 44 s.data.toList []
    have hpne := pcs_ne 44 s.data.toList []
    obtain ⟨ps, hps⟩ : ∃ ps, pcs 44 [] s.data.toList = ps := ⟨_, rfl⟩
    rw [hps] at hres HSp hpl9 hpn9 hpne
    have HRes := Lib.hid hres.symm
    have HPl := Lib.hid hpl9
    have HPne := Lib.hid hpne
    rw [← Lib.size_eq] at hpn9
    clear hps hres hpl9 hpne h45 hE
    go_enter Tryz.func9, Tryz.ntmps9
    go_wp2_with fail
    refine (HSp.out _).mono ?_; rintro e w1 ⟨vv, rfl, ⟨sa, sc, SL, rfl, hS, hSm⟩, hb1⟩
    have HS9 := Lib.hid hS
    have HSm := Lib.hid hSm
    have hn9 : SL.length = ps.length := by rw [← HSm.out, List.length_map]
    have hn8 : SL.length ≤ s.size + 1 := by omega
    have Hn9 := Lib.hid hn9
    clear hS hSm hn9 hpn9
    go_wp2_with fail
    go_loopg [4, 5, 24] SL.length (fun g lst en ix wr => ∃ (k : Nat) (pre : List (Nat × Nat)) (L : ByteArray), ix = .int .i64 k ∧ lst = .string L ∧ k ≤ SL.length ∧ pre.length = k ∧ RdS ps k pre ∧ Asc pre ∧ LastIs pre L ∧ L.size ≤ s.size ∧ wr.ownsRow w1.heap.size 67 2 en pre.length (endCells pre) ∧ Bl w1 wr ∧ g = SL.length - k)
    case atStart => exact ⟨0, [], ⟨#[]⟩, rfl, rfl, Nat.zero_le _, rfl, rds_start _, asc_nil, .inl ⟨rfl, rfl⟩, Nat.zero_le _, own_nil _ _ _ _, Bl.refl _, rfl⟩
    case round =>
      obtain ⟨k, pre, L, rfl, rfl, hk, hpl, hrd, has, hla, hLs, hown, hbw, hg⟩ := hrel
      have G := Lib.hid hg
      have HS := Lib.hid hrd
      have HAs := Lib.hid has
      have HL := Lib.hid hla
      have HO := Lib.hid hown
      clear hg hrd has hla hown
      by_cases hkl : k < SL.length
      · obtain ⟨q, hq⟩ : ∃ q, SL[k]? = some q := ⟨_, List.getElem?_eq_getElem hkl⟩
        obtain ⟨b, off, rfl, hat⟩ := HS9.out.get hkl
        have d0 := hbw.cell (hat k q hq)
        obtain ⟨r, hr⟩ : ∃ r, q.data.toList = r := ⟨_, rfl⟩
        have hkr : ps[k]? = some r := by rw [← HSm.out, List.getElem?_map, hq, ← hr]; rfl
        have HK := Lib.hid hkr
        have hrl : r.length = q.size := by rw [← hr]; exact (Lib.size_eq q).symm
        have hql : q.size ≤ s.size := by
          have h1 := HPl.out r (List.mem_of_getElem? hkr)
          rw [← hr, ← Lib.size_eq, ← Lib.size_eq] at h1
          simp at h1; exact h1
        have hcc := fun w => HCut.out q (by omega) w
        have hrc := runP_cut r
        rw [hr] at hcc
        have hA1 : (cutL 45 r).1.length ≤ s.size := by
          have : (cutL 45 r).1.length ≤ r.length := by unfold cutL; exact (List.takeWhile_sublist _).length_le
          omega
        have hA2 : (cutL 45 r).2.1.length ≤ s.size := by
          have : (cutL 45 r).2.1.length ≤ r.length := by
            unfold cutL
            exact Nat.le_trans (List.drop_sublist _ _).length_le (List.dropWhile_sublist _).length_le
          omega
        have hno : ∀ c ∈ (cutL 45 r).1, c ≠ 45 := no_in_take 45 r
        generalize cutL 45 r = X at hcc hrc hA1 hA2 hno
        obtain ⟨X1, X2, X3⟩ := X
        simp only at hcc hrc hA1 hA2 hno
        obtain ⟨A, hAx⟩ : ∃ A : ByteArray, (⟨X1.toArray⟩ : ByteArray) = A := ⟨_, rfl⟩
        obtain ⟨E, hEx⟩ : ∃ E : ByteArray, (⟨X2.toArray⟩ : ByteArray) = E := ⟨_, rfl⟩
        have hX1 : X1 = A.data.toList := by rw [← hAx]
        have hX2 : X2 = E.data.toList := by rw [← hEx]
        subst hX1 hX2
        rw [hAx, hEx] at hcc
        rw [← Lib.size_eq] at hA1 hA2
        have HnoA := Lib.hid hno
        have HCc := Lib.hid hcc
        have HR := Lib.hid hrc
        clear hq hat hr hkr hcc hrc hno hAx hEx
        go_wp2_with fail
        refine (HCc.out _).mono ?_; rintro e w2 ⟨rfl, hd2⟩
        cases X3 with
        | false =>
          have hrc := HR.out
          rw [if_neg (by simp)] at hrc
          have HR := Lib.hid hrc
          clear hrc
          have hEs : (A).size ≤ s.size := by omega
          cases h1 : isDec A.data.toList with
          | false =>
            have hn : runP r = none := by rw [HR.out]; unfold runQ; simp [h1]
            have hres := HRes.out
            rw [rds_bad HS.out HK.out hn] at hres
            simp only at hres
            subst hres
            have H1 := Lib.hid (fun w => HDec.out A (by omega) w)
            rw [h1] at H1
            clear hn h1
            go_wp2_with fail
            refine (H1.out _).mono ?_; rintro e w3 ⟨rfl, hb3⟩
            go_wp2_with fail
            go_ret2
            exact RM.mk (nums_none _ _) (by repeat (first | assumption | exact Bl.refl _ | apply Bl.drewN | apply Bl.drew | apply Bl.alloc | (refine Bl.dr ?_ (by assumption)) | (refine Bl.trans ?_ (by assumption))))
          | true =>
            have H1 := Lib.hid (fun w => HDec.out A (by omega) w)
            rw [h1] at H1
            cases h2 : isDec (A).data.toList with
            | false =>
              have hn : runP r = none := by rw [HR.out]; unfold runQ; simp [h2]
              have hres := HRes.out
              rw [rds_bad HS.out HK.out hn] at hres
              simp only at hres
              subst hres
              have H2 := Lib.hid (fun w => HDec.out (A) (by omega) w)
              rw [h2] at H2
              clear hn h1 h2
              go_wp2_with fail
              refine (H1.out _).mono ?_; rintro e w3 ⟨rfl, hb3⟩
              go_wp2_with fail
              refine (H2.out _).mono ?_; rintro e w4 ⟨rfl, hb4⟩
              go_wp2_with fail
              go_ret2
              exact RM.mk (nums_none _ _) (by repeat (first | assumption | exact Bl.refl _ | apply Bl.drewN | apply Bl.drew | apply Bl.alloc | (refine Bl.dr ?_ (by assumption)) | (refine Bl.trans ?_ (by assumption))))
            | true =>
              have H2 := Lib.hid (fun w => HDec.out (A) (by omega) w)
              rw [h2] at H2
              have hE0 : 0 < (A).size := by
                rcases Nat.eq_zero_or_pos (A).size with h | h
                · have hz := str_empty h
                  rw [hz] at h2; cases h2
                · exact h
              have e0 : (0 : Int) < ((A).size : Int) := by omega
              by_cases h45 : (A)[0]'hE0 = 45
              · have hn : runP r = none := by rw [HR.out]; unfold runQ; rw [headD_at hE0, h45]; simp
                have hres := HRes.out
                rw [rds_bad HS.out HK.out hn] at hres
                simp only at hres
                subst hres
                have e45 : ((((A)[0]'hE0).toNat : Int) == 45) = true := by rw [h45]; rfl
                clear hn h1 h2 h45
                go_wp2_with fail
                refine (H1.out _).mono ?_; rintro e w3 ⟨rfl, hb3⟩
                go_wp2_with fail
                refine (H2.out _).mono ?_; rintro e w4 ⟨rfl, hb4⟩
                go_wp2_with fail
                go_ret2
                exact RM.mk (nums_none _ _) (by repeat (first | assumption | exact Bl.refl _ | apply Bl.drewN | apply Bl.drew | apply Bl.alloc | (refine Bl.dr ?_ (by assumption)) | (refine Bl.trans ?_ (by assumption))))
              · have e45 : ((((A)[0]'hE0).toNat : Int) == 45) = false := u8_ne (d := 45) h45
                have hnE : isNat (A).data.toList = true := isDec_hd h2 (by rw [headD_at hE0]; exact h45)
                have hh : ((A).data.toList.headD 0 != 45) = true := by rw [headD_at hE0]; simpa using h45
                have HnE := Lib.hid hnE
                have hnA : isNat A.data.toList = true := by rw [← isDec_no HnoA.out]; exact h1
                have HnA := Lib.hid hnA
                have hq : runQ A.data.toList (A).data.toList false = if (!false || decide (natV 0 A.data.toList < natV 0 (A).data.toList)) = true then some (natV 0 A.data.toList, natV 0 (A).data.toList) else none := by
                  unfold runQ; simp only [h1, h2, hh, Bool.and_true, Bool.true_and]
                clear h1 h2 h45 hh hnE hnA
                rw [Bool.not_false, Bool.true_or, if_pos rfl] at hq
                have HQ2 := Lib.hid hq
                clear hq
                go_wp2_with fail
                refine (H1.out _).mono ?_; rintro e w3 ⟨rfl, hb3⟩
                go_wp2_with fail
                refine (H2.out _).mono ?_; rintro e w4 ⟨rfl, hb4⟩
                have hb34 : Bl wr w4 := Bl.trans ((Bl.refl wr).dr hd2) (hb3.trans hb4)
                clear hb3 hb4
                have hx : runP r = some (natV 0 A.data.toList, natV 0 (A).data.toList) := by rw [HR.out]; exact HQ2.out
                have HX := Lib.hid hx
                clear hx
                cases haf : after (lastE pre) (natV 0 A.data.toList) with
                | false =>
                  have hk0 : 0 < k := by
                    rcases Nat.eq_zero_or_pos k with h | h
                    · subst h
                      have := List.length_eq_zero_iff.1 hpl
                      rw [this] at haf; cases haf
                    · exact h
                  rcases HL.out with ⟨hp0, -⟩ | ⟨m, hm, hLm⟩
                  · rw [hp0] at hpl; simp at hpl; omega
                  · have hf := fun w => HF.out L A (by omega) (by omega) (by rw [hLm]; exact (dd_facts m).1) HnA.out w
                    have hfv : follN L.data.toList A.data.toList = false := by
                      rw [hm] at haf
                      unfold follN
                      rw [hLm, show natV 0 (⟨(Lib.decDigits m).toArray⟩ : ByteArray).data.toList = m from (dd_facts m).2.1]
                      exact haf
                    rw [hfv] at hf
                    have hres := HRes.out
                    rw [rds_bad2 HS.out HK.out HX.out haf] at hres
                    simp only at hres
                    subst hres
                    have HFo := Lib.hid hf
                    have k1 : decide (0 < k) = true := by rw [decide_eq_true_eq]; exact hk0
                    have k2 : decide ((0 : Int) < (k : Int)) = true := by rw [decide_eq_true_eq]; omega
                    clear hf hfv hm hLm haf hk0 hpl
                    go_wp2_with fail
                    refine (HFo.out _).mono ?_; rintro e w5 ⟨rfl, hb5⟩
                    have hbR := Bl.trans hb34 hb5
                    go_wp2_with fail
                    go_ret2
                    exact RM.mk (nums_none _ _) (by repeat (first | assumption | exact Bl.refl _ | apply Bl.drewN | apply Bl.drew | apply Bl.alloc | (refine Bl.dr ?_ (by assumption)) | (refine Bl.trans ?_ (by assumption))))
                | true =>
                  have HS2 := Lib.hid (rds_step HS.out HK.out HX.out haf)
                  have HA2 := Lib.hid (asc_step HAs.out (runP_le HX.out) haf)
                  by_cases hk0 : k = 0
                  · have k1 : decide (0 < k) = false := by rw [hk0]; rfl
                    have k2 : decide ((0 : Int) < (k : Int)) = false := by rw [hk0]; rfl
                    clear hk0
                    have hbR := hb34
                    clear haf
                    have hownA := own_bl HO.out hbR
                    have hbA := hbw.trans hbR
                    have hszA := hbA.size
                    obtain ⟨wA, hwA⟩ : ∃ x, x = wr := ⟨_, rfl⟩
                    clear hwA
                    go_wp2_with (at_builtin; refine wpList_append_own _ rfl _ _ 60 rfl w1.heap.size 67 i0 (.agg #[.string ⟨#[]⟩, .string ⟨#[]⟩]) 2 32 Tryz.underlying60 hi hz0 hz1 hz2 rfl (by decide) _ _ _ rfl (hownA.alloc _) ⟨_, 0, none⟩ 1 1 [.string A, .string A] rfl rfl ?c1a ?c2a ?c3a ?c4a ?c5a ?_)
                    case c1a => exact multi_new _ _ _
                    case c2a => intro u hu; simp at hu; rcases hu with rfl | rfl <;> rfl
                    case c3a => unfold maxLen; omega
                    case c4a => omega
                    case c5a => simp; omega
                    intro v' w3 hown2 hgrow _
                    have hb3 := grown_bl (hbA.alloc _) (hownA.alloc _) hgrow (Nat.le_refl _)
                    have hown3 : w3.ownsRow w1.heap.size 67 2 v' (pre ++ [(natV 0 A.data.toList, natV 0 (A).data.toList)]).length (endCells (pre ++ [(natV 0 A.data.toList, natV 0 (A).data.toList)])) := by
                      rw [endCells_snoc, List.length_append, ← str_dd HnA.out, hpl]; (try rw [← str_dd HnE.out]); exact hown2
                    have HW := Lib.hid hown3
                    have HL2 := Lib.hid (show LastIs (pre ++ [(natV 0 A.data.toList, natV 0 (A).data.toList)]) A from .inr ⟨_, lastE_snoc _ _, str_dd HnE.out⟩)
                    have HPl2 := Lib.hid hpl
                    clear hown2 hown3 hgrow hownA hbA hbR hpl
                    go_wp2_with fail
                    go_roundg (SL.length - (k + 1))
                    case rel => exact ⟨k + 1, pre ++ [(natV 0 A.data.toList, natV 0 (A).data.toList)], A, by go_num, rfl, by omega, by rw [List.length_append, HPl2.out]; rfl, HS2.out, HA2.out, HL2.out, hEs, HW.out, hb3, rfl⟩
                    case measure => rw [G.out]; omega
                  · have hk1 : 0 < k := by omega
                    rcases HL.out with ⟨hp0, -⟩ | ⟨m, hm, hLm⟩
                    · rw [hp0] at hpl; simp at hpl; omega
                    · have hf := fun w => HF.out L A (by omega) (by omega) (by rw [hLm]; exact (dd_facts m).1) HnA.out w
                      have hfv : follN L.data.toList A.data.toList = true := by
                        rw [hm] at haf
                        unfold follN
                        rw [hLm, show natV 0 (⟨(Lib.decDigits m).toArray⟩ : ByteArray).data.toList = m from (dd_facts m).2.1]
                        exact haf
                      rw [hfv] at hf
                      have HFo := Lib.hid hf
                      have k1 : decide (0 < k) = true := by rw [decide_eq_true_eq]; exact hk1
                      have k2 : decide ((0 : Int) < (k : Int)) = true := by rw [decide_eq_true_eq]; omega
                      clear hf hfv hm hLm haf hk0 hk1
                      go_wp2_with fail
                      refine (HFo.out _).mono ?_; rintro e w5 ⟨rfl, hb5⟩
                      have hbR := Bl.trans hb34 hb5
                      clear hb5
                      have hownA := own_bl HO.out hbR
                      have hbA := hbw.trans hbR
                      have hszA := hbA.size
                      obtain ⟨wA, hwA⟩ : ∃ x, x = wr := ⟨_, rfl⟩
                      clear hwA
                      go_wp2_with (at_builtin; refine wpList_append_own _ rfl _ _ 60 rfl w1.heap.size 67 i0 (.agg #[.string ⟨#[]⟩, .string ⟨#[]⟩]) 2 32 Tryz.underlying60 hi hz0 hz1 hz2 rfl (by decide) _ _ _ rfl (hownA.alloc _) ⟨_, 0, none⟩ 1 1 [.string A, .string A] rfl rfl ?c1b ?c2b ?c3b ?c4b ?c5b ?_)
                      case c1b => exact multi_new _ _ _
                      case c2b => intro u hu; simp at hu; rcases hu with rfl | rfl <;> rfl
                      case c3b => unfold maxLen; omega
                      case c4b => omega
                      case c5b => simp; omega
                      intro v' w3 hown2 hgrow _
                      have hb3 := grown_bl (hbA.alloc _) (hownA.alloc _) hgrow (Nat.le_refl _)
                      have hown3 : w3.ownsRow w1.heap.size 67 2 v' (pre ++ [(natV 0 A.data.toList, natV 0 (A).data.toList)]).length (endCells (pre ++ [(natV 0 A.data.toList, natV 0 (A).data.toList)])) := by
                        rw [endCells_snoc, List.length_append, ← str_dd HnA.out, hpl]; (try rw [← str_dd HnE.out]); exact hown2
                      have HW := Lib.hid hown3
                      have HL2 := Lib.hid (show LastIs (pre ++ [(natV 0 A.data.toList, natV 0 (A).data.toList)]) A from .inr ⟨_, lastE_snoc _ _, str_dd HnE.out⟩)
                      have HPl2 := Lib.hid hpl
                      clear hown2 hown3 hgrow hownA hbA hbR hpl
                      go_wp2_with fail
                      go_roundg (SL.length - (k + 1))
                      case rel => exact ⟨k + 1, pre ++ [(natV 0 A.data.toList, natV 0 (A).data.toList)], A, by go_num, rfl, by omega, by rw [List.length_append, HPl2.out]; rfl, HS2.out, HA2.out, HL2.out, hEs, HW.out, hb3, rfl⟩
                      case measure => rw [G.out]; omega
        | true =>
          have hrc := HR.out
          rw [if_pos rfl] at hrc
          have HR := Lib.hid hrc
          clear hrc
          have hEs : (E).size ≤ s.size := by omega
          cases h1 : isDec A.data.toList with
          | false =>
            have hn : runP r = none := by rw [HR.out]; unfold runQ; simp [h1]
            have hres := HRes.out
            rw [rds_bad HS.out HK.out hn] at hres
            simp only at hres
            subst hres
            have H1 := Lib.hid (fun w => HDec.out A (by omega) w)
            rw [h1] at H1
            clear hn h1
            go_wp2_with fail
            refine (H1.out _).mono ?_; rintro e w3 ⟨rfl, hb3⟩
            go_wp2_with fail
            go_ret2
            exact RM.mk (nums_none _ _) (by repeat (first | assumption | exact Bl.refl _ | apply Bl.drewN | apply Bl.drew | apply Bl.alloc | (refine Bl.dr ?_ (by assumption)) | (refine Bl.trans ?_ (by assumption))))
          | true =>
            have H1 := Lib.hid (fun w => HDec.out A (by omega) w)
            rw [h1] at H1
            cases h2 : isDec (E).data.toList with
            | false =>
              have hn : runP r = none := by rw [HR.out]; unfold runQ; simp [h2]
              have hres := HRes.out
              rw [rds_bad HS.out HK.out hn] at hres
              simp only at hres
              subst hres
              have H2 := Lib.hid (fun w => HDec.out (E) (by omega) w)
              rw [h2] at H2
              clear hn h1 h2
              go_wp2_with fail
              refine (H1.out _).mono ?_; rintro e w3 ⟨rfl, hb3⟩
              go_wp2_with fail
              refine (H2.out _).mono ?_; rintro e w4 ⟨rfl, hb4⟩
              go_wp2_with fail
              go_ret2
              exact RM.mk (nums_none _ _) (by repeat (first | assumption | exact Bl.refl _ | apply Bl.drewN | apply Bl.drew | apply Bl.alloc | (refine Bl.dr ?_ (by assumption)) | (refine Bl.trans ?_ (by assumption))))
            | true =>
              have H2 := Lib.hid (fun w => HDec.out (E) (by omega) w)
              rw [h2] at H2
              have hE0 : 0 < (E).size := by
                rcases Nat.eq_zero_or_pos (E).size with h | h
                · have hz := str_empty h
                  rw [hz] at h2; cases h2
                · exact h
              have e0 : (0 : Int) < ((E).size : Int) := by omega
              by_cases h45 : (E)[0]'hE0 = 45
              · have hn : runP r = none := by rw [HR.out]; unfold runQ; rw [headD_at hE0, h45]; simp
                have hres := HRes.out
                rw [rds_bad HS.out HK.out hn] at hres
                simp only at hres
                subst hres
                have e45 : ((((E)[0]'hE0).toNat : Int) == 45) = true := by rw [h45]; rfl
                clear hn h1 h2 h45
                go_wp2_with fail
                refine (H1.out _).mono ?_; rintro e w3 ⟨rfl, hb3⟩
                go_wp2_with fail
                refine (H2.out _).mono ?_; rintro e w4 ⟨rfl, hb4⟩
                go_wp2_with fail
                go_ret2
                exact RM.mk (nums_none _ _) (by repeat (first | assumption | exact Bl.refl _ | apply Bl.drewN | apply Bl.drew | apply Bl.alloc | (refine Bl.dr ?_ (by assumption)) | (refine Bl.trans ?_ (by assumption))))
              · have e45 : ((((E)[0]'hE0).toNat : Int) == 45) = false := u8_ne (d := 45) h45
                have hnE : isNat (E).data.toList = true := isDec_hd h2 (by rw [headD_at hE0]; exact h45)
                have hh : ((E).data.toList.headD 0 != 45) = true := by rw [headD_at hE0]; simpa using h45
                have HnE := Lib.hid hnE
                have hnA : isNat A.data.toList = true := by rw [← isDec_no HnoA.out]; exact h1
                have HnA := Lib.hid hnA
                have hq : runQ A.data.toList (E).data.toList true = if (!true || decide (natV 0 A.data.toList < natV 0 (E).data.toList)) = true then some (natV 0 A.data.toList, natV 0 (E).data.toList) else none := by
                  unfold runQ; simp only [h1, h2, hh, Bool.and_true, Bool.true_and]
                clear h1 h2 h45 hh hnE hnA
                rw [Bool.not_true, Bool.false_or] at hq
                have hcl := cmpD_lt HnA.out HnE.out
                have HCmp := Lib.hid (fun w => HC.out A E (by omega) (by omega) w)
                obtain ⟨K, hK⟩ : ∃ K, cmpD A E = K := ⟨_, rfl⟩
                rw [hK] at hcl HCmp
                clear hK
                by_cases hlt : natV 0 A.data.toList < natV 0 E.data.toList
                · rw [decide_eq_true hlt] at hq hcl
                  rw [if_pos rfl] at hq
                  have t0 : decide (0 ≤ K) = false := by rw [decide_eq_false_iff_not]; have := of_decide_eq_true hcl; omega
                  have t1 : K < 0 := of_decide_eq_true hcl
                  have HQ2 := Lib.hid hq
                  clear hq hcl hlt
                  go_wp2_with fail
                  refine (H1.out _).mono ?_; rintro e w3 ⟨rfl, hb3⟩
                  go_wp2_with fail
                  refine (H2.out _).mono ?_; rintro e w4 ⟨rfl, hb4⟩
                  go_wp2_with fail
                  refine (HCmp.out _).mono ?_; rintro e w5 ⟨rfl, hd5⟩
                  have hb34 : Bl wr w5 := Bl.trans ((Bl.refl wr).dr hd2) ((hb3.trans hb4).dr hd5)
                  clear hb3 hb4 hd5
                  have hx : runP r = some (natV 0 A.data.toList, natV 0 (E).data.toList) := by rw [HR.out]; exact HQ2.out
                  have HX := Lib.hid hx
                  clear hx
                  cases haf : after (lastE pre) (natV 0 A.data.toList) with
                  | false =>
                    have hk0 : 0 < k := by
                      rcases Nat.eq_zero_or_pos k with h | h
                      · subst h
                        have := List.length_eq_zero_iff.1 hpl
                        rw [this] at haf; cases haf
                      · exact h
                    rcases HL.out with ⟨hp0, -⟩ | ⟨m, hm, hLm⟩
                    · rw [hp0] at hpl; simp at hpl; omega
                    · have hf := fun w => HF.out L A (by omega) (by omega) (by rw [hLm]; exact (dd_facts m).1) HnA.out w
                      have hfv : follN L.data.toList A.data.toList = false := by
                        rw [hm] at haf
                        unfold follN
                        rw [hLm, show natV 0 (⟨(Lib.decDigits m).toArray⟩ : ByteArray).data.toList = m from (dd_facts m).2.1]
                        exact haf
                      rw [hfv] at hf
                      have hres := HRes.out
                      rw [rds_bad2 HS.out HK.out HX.out haf] at hres
                      simp only at hres
                      subst hres
                      have HFo := Lib.hid hf
                      have k1 : decide (0 < k) = true := by rw [decide_eq_true_eq]; exact hk0
                      have k2 : decide ((0 : Int) < (k : Int)) = true := by rw [decide_eq_true_eq]; omega
                      clear hf hfv hm hLm haf hk0 hpl
                      go_wp2_with fail
                      refine (HFo.out _).mono ?_; rintro e w5 ⟨rfl, hb5⟩
                      have hbR := Bl.trans hb34 hb5
                      go_wp2_with fail
                      go_ret2
                      exact RM.mk (nums_none _ _) (by repeat (first | assumption | exact Bl.refl _ | apply Bl.drewN | apply Bl.drew | apply Bl.alloc | (refine Bl.dr ?_ (by assumption)) | (refine Bl.trans ?_ (by assumption))))
                  | true =>
                    have HS2 := Lib.hid (rds_step HS.out HK.out HX.out haf)
                    have HA2 := Lib.hid (asc_step HAs.out (runP_le HX.out) haf)
                    by_cases hk0 : k = 0
                    · have k1 : decide (0 < k) = false := by rw [hk0]; rfl
                      have k2 : decide ((0 : Int) < (k : Int)) = false := by rw [hk0]; rfl
                      clear hk0
                      have hbR := hb34
                      clear haf
                      have hownA := own_bl HO.out hbR
                      have hbA := hbw.trans hbR
                      have hszA := hbA.size
                      obtain ⟨wA, hwA⟩ : ∃ x, x = wr := ⟨_, rfl⟩
                      clear hwA
                      go_wp2_with (at_builtin; refine wpList_append_own _ rfl _ _ 60 rfl w1.heap.size 67 i0 (.agg #[.string ⟨#[]⟩, .string ⟨#[]⟩]) 2 32 Tryz.underlying60 hi hz0 hz1 hz2 rfl (by decide) _ _ _ rfl (hownA.alloc _) ⟨_, 0, none⟩ 1 1 [.string A, .string E] rfl rfl ?c1c ?c2c ?c3c ?c4c ?c5c ?_)
                      case c1c => exact multi_new _ _ _
                      case c2c => intro u hu; simp at hu; rcases hu with rfl | rfl <;> rfl
                      case c3c => unfold maxLen; omega
                      case c4c => omega
                      case c5c => simp; omega
                      intro v' w3 hown2 hgrow _
                      have hb3 := grown_bl (hbA.alloc _) (hownA.alloc _) hgrow (Nat.le_refl _)
                      have hown3 : w3.ownsRow w1.heap.size 67 2 v' (pre ++ [(natV 0 A.data.toList, natV 0 (E).data.toList)]).length (endCells (pre ++ [(natV 0 A.data.toList, natV 0 (E).data.toList)])) := by
                        rw [endCells_snoc, List.length_append, ← str_dd HnA.out, hpl]; (try rw [← str_dd HnE.out]); exact hown2
                      have HW := Lib.hid hown3
                      have HL2 := Lib.hid (show LastIs (pre ++ [(natV 0 A.data.toList, natV 0 (E).data.toList)]) E from .inr ⟨_, lastE_snoc _ _, str_dd HnE.out⟩)
                      have HPl2 := Lib.hid hpl
                      clear hown2 hown3 hgrow hownA hbA hbR hpl
                      go_wp2_with fail
                      go_roundg (SL.length - (k + 1))
                      case rel => exact ⟨k + 1, pre ++ [(natV 0 A.data.toList, natV 0 (E).data.toList)], E, by go_num, rfl, by omega, by rw [List.length_append, HPl2.out]; rfl, HS2.out, HA2.out, HL2.out, hEs, HW.out, hb3, rfl⟩
                      case measure => rw [G.out]; omega
                    · have hk1 : 0 < k := by omega
                      rcases HL.out with ⟨hp0, -⟩ | ⟨m, hm, hLm⟩
                      · rw [hp0] at hpl; simp at hpl; omega
                      · have hf := fun w => HF.out L A (by omega) (by omega) (by rw [hLm]; exact (dd_facts m).1) HnA.out w
                        have hfv : follN L.data.toList A.data.toList = true := by
                          rw [hm] at haf
                          unfold follN
                          rw [hLm, show natV 0 (⟨(Lib.decDigits m).toArray⟩ : ByteArray).data.toList = m from (dd_facts m).2.1]
                          exact haf
                        rw [hfv] at hf
                        have HFo := Lib.hid hf
                        have k1 : decide (0 < k) = true := by rw [decide_eq_true_eq]; exact hk1
                        have k2 : decide ((0 : Int) < (k : Int)) = true := by rw [decide_eq_true_eq]; omega
                        clear hf hfv hm hLm haf hk0 hk1
                        go_wp2_with fail
                        refine (HFo.out _).mono ?_; rintro e w5 ⟨rfl, hb5⟩
                        have hbR := Bl.trans hb34 hb5
                        clear hb5
                        have hownA := own_bl HO.out hbR
                        have hbA := hbw.trans hbR
                        have hszA := hbA.size
                        obtain ⟨wA, hwA⟩ : ∃ x, x = wr := ⟨_, rfl⟩
                        clear hwA
                        go_wp2_with (at_builtin; refine wpList_append_own _ rfl _ _ 60 rfl w1.heap.size 67 i0 (.agg #[.string ⟨#[]⟩, .string ⟨#[]⟩]) 2 32 Tryz.underlying60 hi hz0 hz1 hz2 rfl (by decide) _ _ _ rfl (hownA.alloc _) ⟨_, 0, none⟩ 1 1 [.string A, .string E] rfl rfl ?c1d ?c2d ?c3d ?c4d ?c5d ?_)
                        case c1d => exact multi_new _ _ _
                        case c2d => intro u hu; simp at hu; rcases hu with rfl | rfl <;> rfl
                        case c3d => unfold maxLen; omega
                        case c4d => omega
                        case c5d => simp; omega
                        intro v' w3 hown2 hgrow _
                        have hb3 := grown_bl (hbA.alloc _) (hownA.alloc _) hgrow (Nat.le_refl _)
                        have hown3 : w3.ownsRow w1.heap.size 67 2 v' (pre ++ [(natV 0 A.data.toList, natV 0 (E).data.toList)]).length (endCells (pre ++ [(natV 0 A.data.toList, natV 0 (E).data.toList)])) := by
                          rw [endCells_snoc, List.length_append, ← str_dd HnA.out, hpl]; (try rw [← str_dd HnE.out]); exact hown2
                        have HW := Lib.hid hown3
                        have HL2 := Lib.hid (show LastIs (pre ++ [(natV 0 A.data.toList, natV 0 (E).data.toList)]) E from .inr ⟨_, lastE_snoc _ _, str_dd HnE.out⟩)
                        have HPl2 := Lib.hid hpl
                        clear hown2 hown3 hgrow hownA hbA hbR hpl
                        go_wp2_with fail
                        go_roundg (SL.length - (k + 1))
                        case rel => exact ⟨k + 1, pre ++ [(natV 0 A.data.toList, natV 0 (E).data.toList)], E, by go_num, rfl, by omega, by rw [List.length_append, HPl2.out]; rfl, HS2.out, HA2.out, HL2.out, hEs, HW.out, hb3, rfl⟩
                        case measure => rw [G.out]; omega
                · rw [decide_eq_false hlt] at hq hcl
                  rw [if_neg (by simp)] at hq
                  have t0 : decide (0 ≤ K) = true := by rw [decide_eq_true_eq]; have := of_decide_eq_false hcl; omega
                  have t1 : ¬ K < 0 := of_decide_eq_false hcl
                  have hres := HRes.out
                  rw [rds_bad HS.out HK.out (HR.out.trans hq)] at hres
                  simp only at hres
                  subst hres
                  clear hq hcl hlt
                  go_wp2_with fail
                  refine (H1.out _).mono ?_; rintro e w3 ⟨rfl, hb3⟩
                  go_wp2_with fail
                  refine (H2.out _).mono ?_; rintro e w4 ⟨rfl, hb4⟩
                  go_wp2_with fail
                  refine (HCmp.out _).mono ?_; rintro e w5 ⟨rfl, hd5⟩
                  go_wp2_with fail
                  go_ret2
                  exact RM.mk (nums_none _ _) (by repeat (first | assumption | exact Bl.refl _ | apply Bl.drewN | apply Bl.drew | apply Bl.alloc | (refine Bl.dr ?_ (by assumption)) | (refine Bl.trans ?_ (by assumption))))
      · obtain rfl : k = SL.length := by omega
        have hrd := HS.out
        rw [Hn9.out] at hrd
        have hfin := rds_end hrd
        have hne : pre ≠ [] := by
          rintro rfl
          have h1 : ps.length = 0 := by rw [← Hn9.out]; exact hpl.symm
          exact HPne.out (List.length_eq_zero_iff.1 h1)
        obtain ⟨m, hm, hLm⟩ : ∃ m, lastE pre = some m ∧ L = ⟨(Lib.decDigits m).toArray⟩ := by
          rcases HL.out with ⟨h, -⟩ | h
          · exact absurd h hne
          · exact h
        have hal := asc_last HAs.out hm
        have hres := HRes.out
        rw [hfin] at hres
        simp only at hres
        rw [hm, Option.getD_some] at hres
        have hLn : isNat L.data.toList = true := by rw [hLm]; exact (dd_facts m).1
        have hLv : natV 0 L.data.toList = m := by rw [hLm]; exact (dd_facts m).2.1
        have hcg := cmpD_gt hLn Hq9.out.1
        rw [Hq9.out.2, hLv] at hcg
        have HCmp := Lib.hid (fun w => HC.out L q9 (by omega) (by omega) w)
        obtain ⟨K, hK⟩ : ∃ K, cmpD L q9 = K := ⟨_, rfl⟩
        rw [hK] at hcg HCmp
        have HEn := Lib.hid (HE.out.bl (hb1.trans hbw))
        have hown := HO.out
        clear hK hLn hLv hLm hfin hrd hne
        by_cases hbig : 1000000000 < m
        · rw [if_pos hbig] at hres
          subst hres
          rw [decide_eq_true hbig] at hcg
          have t0 : (0 : Int) < K := of_decide_eq_true hcg
          clear hbig hm hown
          go_wp2_with fail
          refine (HIt.out _ HEn.out).mono ?_; rintro e w2 ⟨rfl, hb2⟩
          go_wp2_with fail
          refine (HCmp.out _).mono ?_; rintro e w3 ⟨rfl, hd3⟩
          go_wp2_with fail
          go_ret2
          exact RM.mk (nums_none _ _) (by repeat (first | assumption | exact Bl.refl _ | apply Bl.drewN | apply Bl.drew | apply Bl.alloc | (refine Bl.dr ?_ (by assumption)) | (refine Bl.trans ?_ (by assumption))))
        · rw [if_neg hbig] at hres
          rw [decide_eq_false hbig] at hcg
          have t0 : ¬ (0 : Int) < K := of_decide_eq_false hcg
          have hxb : ∀ x ∈ pre, x.1 ≤ x.2 ∧ x.2 ≤ 1000000000 := fun x hx => ⟨HAs.out.1 x hx, by have := hal x hx; omega⟩
          have HXb := Lib.hid hxb
          have HR2 := Lib.hid hres
          clear hbig hm hal hres hxb hcg
          go_wp2_with fail
          refine (HIt.out _ HEn.out).mono ?_; rintro e w2 ⟨rfl, hb2⟩
          go_wp2_with fail
          refine (HCmp.out _).mono ?_; rintro e w3 ⟨rfl, hd3⟩
          have hbA : Bl w1 w3 := (by repeat (first | assumption | exact Bl.refl _ | apply Bl.drewN | apply Bl.drew | apply Bl.alloc | (refine Bl.dr ?_ (by assumption)) | (refine Bl.trans ?_ (by assumption))))
          have hownA := own_bl (own_bl hown hb2) (Bl.of_dr hd3)
          obtain ⟨ea, ec, rfl, -, -, hec⟩ := own_form hownA
          have HEc := Lib.hid hec
          have hpln : pre.length ≤ s.size + 1 := by omega
          clear hownA hown hec HO hpl hbw hb2 hd3 HS HL HRes hk G HAs
          go_wp2_with fail
          go_loopg [11, 84] pre.length (fun g l ix wr2 => ∃ k : Nat, ix = .int .i64 k ∧ k ≤ pre.length ∧ wr2.ownsRow w3.heap.size 3 1 l (tot (pre.take k)) (intCells (expd (pre.take k))) ∧ tot (pre.take k) ≤ 500 ∧ Bl w3 wr2 ∧ g = pre.length - k)
          case atStart => exact ⟨0, rfl, Nat.zero_le _, own_nil _ _ _ _, Nat.zero_le _, Bl.refl _, rfl⟩
          case round =>
            obtain ⟨k, rfl, hk, hown, ht5, hbw, hg⟩ := hrel
            have G := Lib.hid hg
            have HO := Lib.hid hown
            clear hg hown
            by_cases hkl : k < pre.length
            · obtain ⟨x, hx⟩ : ∃ x, pre[k]? = some x := ⟨_, List.getElem?_eq_getElem hkl⟩
              obtain ⟨x1, x2⟩ := x
              obtain ⟨hx12, hx9⟩ := HXb.out _ (List.mem_of_getElem? hx)
              simp only at hx12 hx9
              obtain ⟨eg, rfl, -, -, hcells⟩ := HEc.out (by omega)
              obtain ⟨c0, c1⟩ := endCells_get pre k _ hx
              have d0 := hbw.cell (hcells _ _ c0)
              have d1 := hbw.cell (hcells _ _ c1)
              simp only at d0 d1
              have htt := tot_take hx
              have hle := tot_le pre (k + 1)
              have het := expd_take hx
              simp only at htt het
              rw [htt] at hle
              obtain ⟨T, hT⟩ : ∃ T, tot (pre.take k) = T := ⟨_, rfl⟩
              rw [hT] at htt hle HO ht5
              have hA1 := fun w => HAt.out x1 (by omega) w
              have hA2 := fun w => HAt.out x2 (by omega) w
              obtain ⟨S1, hS1⟩ : ∃ S : ByteArray, (⟨(Lib.decDigits x1).toArray⟩ : ByteArray) = S := ⟨_, rfl⟩
              obtain ⟨S2, hS2⟩ : ∃ S : ByteArray, (⟨(Lib.decDigits x2).toArray⟩ : ByteArray) = S := ⟨_, rfl⟩
              rw [hS1] at d0 hA1
              rw [hS2] at d1 hA2
              have HA1 := Lib.hid hA1
              have HA2 := Lib.hid hA2
              have HTt := Lib.hid htt
              have HEt := Lib.hid het
              have HT := Lib.hid hT
              have hlW := hbw.size
              clear hx hcells c0 c1 htt het hA1 hA2 hS1 hS2 hT
              have hown := HO.out
              obtain ⟨la, lc, rfl, -, -, -⟩ := own_form hown
              have p1 : (x1 : Int) ≤ (x2 : Int) := by omega
              have p2 : (x2 : Int) ≤ 1000000000 := by omega
              have p3 : (0 : Int) ≤ (x1 : Int) := by omega
              have p4 : (T : Int) ≤ 500 := by omega
              have p5 : (0 : Int) ≤ (T : Int) := by omega
              clear hown
              go_wp2_with fail
              refine (HA1.out _).mono ?_; rintro e w5 ⟨rfl, hb5⟩
              have z1 : w5.cell? ⟨wr.heap.size, 1, none⟩ = some (.string S2) := hb5.cell (by simp [go_sem])
              have hbw5 : Bl wr w5 := ((Bl.refl wr).alloc _).trans hb5
              clear hb5
              go_wp2_with fail
              refine (HA2.out _).mono ?_; rintro e w6 ⟨rfl, hb6⟩
              have hbw6 := hbw5.trans hb6
              clear hbw5 hb6 z1 d0 d1
              by_cases hov : 500 < T + (x2 - x1 + 1)
              · have t1 : decide ((500 : Int) - (T : Int) ≤ (x2 : Int) - (x1 : Int)) = true := by rw [decide_eq_true_eq]; omega
                have hr := HR2.out
                rw [if_pos (show 500 < tot pre by omega)] at hr
                subst hr
                clear hov
                go_wp2_with fail
                go_ret2
                exact RM.mk (nums_none _ _) (hb1.trans (hbA.trans (hbw.trans hbw6)))
              · have t1 : decide ((500 : Int) - (T : Int) ≤ (x2 : Int) - (x1 : Int)) = false := by rw [decide_eq_false_iff_not]; omega
                have hown6 := own_bl HO.out hbw6
                have hbw7 := hbw.trans hbw6
                obtain ⟨D, hD⟩ : ∃ D, x2 - x1 = D := ⟨_, rfl⟩
                have hD2 : x2 = x1 + D := by omega
                have HD := Lib.hid hD2
                rw [hD] at hov HEt HTt
                have hov2 : T + D + 1 ≤ 500 := by omega
                have HO6 := Lib.hid hown6
                clear hD hD2 hov hown6 HO hbw hbw6 hle
                go_wp2_with fail
                go_loopg [11, 18] (D + 1) (fun g l n wr3 => ∃ j : Nat, n = .int .i64 ((x1 + j : Nat) : Int) ∧ j ≤ D + 1 ∧ wr3.ownsRow w3.heap.size 3 1 l (T + j) (intCells (expd (pre.take k) ++ upT x1 j)) ∧ Bl w3 wr3 ∧ g = D + 1 - j)
                case atStart => exact ⟨0, rfl, Nat.zero_le _, by simpa [upT] using HO6.out, hbw7, rfl⟩
                case round =>
                  clear hbw7 HO6
                  obtain ⟨j, rfl, hjl, hown, hbw, hg⟩ := hrel
                  have G2 := Lib.hid hg
                  have HO := Lib.hid hown
                  obtain ⟨N, hN⟩ : ∃ N, x1 + j = N := ⟨_, rfl⟩
                  rw [hN]
                  have hxD := HD.out
                  by_cases hjD : j ≤ D
                  · have n1 : decide (N ≤ x2) = true := by rw [decide_eq_true_eq]; omega
                    have n2 : (N : Int) ≤ (x2 : Int) := by omega
                    have hszA := hbw.size
                    have HN := Lib.hid hN
                    clear hg hN hxD t1
                    go_wp2_with (at_builtin; refine wpList_append_own _ rfl _ _ 22 rfl w3.heap.size 3 i1 (.int .i64 0) 1 8 Tryz.underlying22 hj hy0 hy1 hy2 rfl (by decide) _ _ _ rfl (hown.alloc _) ⟨_, 0, none⟩ 1 1 [.int .i64 N] rfl rfl ?e1 ?e2 ?e3 ?e4 ?e5 ?_)
                    case e1 => exact one_new _ _ _
                    case e2 => intro u hu; simp at hu; subst hu; rfl
                    case e3 => unfold maxLen; omega
                    case e4 => omega
                    case e5 => simp; omega
                    intro v' w7 hown2 hgrow _
                    have hb7 := grown_bl (hbw.alloc _) (hown.alloc _) hgrow (Nat.le_refl _)
                    have hown3 : w7.ownsRow w3.heap.size 3 1 v' (T + (j + 1)) (intCells (expd (pre.take k) ++ upT x1 (j + 1))) := by
                      rw [upT_snoc, HN.out, ← List.append_assoc]
                      have e : intCells (expd (pre.take k) ++ upT x1 j ++ [(N : Int)]) = intCells (expd (pre.take k) ++ upT x1 j) ++ [.int .i64 N] := by simp [intCells]
                      rw [e]; exact hown2
                    have HW := Lib.hid hown3
                    clear hown hown2 hown3 hgrow
                    go_wp2_with fail
                    go_roundg (D + 1 - (j + 1))
                    case rel => exact ⟨j + 1, ival (by have := HN.out; omega), by omega, HW.out, hb7, rfl⟩
                    case measure => rw [G2.out]; omega
                  · obtain rfl : j = D + 1 := by omega
                    have n1 : decide (N ≤ x2) = false := by rw [decide_eq_false_iff_not]; omega
                    have n2 : ¬ (N : Int) ≤ (x2 : Int) := by omega
                    have hown3 : wr.ownsRow w3.heap.size 3 1 u11 (tot (pre.take (k + 1))) (intCells (expd (pre.take (k + 1)))) := by
                      rw [HTt.out, HEt.out]; exact hown
                    have HW := Lib.hid hown3
                    have hT5 : tot (pre.take (k + 1)) ≤ 500 := by rw [HTt.out]; omega
                    have HT5 := Lib.hid hT5
                    clear hg hN hown hown3 hT5 hxD
                    go_wp2_with fail
                    go_roundg (pre.length - (k + 1))
                    case rel => exact ⟨k + 1, by go_num, by omega, HW.out, HT5.out, hbw, rfl⟩
                    case measure => rw [G.out]; omega
            · obtain rfl : k = pre.length := by omega
              have hown := HO.out
              rw [List.take_length] at hown ht5
              have hr := HR2.out
              rw [if_neg (show ¬ 500 < tot pre by omega)] at hr
              subst hr
              rw [← expd_len] at hown
              obtain ⟨la, lc, rfl, hN, -, -⟩ := own_nums hown
              have HNu := Lib.hid hN
              have hbF := hb1.trans (hbA.trans hbw)
              clear hown hN ht5 HO G HEc
              go_wp2_with fail
              go_ret2
              exact RM.mk ⟨la, lc, rfl, HNu.out⟩ hbF
end Go.Proofs.YtfjdcfmoodlnaaaGreatDoor

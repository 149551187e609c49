
/-
  Contracts of words (over 01.ZD): the reference's ParseList.
-/
import Derived.Test.YtfjdcfmoodlnaaaGreatDoorWpM
import Derived.Test.YtfjdcfmoodlnaaaGreatDoorWpL
import Derived.Test.YtfjdcfmoodlnaaaGreatDoorWpC
import Derived.Test.YtfjdcfmoodlnaaaGreatDoorApp
namespace Go.Proofs.YtfjdcfmoodlnaaaGreatDoor
open Go.RowKit
set_option linter.unusedSimpArgs false
set_option linter.unusedVariables false
set_option maxRecDepth 100000

theorem refLessD (a b : ByteArray) (ha : a.size ≤ 100000000) (hb : b.size ≤ 100000000) (w : World) : Calls Tryz.prog 35 #[.string a, .string b] w (RB w (.bool (lessD a.data.toList b.data.toList))) := by
  refine (refLess a b ha hb w).mono ?_
  rintro e w' ⟨rfl, hd⟩
  refine ⟨?_, .of_dr hd⟩
  unfold lessD
  rw [← Lib.size_eq, ← Lib.size_eq, toL, toL]
theorem pcs_no (b : UInt8) : ∀ (s cur : List UInt8), (∀ c ∈ cur, c ≠ b) → ∀ p ∈ pcs b cur s, ∀ c ∈ p, c ≠ b
  | [], cur, h, p, hp => by simp [pcs] at hp; subst hp; exact h
  | d :: s, cur, h, p, hp => by
    rw [pcs] at hp
    split at hp
    · rcases List.mem_cons.1 hp with rfl | hp
      · exact h
      · exact pcs_no b s [] (by simp) p hp
    · rename_i hd
      refine pcs_no b s _ ?_ p hp
      intro c hc
      rcases List.mem_append.1 hc with hc | hc
      · exact h c hc
      · rw [List.mem_singleton.1 hc]; exact hd
theorem runP_long {r : List UInt8} (h : 2 < (pcs 45 [] r).length) : runP r = none := by
  unfold runP
  split
  · rename_i q; rw [q] at h; simp at h
  · rename_i q; rw [q] at h; simp at h
  · rfl
theorem runP_1 {r a : List UInt8} (h : pcs 45 [] r = [a]) : runP r = if isNat a then some (natV 0 a, natV 0 a) else none := by unfold runP; rw [h]
theorem runP_2 {r a b : List UInt8} (h : pcs 45 [] r = [a, b]) : runP r = if isNat a && isNat b && decide (natV 0 a < natV 0 b) then some (natV 0 a, natV 0 b) else none := by unfold runP; rw [h]
theorem nextW_len {l : List UInt8} (h : isNat l = true) : (nextW l).length ≤ l.length + 1 := by
  have h1 := natV_lt (isNat_iff.1 h).2.1
  rcases Nat.lt_or_ge (l.length + 1) (nextW l).length with h2 | h2
  · obtain ⟨h3, h4⟩ := next_nat l
    have h5 := isNat_lo h3 (by omega)
    rw [h4] at h5
    have h6 : 10 ^ (l.length + 1) ≤ 10 ^ ((nextW l).length - 1) := Nat.pow_le_pow_right (by omega) (by omega)
    rw [Nat.pow_succ] at h6
    have h7 : 1 ≤ 10 ^ l.length := Nat.one_le_pow _ _ (by omega)
    omega
  · exact h2
theorem wint_nat (m : Nat) (h : m ≤ 1000000000) : wint (Lib.decDigits m) 0 1000000000 = ((m : Int), 0) := by
  obtain ⟨h1, h2, -⟩ := dd_facts m
  have hv : intV (Lib.decDigits m) = (m : Int) := by
    have := (itoa_facts (m : Int)).2
    rwa [itoa_nat] at this
  unfold wint
  rw [if_pos (isNat_dec h1), hv, if_pos]
  unfold inI64
  simp only [Bool.and_eq_true, decide_eq_true_eq]
  omega
def ddV (m : Nat) : Value := .string ⟨(Lib.decDigits m).toArray⟩
theorem ddV_str {a : ByteArray} (h : isNat a.data.toList = true) : ddV (natV 0 a.data.toList) = .string a := by unfold ddV; rw [← str_dd h]
set_option maxHeartbeats 16000000 in
theorem refParse (s : ByteArray) (hs : s.size ≤ 100000) (w : World) : Calls Tryz.prog 10 #[.string s] w (RM w (NumsV (wparse s.data.toList))) := by
  obtain ⟨i0, hi, hz0, hz1, hz2⟩ := info_parts inf_string
  obtain ⟨i1, hj, hy0, hy1, hy2⟩ := info_parts inf_int
  obtain ⟨res, hres⟩ : ∃ r, wparse s.data.toList = r := ⟨_, rfl⟩
  rw [hres]
  unfold wparse at hres
  by_cases h45 : s.data.toList = [45]
  · rw [if_pos h45] at hres
    subst hres
    have hq : (s.toList == [45]) = true := by rw [toL, h45]; rfl
    clear h45 hi hj hz0 hz1 hz2 hy0 hy1 hy2
    go_enter Tryz.func10, Tryz.ntmps10
    go_wp2_with fail
    go_ret2
    exact RM.mk (nums_none _ _) (by repeat (first | assumption | exact Bl.refl _ | apply Bl.drewN | apply Bl.drew | apply Bl.alloc | (refine Bl.dr ?_ (by assumption)) | (refine Bl.trans ?_ (by assumption))))
  · rw [if_neg h45] at hres
    have hq : (s.toList == [45]) = false := by rw [toL, beq_eq_false_iff_ne]; exact h45
    have hsp := fun w => refParts s 44 w (by omega)
    have HCut := Lib.hid (fun x (hx : ByteArray.size x ≤ 2000000) w => refParts x 45 w hx)
    rw [show (((44 : UInt8).toNat : Nat) : Int) = 44 from rfl] at hsp
    rw [show (((45 : UInt8).toNat : Nat) : Int) = 45 from rfl] at HCut
    have HDec := Lib.hid (fun x (hx : ByteArray.size x ≤ 100000) w => refDec x hx w)
    have HLess := Lib.hid (fun a b (ha : ByteArray.size a ≤ 100000000) (hb : ByteArray.size b ≤ 100000000) w => refLessD a b ha hb w)
    have HNext := Lib.hid (fun a (ha : ByteArray.size a ≤ 2000000) h1 w => refNext a ha h1 w)
    have hit := fun w => refDigitsR ((1000000000 : Nat) : Int) (by omega) (by omega) w
    rw [itoa_nat] at hit
    obtain ⟨q9, hq9⟩ : ∃ q : ByteArray, (⟨(Lib.decDigits 1000000000).toArray⟩ : ByteArray) = q := ⟨_, rfl⟩
    have hq9s : q9.size ≤ 10 := by rw [← hq9]; exact dd_len (Nat.le_refl _)
    have hq9n : isNat q9.data.toList = true := by rw [← hq9]; exact (dd_facts 1000000000).1
    have hq9v : natV 0 q9.data.toList = 1000000000 := by rw [← hq9]; exact (dd_facts 1000000000).2.1
    rw [hq9] at hit
    have HIt := Lib.hid hit
    have Hq9 := Lib.hid (And.intro hq9n hq9v)
    have hat := fun m (hm : m ≤ 1000000000) w => refInt (⟨(Lib.decDigits m).toArray⟩ : ByteArray) 0 1000000000 (by have := dd_len hm; show (Lib.decDigits m).toArray.size ≤ _; simp; omega) w
    have HAt := Lib.hid hat
    have hpl9 := pcs_len 44 s.data.toList []
    have hpn9 := pcs_num 44 s.data.toList []
    have hpne := pcs_ne 44 s.data.toList []
    obtain ⟨ps, hps⟩ : ∃ ps, pcs 44 [] s.data.toList = ps := ⟨_, rfl⟩
    rw [hps] at hres hsp hpl9 hpn9 hpne
    have HSp := Lib.hid hsp
    have HRes := Lib.hid hres.symm
    have HPl := Lib.hid hpl9
    have HPne := Lib.hid hpne
    rw [← Lib.size_eq] at hpn9
    clear hit hq9 hq9n hq9v hat hps hres hpl9 hpne h45 hsp
    go_enter Tryz.func10, Tryz.ntmps10
    go_wp2_with fail
    refine (HSp.out _).mono ?_; rintro e w1 ⟨vv, rfl, ⟨sa, sc, SL, rfl, hS, hSm⟩, hb1⟩
    have HS9 := Lib.hid hS
    have HSm := Lib.hid hSm
    have hn9 : SL.length = ps.length := by rw [← HSm.out, List.length_map]
    have hn8 : SL.length ≤ s.size + 1 := by omega
    have Hn9 := Lib.hid hn9
    clear hS hSm hn9 hpn9
    go_wp2_with fail
    go_loopg [4, 5, 6, 8] SL.length (fun g lst fi la ix wr => ∃ (k : Nat) (pre : List (Nat × Nat)) (L : ByteArray), ix = .int .i64 k ∧ lst = .string L ∧ k ≤ SL.length ∧ pre.length = k ∧ RdS ps k pre ∧ Asc pre ∧ LastIs pre L ∧ L.size ≤ s.size ∧ wr.ownsRow w1.heap.size 9 1 fi k (pre.map (fun x => ddV x.1)) ∧ wr.ownsRow w1.heap.size 9 1 la k (pre.map (fun x => ddV x.2)) ∧ Apart fi la ∧ Bl w1 wr ∧ g = SL.length - k)
    case atStart => exact ⟨0, [], ⟨#[]⟩, rfl, rfl, Nat.zero_le _, rfl, rds_start _, asc_nil, .inl ⟨rfl, rfl⟩, Nat.zero_le _, own_nil _ _ _ _, own_nil _ _ _ _, Apart.nil _, Bl.refl _, rfl⟩
    case round =>
      obtain ⟨k, pre, L, rfl, rfl, hk, hpl, hrd, has, hla, hLs, howf, howl, hap, hbw, hg⟩ := hrel
      have G := Lib.hid hg
      have HS := Lib.hid hrd
      have HAs := Lib.hid has
      have HL := Lib.hid hla
      have HOf := Lib.hid howf
      have HOl := Lib.hid howl
      have HAp := Lib.hid hap
      clear hg hrd has hla howf howl hap
      by_cases hkl : k < SL.length
      · obtain ⟨q, hq⟩ : ∃ q, SL[k]? = some q := ⟨_, List.getElem?_eq_getElem hkl⟩
        obtain ⟨b, off, rfl, hat⟩ := HS9.out.get hkl
        have d0 := hbw.cell (hat k q hq)
        obtain ⟨r, hr⟩ : ∃ r, q.data.toList = r := ⟨_, rfl⟩
        have hkr : ps[k]? = some r := by rw [← HSm.out, List.getElem?_map, hq, ← hr]; rfl
        have HK := Lib.hid hkr
        have hrl : r.length = q.size := by rw [← hr]; exact (Lib.size_eq q).symm
        have hql : q.size ≤ s.size := by
          have h1 := HPl.out r (List.mem_of_getElem? hkr)
          rw [← hr, ← Lib.size_eq, ← Lib.size_eq] at h1
          simp at h1; exact h1
        have hcc := fun w => HCut.out q (by omega) w
        rw [hr] at hcc
        have HCc := Lib.hid hcc
        have j0 : (0 : Int) ≤ (k : Int) := by omega
        have j1 : (k : Int) < (SL.length : Int) := by omega
        clear hq hat hr hkr hcc
        go_wp2_with fail
        refine (HCc.out _).mono ?_; rintro e w2 ⟨vv, rfl, ⟨ea, ec, EL, rfl, hEs, hEm⟩, hb2⟩
        have hln : EL.length = (pcs 45 [] r).length := by rw [← hEm, List.length_map]
        by_cases h2 : 2 < EL.length
        · have hres := HRes.out
          rw [rds_bad HS.out HK.out (runP_long (by rw [← hln]; exact h2))] at hres
          simp only at hres
          subst hres
          have t1 : decide (2 < EL.length) = true := by rw [decide_eq_true_eq]; exact h2
          have t2 : decide ((2 : Int) < (EL.length : Int)) = true := by rw [decide_eq_true_eq]; omega
          clear hln h2 hEs hEm
          go_wp2_with fail
          
          refine wp_region_quiet_bw w2 (by kernel_rfl) (by kernel_rfl) (Bl.refl w2) ?_
          repeat (go_big_quiet_step (fail))
          refine wpQuiet_nil ?_
          intro wq hw'
          have hwq : Bl w2 wq := by obtain ⟨x, hx⟩ := hw'; rw [hx]; exact x.h
          clear hw'
          go_wp2_with fail
          go_ret2
          exact RM.mk (nums_none _ _) (((hb1.trans hbw).trans hb2).trans hwq)
        · have h1 : EL.length = 1 ∨ EL.length = 2 := by
            have := List.length_pos_iff.2 (pcs_ne 45 r [])
            omega
          obtain ⟨A, hA⟩ : ∃ A, EL[0]? = some A := ⟨_, List.getElem?_eq_getElem (by omega)⟩
          obtain ⟨eb, eo, rfl, heat⟩ := hEs.get (k := 0) (by omega)
          have dA0 := heat 0 A hA
          rw [Nat.add_zero] at dA0
          have hAm : A.data.toList ∈ pcs 45 [] r := by rw [← hEm]; exact List.mem_map_of_mem (List.mem_of_getElem? hA)
          have hAl := pcs_len 45 r [] _ hAm
          have hAn := pcs_no 45 r [] (by simp) _ hAm
          rw [← Lib.size_eq, List.length_nil] at hAl
          have hdA := isDec_no hAn
          have hd1 := fun y : BW w2 => HDec.out A (by omega) y.w
          rw [hdA] at hd1
          have dA := fun y : BW w2 => y.h.cell dA0
          rcases h1 with h1 | h1
          · have hp : pcs 45 [] r = [A.data.toList] := by
              rw [← hEm]
              match EL, h1, hA with
              | [x], _, hA => simp at hA; subst hA; rfl
            have hrp := runP_1 hp
            rw [h1]
            clear hEs hEm heat hAm hAn hdA hp hA hln h2 h1
            cases hnA : isNat A.data.toList with
            | false =>
              rw [hnA, if_neg (by simp)] at hrp
              rw [hnA] at hd1
              have HD1 := Lib.hid hd1
              have hres := HRes.out
              rw [rds_bad HS.out HK.out hrp] at hres
              simp only at hres
              subst hres
              clear hrp hnA hd1
              go_wp2_with fail
              
              refine wp_region_quiet_bw w2 (by kernel_rfl) (by kernel_rfl) (Bl.refl w2) ?_
              repeat (go_big_quiet_step ((go_at_call 34; exact quietB (HD1.out _))))
              refine wpQuiet_nil ?_
              intro wq hw'
              have hwq : Bl w2 wq := by obtain ⟨x, hx⟩ := hw'; rw [hx]; exact x.h
              clear hw'
              go_wp2_with fail
              go_ret2
              exact RM.mk (nums_none _ _) (((hb1.trans hbw).trans hb2).trans hwq)
            | true =>
              rw [hnA, if_pos rfl] at hrp
              rw [hnA] at hd1
              have HD1 := Lib.hid hd1
              have HRp := Lib.hid hrp
              have HnA := Lib.hid hnA
              have HnE := Lib.hid hnA
              have hEs : A.size ≤ s.size := by omega
              clear hrp hnA hd1
              go_wp2_with fail
              
              refine wp_region_quiet_bw w2 (by kernel_rfl) (by kernel_rfl) (Bl.refl w2) ?_
              repeat (go_big_quiet_step ((go_at_call 34; exact quietB (HD1.out _))))
              refine wpQuiet_nil ?_
              intro wq hw'
              have hwq : Bl w2 wq := by obtain ⟨x, hx⟩ := hw'; rw [hx]; exact x.h
              clear hw'
              have dE0 := dA0
              clear HD1 dA
              go_wp2_with fail
              have hx : runP r = some (natV 0 A.data.toList, natV 0 (A).data.toList) := HRp.out
              have HX := Lib.hid hx
              clear hx
              cases haf : after (lastE pre) (natV 0 A.data.toList) with
              | false =>
                have hk0 : 0 < k := by
                  rcases Nat.eq_zero_or_pos k with h | h
                  · subst h
                    have := List.length_eq_zero_iff.1 hpl
                    rw [this] at haf; cases haf
                  · exact h
                rcases HL.out with ⟨hp0, -⟩ | ⟨m, hm, hLm⟩
                · rw [hp0] at hpl; simp at hpl; omega
                · have hLn : isNat L.data.toList = true := by rw [hLm]; exact (dd_facts m).1
                  have hnl := nextW_len hLn
                  rw [← Lib.size_eq] at hnl
                  have HNx := Lib.hid (fun y : BW wq => HNext.out L (by omega) hLn y.w)
                  have hls := fun y : BW wq => HLess.out (⟨(nextW L.data.toList).toArray⟩ : ByteArray) A (by show (nextW L.data.toList).toArray.size ≤ _; simp; omega) (by omega) y.w
                  have hlv : lessD (⟨(nextW L.data.toList).toArray⟩ : ByteArray).data.toList A.data.toList = false := by
                    rw [show (⟨(nextW L.data.toList).toArray⟩ : ByteArray).data.toList = nextW L.data.toList from rfl, lessD_is (next_nat _).1 HnA.out, (next_nat _).2, hLm, show natV 0 (⟨(Lib.decDigits m).toArray⟩ : ByteArray).data.toList = m from (dd_facts m).2.1]
                    rw [hm] at haf; exact haf
                  rw [hlv] at hls
                  have hres := HRes.out
                  rw [rds_bad2 HS.out HK.out HX.out haf] at hres
                  simp only at hres
                  subst hres
                  have HLs := Lib.hid hls
                  have k1 : decide (0 < k) = true := by rw [decide_eq_true_eq]; exact hk0
                  have k2 : decide ((0 : Int) < (k : Int)) = true := by rw [decide_eq_true_eq]; omega
                  clear hls hlv hm hLm haf hk0 hpl hLn hnl
                  generalize (⟨(nextW L.data.toList).toArray⟩ : ByteArray) = NX at HNx HLs
                  have dA := fun y : BW wq => y.h.cell (hwq.cell dA0)
                  
                  refine wp_region_quiet_bw wq (by kernel_rfl) (by kernel_rfl) (Bl.refl wq) ?_
                  repeat (go_big_quiet_step ((first | (go_at_call 36; exact quietB (HNx.out _)) | (go_at_call 35; exact quietB (HLs.out _)))))
                  refine wpQuiet_nil ?_
                  intro wn hw'
                  have hbn : Bl wq wn := by obtain ⟨x, hx⟩ := hw'; rw [hx]; exact x.h
                  clear hw'
                  go_wp2_with fail
                  go_ret2
                  exact RM.mk (nums_none _ _) (((hb1.trans hbw).trans hb2).trans (hwq.trans hbn))
              | true =>
                have HS2 := Lib.hid (rds_step HS.out HK.out HX.out haf)
                have HA2 := Lib.hid (asc_step HAs.out (runP_le HX.out) haf)
                by_cases hk0 : k = 0
                · have k1 : decide (0 < k) = false := by rw [hk0]; rfl
                  have k2 : decide ((0 : Int) < (k : Int)) = false := by rw [hk0]; rfl
                  clear hk0 haf
                  
                  refine wp_region_quiet_bw wq (by kernel_rfl) (by kernel_rfl) (Bl.refl wq) ?_
                  repeat (go_big_quiet_step (fail))
                  refine wpQuiet_nil ?_
                  intro wn hw'
                  have hbn : Bl wq wn := by obtain ⟨x, hx⟩ := hw'; rw [hx]; exact x.h
                  clear hw'
                  have hbn2 := hwq.trans hbn
                  have hbn : Bl wr wn := hb2.trans hbn2
                  have dA := hbn2.cell dA0
                  have dE := hbn2.cell dE0
                  have hbw9 : Bl w1 wn := hbw.trans hbn
                  have hszA := hbw9.size
                  have hf := own_bl HOf.out hbn
                  have hl := own_bl HOl.out hbn
                  go_wp2_with (at_builtin; refine wpList_append_two _ rfl _ _ 61 rfl w1.heap.size 9 i0 (.string ⟨#[]⟩) 1 16 Tryz.underlying61 hi hz0 hz1 hz2 rfl (by decide) _ _ _ rfl (hf.alloc _) ⟨_, 0, none⟩ 1 1 [.string A] rfl rfl ?c1a ?c2a ?c3a ?c4a ?c5a (by decide) ?_)
                  case c1a => exact one_new _ _ _
                  case c2a => intro u hu; simp at hu; subst hu; rfl
                  case c3a => unfold maxLen; omega
                  case c4a => omega
                  case c5a => simp; omega
                  intro v3 w3 hown3 hgrow hblk
                  have hb3 := grown_bl (hbw9.alloc _) (hf.alloc _) hgrow (Nat.le_refl _)
                  have hl3 := (hl.alloc _).kept hgrow (HAp.out.symm).ne
                  have hap3 := HAp.out.grownN hl hblk (by omega)
                  have hf3 : w3.ownsRow w1.heap.size 9 1 v3 (k + 1) ((pre ++ [(natV 0 A.data.toList, natV 0 (A).data.toList)]).map (fun x => ddV x.1)) := by
                    rw [List.map_append, List.map_singleton, ddV_str HnA.out]; exact hown3
                  have HF3 := Lib.hid hf3
                  have HAp3 := Lib.hid hap3
                  have hszB := hb3.size
                  clear hown3 hgrow hblk hf hl hf3 hap3 hbw9 hszA hbn
                  go_wp2_with (at_builtin; refine wpList_append_two _ rfl _ _ 61 rfl w1.heap.size 9 i0 (.string ⟨#[]⟩) 1 16 Tryz.underlying61 hi hz0 hz1 hz2 rfl (by decide) _ _ _ rfl (hl3.alloc _) ⟨_, 0, none⟩ 1 1 [.string A] rfl rfl ?d1a ?d2a ?d3a ?d4a ?d5a (by decide) ?_)
                  case d1a => exact one_new _ _ _
                  case d2a => intro u hu; simp at hu; subst hu; rfl
                  case d3a => unfold maxLen; omega
                  case d4a => omega
                  case d5a => simp; omega
                  intro v5 w5 hown5 hgrow hblk
                  have hb5 := grown_bl (hb3.alloc _) (hl3.alloc _) hgrow (Nat.le_refl _)
                  have hf5 := (HF3.out.alloc _).kept hgrow HAp3.out.ne
                  have hap5 := (HAp3.out.symm.grownN HF3.out hblk (by omega)).symm
                  have hl5 : w5.ownsRow w1.heap.size 9 1 v5 (k + 1) ((pre ++ [(natV 0 A.data.toList, natV 0 (A).data.toList)]).map (fun x => ddV x.2)) := by
                    rw [List.map_append, List.map_singleton, ddV_str HnE.out]; exact hown5
                  have HF5 := Lib.hid hf5
                  have HL5 := Lib.hid hl5
                  have HAp5 := Lib.hid hap5
                  have HLs2 := Lib.hid (show LastIs (pre ++ [(natV 0 A.data.toList, natV 0 (A).data.toList)]) A from .inr ⟨_, lastE_snoc _ _, str_dd HnE.out⟩)
                  have HPl2 := Lib.hid hpl
                  clear hown5 hgrow hblk hl3 hf5 hl5 hap5 hb3 hpl
                  go_wp2_with fail
                  go_roundg (SL.length - (k + 1))
                  case rel => exact ⟨k + 1, pre ++ [(natV 0 A.data.toList, natV 0 (A).data.toList)], A, by go_num, rfl, by omega, by rw [List.length_append, HPl2.out]; rfl, HS2.out, HA2.out, HLs2.out, hEs, HF5.out, HL5.out, HAp5.out, hb5, rfl⟩
                  case measure => rw [G.out]; omega
                · have hk1 : 0 < k := by omega
                  rcases HL.out with ⟨hp0, -⟩ | ⟨m, hm, hLm⟩
                  · rw [hp0] at hpl; simp at hpl; omega
                  · have hLn : isNat L.data.toList = true := by rw [hLm]; exact (dd_facts m).1
                    have hnl := nextW_len hLn
                    rw [← Lib.size_eq] at hnl
                    have HNx := Lib.hid (fun y : BW wq => HNext.out L (by omega) hLn y.w)
                    have hls := fun y : BW wq => HLess.out (⟨(nextW L.data.toList).toArray⟩ : ByteArray) A (by show (nextW L.data.toList).toArray.size ≤ _; simp; omega) (by omega) y.w
                    have hlv : lessD (⟨(nextW L.data.toList).toArray⟩ : ByteArray).data.toList A.data.toList = true := by
                      rw [show (⟨(nextW L.data.toList).toArray⟩ : ByteArray).data.toList = nextW L.data.toList from rfl, lessD_is (next_nat _).1 HnA.out, (next_nat _).2, hLm, show natV 0 (⟨(Lib.decDigits m).toArray⟩ : ByteArray).data.toList = m from (dd_facts m).2.1]
                      rw [hm] at haf; exact haf
                    rw [hlv] at hls
                    have HLs := Lib.hid hls
                    have k1 : decide (0 < k) = true := by rw [decide_eq_true_eq]; exact hk1
                    have k2 : decide ((0 : Int) < (k : Int)) = true := by rw [decide_eq_true_eq]; omega
                    clear hls hlv hm hLm haf hk0 hk1 hLn hnl
                    generalize (⟨(nextW L.data.toList).toArray⟩ : ByteArray) = NX at HNx HLs
                    have dA := fun y : BW wq => y.h.cell (hwq.cell dA0)
                    
                    refine wp_region_quiet_bw wq (by kernel_rfl) (by kernel_rfl) (Bl.refl wq) ?_
                    repeat (go_big_quiet_step ((first | (go_at_call 36; exact quietB (HNx.out _)) | (go_at_call 35; exact quietB (HLs.out _)))))
                    refine wpQuiet_nil ?_
                    intro wn hw'
                    have hbn : Bl wq wn := by obtain ⟨x, hx⟩ := hw'; rw [hx]; exact x.h
                    clear hw'
                    have hbn2 := hwq.trans hbn
                    have hbn : Bl wr wn := hb2.trans hbn2
                    have dA := hbn2.cell dA0
                    have dE := hbn2.cell dE0
                    clear HNx HLs
                    have hbw9 : Bl w1 wn := hbw.trans hbn
                    have hszA := hbw9.size
                    have hf := own_bl HOf.out hbn
                    have hl := own_bl HOl.out hbn
                    go_wp2_with (at_builtin; refine wpList_append_two _ rfl _ _ 61 rfl w1.heap.size 9 i0 (.string ⟨#[]⟩) 1 16 Tryz.underlying61 hi hz0 hz1 hz2 rfl (by decide) _ _ _ rfl (hf.alloc _) ⟨_, 0, none⟩ 1 1 [.string A] rfl rfl ?c1b ?c2b ?c3b ?c4b ?c5b (by decide) ?_)
                    case c1b => exact one_new _ _ _
                    case c2b => intro u hu; simp at hu; subst hu; rfl
                    case c3b => unfold maxLen; omega
                    case c4b => omega
                    case c5b => simp; omega
                    intro v3 w3 hown3 hgrow hblk
                    have hb3 := grown_bl (hbw9.alloc _) (hf.alloc _) hgrow (Nat.le_refl _)
                    have hl3 := (hl.alloc _).kept hgrow (HAp.out.symm).ne
                    have hap3 := HAp.out.grownN hl hblk (by omega)
                    have hf3 : w3.ownsRow w1.heap.size 9 1 v3 (k + 1) ((pre ++ [(natV 0 A.data.toList, natV 0 (A).data.toList)]).map (fun x => ddV x.1)) := by
                      rw [List.map_append, List.map_singleton, ddV_str HnA.out]; exact hown3
                    have HF3 := Lib.hid hf3
                    have HAp3 := Lib.hid hap3
                    have hszB := hb3.size
                    clear hown3 hgrow hblk hf hl hf3 hap3 hbw9 hszA hbn
                    go_wp2_with (at_builtin; refine wpList_append_two _ rfl _ _ 61 rfl w1.heap.size 9 i0 (.string ⟨#[]⟩) 1 16 Tryz.underlying61 hi hz0 hz1 hz2 rfl (by decide) _ _ _ rfl (hl3.alloc _) ⟨_, 0, none⟩ 1 1 [.string A] rfl rfl ?d1b ?d2b ?d3b ?d4b ?d5b (by decide) ?_)
                    case d1b => exact one_new _ _ _
                    case d2b => intro u hu; simp at hu; subst hu; rfl
                    case d3b => unfold maxLen; omega
                    case d4b => omega
                    case d5b => simp; omega
                    intro v5 w5 hown5 hgrow hblk
                    have hb5 := grown_bl (hb3.alloc _) (hl3.alloc _) hgrow (Nat.le_refl _)
                    have hf5 := (HF3.out.alloc _).kept hgrow HAp3.out.ne
                    have hap5 := (HAp3.out.symm.grownN HF3.out hblk (by omega)).symm
                    have hl5 : w5.ownsRow w1.heap.size 9 1 v5 (k + 1) ((pre ++ [(natV 0 A.data.toList, natV 0 (A).data.toList)]).map (fun x => ddV x.2)) := by
                      rw [List.map_append, List.map_singleton, ddV_str HnE.out]; exact hown5
                    have HF5 := Lib.hid hf5
                    have HL5 := Lib.hid hl5
                    have HAp5 := Lib.hid hap5
                    have HLs2 := Lib.hid (show LastIs (pre ++ [(natV 0 A.data.toList, natV 0 (A).data.toList)]) A from .inr ⟨_, lastE_snoc _ _, str_dd HnE.out⟩)
                    have HPl2 := Lib.hid hpl
                    clear hown5 hgrow hblk hl3 hf5 hl5 hap5 hb3 hpl
                    go_wp2_with fail
                    go_roundg (SL.length - (k + 1))
                    case rel => exact ⟨k + 1, pre ++ [(natV 0 A.data.toList, natV 0 (A).data.toList)], A, by go_num, rfl, by omega, by rw [List.length_append, HPl2.out]; rfl, HS2.out, HA2.out, HLs2.out, hEs, HF5.out, HL5.out, HAp5.out, hb5, rfl⟩
                    case measure => rw [G.out]; omega
          · obtain ⟨E, hE⟩ : ∃ E, EL[1]? = some E := ⟨_, List.getElem?_eq_getElem (by omega)⟩
            have dE0 := heat 1 E hE
            have hEm2 : E.data.toList ∈ pcs 45 [] r := by rw [← hEm]; exact List.mem_map_of_mem (List.mem_of_getElem? hE)
            have hEl := pcs_len 45 r [] _ hEm2
            have hEn := pcs_no 45 r [] (by simp) _ hEm2
            rw [← Lib.size_eq, List.length_nil] at hEl
            have hdE := isDec_no hEn
            have hd2 := fun y : BW w2 => HDec.out E (by omega) y.w
            rw [hdE] at hd2
            have dE := fun y : BW w2 => y.h.cell dE0
            have hp : pcs 45 [] r = [A.data.toList, E.data.toList] := by
              rw [← hEm]
              match EL, h1, hA, hE with
              | [x, y], _, hA, hE => simp at hA hE; subst hA hE; rfl
            have hrp := runP_2 hp
            rw [h1]
            clear hEs hEm heat hAm hAn hdA hp hA hln h2 h1 hE hEm2 hEn hdE
            cases hnA : isNat A.data.toList with
            | false =>
              rw [hnA, Bool.false_and, Bool.false_and, if_neg (by simp)] at hrp
              rw [hnA] at hd1
              have HD1 := Lib.hid hd1
              have hres := HRes.out
              rw [rds_bad HS.out HK.out hrp] at hres
              simp only at hres
              subst hres
              clear hrp hnA hd1 hd2
              go_wp2_with fail
              
              refine wp_region_quiet_bw w2 (by kernel_rfl) (by kernel_rfl) (Bl.refl w2) ?_
              repeat (go_big_quiet_step ((go_at_call 34; exact quietB (HD1.out _))))
              refine wpQuiet_nil ?_
              intro wq hw'
              have hwq : Bl w2 wq := by obtain ⟨x, hx⟩ := hw'; rw [hx]; exact x.h
              clear hw'
              go_wp2_with fail
              go_ret2
              exact RM.mk (nums_none _ _) (((hb1.trans hbw).trans hb2).trans hwq)
            | true =>
              rw [hnA] at hd1
              have HD1 := Lib.hid hd1
              cases hnE : isNat E.data.toList with
              | false =>
                rw [hnE, Bool.and_false, Bool.false_and, if_neg (by simp)] at hrp
                rw [hnE] at hd2
                have HD2 := Lib.hid hd2
                have hres := HRes.out
                rw [rds_bad HS.out HK.out hrp] at hres
                simp only at hres
                subst hres
                clear hrp hnA hnE hd1 hd2
                go_wp2_with fail
                
                refine wp_region_quiet_bw w2 (by kernel_rfl) (by kernel_rfl) (Bl.refl w2) ?_
                repeat (go_big_quiet_step ((go_at_call 34; (first | with_reducible exact quietB (HD1.out _) | with_reducible exact quietB (HD2.out _)))))
                refine wpQuiet_nil ?_
                intro wq hw'
                have hwq : Bl w2 wq := by obtain ⟨x, hx⟩ := hw'; rw [hx]; exact x.h
                clear hw'
                go_wp2_with fail
                go_ret2
                exact RM.mk (nums_none _ _) (((hb1.trans hbw).trans hb2).trans hwq)
              | true =>
                rw [hnE] at hd2
                have HD2 := Lib.hid hd2
                have hlv := lessD_is hnA hnE
                have hls := fun y : BW w2 => HLess.out A E (by omega) (by omega) y.w
                rw [hnA, hnE, Bool.true_and, Bool.true_and] at hrp
                have HnA := Lib.hid hnA
                have HnE := Lib.hid hnE
                clear hnA hnE hd1 hd2
                by_cases hlt : natV 0 A.data.toList < natV 0 E.data.toList
                · rw [decide_eq_true hlt] at hlv hrp
                  rw [if_pos rfl] at hrp
                  rw [hlv] at hls
                  have HLs := Lib.hid hls
                  have HRp := Lib.hid hrp
                  have hEs : E.size ≤ s.size := by omega
                  clear hrp hlv hls hlt
                  go_wp2_with fail
                  
                  refine wp_region_quiet_bw w2 (by kernel_rfl) (by kernel_rfl) (Bl.refl w2) ?_
                  repeat (go_big_quiet_step ((first | (go_at_call 34; (first | with_reducible exact quietB (HD1.out _) | with_reducible exact quietB (HD2.out _))) | (go_at_call 35; exact quietB (HLs.out _)))))
                  refine wpQuiet_nil ?_
                  intro wq hw'
                  have hwq : Bl w2 wq := by obtain ⟨x, hx⟩ := hw'; rw [hx]; exact x.h
                  clear hw'
                  clear HD1 HD2 HLs dA dE
                  go_wp2_with fail
                  have hx : runP r = some (natV 0 A.data.toList, natV 0 (E).data.toList) := HRp.out
                  have HX := Lib.hid hx
                  clear hx
                  cases haf : after (lastE pre) (natV 0 A.data.toList) with
                  | false =>
                    have hk0 : 0 < k := by
                      rcases Nat.eq_zero_or_pos k with h | h
                      · subst h
                        have := List.length_eq_zero_iff.1 hpl
                        rw [this] at haf; cases haf
                      · exact h
                    rcases HL.out with ⟨hp0, -⟩ | ⟨m, hm, hLm⟩
                    · rw [hp0] at hpl; simp at hpl; omega
                    · have hLn : isNat L.data.toList = true := by rw [hLm]; exact (dd_facts m).1
                      have hnl := nextW_len hLn
                      rw [← Lib.size_eq] at hnl
                      have HNx := Lib.hid (fun y : BW wq => HNext.out L (by omega) hLn y.w)
                      have hls := fun y : BW wq => HLess.out (⟨(nextW L.data.toList).toArray⟩ : ByteArray) A (by show (nextW L.data.toList).toArray.size ≤ _; simp; omega) (by omega) y.w
                      have hlv : lessD (⟨(nextW L.data.toList).toArray⟩ : ByteArray).data.toList A.data.toList = false := by
                        rw [show (⟨(nextW L.data.toList).toArray⟩ : ByteArray).data.toList = nextW L.data.toList from rfl, lessD_is (next_nat _).1 HnA.out, (next_nat _).2, hLm, show natV 0 (⟨(Lib.decDigits m).toArray⟩ : ByteArray).data.toList = m from (dd_facts m).2.1]
                        rw [hm] at haf; exact haf
                      rw [hlv] at hls
                      have hres := HRes.out
                      rw [rds_bad2 HS.out HK.out HX.out haf] at hres
                      simp only at hres
                      subst hres
                      have HLs := Lib.hid hls
                      have k1 : decide (0 < k) = true := by rw [decide_eq_true_eq]; exact hk0
                      have k2 : decide ((0 : Int) < (k : Int)) = true := by rw [decide_eq_true_eq]; omega
                      clear hls hlv hm hLm haf hk0 hpl hLn hnl
                      generalize (⟨(nextW L.data.toList).toArray⟩ : ByteArray) = NX at HNx HLs
                      have dA := fun y : BW wq => y.h.cell (hwq.cell dA0)
                      
                      refine wp_region_quiet_bw wq (by kernel_rfl) (by kernel_rfl) (Bl.refl wq) ?_
                      repeat (go_big_quiet_step ((first | (go_at_call 36; exact quietB (HNx.out _)) | (go_at_call 35; exact quietB (HLs.out _)))))
                      refine wpQuiet_nil ?_
                      intro wn hw'
                      have hbn : Bl wq wn := by obtain ⟨x, hx⟩ := hw'; rw [hx]; exact x.h
                      clear hw'
                      go_wp2_with fail
                      go_ret2
                      exact RM.mk (nums_none _ _) (((hb1.trans hbw).trans hb2).trans (hwq.trans hbn))
                  | true =>
                    have HS2 := Lib.hid (rds_step HS.out HK.out HX.out haf)
                    have HA2 := Lib.hid (asc_step HAs.out (runP_le HX.out) haf)
                    by_cases hk0 : k = 0
                    · have k1 : decide (0 < k) = false := by rw [hk0]; rfl
                      have k2 : decide ((0 : Int) < (k : Int)) = false := by rw [hk0]; rfl
                      clear hk0 haf
                      
                      refine wp_region_quiet_bw wq (by kernel_rfl) (by kernel_rfl) (Bl.refl wq) ?_
                      repeat (go_big_quiet_step (fail))
                      refine wpQuiet_nil ?_
                      intro wn hw'
                      have hbn : Bl wq wn := by obtain ⟨x, hx⟩ := hw'; rw [hx]; exact x.h
                      clear hw'
                      have hbn2 := hwq.trans hbn
                      have hbn : Bl wr wn := hb2.trans hbn2
                      have dA := hbn2.cell dA0
                      have dE := hbn2.cell dE0
                      have hbw9 : Bl w1 wn := hbw.trans hbn
                      have hszA := hbw9.size
                      have hf := own_bl HOf.out hbn
                      have hl := own_bl HOl.out hbn
                      go_wp2_with (at_builtin; refine wpList_append_two _ rfl _ _ 61 rfl w1.heap.size 9 i0 (.string ⟨#[]⟩) 1 16 Tryz.underlying61 hi hz0 hz1 hz2 rfl (by decide) _ _ _ rfl (hf.alloc _) ⟨_, 0, none⟩ 1 1 [.string A] rfl rfl ?c1c ?c2c ?c3c ?c4c ?c5c (by decide) ?_)
                      case c1c => exact one_new _ _ _
                      case c2c => intro u hu; simp at hu; subst hu; rfl
                      case c3c => unfold maxLen; omega
                      case c4c => omega
                      case c5c => simp; omega
                      intro v3 w3 hown3 hgrow hblk
                      have hb3 := grown_bl (hbw9.alloc _) (hf.alloc _) hgrow (Nat.le_refl _)
                      have hl3 := (hl.alloc _).kept hgrow (HAp.out.symm).ne
                      have hap3 := HAp.out.grownN hl hblk (by omega)
                      have hf3 : w3.ownsRow w1.heap.size 9 1 v3 (k + 1) ((pre ++ [(natV 0 A.data.toList, natV 0 (E).data.toList)]).map (fun x => ddV x.1)) := by
                        rw [List.map_append, List.map_singleton, ddV_str HnA.out]; exact hown3
                      have HF3 := Lib.hid hf3
                      have HAp3 := Lib.hid hap3
                      have hszB := hb3.size
                      clear hown3 hgrow hblk hf hl hf3 hap3 hbw9 hszA hbn
                      go_wp2_with (at_builtin; refine wpList_append_two _ rfl _ _ 61 rfl w1.heap.size 9 i0 (.string ⟨#[]⟩) 1 16 Tryz.underlying61 hi hz0 hz1 hz2 rfl (by decide) _ _ _ rfl (hl3.alloc _) ⟨_, 0, none⟩ 1 1 [.string E] rfl rfl ?d1c ?d2c ?d3c ?d4c ?d5c (by decide) ?_)
                      case d1c => exact one_new _ _ _
                      case d2c => intro u hu; simp at hu; subst hu; rfl
                      case d3c => unfold maxLen; omega
                      case d4c => omega
                      case d5c => simp; omega
                      intro v5 w5 hown5 hgrow hblk
                      have hb5 := grown_bl (hb3.alloc _) (hl3.alloc _) hgrow (Nat.le_refl _)
                      have hf5 := (HF3.out.alloc _).kept hgrow HAp3.out.ne
                      have hap5 := (HAp3.out.symm.grownN HF3.out hblk (by omega)).symm
                      have hl5 : w5.ownsRow w1.heap.size 9 1 v5 (k + 1) ((pre ++ [(natV 0 A.data.toList, natV 0 (E).data.toList)]).map (fun x => ddV x.2)) := by
                        rw [List.map_append, List.map_singleton, ddV_str HnE.out]; exact hown5
                      have HF5 := Lib.hid hf5
                      have HL5 := Lib.hid hl5
                      have HAp5 := Lib.hid hap5
                      have HLs2 := Lib.hid (show LastIs (pre ++ [(natV 0 A.data.toList, natV 0 (E).data.toList)]) E from .inr ⟨_, lastE_snoc _ _, str_dd HnE.out⟩)
                      have HPl2 := Lib.hid hpl
                      clear hown5 hgrow hblk hl3 hf5 hl5 hap5 hb3 hpl
                      go_wp2_with fail
                      go_roundg (SL.length - (k + 1))
                      case rel => exact ⟨k + 1, pre ++ [(natV 0 A.data.toList, natV 0 (E).data.toList)], E, by go_num, rfl, by omega, by rw [List.length_append, HPl2.out]; rfl, HS2.out, HA2.out, HLs2.out, hEs, HF5.out, HL5.out, HAp5.out, hb5, rfl⟩
                      case measure => rw [G.out]; omega
                    · have hk1 : 0 < k := by omega
                      rcases HL.out with ⟨hp0, -⟩ | ⟨m, hm, hLm⟩
                      · rw [hp0] at hpl; simp at hpl; omega
                      · have hLn : isNat L.data.toList = true := by rw [hLm]; exact (dd_facts m).1
                        have hnl := nextW_len hLn
                        rw [← Lib.size_eq] at hnl
                        have HNx := Lib.hid (fun y : BW wq => HNext.out L (by omega) hLn y.w)
                        have hls := fun y : BW wq => HLess.out (⟨(nextW L.data.toList).toArray⟩ : ByteArray) A (by show (nextW L.data.toList).toArray.size ≤ _; simp; omega) (by omega) y.w
                        have hlv : lessD (⟨(nextW L.data.toList).toArray⟩ : ByteArray).data.toList A.data.toList = true := by
                          rw [show (⟨(nextW L.data.toList).toArray⟩ : ByteArray).data.toList = nextW L.data.toList from rfl, lessD_is (next_nat _).1 HnA.out, (next_nat _).2, hLm, show natV 0 (⟨(Lib.decDigits m).toArray⟩ : ByteArray).data.toList = m from (dd_facts m).2.1]
                          rw [hm] at haf; exact haf
                        rw [hlv] at hls
                        have HLs := Lib.hid hls
                        have k1 : decide (0 < k) = true := by rw [decide_eq_true_eq]; exact hk1
                        have k2 : decide ((0 : Int) < (k : Int)) = true := by rw [decide_eq_true_eq]; omega
                        clear hls hlv hm hLm haf hk0 hk1 hLn hnl
                        generalize (⟨(nextW L.data.toList).toArray⟩ : ByteArray) = NX at HNx HLs
                        have dA := fun y : BW wq => y.h.cell (hwq.cell dA0)
                        
                        refine wp_region_quiet_bw wq (by kernel_rfl) (by kernel_rfl) (Bl.refl wq) ?_
                        repeat (go_big_quiet_step ((first | (go_at_call 36; exact quietB (HNx.out _)) | (go_at_call 35; exact quietB (HLs.out _)))))
                        refine wpQuiet_nil ?_
                        intro wn hw'
                        have hbn : Bl wq wn := by obtain ⟨x, hx⟩ := hw'; rw [hx]; exact x.h
                        clear hw'
                        have hbn2 := hwq.trans hbn
                        have hbn : Bl wr wn := hb2.trans hbn2
                        have dA := hbn2.cell dA0
                        have dE := hbn2.cell dE0
                        clear HNx HLs
                        have hbw9 : Bl w1 wn := hbw.trans hbn
                        have hszA := hbw9.size
                        have hf := own_bl HOf.out hbn
                        have hl := own_bl HOl.out hbn
                        go_wp2_with (at_builtin; refine wpList_append_two _ rfl _ _ 61 rfl w1.heap.size 9 i0 (.string ⟨#[]⟩) 1 16 Tryz.underlying61 hi hz0 hz1 hz2 rfl (by decide) _ _ _ rfl (hf.alloc _) ⟨_, 0, none⟩ 1 1 [.string A] rfl rfl ?c1d ?c2d ?c3d ?c4d ?c5d (by decide) ?_)
                        case c1d => exact one_new _ _ _
                        case c2d => intro u hu; simp at hu; subst hu; rfl
                        case c3d => unfold maxLen; omega
                        case c4d => omega
                        case c5d => simp; omega
                        intro v3 w3 hown3 hgrow hblk
                        have hb3 := grown_bl (hbw9.alloc _) (hf.alloc _) hgrow (Nat.le_refl _)
                        have hl3 := (hl.alloc _).kept hgrow (HAp.out.symm).ne
                        have hap3 := HAp.out.grownN hl hblk (by omega)
                        have hf3 : w3.ownsRow w1.heap.size 9 1 v3 (k + 1) ((pre ++ [(natV 0 A.data.toList, natV 0 (E).data.toList)]).map (fun x => ddV x.1)) := by
                          rw [List.map_append, List.map_singleton, ddV_str HnA.out]; exact hown3
                        have HF3 := Lib.hid hf3
                        have HAp3 := Lib.hid hap3
                        have hszB := hb3.size
                        clear hown3 hgrow hblk hf hl hf3 hap3 hbw9 hszA hbn
                        go_wp2_with (at_builtin; refine wpList_append_two _ rfl _ _ 61 rfl w1.heap.size 9 i0 (.string ⟨#[]⟩) 1 16 Tryz.underlying61 hi hz0 hz1 hz2 rfl (by decide) _ _ _ rfl (hl3.alloc _) ⟨_, 0, none⟩ 1 1 [.string E] rfl rfl ?d1d ?d2d ?d3d ?d4d ?d5d (by decide) ?_)
                        case d1d => exact one_new _ _ _
                        case d2d => intro u hu; simp at hu; subst hu; rfl
                        case d3d => unfold maxLen; omega
                        case d4d => omega
                        case d5d => simp; omega
                        intro v5 w5 hown5 hgrow hblk
                        have hb5 := grown_bl (hb3.alloc _) (hl3.alloc _) hgrow (Nat.le_refl _)
                        have hf5 := (HF3.out.alloc _).kept hgrow HAp3.out.ne
                        have hap5 := (HAp3.out.symm.grownN HF3.out hblk (by omega)).symm
                        have hl5 : w5.ownsRow w1.heap.size 9 1 v5 (k + 1) ((pre ++ [(natV 0 A.data.toList, natV 0 (E).data.toList)]).map (fun x => ddV x.2)) := by
                          rw [List.map_append, List.map_singleton, ddV_str HnE.out]; exact hown5
                        have HF5 := Lib.hid hf5
                        have HL5 := Lib.hid hl5
                        have HAp5 := Lib.hid hap5
                        have HLs2 := Lib.hid (show LastIs (pre ++ [(natV 0 A.data.toList, natV 0 (E).data.toList)]) E from .inr ⟨_, lastE_snoc _ _, str_dd HnE.out⟩)
                        have HPl2 := Lib.hid hpl
                        clear hown5 hgrow hblk hl3 hf5 hl5 hap5 hb3 hpl
                        go_wp2_with fail
                        go_roundg (SL.length - (k + 1))
                        case rel => exact ⟨k + 1, pre ++ [(natV 0 A.data.toList, natV 0 (E).data.toList)], E, by go_num, rfl, by omega, by rw [List.length_append, HPl2.out]; rfl, HS2.out, HA2.out, HLs2.out, hEs, HF5.out, HL5.out, HAp5.out, hb5, rfl⟩
                        case measure => rw [G.out]; omega
                · rw [decide_eq_false hlt] at hlv hrp
                  rw [if_neg (by simp)] at hrp
                  rw [hlv] at hls
                  have HLs := Lib.hid hls
                  have hres := HRes.out
                  rw [rds_bad HS.out HK.out hrp] at hres
                  simp only at hres
                  subst hres
                  clear hrp hlv hls hlt
                  go_wp2_with fail
                  
                  refine wp_region_quiet_bw w2 (by kernel_rfl) (by kernel_rfl) (Bl.refl w2) ?_
                  repeat (go_big_quiet_step ((first | (go_at_call 34; (first | with_reducible exact quietB (HD1.out _) | with_reducible exact quietB (HD2.out _))) | (go_at_call 35; exact quietB (HLs.out _)))))
                  refine wpQuiet_nil ?_
                  intro wq hw'
                  have hwq : Bl w2 wq := by obtain ⟨x, hx⟩ := hw'; rw [hx]; exact x.h
                  clear hw'
                  go_wp2_with fail
                  go_ret2
                  exact RM.mk (nums_none _ _) (((hb1.trans hbw).trans hb2).trans hwq)
      · obtain rfl : k = SL.length := by omega
        have hrd := HS.out
        rw [Hn9.out] at hrd
        have hfin := rds_end hrd
        have hne : pre ≠ [] := by
          rintro rfl
          have h1 : ps.length = 0 := by rw [← Hn9.out]; exact hpl.symm
          exact HPne.out (List.length_eq_zero_iff.1 h1)
        obtain ⟨m, hm, hLm⟩ : ∃ m, lastE pre = some m ∧ L = ⟨(Lib.decDigits m).toArray⟩ := by
          rcases HL.out with ⟨h, -⟩ | h
          · exact absurd h hne
          · exact h
        have hal := asc_last HAs.out hm
        have hres := HRes.out
        rw [hfin] at hres
        simp only at hres
        rw [hm, Option.getD_some] at hres
        have hLn : isNat L.data.toList = true := by rw [hLm]; exact (dd_facts m).1
        have hLv : natV 0 L.data.toList = m := by rw [hLm]; exact (dd_facts m).2.1
        have hcg := lessD_is Hq9.out.1 hLn
        rw [Hq9.out.2, hLv] at hcg
        have hls := fun w => HLess.out q9 L (by omega) (by omega) w
        rw [hcg] at hls
        clear hcg hLn hLv hLm hfin hrd hne
        by_cases hbig : 1000000000 < m
        · rw [if_pos hbig] at hres
          subst hres
          rw [decide_eq_true hbig] at hls
          have HLs := Lib.hid hls
          clear hbig hm hls hal
          go_wp2_with fail
          refine (HIt.out _).mono ?_; rintro e w2 ⟨rfl, hb2⟩
          go_wp2_with fail
          refine (HLs.out _).mono ?_; rintro e w3 ⟨rfl, hb3⟩
          go_wp2_with fail
          go_ret2
          exact RM.mk (nums_none _ _) (by repeat (first | assumption | exact Bl.refl _ | apply Bl.drewN | apply Bl.drew | apply Bl.alloc | (refine Bl.dr ?_ (by assumption)) | (refine Bl.trans ?_ (by assumption))))
        · rw [if_neg hbig] at hres
          rw [decide_eq_false hbig] at hls
          have HLs := Lib.hid hls
          have hxb : ∀ x ∈ pre, x.1 ≤ x.2 ∧ x.2 ≤ 1000000000 := fun x hx => ⟨HAs.out.1 x hx, by have := hal x hx; omega⟩
          have HXb := Lib.hid hxb
          have HR2 := Lib.hid hres
          clear hbig hm hal hres hxb hls
          go_wp2_with fail
          refine (HIt.out _).mono ?_; rintro e w2 ⟨rfl, hb2⟩
          go_wp2_with fail
          refine (HLs.out _).mono ?_; rintro e w3 ⟨rfl, hb3⟩
          have hbA : Bl w1 w3 := (by repeat (first | assumption | exact Bl.refl _ | apply Bl.drewN | apply Bl.drew | apply Bl.alloc | (refine Bl.dr ?_ (by assumption)) | (refine Bl.trans ?_ (by assumption))))
          have hwr3 : Bl wr w3 := hb2.trans hb3
          have hownF := own_bl HOf.out hwr3
          have hownL := own_bl HOl.out hwr3
          obtain ⟨fa, fc, rfl, -, -, hfc⟩ := own_form hownF
          obtain ⟨la, lc, rfl, -, -, hlc⟩ := own_form hownL
          have HFc := Lib.hid hfc
          have HLc := Lib.hid hlc
          have hpln : pre.length ≤ s.size + 1 := by omega
          have HPn := Lib.hid hpl
          clear hownF hownL hfc hlc HOf HOl hpl hbw hb2 hb3 HS HL HRes hk G HAs HAp hwr3 hkl
          go_wp2_with fail
          go_loopg [10, 11] SL.length (fun g l ix wr2 => ∃ k : Nat, ix = .int .i64 k ∧ k ≤ SL.length ∧ wr2.ownsRow w3.heap.size 3 1 l (tot (pre.take k)) (intCells (expd (pre.take k))) ∧ tot (pre.take k) ≤ 500 ∧ Bl w3 wr2 ∧ g = SL.length - k)
          case atStart => exact ⟨0, rfl, Nat.zero_le _, own_nil _ _ _ _, Nat.zero_le _, Bl.refl _, rfl⟩
          case round =>
            obtain ⟨k, rfl, hk, hown, ht5, hbw, hg⟩ := hrel
            have G := Lib.hid hg
            have HO := Lib.hid hown
            clear hg hown
            by_cases hkl : k < SL.length
            · obtain ⟨x, hx⟩ : ∃ x, pre[k]? = some x := ⟨_, List.getElem?_eq_getElem (by rw [HPn.out]; exact hkl)⟩
              obtain ⟨x1, x2⟩ := x
              obtain ⟨hx12, hx9⟩ := HXb.out _ (List.mem_of_getElem? hx)
              simp only at hx12 hx9
              obtain ⟨fg, rfl, -, -, hfcells⟩ := HFc.out (by omega)
              obtain ⟨lg, rfl, -, -, hlcells⟩ := HLc.out (by omega)
              have d0 := hbw.cell (hfcells k (ddV x1) (by rw [List.getElem?_map, hx]; rfl))
              have d1 := hbw.cell (hlcells k (ddV x2) (by rw [List.getElem?_map, hx]; rfl))
              have htt := tot_take hx
              have hle := tot_le pre (k + 1)
              have het := expd_take hx
              simp only at htt het
              rw [htt] at hle
              obtain ⟨T, hT⟩ : ∃ T, tot (pre.take k) = T := ⟨_, rfl⟩
              rw [hT] at htt hle HO ht5
              have hA1 := fun w => HAt.out x1 (by omega) w
              have hA2 := fun w => HAt.out x2 (by omega) w
              have w1' := wint_nat x1 (by omega)
              have w2' := wint_nat x2 (by omega)
              unfold ddV at d0 d1
              obtain ⟨S1, hS1⟩ : ∃ S : ByteArray, (⟨(Lib.decDigits x1).toArray⟩ : ByteArray) = S := ⟨_, rfl⟩
              obtain ⟨S2, hS2⟩ : ∃ S : ByteArray, (⟨(Lib.decDigits x2).toArray⟩ : ByteArray) = S := ⟨_, rfl⟩
              rw [hS1] at d0 hA1
              rw [hS2] at d1 hA2
              rw [w1'] at hA1
              rw [w2'] at hA2
              have HA1 := Lib.hid hA1
              have HA2 := Lib.hid hA2
              have HTt := Lib.hid htt
              have HEt := Lib.hid het
              have p0 : (0 : Int) ≤ (k : Int) := by omega
              have p9 : (k : Int) < (SL.length : Int) := by omega
              clear hx hfcells hlcells htt het hA1 hA2 hS1 hS2 hT w1' w2'
              have p1 : (x1 : Int) ≤ (x2 : Int) := by omega
              have p2 : (x2 : Int) ≤ 1000000000 := by omega
              have p3 : (0 : Int) ≤ (x1 : Int) := by omega
              go_wp2_with fail
              refine (HA1.out _).mono ?_; rintro e w5 ⟨rfl, hb5⟩
              have d1 := hb5.cell d1
              go_wp2_with fail
              refine (HA2.out _).mono ?_; rintro e w6 ⟨rfl, hb6⟩
              have hbw6 := hb5.trans hb6
              have hown6 := own_bl HO.out hbw6
              have hbw7 := hbw.trans hbw6
              obtain ⟨D, hD⟩ : ∃ D, x2 - x1 = D := ⟨_, rfl⟩
              have hD2 : x2 = x1 + D := by omega
              have HD := Lib.hid hD2
              rw [hD] at hle HEt HTt
              have HO6 := Lib.hid hown6
              clear hD hD2 hown6 HO hbw hbw6 hb5 hb6 d0 d1
              go_wp2_with fail
              go_loopg [10, 16] (D + 1) (fun g l n wr3 => ∃ j : Nat, n = .int .i64 ((x1 + j : Nat) : Int) ∧ j ≤ D + 1 ∧ T + j ≤ 500 ∧ wr3.ownsRow w3.heap.size 3 1 l (T + j) (intCells (expd (pre.take k) ++ upT x1 j)) ∧ Bl w3 wr3 ∧ g = D + 1 - j)
              case atStart => exact ⟨0, rfl, Nat.zero_le _, ht5, by simpa [upT] using HO6.out, hbw7, rfl⟩
              case round =>
                clear hbw7 HO6
                obtain ⟨j, rfl, hjl, hT5, hown, hbw, hg⟩ := hrel
                have G2 := Lib.hid hg
                have HO := Lib.hid hown
                obtain ⟨N, hN⟩ : ∃ N, x1 + j = N := ⟨_, rfl⟩
                obtain ⟨M, hM⟩ : ∃ M, T + j = M := ⟨_, rfl⟩
                rw [hN]
                rw [hM] at hown hT5
                have hxD := HD.out
                by_cases hjD : j ≤ D
                · have n1 : decide (N ≤ x2) = true := by rw [decide_eq_true_eq]; omega
                  have n2 : (N : Int) ≤ (x2 : Int) := by omega
                  have hszA := hbw.size
                  have HN := Lib.hid hN
                  have HM := Lib.hid hM
                  obtain ⟨oa, oc, rfl, -, -, -⟩ := own_form hown
                  by_cases h500 : M = 500
                  · have n3 : ((M : Int) == 500) = true := by rw [beq_iff_eq]; omega
                    have hr := HR2.out
                    rw [if_pos (show 500 < tot pre by omega)] at hr
                    subst hr
                    clear hg hN hM hxD h500 hown
                    go_wp2_with fail
                    go_ret2
                    exact RM.mk (nums_none _ _) (hb1.trans (hbA.trans hbw))
                  · have n3 : ((M : Int) == 500) = false := by rw [beq_eq_false_iff_ne]; omega
                    have hM2 : M + 1 ≤ 500 := by omega
                    clear hg hN hM hxD h500
                    go_wp2_with (at_builtin; refine wpList_append_own _ rfl _ _ 22 rfl w3.heap.size 3 i1 (.int .i64 0) 1 8 Tryz.underlying22 hj hy0 hy1 hy2 rfl (by decide) _ _ _ rfl (hown.alloc _) ⟨_, 0, none⟩ 1 1 [.int .i64 N] rfl rfl ?e1 ?e2 ?e3 ?e4 ?e5 ?_)
                    case e1 => exact one_new _ _ _
                    case e2 => intro u hu; simp at hu; subst hu; rfl
                    case e3 => unfold maxLen; omega
                    case e4 => omega
                    case e5 => simp; omega
                    intro v' w7 hown2 hgrow _
                    have hb7 := grown_bl (hbw.alloc _) (hown.alloc _) hgrow (Nat.le_refl _)
                    have hown3 : w7.ownsRow w3.heap.size 3 1 v' (T + (j + 1)) (intCells (expd (pre.take k) ++ upT x1 (j + 1))) := by
                      rw [upT_snoc, HN.out, ← List.append_assoc, ← Nat.add_assoc, HM.out]
                      have e : intCells (expd (pre.take k) ++ upT x1 j ++ [(N : Int)]) = intCells (expd (pre.take k) ++ upT x1 j) ++ [.int .i64 N] := by simp [intCells]
                      rw [e]; exact hown2
                    have HW := Lib.hid hown3
                    clear hown hown2 hown3 hgrow
                    go_wp2_with fail
                    go_roundg (D + 1 - (j + 1))
                    case rel => exact ⟨j + 1, ival (by have := HN.out; omega), by omega, by have := HM.out; omega, HW.out, hb7, rfl⟩
                    case measure => rw [G2.out]; omega
                · obtain rfl : j = D + 1 := by omega
                  have n1 : decide (N ≤ x2) = false := by rw [decide_eq_false_iff_not]; omega
                  have n2 : ¬ (N : Int) ≤ (x2 : Int) := by omega
                  have hown3 : wr.ownsRow w3.heap.size 3 1 u10 (tot (pre.take (k + 1))) (intCells (expd (pre.take (k + 1)))) := by
                    rw [HTt.out, HEt.out, hM]; exact hown
                  have HW := Lib.hid hown3
                  have hT6 : tot (pre.take (k + 1)) ≤ 500 := by rw [HTt.out]; omega
                  have HT5 := Lib.hid hT6
                  clear hg hN hM hown hown3 hT5 hT6 hxD
                  go_wp2_with fail
                  go_roundg (SL.length - (k + 1))
                  case rel => exact ⟨k + 1, by go_num, by omega, HW.out, HT5.out, hbw, rfl⟩
                  case measure => rw [G.out]; omega
            · obtain rfl : k = SL.length := by omega
              have hown := HO.out
              rw [← HPn.out, List.take_length] at hown ht5
              have hr := HR2.out
              rw [if_neg (show ¬ 500 < tot pre by omega)] at hr
              subst hr
              rw [← expd_len] at hown
              obtain ⟨na, nc, rfl, hN, -, -⟩ := own_nums hown
              have HNu := Lib.hid hN
              have hbF := hb1.trans (hbA.trans hbw)
              clear hown hN ht5 HO G HFc HLc
              go_wp2_with fail
              go_ret2
              exact RM.mk ⟨na, nc, rfl, HNu.out⟩ hbF
end Go.Proofs.YtfjdcfmoodlnaaaGreatDoor

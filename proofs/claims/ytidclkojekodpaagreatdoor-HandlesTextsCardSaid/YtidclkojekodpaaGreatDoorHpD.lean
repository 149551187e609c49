
/-
  Contracts of handles: the reference's Parse.
-/
import Derived.Test.YtidclkojekodpaaGreatDoorHpC
import Derived.Test.YtidclkojekodpaaGreatDoorWlC
namespace Go.Proofs.YtidclkojekodpaaGreatDoor
open Go.RowKit
set_option linter.unusedSimpArgs false
set_option linter.unusedVariables false
set_option maxRecDepth 100000

theorem KpT.b2 {t : TypeId} {T B : Nat} {w0 w : World} {a b : Value} (h : KpT T w0 w) (hB : B2 t w0 B a b) (hne : B ≠ T) : B2 t w B a b := by
  unfold B2 at *
  rw [h.2 B (Array.getElem?_eq_some_iff.1 hB).1 hne]; exact hB
set_option maxHeartbeats 16000000 in
theorem refHnParse (s : ByteArray) (hs : s.size ≤ 100000) (w : World) (hE : WEnv w) : Calls Tryz.prog 9 #[.string s] w (RM w (ParV (tparse s.data.toList))) := by
  obtain ⟨i0, hi, hz0, hz1, hz2⟩ := info_parts inf_slot
  have H1 := Lib.hid (fun w => refLines s w (by omega))
  have HRow := Lib.hid (fun x (hx : ByteArray.size x ≤ 100000) w h => refRow x hx w h)
  obtain ⟨res, hres⟩ : ∃ r, tparse s.data.toList = r := ⟨_, rfl⟩
  rw [hres]
  have htp : tparse s.data.toList = if (wlines s.data.toList).2 ≠ 0 then (tnil, 0, (wlines s.data.toList).2) else if (wlines s.data.toList).1 = [] then (tnil, 1, 6) else tgo 0 tnil (wlines s.data.toList).1 := rfl
  rw [hres] at htp
  have hsl : ∀ x ∈ (wlines s.data.toList).1, x.length ≤ s.size := by
    intro x hx
    unfold wlines at hx
    split at hx
    · cases hx
    · split at hx
      · cases hx
      · split at hx
        · cases hx
        · split at hx
          · cases hx
          · have := spl_len _ _ x hx
            rw [← Lib.size_eq] at this
            simpa using this
  generalize wlines s.data.toList = r at H1 htp hsl
  obtain ⟨Ls, en⟩ := r
  simp only at htp hsl
  have HE := Lib.hid hE
  have HTp := Lib.hid htp
  have HSl := Lib.hid hsl
  clear hE htp hsl hres
  go_enter Tryz.func9, Tryz.ntmps9
  go_wp2_with fail
  refine (H1.out _).mono ?_; rintro e wL ⟨v, rfl, ⟨sa, sc, LL, rfl, hS, hLs, hn5⟩, hb1⟩
  replace hLs : LL.map (·.data.toList) = Ls := hLs
  have hbL : Bl w wL := ((Bl.refl w).alloc _).trans hb1
  have hB2 : B2 24 wL w.heap.size (.int .i64 0) (.slice none 0 0) := (B2.new _ _ _ _).bl hb1
  have hTl := hB2.lt
  have hSize : ∀ x ∈ LL, x.size ≤ 100000 := by
    intro x hx
    have h1 : x.data.toList ∈ Ls := by rw [← hLs]; exact List.mem_map_of_mem hx
    have := HSl.out _ h1
    rw [← Lib.size_eq] at this; omega
  clear hb1
  have c0 := hB2.c0
  have c1 := hB2.c1
  have f0 := hB2.f 0
  have f1 := hB2.f 1
  by_cases hen : en = 0
  · subst hen
    have HLs := Lib.hid hLs
    by_cases hl0 : LL = []
    · have hls0 : Ls = [] := by rw [← hLs, hl0]; rfl
      have hr := HTp.out
      rw [if_neg (by simp), if_pos hls0] at hr
      subst hr
      subst hl0
      clear hls0 hS hLs
      go_wp2_with fail
      have g2 := (B2.set1 (B2.set0 hB2 (.int .i64 0)) (.slice none 0 0))
      have r0 := g2.c0
      have r1 := g2.c1
      refine bodyPost_ret (v := .tuple #[.agg #[.int .i64 0, .slice none 0 0], .int .i64 (1), .int .i64 (6)]) (by simp [results, Tryz.results9, go_sem, r0, r1]) rfl ?_
      exact RM.mk ⟨none, 0, rfl, tnil_ok _⟩ (((hbL).setCell _ (Nat.le_refl _) _).setCell _ (Nat.le_refl _) _)
    · have hlz : LL.length ≠ 0 := fun h => hl0 (List.length_eq_zero_iff.1 h)
      have z1 : ((LL.length : Int) == 0) = false := by rw [beq_eq_false_iff_ne]; omega
      have hgo : res = tgo 0 tnil (Ls.drop 0) := by
        have h1 := HTp.out
        rw [if_neg (by simp), if_neg (by intro e; rw [e] at hLs; exact hl0 (List.map_eq_nil_iff.1 hLs))] at h1
        exact h1
      clear hl0 hlz hLs c0 c1 f0 f1
      have HR := Lib.hid hgo
      have HSt := Lib.hid hS
      have HSz := Lib.hid hSize
      clear hgo hS hSize
      go_wp2_with fail
      obtain ⟨wM, hM⟩ : ∃ x, wL.alloc (.cells #[.int .i64 0, .slice none 0 0] 24) = x := ⟨_, rfl⟩
      obtain ⟨T2, hT2⟩ : ∃ x, wL.heap.size = x := ⟨_, rfl⟩
      have hbM : Bl wL wM := hM ▸ ((Bl.refl wL).alloc _)
      have h20 : B2 24 wM T2 (.int .i64 0) (.slice none 0 0) := hT2 ▸ hM ▸ B2.new _ wL _ _
      have HT0 := Lib.hid (hB2.bl hbM)
      have HTl := Lib.hid (show w.heap.size < T2 by omega)
      have HTw := Lib.hid (show w.heap.size ≤ T2 by omega)
      have H20 := Lib.hid h20
      have HT2l := Lib.hid h20.lt
      have HSM := Lib.hid (HSt.out.bl hbM)
      have hbL := hbL.trans hbM
      rw [hM, hT2]
      clear hM hT2 hbM h20 hB2 hTl HSt
      go_loopg [8] LL.length (fun g ix wr => ∃ (k : Nat) (t : Tb) (v : Value), ix = .int .i64 k ∧ k ≤ LL.length ∧ res = tgo k t (Ls.drop k) ∧ TGo t k ∧ B2 24 wr T2 (.int .i64 t.most) v ∧ wr.ownsRow wM.heap.size 35 2 v t.slots.length (slotCells t.slots) ∧ KpT T2 wM wr ∧ Bl w wr ∧ g = LL.length - k)
      case atStart => exact ⟨0, tnil, .slice none 0 0, rfl, Nat.zero_le _, HR.out, tgo_nil, H20.out, own_nil _ _ _ _, KpT.refl _ _, hbL, rfl⟩
      case round =>
        clear hbL HR
        obtain ⟨k, t, v, rfl, hk, hgo, htg, hb2, hown, hkp, hbw, hg⟩ := hrel
        have GG := Lib.hid hg
        have HR := Lib.hid hgo
        have HG := Lib.hid htg
        have HO := Lib.hid hown
        clear hg hgo htg hown
        by_cases hkl : k < LL.length
        · obtain ⟨q, hq⟩ : ∃ q, LL[k]? = some q := ⟨_, List.getElem?_eq_getElem hkl⟩
          obtain ⟨b, off, rfl, hat⟩ := HSM.out.get hkl
          have hd := hat k q hq
          have hbT := H20.out.other hd (by simp) (by simp)
          have d0 := hkp.cell hd hbT
          have hqs := HSz.out q (List.mem_of_getElem? hq)
          have HK := Lib.hid (show Ls[k]? = some q.data.toList by rw [← HLs.out, List.getElem?_map, hq]; rfl)
          have H1 := Lib.hid (fun w h => HRow.out q hqs w h)
          obtain ⟨r, hr⟩ : ∃ r, rowR q.data.toList = r := ⟨_, rfl⟩
          have hrg := row_range q.data.toList
          rw [hr] at H1 hrg
          obtain ⟨wd, n, is⟩ := r
          simp only at hrg
          have HRng := Lib.hid hrg
          obtain ⟨W, hW⟩ : ∃ W : ByteArray, (⟨wd.toArray⟩ : ByteArray) = W := ⟨_, rfl⟩
          have hwd : wd = W.data.toList := by rw [← hW]
          subst hwd
          rw [hW] at H1
          have HRr := Lib.hid hr
          have j0 : (0 : Int) ≤ (k : Int) := by omega
          have j1 : (k : Int) < (LL.length : Int) := by omega
          clear hq hat hd hbT hr hrg hW
          go_wp2_with fail
          refine (H1.out _ (HE.out.bl hbw)).mono ?_; rintro e w5 ⟨rfl, hbr⟩
          have h2 := hb2.bl hbr
          have hb5 := hbw.trans hbr
          clear hb2 d0 H1
          cases is with
          | false =>
            have hst : tstep k t q.data.toList = none := by unfold tstep; rw [HRr.out]; rfl
            have hr := (HR.out).trans (tgo_stop HK.out hst)
            subst hr
            have h9 := (hkp.bl hbr).b2 HT0.out (Nat.ne_of_lt HTl.out)
            have c0 := h9.c0
            have c1 := h9.c1
            have f0 := h9.f 0
            have f1 := h9.f 1
            clear hst
            go_wp2_with fail
            have g2 := (B2.set1 (B2.set0 h9 (.int .i64 0)) (.slice none 0 0))
            have r0 := g2.c0
            have r1 := g2.c1
            refine bodyPost_ret (v := .tuple #[.agg #[.int .i64 0, .slice none 0 0], .int .i64 (((k : Int) + 1)), .int .i64 (6)]) (by simp [results, Tryz.results9, go_sem, r0, r1]) rfl ?_
            exact RM.mk ⟨none, 0, rfl, tnil_ok _⟩ (((hb5).setCell _ (Nat.le_refl _) _).setCell _ (Nat.le_refl _) _)
          | true =>
            by_cases hk0 : k = 0
            · have k1 : ((k : Int) == 0) = true := by rw [hk0]; rfl
              have k2 : decide (0 < k) = false := by rw [hk0]; rfl
              have k3 : decide ((0 : Int) < (k : Int)) = false := by rw [hk0]; rfl
              by_cases hwt : W.data.toList = tableW
              · have e1 : (W.toList != [116, 97, 98, 108, 101]) = false := by rw [toL, hwt]; rfl
                have e1' : (W.toList == [116, 97, 98, 108, 101]) = true := by rw [toL, hwt]; rfl
                have hst : tstep k t q.data.toList = some ⟨n, t.slots⟩ := by
                  unfold tstep; rw [HRr.out]; simp only [Bool.true_eq_false, if_false]; rw [if_pos hk0, if_pos hwt]
                have HR2 := Lib.hid ((HR.out).trans (tgo_step HK.out hst))
                have c0 := h2.c0
                have c1 := h2.c1
                have f0 := h2.f 0
                have f1 := h2.f 1
                have HTT := Lib.hid (show TGo ⟨n, t.slots⟩ (k + 1) from ⟨by have := HG.out.len; simp only; omega, HRng.out.1, HRng.out.2, HG.out.gens⟩)
                have H2 := Lib.hid (h2.set0 (.int .i64 n))
                have HK8 := Lib.hid ((hkp.bl hbr).set 0 (.int .i64 n))
                have hb8 := hb5.setCell ⟨T2, 0, none⟩ HTw.out (.int .i64 n)
                have HW := Lib.hid (own_set (own_bl HO.out hbr) ⟨T2, 0, none⟩ HT2l.out (.int .i64 n))
                clear hst hwt hk0 h2 hb5 hbr hkp hbw
                go_wp2_with fail
                go_roundg (LL.length - (k + 1))
                case rel => exact ⟨k + 1, ⟨n, t.slots⟩, _, by go_num, by omega, HR2.out, HTT.out, H2.out, HW.out, HK8.out, hb8, rfl⟩
                case measure => rw [GG.out]; omega
              · have e1 : (W.toList != [116, 97, 98, 108, 101]) = true := by rw [toL, bne_iff_ne]; exact hwt
                have e1' : (W.toList == [116, 97, 98, 108, 101]) = false := by rw [toL, beq_eq_false_iff_ne]; exact hwt
                have hst : tstep k t q.data.toList = none := by
                  unfold tstep; rw [HRr.out]; simp only [Bool.true_eq_false, if_false]; rw [if_pos hk0, if_neg hwt]
                clear hwt hk0
                have hr := (HR.out).trans (tgo_stop HK.out hst)
                subst hr
                have h9 := (hkp.bl hbr).b2 HT0.out (Nat.ne_of_lt HTl.out)
                have c0 := h9.c0
                have c1 := h9.c1
                have f0 := h9.f 0
                have f1 := h9.f 1
                clear hst
                go_wp2_with fail
                have g2 := (B2.set1 (B2.set0 h9 (.int .i64 0)) (.slice none 0 0))
                have r0 := g2.c0
                have r1 := g2.c1
                refine bodyPost_ret (v := .tuple #[.agg #[.int .i64 0, .slice none 0 0], .int .i64 (((k : Int) + 1)), .int .i64 (6)]) (by simp [results, Tryz.results9, go_sem, r0, r1]) rfl ?_
                exact RM.mk ⟨none, 0, rfl, tnil_ok _⟩ (((hb5).setCell _ (Nat.le_refl _) _).setCell _ (Nat.le_refl _) _)
            · have k1 : ((k : Int) == 0) = false := by rw [beq_eq_false_iff_ne]; omega
              have k2 : decide (0 < k) = true := by rw [decide_eq_true_eq]; omega
              have k3 : decide ((0 : Int) < (k : Int)) = true := by rw [decide_eq_true_eq]; omega
              by_cases hwu : W.data.toList = wordB true
              · have e1 : (W.toList != [117, 115, 101, 100]) = false := by rw [toL, hwu]; rfl
                have e1' : (W.toList == [117, 115, 101, 100]) = true := by rw [toL, hwu]; rfl
                have hst : tstep k t q.data.toList = some ⟨t.most, t.slots ++ [⟨n, true⟩]⟩ := by
                  unfold tstep; rw [HRr.out]; simp only [Bool.true_eq_false, if_false]; rw [if_neg hk0, if_pos hwu]
                clear hwu hk0
                have HR2 := Lib.hid ((HR.out).trans (tgo_step HK.out hst))
                clear hst
                have hown5 := own_bl HO.out hbr
                have hT : T2 < wM.heap.size := HT2l.out
                have hTw : w.heap.size ≤ T2 := HTw.out
                have hTT : TGo ⟨t.most, t.slots ++ [(⟨n, true⟩ : Slot)]⟩ (k + 1) := by
                  have hg := HG.out
                  refine ⟨by simp; exact hg.len, hg.lo, hg.hi, fun s hs => ?_⟩
                  rcases List.mem_append.1 hs with hs | hs
                  · exact hg.gens s hs
                  · rw [List.mem_singleton.1 hs]; exact HRng.out
                have HTT := Lib.hid hTT
                have hgl := HG.out.len
                have c0 := h2.c0
                have c1 := h2.c1
                have f0 := h2.f 0
                have f1 := h2.f 1
                have hsz5 := (hkp.bl hbr).1
                clear hTT
                go_wp2_with (at_builtin; refine wpList_append_own _ rfl _ _ 22 rfl wM.heap.size 35 i0 (.agg #[.int .i64 0, .bool false]) 2 16 Tryz.underlying22 hi hz0 hz1 hz2 rfl (by decide) _ _ _ rfl (hown5.alloc _) ⟨_, 0, none⟩ 1 1 [.int .i64 n, .bool true] rfl rfl ?c1a ?c2a ?c3a ?c4a ?c5a ?_)
                case c1a => exact multi_new _ _ _
                case c2a => intro u hu; simp at hu; rcases hu with rfl | rfl <;> rfl
                case c3a => unfold maxLen; omega
                case c4a => omega
                case c5a => simp; omega
                intro v' w6 hown6 hgrow _
                have hb6 := grown_bl (hb5.alloc _) (hown5.alloc _) hgrow (by omega)
                have hk6 := ((hkp.bl hbr).bl ((Bl.refl _).alloc _)).grown hgrow (fun j hj => (hown5.lt j hj).1)
                have h26 := (h2.bl ((Bl.refl _).alloc _)).grown hgrow (fun j hj => by have := (hown5.lt j hj).1; omega)
                have hown7 : w6.ownsRow wM.heap.size 35 2 v' (t.slots ++ [(⟨n, true⟩ : Slot)]).length (slotCells (t.slots ++ [(⟨n, true⟩ : Slot)])) := by
                  rw [slotCells_snoc, List.length_append]; exact hown6
                obtain ⟨oa, oc, rfl, -, -, -⟩ := own_form hown7
                have hown8 := own_set hown7 (⟨T2, 1, none⟩ : Addr) (by simp only; omega) (.slice oa (t.slots ++ [(⟨n, true⟩ : Slot)]).length oc)
                have HW := Lib.hid hown8
                have h28 := h26.set1 (.slice oa (t.slots ++ [(⟨n, true⟩ : Slot)]).length oc)
                have H2 := Lib.hid h28
                have hk8 := hk6.set 1 (.slice oa (t.slots ++ [(⟨n, true⟩ : Slot)]).length oc)
                have HK8 := Lib.hid hk8
                have hb8 := hb6.setCell (⟨T2, 1, none⟩ : Addr) HTw.out (.slice oa (t.slots ++ [(⟨n, true⟩ : Slot)]).length oc)
                obtain ⟨ln, hll⟩ : ∃ x, (t.slots ++ [(⟨n, true⟩ : Slot)]).length = x := ⟨_, rfl⟩
                rw [hll] at HW H2 HK8 hb8 ⊢
                have HLl := Lib.hid hll
                clear hll
                have c0 := h26.c0
                have c1 := h26.c1
                have f0 := h26.f 0
                have f1 := h26.f 1
                clear hown6 hown7 hown8 hgrow hown5 hk6 hb6 h28 hk8 h2 hb5 hbr hkp hbw
                go_wp2_with fail
                go_roundg (LL.length - (k + 1))
                case rel => exact ⟨k + 1, ⟨t.most, t.slots ++ [(⟨n, true⟩ : Slot)]⟩, _, by go_num, by omega, HR2.out, HTT.out, H2.out, (by simp only [HLl.out]; exact HW.out), HK8.out, hb8, rfl⟩
                case measure => rw [GG.out]; omega
              · have e1 : (W.toList != [117, 115, 101, 100]) = true := by rw [toL, bne_iff_ne]; exact hwu
                have e1' : (W.toList == [117, 115, 101, 100]) = false := by rw [toL, beq_eq_false_iff_ne]; exact hwu
                by_cases hwf : W.data.toList = wordB false
                · have e2 : (W.toList != [102, 114, 101, 101]) = false := by rw [toL, hwf]; rfl
                  have e2' : (W.toList == [102, 114, 101, 101]) = true := by rw [toL, hwf]; rfl
                  have hst : tstep k t q.data.toList = some ⟨t.most, t.slots ++ [⟨n, false⟩]⟩ := by
                    unfold tstep; rw [HRr.out]; simp only [Bool.true_eq_false, if_false]; rw [if_neg hk0, if_neg hwu, if_pos hwf]
                  clear hwu hwf hk0
                  have HR2 := Lib.hid ((HR.out).trans (tgo_step HK.out hst))
                  clear hst
                  have hown5 := own_bl HO.out hbr
                  have hT : T2 < wM.heap.size := HT2l.out
                  have hTw : w.heap.size ≤ T2 := HTw.out
                  have hTT : TGo ⟨t.most, t.slots ++ [(⟨n, false⟩ : Slot)]⟩ (k + 1) := by
                    have hg := HG.out
                    refine ⟨by simp; exact hg.len, hg.lo, hg.hi, fun s hs => ?_⟩
                    rcases List.mem_append.1 hs with hs | hs
                    · exact hg.gens s hs
                    · rw [List.mem_singleton.1 hs]; exact HRng.out
                  have HTT := Lib.hid hTT
                  have hgl := HG.out.len
                  have c0 := h2.c0
                  have c1 := h2.c1
                  have f0 := h2.f 0
                  have f1 := h2.f 1
                  have hsz5 := (hkp.bl hbr).1
                  clear hTT
                  go_wp2_with (at_builtin; refine wpList_append_own _ rfl _ _ 22 rfl wM.heap.size 35 i0 (.agg #[.int .i64 0, .bool false]) 2 16 Tryz.underlying22 hi hz0 hz1 hz2 rfl (by decide) _ _ _ rfl (hown5.alloc _) ⟨_, 0, none⟩ 1 1 [.int .i64 n, .bool false] rfl rfl ?c1b ?c2b ?c3b ?c4b ?c5b ?_)
                  case c1b => exact multi_new _ _ _
                  case c2b => intro u hu; simp at hu; rcases hu with rfl | rfl <;> rfl
                  case c3b => unfold maxLen; omega
                  case c4b => omega
                  case c5b => simp; omega
                  intro v' w6 hown6 hgrow _
                  have hb6 := grown_bl (hb5.alloc _) (hown5.alloc _) hgrow (by omega)
                  have hk6 := ((hkp.bl hbr).bl ((Bl.refl _).alloc _)).grown hgrow (fun j hj => (hown5.lt j hj).1)
                  have h26 := (h2.bl ((Bl.refl _).alloc _)).grown hgrow (fun j hj => by have := (hown5.lt j hj).1; omega)
                  have hown7 : w6.ownsRow wM.heap.size 35 2 v' (t.slots ++ [(⟨n, false⟩ : Slot)]).length (slotCells (t.slots ++ [(⟨n, false⟩ : Slot)])) := by
                    rw [slotCells_snoc, List.length_append]; exact hown6
                  obtain ⟨oa, oc, rfl, -, -, -⟩ := own_form hown7
                  have hown8 := own_set hown7 (⟨T2, 1, none⟩ : Addr) (by simp only; omega) (.slice oa (t.slots ++ [(⟨n, false⟩ : Slot)]).length oc)
                  have HW := Lib.hid hown8
                  have h28 := h26.set1 (.slice oa (t.slots ++ [(⟨n, false⟩ : Slot)]).length oc)
                  have H2 := Lib.hid h28
                  have hk8 := hk6.set 1 (.slice oa (t.slots ++ [(⟨n, false⟩ : Slot)]).length oc)
                  have HK8 := Lib.hid hk8
                  have hb8 := hb6.setCell (⟨T2, 1, none⟩ : Addr) HTw.out (.slice oa (t.slots ++ [(⟨n, false⟩ : Slot)]).length oc)
                  obtain ⟨ln, hll⟩ : ∃ x, (t.slots ++ [(⟨n, false⟩ : Slot)]).length = x := ⟨_, rfl⟩
                  rw [hll] at HW H2 HK8 hb8 ⊢
                  have HLl := Lib.hid hll
                  clear hll
                  have c0 := h26.c0
                  have c1 := h26.c1
                  have f0 := h26.f 0
                  have f1 := h26.f 1
                  clear hown6 hown7 hown8 hgrow hown5 hk6 hb6 h28 hk8 h2 hb5 hbr hkp hbw
                  go_wp2_with fail
                  go_roundg (LL.length - (k + 1))
                  case rel => exact ⟨k + 1, ⟨t.most, t.slots ++ [(⟨n, false⟩ : Slot)]⟩, _, by go_num, by omega, HR2.out, HTT.out, H2.out, (by simp only [HLl.out]; exact HW.out), HK8.out, hb8, rfl⟩
                  case measure => rw [GG.out]; omega
                · have e2 : (W.toList != [102, 114, 101, 101]) = true := by rw [toL, bne_iff_ne]; exact hwf
                  have e2' : (W.toList == [102, 114, 101, 101]) = false := by rw [toL, beq_eq_false_iff_ne]; exact hwf
                  have hst : tstep k t q.data.toList = none := by
                    unfold tstep; rw [HRr.out]; simp only [Bool.true_eq_false, if_false]; rw [if_neg hk0, if_neg hwu, if_neg hwf]
                  clear hwu hwf hk0
                  have hr := (HR.out).trans (tgo_stop HK.out hst)
                  subst hr
                  have h9 := (hkp.bl hbr).b2 HT0.out (Nat.ne_of_lt HTl.out)
                  have c0 := h9.c0
                  have c1 := h9.c1
                  have f0 := h9.f 0
                  have f1 := h9.f 1
                  clear hst
                  go_wp2_with fail
                  have g2 := (B2.set1 (B2.set0 h9 (.int .i64 0)) (.slice none 0 0))
                  have r0 := g2.c0
                  have r1 := g2.c1
                  refine bodyPost_ret (v := .tuple #[.agg #[.int .i64 0, .slice none 0 0], .int .i64 (((k : Int) + 1)), .int .i64 (6)]) (by simp [results, Tryz.results9, go_sem, r0, r1]) rfl ?_
                  exact RM.mk ⟨none, 0, rfl, tnil_ok _⟩ (((hb5).setCell _ (Nat.le_refl _) _).setCell _ (Nat.le_refl _) _)
        · obtain rfl : k = LL.length := by omega
          obtain ⟨ta, tc, rfl, htok⟩ := own_tok HO.out HG.out
          have HTok := Lib.hid htok
          have hck := refHnCheck ta tc t wr htok
          obtain ⟨ck, hce⟩ : ∃ x, (tchk t).2 = x := ⟨_, rfl⟩
          rw [hce] at hck
          unfold Tb.v at hck
          have HCk := Lib.hid hck
          have HCe := Lib.hid hce
          have c0 := hb2.c0
          have c1 := hb2.c1
          clear htok hck hce
          go_wp2_with fail
          refine HCk.out.mono ?_; rintro e w5 ⟨rfl, hbr⟩
          have h2 := hb2.bl hbr
          have hb5 := hbw.trans hbr
          have hr := HR.out
          rw [List.drop_of_length_le (by rw [← HLs.out, List.length_map]; exact Nat.le_refl _), tgo, HCe.out] at hr
          have h9 := (hkp.bl hbr).b2 HT0.out (Nat.ne_of_lt HTl.out)
          have hne : w.heap.size ≠ T2 := Nat.ne_of_lt HTl.out
          have c0 := h2.c0
          have c1 := h2.c1
          have q0 := h9.c0
          have q1 := h9.c1
          have f0 := h9.f 0
          have f1 := h9.f 1
          clear hb2 hbw HCk HTok
          by_cases hcz : ck = 0
          · rw [if_neg (by simpa using hcz)] at hr
            subst hr
            subst hcz
            have hlt : w.heap.size < wM.heap.size := by have h1 := HTl.out; have h2 := HT2l.out; omega
            have hown9 := own_set (own_set (own_bl HO.out hbr) (⟨w.heap.size, 0, none⟩ : Addr) hlt (.int .i64 t.most)) (⟨w.heap.size, 1, none⟩ : Addr) hlt (.slice ta t.slots.length tc)
            have HO9 := Lib.hid hown9
            clear hown9
            go_wp2_with fail
            have g2 := (B2.set1 (B2.set0 h9 (.int .i64 t.most)) (.slice ta t.slots.length tc))
            have r0 := g2.c0
            have r1 := g2.c1
            refine bodyPost_ret (v := .tuple #[.agg #[.int .i64 t.most, .slice ta t.slots.length tc], .int .i64 0, .int .i64 0]) (by simp [results, Tryz.results9, go_sem, r0, r1]) rfl ?_
            refine RM.mk ⟨ta, tc, rfl, ?_⟩ ((hb5.setCell _ (Nat.le_refl _) _).setCell _ (Nat.le_refl _) _)
            obtain ⟨a', c', e, h⟩ := own_tok HO9.out HG.out
            injection e with e1 _ e2
            subst e1 e2
            exact h
          · rw [if_pos hcz] at hr
            subst hr
            have t1 : (ck != 0) = true := by rw [bne_iff_ne]; exact hcz
            clear hcz
            go_wp2_with fail
            have g2 := (B2.set1 (B2.set0 h9 (.int .i64 0)) (.slice none 0 0))
            have r0 := g2.c0
            have r1 := g2.c1
            refine bodyPost_ret (v := .tuple #[.agg #[.int .i64 0, .slice none 0 0], .int .i64 (0), .int .i64 (ck)]) (by simp [results, Tryz.results9, go_sem, r0, r1]) rfl ?_
            exact RM.mk ⟨none, 0, rfl, tnil_ok _⟩ (((hb5).setCell _ (Nat.le_refl _) _).setCell _ (Nat.le_refl _) _)
  · have hr := HTp.out
    rw [if_pos hen] at hr
    subst hr
    have t1 : (en != 0) = true := by rw [bne_iff_ne]; exact hen
    clear hen hS hLs
    go_wp2_with fail
    have g2 := (B2.set1 (B2.set0 hB2 (.int .i64 0)) (.slice none 0 0))
    have r0 := g2.c0
    have r1 := g2.c1
    refine bodyPost_ret (v := .tuple #[.agg #[.int .i64 0, .slice none 0 0], .int .i64 (0), .int .i64 (en)]) (by simp [results, Tryz.results9, go_sem, r0, r1]) rfl ?_
    exact RM.mk ⟨none, 0, rfl, tnil_ok _⟩ (((hbL).setCell _ (Nat.le_refl _) _).setCell _ (Nat.le_refl _) _)
end Go.Proofs.YtidclkojekodpaaGreatDoor

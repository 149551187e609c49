
/-
  Print of any table; the law HandlesTexts walked.
-/
import Derived.Test.YtidclkojekodpaaGreatDoorHpD
import Derived.Test.YtidclkojekodpaaGreatDoorHnN
import Derived.Test.YtidclkojekodpaaGreatDoorHnI
import Derived.Deep.DeepCutAuto
namespace Go.Proofs.YtidclkojekodpaaGreatDoor
open Go.RowKit
set_option linter.unusedSimpArgs false
set_option linter.unusedVariables false
set_option maxRecDepth 100000

def tprint (t : Tb) : List UInt8 × Int := if (tchk t).2 ≠ 0 then ([], (tchk t).2) else (printB t, 0)
theorem itoaAt_of {w : World} (hE : WEnv w) {n : Int} (h0 : -9223372036854775808 ≤ n) (h1 : n ≤ 9223372036854775807) : ItoaAt w n := by
  intro w' hb
  refine (Tryz.strconv_Itoa n h0 h1 w' (hE.bl hb).pow).mono ?_
  rintro e w2 ⟨rfl, k, os, rfl⟩
  exact ⟨rfl, ((Bl.refl w').drewN k).trans (bl_grow _ _)⟩
set_option maxHeartbeats 4000000 in
theorem hnPrintT (a : Option Addr) (c : Nat) (t : Tb) (w : World) (h : TOk w a c t) (hE : WEnv w) : Calls Tryz.prog 6 #[t.v a c] w (RB w (.tuple #[.string ⟨(tprint t).1.toArray⟩, .int .i64 (tprint t).2])) := by
  by_cases hc : (tchk t).2 = 0
  · have e : tprint t = (printB t, 0) := by unfold tprint; rw [if_neg (by simpa using hc)]
    rw [e]
    refine hnPrint a c t w h hc (fun n hn => ?_)
    rcases hn with rfl | ⟨s, hs, rfl⟩
    · exact itoaAt_of hE h.lo h.hi
    · exact itoaAt_of hE (h.slots.ok s hs).1 (h.slots.ok s hs).2
  · have e : tprint t = ([], (tchk t).2) := by unfold tprint; rw [if_pos hc]
    rw [e]
    have hC := fun w h => hnCheck a c t w h
    obtain ⟨ck, hce⟩ : ∃ x, (tchk t).2 = x := ⟨_, rfl⟩
    rw [hce] at hC hc ⊢
    have t1 : (ck != 0) = true := by rw [bne_iff_ne]; exact hc
    have HO := Lib.hid h
    unfold Tb.v at hC ⊢
    have HC := Lib.hid hC
    clear hC hce hc e h hE
    go_enter Tryz.func6, Tryz.ntmps6
    go_wp2_with fail
    refine (HC.out _ (HO.out.bl (by repeat (first | assumption | exact Bl.refl _ | apply Bl.drewN | apply Bl.drew | apply Bl.alloc | (refine Bl.dr ?_ (by assumption)) | (refine Bl.trans ?_ (by assumption)))))).mono ?_; rintro e w1 ⟨rfl, hb1⟩
    go_wp2_with fail
    go_ret2
    exact rb_tuple rfl rfl (((Bl.refl w).alloc _).trans hb1)
set_option maxHeartbeats 4000000 in
theorem refHnPrint (a : Option Addr) (c : Nat) (t : Tb) (w : World) (h : TOk w a c t) : Calls Tryz.prog 7 #[t.v a c] w (RB w (.tuple #[.string ⟨(tprint t).1.toArray⟩, .int .i64 (tprint t).2])) := by
  have hC := fun w h => refHnCheck a c t w h
  by_cases hc : (tchk t).2 = 0
  · have e : tprint t = (printB t, 0) := by unfold tprint; rw [if_neg (by simpa using hc)]
    rw [e]
    have hG := tchk_good hc
    have hl16 : t.slots.length ≤ 16 := by have := hG.len; have := hG.most2; omega
    rw [good_tchk hG] at hC
    have hm1 := hG.most1
    have hm2 := hG.most2
    have hgen := hG.gens
    have hrl := fun k => rowsB_len (l := t.slots.take k) (fun s hs => h.slots.ok s (List.mem_of_mem_take hs))
    have HO := Lib.hid h
    obtain ⟨mo, l⟩ := t
    unfold printB
    have hD := fun w => refDigits _ mo rfl (by simp only at hm1; omega) (by simp only at hm2; omega) w
    have him := Lib.itoa_length_le mo (by simp only at hm1; omega) (by simp only at hm2; omega)
    obtain ⟨q, hq⟩ : ∃ q : ByteArray, (⟨(Lib.itoa mo).toArray⟩ : ByteArray) = q := ⟨_, rfl⟩
    have hqd : q.data.toList = Lib.itoa mo := by rw [← hq]
    have hqs : q.size ≤ 21 := by rw [Lib.size_eq, hqd]; exact him
    rw [hq] at hD
    unfold Tb.v at hC ⊢
    simp only at hl16 hC hgen hrl ⊢
    have HC := Lib.hid hC
    have HD := Lib.hid hD
    have HGn := Lib.hid hgen
    have HRl := Lib.hid hrl
    have HQ := Lib.hid hqd
    have i6 : ¬ 9223372036854775807 < 6 + q.size := by omega
    have i7 : ¬ 9223372036854775807 < 6 + q.size + 1 := by omega
    clear hC hD hgen hrl hq hqd him e hc hG hm1 hm2 h
    go_enter Tryz.func7, Tryz.ntmps7
    go_wp2_with fail
    refine (HC.out _ (HO.out.bl (by repeat (first | assumption | exact Bl.refl _ | apply Bl.drewN | apply Bl.drew | apply Bl.alloc | (refine Bl.dr ?_ (by assumption)) | (refine Bl.trans ?_ (by assumption)))))).mono ?_; rintro e w1 ⟨rfl, hb1⟩
    have c0 : w1.cell? ⟨w.heap.size, 0, none⟩ = some (.int .i64 mo) := hb1.cell (by simp [go_sem])
    have c1 : w1.cell? ⟨w.heap.size, 1, none⟩ = some (.slice a l.length c) := hb1.cell (by simp [go_sem])
    have hbw : Bl w w1 := ((Bl.refl w).alloc _).trans hb1
    clear hb1
    go_wp2_with fail
    refine (HD.out _).mono ?_; rintro e w2 ⟨rfl, hb2⟩
    have C1 := Lib.hid (hb2.cell c1)
    have hbw := hbw.trans hb2
    clear c0 c1
    go_wp2_with fail
    go_loopg [6, 7] l.length (fun g ov ix wr => ∃ (k : Nat) (o : ByteArray), ix = .int .i64 k ∧ k ≤ l.length ∧ ov = .string o ∧ o.data.toList = headB mo ++ rowsB (l.take k) ∧ Bl w2 wr ∧ g = l.length - k)
    case atStart => exact ⟨0, _, rfl, Nat.zero_le _, rfl, by rw [apS, apS, HQ.out]; simp [headB, rowsB], Bl.refl _, rfl⟩
    case round =>
      obtain ⟨k, o, rfl, hk, rfl, hod, hb3, hg⟩ := hrel
      have G := Lib.hid hg
      have HOd := Lib.hid hod
      have c1 := hb3.cell C1.out
      have hos : o.size ≤ 1000 := by
        have h1 := HRl.out k
        have h2 := List.length_take_le k l
        rw [Lib.size_eq, hod, List.length_append]
        unfold headB
        simp only [List.length_append, List.length_cons, List.length_nil]
        rw [← HQ.out, ← Lib.size_eq]
        omega
      have hbw := hbw.trans hb3
      clear hg hod
      by_cases hkl : k < l.length
      · obtain ⟨b, off, rfl, hat⟩ := HO.out.slots.get (k := k) hkl
        obtain ⟨z, hz⟩ : ∃ z, l[k]? = some z := ⟨_, List.getElem?_eq_getElem hkl⟩
        obtain ⟨d0, d1⟩ := (hat k z hz).bl hbw
        have hzg := HGn.out z (List.mem_of_getElem? hz)
        have HZ := Lib.hid hz
        have hDz := fun w => refDigits _ z.gen rfl (by omega) (by omega) w
        have hzl := Lib.itoa_length_le z.gen (by omega) (by omega)
        obtain ⟨p, hp⟩ : ∃ p : ByteArray, (⟨(Lib.itoa z.gen).toArray⟩ : ByteArray) = p := ⟨_, rfl⟩
        have hpd : p.data.toList = Lib.itoa z.gen := by rw [← hp]
        have hps : p.size ≤ 21 := by rw [Lib.size_eq, hpd]; exact hzl
        rw [hp] at hDz
        have HDz := Lib.hid hDz
        have HQz := Lib.hid hpd
        have j0 : (0 : Int) ≤ (k : Int) := by omega
        have j1 : (k : Int) < (l.length : Int) := by omega
        have m5 : ¬ 9223372036854775807 < o.size + 5 := by omega
        have m6 : ¬ 9223372036854775807 < o.size + 5 + p.size := by omega
        have m7 : ¬ 9223372036854775807 < o.size + 5 + p.size + 1 := by omega
        have hbw := hb3
        clear hat hz hDz hp hpd hzl hb3
        cases hzu : z.used
        · rw [hzu] at d1
          have HU := Lib.hid hzu
          clear hzu
          go_wp2_with fail
          refine (HDz.out _).mono ?_; rintro e w5 ⟨rfl, hb5⟩
          have hb6 := hbw.trans hb5
          clear hb5
          go_wp2_with fail
          go_roundg (l.length - (k + 1))
          case rel =>
            refine ⟨k + 1, _, by go_num, by omega, rfl, ?_, hb6, rfl⟩
            rw [apS, apS, apS, HOd.out, HQz.out, rows_step HZ.out]
            unfold rowB wordB
            rw [HU.out]
            simp
          case measure => rw [G.out]; omega
        · rw [hzu] at d1
          have HU := Lib.hid hzu
          clear hzu
          go_wp2_with fail
          refine (HDz.out _).mono ?_; rintro e w5 ⟨rfl, hb5⟩
          have hb6 := hbw.trans hb5
          clear hb5
          go_wp2_with fail
          go_roundg (l.length - (k + 1))
          case rel =>
            refine ⟨k + 1, _, by go_num, by omega, rfl, ?_, hb6, rfl⟩
            rw [apS, apS, apS, HOd.out, HQz.out, rows_step HZ.out]
            unfold rowB wordB
            rw [HU.out]
            simp
          case measure => rw [G.out]; omega
      · obtain rfl : k = l.length := by omega
        have ho : o = ⟨(headB mo ++ rowsB l).toArray⟩ := by
          have := HOd.out
          rw [List.take_length] at this
          rw [← this]
        have HO9 := Lib.hid ho
        clear ho
        go_wp2_with fail
        go_ret2
        exact rb_tuple (sval HO9.out) rfl hbw
  · have e : tprint t = ([], (tchk t).2) := by unfold tprint; rw [if_pos hc]
    rw [e]
    obtain ⟨ck, hce⟩ : ∃ x, (tchk t).2 = x := ⟨_, rfl⟩
    rw [hce] at hC hc ⊢
    have t1 : (ck != 0) = true := by rw [bne_iff_ne]; exact hc
    have HO := Lib.hid h
    unfold Tb.v at hC ⊢
    have HC := Lib.hid hC
    clear hC hce hc e h
    go_enter Tryz.func7, Tryz.ntmps7
    go_wp2_with fail
    refine (HC.out _ (HO.out.bl (by repeat (first | assumption | exact Bl.refl _ | apply Bl.drewN | apply Bl.drew | apply Bl.alloc | (refine Bl.dr ?_ (by assumption)) | (refine Bl.trans ?_ (by assumption)))))).mono ?_; rintro e w1 ⟨rfl, hb1⟩
    go_wp2_with fail
    go_ret2
    exact rb_tuple rfl rfl (((Bl.refl w).alloc _).trans hb1)
theorem tgo_line : ∀ (ls : List (List UInt8)) (i : Nat) (t u : Tb) (n : Int), tgo i t ls = (u, n, 0) → n = 0
  | [], i, t, u, n, h => by
    simp only [tgo] at h
    split at h <;> (simp only [Prod.mk.injEq] at h; exact h.2.1.symm)
  | s :: r, i, t, u, n, h => by
    simp only [tgo] at h
    cases hs : tstep i t s with
    | none => rw [hs] at h; simp only [Prod.mk.injEq] at h; have := h.2.2; omega
    | some v => rw [hs] at h; exact tgo_line r _ _ _ _ h
theorem tparse_line {s : List UInt8} {t : Tb} {n : Int} (h : tparse s = (t, n, 0)) : n = 0 := by
  unfold tparse at h
  split at h
  · simp only [Prod.mk.injEq] at h; exact h.2.1.symm
  · split at h
    · simp only [Prod.mk.injEq] at h; have := h.2.2; omega
    · exact tgo_line _ _ _ _ _ h
theorem tprint_ok {t : Tb} {l : List UInt8} (h : tprint t = (l, 0)) : l = printB t ∧ (tchk t).2 = 0 := by
  unfold tprint at h
  split at h
  · rename_i hc; simp only [Prod.mk.injEq] at h; exact absurd h.2 hc
  · rename_i hc; simp only [Prod.mk.injEq] at h; exact ⟨h.1.symm, by simpa using hc⟩
theorem tprint_len (t : Tb) : (tprint t).1.length ≤ 1000 := by
  unfold tprint
  split
  · simp
  · rename_i hc
    have hG := tchk_good (by simpa using hc)
    have h1 := rowsB_len (l := t.slots) (fun s hs => by have := hG.gens s hs; unfold Slot.ok; omega)
    have h2 := Lib.itoa_length_le t.most (by have := hG.most1; omega) (by have := hG.most2; omega)
    have h3 := hG.len
    have h4 := hG.most2
    simp only [printB, headB, List.length_append, List.length_cons, List.length_nil]
    omega
set_option maxHeartbeats 8000000 in
theorem lawHnTexts (a : Option Addr) (c : Nat) (t : Tb) (s : ByteArray) (w : World) (h : TOk w a c t) (hE : WEnv w) : Calls Tryz.prog 3 #[t.v a c, .string s] w (RB w (.bool true)) := by
  have HE := Lib.hid hE
  have HT := Lib.hid h
  have H1 := Lib.hid (fun w h hE => hnPrintT a c t w h hE)
  have H2 := Lib.hid (fun w h => refHnPrint a c t w h)
  have HFar := Lib.hid (fun w h => lawHnFar a c t w h)
  clear hE h
  obtain ⟨mo, l⟩ := t
  unfold Tb.v at H1 H2 HFar ⊢
  simp only at H1 H2 HFar ⊢
  have c0 : (w.alloc (.cells #[.int .i64 mo, .slice a l.length c] 24)).cell? ⟨w.heap.size, 0, none⟩ = some (.int .i64 mo) := by simp [go_sem]
  have c1 : (w.alloc (.cells #[.int .i64 mo, .slice a l.length c] 24)).cell? ⟨w.heap.size, 1, none⟩ = some (.slice a l.length c) := by simp [go_sem]
  have hb0 : Bl w (w.alloc (.cells #[.int .i64 mo, .slice a l.length c] 24)) := (by repeat (first | assumption | exact Bl.refl _ | apply Bl.drewN | apply Bl.drew | apply Bl.alloc | (refine Bl.dr ?_ (by assumption)) | (refine Bl.trans ?_ (by assumption))))
  go_enter Tryz.func3, Tryz.ntmps3
  go_wp2_with fail
  refine (HFar.out _ (HT.out.bl hb0)).mono ?_; rintro e w1 ⟨rfl, hb1⟩
  have hb01 := hb0.trans hb1
  by_cases h40 : 40 < l.length
  · rw [decide_eq_true h40]
    clear h40
    go_wp2_with fail
    refine (lawHnShown _).mono ?_; rintro e w8 ⟨rfl, hb8⟩
    go_wp2_with fail
    go_ret
    exact RB.mk rfl (Bl.trans hb01 hb8)
  · rw [decide_eq_false h40]
    by_cases h2000 : 2000 < s.size
    · have d2 : decide ((2000 : Int) < (s.size : Int)) = true := by rw [decide_eq_true_eq]; omega
      clear h40 h2000
      go_wp2_with fail
      refine (lawHnShown _).mono ?_; rintro e w8 ⟨rfl, hb8⟩
      go_wp2_with fail
      go_ret
      exact RB.mk rfl (Bl.trans hb01 hb8)
    · have d2 : decide ((2000 : Int) < (s.size : Int)) = false := by rw [decide_eq_false_iff_not]; omega
      have hB : B2 24 w1 w.heap.size (.int .i64 mo) (.slice a l.length c) := (B2.new _ _ _ _).bl hb1
      have HT1 := Lib.hid (HT.out.bl hb01)
      have H3 := Lib.hid (fun w h => hnParse s (by omega) w h)
      have H4 := Lib.hid (fun w h => refHnParse s (by omega) w h)
      obtain ⟨pr, hpr⟩ : ∃ r, tprint ⟨mo, l⟩ = r := ⟨_, rfl⟩
      have hpl := tprint_len ⟨mo, l⟩
      rw [hpr] at H1 H2 hpl
      obtain ⟨pl, pe⟩ := pr
      obtain ⟨q, hq⟩ : ∃ q : ByteArray, (⟨pl.toArray⟩ : ByteArray) = q := ⟨_, rfl⟩
      have hqd : pl = q.data.toList := by rw [← hq]
      subst hqd
      simp only at H1 H2 hpl
      rw [hq] at H1 H2
      rw [← Lib.size_eq] at hpl
      obtain ⟨ps, hps⟩ : ∃ r, tparse s.data.toList = r := ⟨_, rfl⟩
      rw [hps] at H3 H4
      obtain ⟨tp, ln, er⟩ := ps
      have HPr := Lib.hid hpr
      have HPs := Lib.hid hps
      have c0 := hB.c0
      have c1 := hB.c1
      clear hpr hps hq hb0 hb1 h40 h2000 HT HFar
      go_wp2_with fail
      refine (H1.out _ HT1.out (HE.out.bl hb01)).mono ?_; rintro e w2 ⟨rfl, hb2⟩
      have hB := hB.bl hb2
      have hb02 := hb01.trans hb2
      have HT2 := Lib.hid (HT1.out.bl hb2)
      have c0 := hB.c0
      have c1 := hB.c1
      clear hb2 HT1 hb01 H1
      go_wp2_with fail
      refine (H2.out _ HT2.out).mono ?_; rintro e w3 ⟨rfl, hb3⟩
      have hB := hB.bl hb3
      have hb03 := hb02.trans hb3
      have HT3 := Lib.hid (HT2.out.bl hb3)
      clear hb3 HT2 hb02 H2 c0 c1
      go_wp2_with fail
      refine (H3.out _ (HE.out.bl hb03)).mono ?_; rintro e w4 ⟨v, rfl, ⟨a1, c1, rfl, htp⟩, hb4⟩
      unfold Tb.v
      simp only at htp ⊢
      have hb4' : Bl w3 (w4.alloc (.cells #[.int .i64 tp.most, .slice a1 tp.slots.length c1] 24)) := hb4.alloc _
      have hX : B2 24 (w4.alloc (.cells #[.int .i64 tp.most, .slice a1 tp.slots.length c1] 24)) w4.heap.size (.int .i64 tp.most) (.slice a1 tp.slots.length c1) := B2.new _ _ _ _
      have HTp := Lib.hid (htp.bl ((Bl.refl w4).alloc (.cells #[.int .i64 tp.most, .slice a1 tp.slots.length c1] 24)))
      obtain ⟨wx, hwx⟩ : ∃ x, w4.alloc (.cells #[.int .i64 tp.most, .slice a1 tp.slots.length c1] 24) = x := ⟨_, rfl⟩
      obtain ⟨X, hXe⟩ : ∃ x, w4.heap.size = x := ⟨_, rfl⟩
      have HWx := Lib.hid (And.intro hwx hXe)
      rw [hwx, hXe] at hX
      rw [hwx] at hb4' HTp
      have hB := hB.bl hb4'
      have hb04 := hb03.trans hb4'
      have HT4 := Lib.hid (HT3.out.bl hb4')
      clear hb4 hb4' htp HT3 hb03 H3 hwx hXe
      go_wp2_with fail
      rw [HWx.out.1, HWx.out.2]
      refine (H4.out _ (HE.out.bl hb04)).mono ?_; rintro e w5 ⟨v, rfl, ⟨a2, c2, rfl, htp⟩, hb5⟩
      unfold Tb.v
      simp only at htp ⊢
      have hb5' : Bl wx (w5.alloc (.cells #[.int .i64 tp.most, .slice a2 tp.slots.length c2] 24)) := hb5.alloc _
      have hY : B2 24 (w5.alloc (.cells #[.int .i64 tp.most, .slice a2 tp.slots.length c2] 24)) w5.heap.size (.int .i64 tp.most) (.slice a2 tp.slots.length c2) := B2.new _ _ _ _
      have HTq := Lib.hid (htp.bl ((Bl.refl w5).alloc (.cells #[.int .i64 tp.most, .slice a2 tp.slots.length c2] 24)))
      obtain ⟨wy, hwy⟩ : ∃ x, w5.alloc (.cells #[.int .i64 tp.most, .slice a2 tp.slots.length c2] 24) = x := ⟨_, rfl⟩
      obtain ⟨Y, hYe⟩ : ∃ x, w5.heap.size = x := ⟨_, rfl⟩
      have HWy := Lib.hid (And.intro hwy hYe)
      rw [hwy, hYe] at hY
      rw [hwy] at hb5' HTq
      have hB := hB.bl hb5'
      have hX := hX.bl hb5'
      have hb05 := hb04.trans hb5'
      have HT5 := Lib.hid (HT4.out.bl hb5')
      have HTp5 := Lib.hid (HTp.out.bl hb5')
      have e1 : (q.toList != q.toList) = false := by simp
      have x0 : (w5.alloc (.cells #[.int .i64 tp.most, .slice a2 tp.slots.length c2] 24)).cell? ⟨X, 0, none⟩ = some (.int .i64 tp.most) := hwy ▸ hX.c0
      have x1 : (w5.alloc (.cells #[.int .i64 tp.most, .slice a2 tp.slots.length c2] 24)).cell? ⟨X, 1, none⟩ = some (.slice a1 tp.slots.length c1) := hwy ▸ hX.c1
      have y0 : (w5.alloc (.cells #[.int .i64 tp.most, .slice a2 tp.slots.length c2] 24)).cell? ⟨w5.heap.size, 0, none⟩ = some (.int .i64 tp.most) := by simp [go_sem]
      have y1 : (w5.alloc (.cells #[.int .i64 tp.most, .slice a2 tp.slots.length c2] 24)).cell? ⟨w5.heap.size, 1, none⟩ = some (.slice a2 tp.slots.length c2) := by simp [go_sem]
      clear hb5 hb5' htp HT4 hb04 H4 hwy hYe HTp
      go_wp2_with fail
      have hSm := refHnSame a1 c1 a2 c2 tp wy HTp5.out HTq.out
      unfold Tb.v at hSm
      have HSm := Lib.hid hSm
      clear hSm
      first
        | refine HSm.out.mono ?_
        | (simp only [HWy.out.1, HWy.out.2]; refine HSm.out.mono ?_)
      rintro e w6 ⟨rfl, hb6⟩
      have hB := hB.bl hb6
      have hX := hX.bl hb6
      have hb06 := hb05.trans hb6
      have HT6 := Lib.hid (HT5.out.bl hb6)
      have HTp6 := Lib.hid (HTp5.out.bl hb6)
      have H0 := Lib.hid (And.intro hB hX)
      clear hb6 HT5 HTp5 HTq hb05 HSm hY x0 x1 y0 y1 hB hX
      go_upto_if 75 with fail
      go_cut [] (fun wz => Bl w6 wz)
      case first =>
        by_cases hpe : pe = 0
        · subst hpe
          obtain ⟨h1, h2⟩ := tprint_ok HPr.out
          have hpp := print_parse (tchk_good h2)
          have H7 := Lib.hid (fun w h => hnParse q (by omega) w h)
          rw [h1, hpp] at H7
          have c0 := H0.out.1.c0
          have c1 := H0.out.1.c1
          clear h1 h2 hpp
          go_wp2_with fail
          refine (H7.out _ (HE.out.bl hb06)).mono ?_; rintro e w7 ⟨v, rfl, ⟨a3, c3, rfl, ht3⟩, hb7⟩
          unfold Tb.v
          simp only at ht3 ⊢
          have hb7' : Bl w6 (w7.alloc (.cells #[.int .i64 mo, .slice a3 l.length c3] 24)) := hb7.alloc _
          have ht3' := ht3.bl ((Bl.refl w7).alloc (.cells #[.int .i64 mo, .slice a3 l.length c3] 24))
          have hSm := refHnSame a3 c3 a c ⟨mo, l⟩ _ ht3' (HT6.out.bl hb7')
          unfold Tb.v at hSm
          simp only at hSm
          have HSm := Lib.hid hSm
          have c0 := (H0.out.1.bl hb7').c0
          have c1 := (H0.out.1.bl hb7').c1
          clear ht3 ht3' hSm
          go_wp2_with fail
          refine HSm.out.mono ?_; rintro e w8 ⟨rfl, hb8⟩
          go_wp2_with fail
          go_meet
          exact hb7'.trans hb8
        · have e9 : (pe == 0) = false := by rw [beq_eq_false_iff_ne]; exact hpe
          clear hpe
          go_wp2_with fail
          go_meet
          exact Bl.refl _
      case rest =>
        have hb07 := hb06.trans hcut
        have hX := H0.out.2.bl hcut
        have HTp7 := Lib.hid (HTp6.out.bl hcut)
        have x0 := hX.c0
        have x1 := hX.c1
        clear hcut
        by_cases her : er = 0
        · subst her
          have hln := tparse_line HPs.out
          subst hln
          obtain ⟨h1, h2⟩ := parse_print HPs.out
          have hP := hnPrintT a1 c1 tp wc HTp7.out (HE.out.bl hb07)
          have htt : tprint tp = (printB tp, 0) := by unfold tprint; rw [if_neg (by simpa using h2)]
          rw [htt, h1, show (⟨(s.data.toList, (0 : Int)).1.toArray⟩ : ByteArray) = s from (str_list s).symm] at hP
          unfold Tb.v at hP
          have HP := Lib.hid hP
          have e9 : (s.toList != s.toList) = false := by simp
          clear h1 h2 hP htt hX
          go_wp2_with fail
          refine HP.out.mono ?_; rintro e w8 ⟨rfl, hb8⟩
          have hb08 := hb07.trans hb8
          clear hb8
          go_wp2_with fail
          refine (lawHnShown _).mono ?_; rintro e w8 ⟨rfl, hb8⟩
          go_wp2_with fail
          go_ret
          exact RB.mk rfl (Bl.trans hb08 hb8)
        · have e9 : (er == 0) = false := by rw [beq_eq_false_iff_ne]; exact her
          clear her hX
          go_wp2_with fail
          refine (lawHnShown _).mono ?_; rintro e w8 ⟨rfl, hb8⟩
          go_wp2_with fail
          go_ret
          exact RB.mk rfl (Bl.trans hb07 hb8)
end Go.Proofs.YtidclkojekodpaaGreatDoor

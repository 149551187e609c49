
/-
  The law RunsCounts, walked.
-/
import Derived.Test.YtndcjgkgkpkklaaRnJ
import Derived.IntWalk
namespace Go.Proofs.Ytndcjgkgkpkklaa
open Go.RowKit
set_option linter.unusedSimpArgs false
set_option linter.unusedVariables false
set_option maxRecDepth 100000

theorem rcount_bd {r : Rn} {x : Rng} (h : (rck r).2 = 0) (hx : rchk x = 0) :
    0 ≤ (rcount r x).1 ∧ (rcount r x).1 ≤ 5000 ∧ 0 ≤ (rcount r x).2.1 ∧ (rcount r x).2.1 ≤ 5000 := by
  have o4 := (rck_ok h).2.2.2.1
  have h1 := pTo_le r.es x
  have h2 := live_dead (cutE r.es (cntLtE r.es x.lo) (pTo r.es x))
  rw [cutE_len h1] at h2
  rw [rcount_ok h hx]
  simp only
  omega


set_option maxHeartbeats 16000000 in
theorem lawCounts (a : Option Addr) (c : Nat) (r : Rn) (x : Rng) (k : ByteArray) (w : World) (h : ROk w a c r) (hx : x.ok) (hk : k.size ≤ maxLen) :
    Calls Try.prog 5 #[r.v a c, x.v, .string k] w (RB w (.bool true)) := by
  have HA := Lib.hid (fun w => lawRunAwake w)
  have h0 := fun w h => lawRunFar a c r w h
  have h1 := fun w h => runPart a c r x w h hx
  have h2 := fun w h => runCount a c r x w h hx
  have h3 := fun w h => runCount a c r ⟨x.lo, k, true⟩ w h ⟨hx.1, hk⟩
  have h4 := fun w h => runCount a c r ⟨k, x.hi, x.bd⟩ w h ⟨hk, hx.2⟩
  have h5 := fun (t : ByteArray) w (ht : t.size ≤ maxLen) => refHas x t w hx ht
  have h5k := fun w => refHas x k w hx hk
  have h6 := fun w => refCheck k w hk
  have hx1 := hx.1
  have hx2 := hx.2
  have HO := Lib.hid h
  unfold maxLen at hx1 hx2
  have hkm := hk
  unfold maxLen at hkm
  by_cases e : (rpart r x).2.2 = 0
  · obtain ⟨e1, e2⟩ := part_zero e
    obtain ⟨-, -, -, o4, -, o5⟩ := rck_ok e1
    have hle := pTo_le r.es x
    have hge := pTo_ge r.es x
    have hin := fun (j : Nat) y (hy : r.es[j]? = some y) => in_part o5 x hy
    have hld := live_dead (cutE r.es (cntLtE r.es x.lo) (pTo r.es x))
    rw [cutE_len hle] at hld
    have hcc := fun (hk2 : kchk k = 0) (hh : rhas x k = true) => counts_cut e1 e2 (kchk_zero.1 hk2) hh
    have bd1 := fun (hk2 : kchk k = 0) => rcount_bd (r := r) (x := ⟨x.lo, k, true⟩) e1 (rchk_zero.2 ⟨(rchk_zero.1 e2).1, kchk_zero.1 hk2, by simp⟩)
    have bd2 := fun (hk2 : kchk k = 0) => rcount_bd (r := r) (x := ⟨k, x.hi, x.bd⟩) e1 (rchk_zero.2 ⟨kchk_zero.1 hk2, (rchk_zero.1 e2).2⟩)
    rw [rpart_ok e1 e2] at h1
    rw [rcount_ok e1 e2] at h2 hcc
    have hd0 := deadFrom_zero r.es (cntLtE r.es x.lo) (pTo r.es x)
    have hd1 := deadFrom_end r.es (cntLtE r.es x.lo) (pTo r.es x) hle
    simp only at h1 h2 hcc
    generalize cntLtE r.es x.lo = fr at *
    generalize pTo r.es x = tt at *
    generalize nLive (cutE r.es fr tt) = nl at *
    generalize rcount r ⟨x.lo, k, true⟩ = A at *
    generalize rcount r ⟨k, x.hi, x.bd⟩ = B at *
    obtain ⟨A1, A2, A3⟩ := A
    obtain ⟨B1, B2, B3⟩ := B
    obtain ⟨id, l⟩ := r
    simp only at hin hd0 hd1 o4 hle hld
    rw [← hd0] at h2 hcc hld
    have H5 := Lib.hid h5
    have H5k := Lib.hid h5k
    have hcc2 := Lib.hid hcc
    have HIN := Lib.hid hin
    generalize hdk : rhas x k = rk at *
    generalize kchk k = kc at *
    have BD1 := Lib.hid bd1
    have BD2 := Lib.hid bd2
    have HD1 := Lib.hid hd1
    have HZ := Lib.hid hdk
    obtain ⟨lo, hi, bd⟩ := x
    unfold Rn.v Rng.v at *
    simp only at h0 h1 h2 h3 h4 h6 hx1 hx2 ⊢
    have H0 := Lib.hid h0
    have H1 := Lib.hid h1
    have H2 := Lib.hid h2
    have H3 := Lib.hid h3
    have H4 := Lib.hid h4
    have H6 := Lib.hid h6
    clear h0 h1 h2 h3 h4 h5 h5k h6 hcc bd1 bd2 hd0 hd1 hdk hin h hx hk e e1 e2 o5
    go_enter Try.func5, Try.ntmps5
    go_wp2_with fail
    have z1 : ((nl : Int) + (deadFrom l fr tt 0 : Int) != (tt : Int) - (fr : Int)) = false := by rw [bne_eq_false_iff_eq]; omega
    have zf1 : decide ((fr : Int) < 0) = false := by rw [decide_eq_false_iff_not]; omega
    have zf2 : decide (tt < fr) = false := by rw [decide_eq_false_iff_not]; omega
    have zf3 : decide (l.length < tt) = false := by rw [decide_eq_false_iff_not]; omega
    have bl1 : nl ≤ 5000 := by omega
    have bl2 : deadFrom l fr tt 0 ≤ 5000 := by omega
    have HLD := Lib.hid hld
    clear hld
    refine (H0.out _ (HO.out.bl (by repeat (first | assumption | exact Bl.refl _ | apply Bl.drewN | apply Bl.drew | apply Bl.alloc | (refine Bl.dr ?_ (by assumption)) | (refine Bl.trans ?_ (by assumption)))))).mono ?_; rintro e w1 ⟨fb, rfl, hb1⟩
    have hr : Mem w1 [(⟨w.heap.size, 0, none⟩, .int .i64 id), (⟨w.heap.size, 1, none⟩, .slice a l.length c), (⟨w.heap.size + 1, 0, none⟩, .string lo), (⟨w.heap.size + 1, 1, none⟩, .string hi), (⟨w.heap.size + 1, 2, none⟩, .bool bd)] :=
      Mem.bl (w := (w.alloc (Obj.cells #[.int .i64 id, .slice a l.length c] 24)).alloc (Obj.cells #[.string lo, .string hi, .bool bd] 39)) (by simp [Mem, go_sem]) hb1
    have HR := Lib.hid hr
    
    have hm := hr
    simp only [Mem, VE, List.cons_append, List.nil_append, and_true] at hm
    have hb : Bl w w1 := (by repeat (first | assumption | exact Bl.refl _ | apply Bl.drewN | apply Bl.drew | apply Bl.alloc | (refine Bl.dr ?_ (by assumption)) | (refine Bl.trans ?_ (by assumption))))
    clear hr hb1
    cases fb
    case true =>
      go_wp2_with fail
      refine (HA.out _).mono ?_; rintro e w20 ⟨rfl, hb20⟩
      have hb := hb.trans hb20
      clear hb20
      go_wp2_with fail
      go_ret
      exact RB.mk rfl hb
    by_cases g1 : (100 : Int) < lo.size
    · go_wp2_with fail
      refine (HA.out _).mono ?_; rintro e w20 ⟨rfl, hb20⟩
      have hb := hb.trans hb20
      clear hb20
      go_wp2_with fail
      go_ret
      exact RB.mk rfl hb
    by_cases g2 : (100 : Int) < hi.size
    · go_wp2_with fail
      refine (HA.out _).mono ?_; rintro e w20 ⟨rfl, hb20⟩
      have hb := hb.trans hb20
      clear hb20
      go_wp2_with fail
      go_ret
      exact RB.mk rfl hb
    by_cases g3 : (100 : Int) < k.size
    · go_wp2_with fail
      refine (HA.out _).mono ?_; rintro e w20 ⟨rfl, hb20⟩
      have hb := hb.trans hb20
      clear hb20
      go_wp2_with fail
      go_ret
      exact RB.mk rfl hb
    go_wp2_with fail
    refine (H1.out _ (HO.out.bl hb)).mono ?_; rintro e w2 ⟨rfl, hb1⟩
    have hr := HR.out.bl hb1
    have hbn := Bl.trans hb hb1
    clear hb
    have hb := hbn
    clear hbn
    clear HR hm
    have HR := Lib.hid hr
    
    have hm := hr
    simp only [Mem, VE, List.cons_append, List.nil_append, and_true] at hm
    clear hr
    clear hb1
    go_wp2_with fail
    refine (H2.out _ (HO.out.bl hb)).mono ?_; rintro e w3 ⟨rfl, hb1⟩
    have hr := HR.out.bl hb1
    have hbn := Bl.trans hb hb1
    clear hb
    have hb := hbn
    clear hbn
    clear HR hm
    have HR := Lib.hid hr
    
    have hm := hr
    simp only [Mem, VE, List.cons_append, List.nil_append, and_true] at hm
    clear hr
    clear hb1
    go_wp2_with fail
    clear z1 zf1 zf2 zf3
    go_loopg [11, 13] l.length (fun g d i wr => ∃ n : Nat, n ≤ l.length ∧ i = .int .i64 n ∧ d = .int .i64 (deadFrom l fr tt n : Nat) ∧ Bl w3 wr ∧ g = l.length - n)
    case atStart => exact ⟨0, by omega, rfl, rfl, Bl.refl _, rfl⟩
    case round =>
      obtain ⟨n, hn1, rfl, rfl, hbw, hg⟩ := hrel
      have G := Lib.hid hg
      have hr := HR.out.bl hbw
      have hbn := Bl.trans hb hbw
      clear hb
      have hb := hbn
      clear hbn
      clear HR hm
      have HR := Lib.hid hr
      
      have hm := hr
      simp only [Mem, VE, List.cons_append, List.nil_append, and_true] at hm
      clear hr
      clear hg
      by_cases h1 : n < l.length
      · obtain ⟨b, off, rfl, hat⟩ := HO.out.ents.get h1
        obtain ⟨y, hy⟩ : ∃ y, l[n]? = some y := ⟨_, List.getElem?_eq_getElem h1⟩
        have hyk := (HO.out.ents.ok y (List.mem_of_getElem? hy)).1
        obtain ⟨d0, -, d2, -⟩ := (hat n y hy).bl hb
        have h5 := fun w => H5.out y.key w hyk
        have hin := HIN.out n y hy
        have s1 := fun a b => deadFrom_in (fr := fr) (up := tt) hy a b
        have s2 := fun a => deadFrom_lo (l := l) (fr := fr) (up := tt) (i := n) a
        have s3 := fun a => deadFrom_hi (l := l) (fr := fr) (up := tt) (i := n) a
        rw [hin] at h5
        clear hin hat hy hyk
        have hq1 : (0 : Int) ≤ (n : Int) := by omega
        have hq2 : (n : Int) < (l.length : Int) := by omega
        have hbn : deadFrom l fr tt n ≤ 5000 := by
          unfold deadFrom
          have := live_dead (cutE l (max n fr) tt)
          have : (cutE l (max n fr) tt).length ≤ tt := by simp [cutE]; omega
          omega
        have hmz := fun z : BW wr => HR.out.bl z.h
        simp only [Mem, VE, List.cons_append, List.nil_append, and_true] at hmz
        have d0' := BW.cell d0
        rcases (show n < fr ∨ (fr ≤ n ∧ n < tt) ∨ tt ≤ n by omega) with hc | ⟨hc, hc'⟩ | hc
        · have t1 : decide (fr ≤ n) = false := by rw [decide_eq_false_iff_not]; omega
          have t2 : ¬ (fr : Int) ≤ (n : Int) := by omega
          have hs := s2 hc
          have HS := Lib.hid hs
          clear hs
          rw [t1, Bool.false_and] at h5
          have H5' := Lib.hid h5
          clear h5 s1 s2 s3
          generalize deadFrom l fr tt n = dn at *
          go_wp2_with fail
          
          refine wp_region_quiet_bw wr (by kernel_rfl) (by kernel_rfl) (Bl.refl wr) ?_
          repeat (go_big_quiet_step ((go_at_call 22; exact quietB (H5'.out _))))
          refine wpQuiet_nil ?_
          intro wq hw'
          have hwq : Bl wr wq := by obtain ⟨x, hx⟩ := hw'; rw [hx]; exact x.h
          clear hw'
          have hbw := hbw.trans hwq
          clear hmz d0'
          have hr := HR.out.bl hwq
          have hbn := Bl.trans hb hwq
          clear hb
          have hb := hbn
          clear hbn
          clear HR hm
          have HR := Lib.hid hr
          
          have hm := hr
          simp only [Mem, VE, List.cons_append, List.nil_append, and_true] at hm
          clear hr
          go_wp2_with fail
          go_roundg (l.length - (n + 1))
          case rel => exact ⟨n + 1, by omega, by go_num, by rw [HS.out], hbw, rfl⟩
          case measure => rw [G.out]; omega
        · have t1 : decide (fr ≤ n) = true := by rw [decide_eq_true_iff]; omega
          have t2 : decide (n < tt) = true := by rw [decide_eq_true_iff]; omega
          have t3 : (fr : Int) ≤ (n : Int) := by omega
          have t4 : (n : Int) < (tt : Int) := by omega
          have hs := s1 hc hc'
          have HS := Lib.hid hs
          rw [t1, t2, Bool.true_and] at h5
          have H5' := Lib.hid h5
          clear h5 s1 s2 s3 hs
          generalize deadFrom l fr tt n = dn at *
          go_wp2_with fail
          
          refine wp_region_quiet_bw wr (by kernel_rfl) (by kernel_rfl) (Bl.refl wr) ?_
          repeat (go_big_quiet_step ((go_at_call 22; exact quietB (H5'.out _))))
          refine wpQuiet_nil ?_
          intro wq hw'
          have hwq : Bl wr wq := by obtain ⟨x, hx⟩ := hw'; rw [hx]; exact x.h
          clear hw'
          have hbw := hbw.trans hwq
          have d2 := hwq.cell d2
          clear hmz d0' d0
          have hr := HR.out.bl hwq
          have hbn := Bl.trans hb hwq
          clear hb
          have hb := hbn
          clear hbn
          clear HR hm
          have HR := Lib.hid hr
          
          have hm := hr
          simp only [Mem, VE, List.cons_append, List.nil_append, and_true] at hm
          clear hr
          cases hd : y.dead
          all_goals
            rw [hd] at d2
            have hs := HS.out
            simp only [hd, Bool.false_eq_true, if_false, if_true] at hs
            have HS2 := Lib.hid hs
            clear hs HS hd
            go_wp2_with fail
            go_roundg (l.length - (n + 1))
            case rel => exact ⟨n + 1, by omega, by go_num, by rw [HS2.out]; go_num, hbw, rfl⟩
            case measure => rw [G.out]; omega
        · have t1 : decide (fr ≤ n) = true := by rw [decide_eq_true_iff]; omega
          have t2 : decide (n < tt) = false := by rw [decide_eq_false_iff_not]; omega
          have t3 : (fr : Int) ≤ (n : Int) := by omega
          have t4 : ¬ (n : Int) < (tt : Int) := by omega
          have hs := s3 hc
          have HS := Lib.hid hs
          clear hs
          rw [t1, t2, Bool.true_and] at h5
          have H5' := Lib.hid h5
          clear h5 s1 s2 s3
          generalize deadFrom l fr tt n = dn at *
          go_wp2_with fail
          
          refine wp_region_quiet_bw wr (by kernel_rfl) (by kernel_rfl) (Bl.refl wr) ?_
          repeat (go_big_quiet_step ((go_at_call 22; exact quietB (H5'.out _))))
          refine wpQuiet_nil ?_
          intro wq hw'
          have hwq : Bl wr wq := by obtain ⟨x, hx⟩ := hw'; rw [hx]; exact x.h
          clear hw'
          have hbw := hbw.trans hwq
          clear hmz d0'
          have hr := HR.out.bl hwq
          have hbn := Bl.trans hb hwq
          clear hb
          have hb := hbn
          clear hbn
          clear HR hm
          have HR := Lib.hid hr
          
          have hm := hr
          simp only [Mem, VE, List.cons_append, List.nil_append, and_true] at hm
          clear hr
          go_wp2_with fail
          go_roundg (l.length - (n + 1))
          case rel => exact ⟨n + 1, by omega, by go_num, by rw [HS.out], hbw, rfl⟩
          case measure => rw [G.out]; omega
      · obtain rfl : n = l.length := by omega
        have hd1 := HD1.out
        have z2 : ((deadFrom l fr tt l.length : Int) != 0) = false := by rw [hd1]; rfl
        clear hd1 hbw
        by_cases hk0 : kc = 0
        · subst hk0
          cases rk
          · go_wp2_with fail
            refine (H6.out _).mono ?_; rintro e w4 ⟨rfl, hdr⟩
            have hr := HR.out.bl (Bl.of_dr hdr)
            have hbn := Bl.trans hb (Bl.of_dr hdr)
            clear hb
            have hb := hbn
            clear hbn
            clear HR hm
            have HR := Lib.hid hr
            
            have hm := hr
            simp only [Mem, VE, List.cons_append, List.nil_append, and_true] at hm
            clear hr
            clear hdr
            go_wp2_with fail
            refine (H5k.out _).mono ?_; rintro e w5 ⟨rfl, hb1⟩
            have hr := HR.out.bl hb1
            have hbn := Bl.trans hb hb1
            clear hb
            have hb := hbn
            clear hbn
            clear HR hm
            have HR := Lib.hid hr
            
            have hm := hr
            simp only [Mem, VE, List.cons_append, List.nil_append, and_true] at hm
            clear hr
            clear hb1
            go_wp2_with fail
            refine (HA.out _).mono ?_; rintro e w20 ⟨rfl, hb20⟩
            have hb := hb.trans hb20
            clear hb20
            go_wp2_with fail
            go_ret
            exact RB.mk rfl hb
          · obtain ⟨q1, q2, q3, q4⟩ := hcc2.out rfl rfl
            obtain ⟨b1, b2, b3, b4⟩ := BD1.out rfl
            obtain ⟨b5, b6, b7, b8⟩ := BD2.out rfl
            subst q1 q2
            have hld := HLD.out
            have z3 : (A1 + B1 == (nl : Int)) = true := by rw [beq_iff_eq]; omega
            have z4 : (A2 + B2 == (tt : Int) - (fr : Int) - (nl : Int)) = true := by rw [beq_iff_eq]; omega
            have H3' := Lib.hid H3.out
            clear hld q3 q4
            go_wp2_with fail
            refine (H6.out _).mono ?_; rintro e w4 ⟨rfl, hdr⟩
            have hr := HR.out.bl (Bl.of_dr hdr)
            have hbn := Bl.trans hb (Bl.of_dr hdr)
            clear hb
            have hb := hbn
            clear hbn
            clear HR hm
            have HR := Lib.hid hr
            
            have hm := hr
            simp only [Mem, VE, List.cons_append, List.nil_append, and_true] at hm
            clear hr
            clear hdr
            go_wp2_with fail
            refine (H5k.out _).mono ?_; rintro e w5 ⟨rfl, hb1⟩
            have hr := HR.out.bl hb1
            have hbn := Bl.trans hb hb1
            clear hb
            have hb := hbn
            clear hbn
            clear HR hm
            have HR := Lib.hid hr
            
            have hm := hr
            simp only [Mem, VE, List.cons_append, List.nil_append, and_true] at hm
            clear hr
            clear hb1
            go_wp2_with fail
            refine (H3.out _ (HO.out.bl hb)).mono ?_; rintro e w6 ⟨rfl, hb1⟩
            have hr := HR.out.bl hb1
            have hbn := Bl.trans hb hb1
            clear hb
            have hb := hbn
            clear hbn
            clear HR hm
            have HR := Lib.hid hr
            
            have hm := hr
            simp only [Mem, VE, List.cons_append, List.nil_append, and_true] at hm
            clear hr
            clear hb1
            go_wp2_with fail
            refine (H4.out _ (HO.out.bl hb)).mono ?_; rintro e w7 ⟨rfl, hb1⟩
            have hr := HR.out.bl hb1
            have hbn := Bl.trans hb hb1
            clear hb
            have hb := hbn
            clear hbn
            clear HR hm
            have HR := Lib.hid hr
            
            have hm := hr
            simp only [Mem, VE, List.cons_append, List.nil_append, and_true] at hm
            clear hr
            clear hb1
            go_wp2_with fail
            refine (HA.out _).mono ?_; rintro e w20 ⟨rfl, hb20⟩
            have hb := hb.trans hb20
            clear hb20
            go_wp2_with fail
            go_ret
            exact RB.mk rfl hb
        · have z3 : (kc != 0) = true := by simp [hk0]
          clear hk0
          go_wp2_with fail
          refine (H6.out _).mono ?_; rintro e w4 ⟨rfl, hdr⟩
          have hr := HR.out.bl (Bl.of_dr hdr)
          have hbn := Bl.trans hb (Bl.of_dr hdr)
          clear hb
          have hb := hbn
          clear hbn
          clear HR hm
          have HR := Lib.hid hr
          
          have hm := hr
          simp only [Mem, VE, List.cons_append, List.nil_append, and_true] at hm
          clear hr
          clear hdr
          go_wp2_with fail
          refine (HA.out _).mono ?_; rintro e w20 ⟨rfl, hb20⟩
          have hb := hb.trans hb20
          clear hb20
          go_wp2_with fail
          go_ret
          exact RB.mk rfl hb
  · obtain ⟨f1, f2⟩ := count_err e
    rw [f2] at h2
    rw [f1] at h1
    have z1 : ((rpart r x).2.2 != 0) = true := by simp [e]
    generalize (rpart r x).2.2 = q at *
    obtain ⟨id, l⟩ := r
    obtain ⟨lo, hi, bd⟩ := x
    unfold Rn.v Rng.v at *
    simp only at h0 h1 h2 hx1 hx2 ⊢
    have H0 := Lib.hid h0
    have H1 := Lib.hid h1
    have H2 := Lib.hid h2
    clear f1 f2 e h0 h1 h2 h3 h4 h5 h5k h6 h hx hk
    have z2 : (q == q) = true := by simp
    go_enter Try.func5, Try.ntmps5
    go_wp2_with fail
    refine (H0.out _ (HO.out.bl (by repeat (first | assumption | exact Bl.refl _ | apply Bl.drewN | apply Bl.drew | apply Bl.alloc | (refine Bl.dr ?_ (by assumption)) | (refine Bl.trans ?_ (by assumption)))))).mono ?_; rintro e w1 ⟨fb, rfl, hb1⟩
    have hr : Mem w1 [(⟨w.heap.size, 0, none⟩, .int .i64 id), (⟨w.heap.size, 1, none⟩, .slice a l.length c), (⟨w.heap.size + 1, 0, none⟩, .string lo), (⟨w.heap.size + 1, 1, none⟩, .string hi), (⟨w.heap.size + 1, 2, none⟩, .bool bd)] :=
      Mem.bl (w := (w.alloc (Obj.cells #[.int .i64 id, .slice a l.length c] 24)).alloc (Obj.cells #[.string lo, .string hi, .bool bd] 39)) (by simp [Mem, go_sem]) hb1
    have HR := Lib.hid hr
    
    have hm := hr
    simp only [Mem, VE, List.cons_append, List.nil_append, and_true] at hm
    have hb : Bl w w1 := (by repeat (first | assumption | exact Bl.refl _ | apply Bl.drewN | apply Bl.drew | apply Bl.alloc | (refine Bl.dr ?_ (by assumption)) | (refine Bl.trans ?_ (by assumption))))
    clear hr hb1
    cases fb
    case true =>
      go_wp2_with fail
      refine (HA.out _).mono ?_; rintro e w20 ⟨rfl, hb20⟩
      have hb := hb.trans hb20
      clear hb20
      go_wp2_with fail
      go_ret
      exact RB.mk rfl hb
    by_cases g1 : (100 : Int) < lo.size
    · go_wp2_with fail
      refine (HA.out _).mono ?_; rintro e w20 ⟨rfl, hb20⟩
      have hb := hb.trans hb20
      clear hb20
      go_wp2_with fail
      go_ret
      exact RB.mk rfl hb
    by_cases g2 : (100 : Int) < hi.size
    · go_wp2_with fail
      refine (HA.out _).mono ?_; rintro e w20 ⟨rfl, hb20⟩
      have hb := hb.trans hb20
      clear hb20
      go_wp2_with fail
      go_ret
      exact RB.mk rfl hb
    by_cases g3 : (100 : Int) < k.size
    · go_wp2_with fail
      refine (HA.out _).mono ?_; rintro e w20 ⟨rfl, hb20⟩
      have hb := hb.trans hb20
      clear hb20
      go_wp2_with fail
      go_ret
      exact RB.mk rfl hb
    go_wp2_with fail
    refine (H1.out _ (HO.out.bl hb)).mono ?_; rintro e w2 ⟨rfl, hb1⟩
    have hr := HR.out.bl hb1
    have hbn := Bl.trans hb hb1
    clear hb
    have hb := hbn
    clear hbn
    clear HR hm
    have HR := Lib.hid hr
    
    have hm := hr
    simp only [Mem, VE, List.cons_append, List.nil_append, and_true] at hm
    clear hr
    clear hb1
    go_wp2_with fail
    refine (H2.out _ (HO.out.bl hb)).mono ?_; rintro e w3 ⟨rfl, hb1⟩
    have hr := HR.out.bl hb1
    have hbn := Bl.trans hb hb1
    clear hb
    have hb := hbn
    clear hbn
    clear HR hm
    have HR := Lib.hid hr
    
    have hm := hr
    simp only [Mem, VE, List.cons_append, List.nil_append, and_true] at hm
    clear hr
    clear hb1
    go_wp2_with fail
    refine (HA.out _).mono ?_; rintro e w20 ⟨rfl, hb20⟩
    have hb := hb.trans hb20
    clear hb20
    go_wp2_with fail
    go_ret
    exact RB.mk rfl hb
end Go.Proofs.Ytndcjgkgkpkklaa

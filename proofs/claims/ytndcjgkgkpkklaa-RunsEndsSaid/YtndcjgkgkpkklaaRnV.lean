
/-
  The law RunsEnds, walked.
-/
import Derived.Test.YtndcjgkgkpkklaaRnJ
import Derived.Test.YtndcjgkgkpkklaaRnS
import Derived.IntWalk
namespace Go.Proofs.Ytndcjgkgkpkklaa
open Go.RowKit
set_option linter.unusedSimpArgs false
set_option linter.unusedVariables false
set_option maxRecDepth 100000

theorem ends_facts {r : Rn} (h : (rck r).2 = 0) {low : ByteArray} (hl : low.size ≤ 32) {p : Nat} (hp : cntLtE r.es low = p) :
    rpart r ⟨low, mt, false⟩ = ((p : Int), (r.es.length : Int), 0) ∧ rpart r ⟨mt, low, true⟩ = (0, (p : Int), 0) := by
  have h1 : rchk ⟨low, mt, false⟩ = 0 := rchk_zero.2 ⟨hl, Nat.zero_le _, fun _ => rfl⟩
  have h2 : rchk ⟨mt, low, true⟩ = 0 := rchk_zero.2 ⟨Nat.zero_le _, hl, fun h => by cases h⟩
  rw [rpart_ok h h1, rpart_ok h h2]
  refine ⟨?_, ?_⟩
  · simp only [hp]; rfl
  · simp only [cnt_mt]
    unfold pTo
    simp only [hp, cnt_mt, if_true, Nat.max_zero]; rfl
theorem ends_err {r : Rn} (h : (rck r).2 ≠ 0) (x : Rng) : rpart r x = (0, 0, (rck r).2) := by
  unfold rpart; rw [if_pos h]
theorem atE_two' {l : List Ent} {n : Nat} (h : n ≤ l.length) : ∃ X ex, atE l (n : Int) = (X, ex) ∧ ((n < l.length ∧ l[n]? = some X ∧ ex = 0) ∨ (n = l.length ∧ ex = 4)) := by
  rcases atE_two h with ⟨h1, x, h2, h3⟩ | ⟨h1, h2⟩
  · exact ⟨x, 0, h3, .inl ⟨h1, h2, rfl⟩⟩
  · exact ⟨ent0, 4, h2, .inr ⟨h1, rfl⟩⟩
theorem atE_prev' {l : List Ent} {n : Nat} (h : n ≤ l.length) : ∃ X ex, atE l ((n : Int) - 1) = (X, ex) ∧ ((0 < n ∧ n - 1 < l.length ∧ l[n - 1]? = some X ∧ ex = 0) ∨ (n = 0 ∧ ex = 4)) := by
  rcases atE_prev h with ⟨m, rfl, h1, x, h2, h3⟩ | ⟨h1, h2⟩
  · exact ⟨x, 0, h3, .inl ⟨by omega, by simpa using h1, by simpa using h2, rfl⟩⟩
  · exact ⟨ent0, 4, h2, .inr ⟨h1, rfl⟩⟩

set_option maxHeartbeats 16000000 in
theorem lawEnds (a : Option Addr) (c : Nat) (r : Rn) (k : ByteArray) (w : World) (h : ROk w a c r) (hk : k.size ≤ maxLen) :
    Calls Try.prog 6 #[r.v a c, .string k] w (RB w (.bool true)) := by
  have HA := Lib.hid (fun w => lawRunAwake w)
  have h0 := fun w h => lawRunFar a c r w h
  have h1 := fun w => refCheck k w hk
  have h2 := fun w => refNext k w hk
  have hmt : mt.size ≤ maxLen := Nat.zero_le _
  have h3 := fun (t : ByteArray) w (ht : t.size ≤ maxLen) h => runPart a c r ⟨t, mt, false⟩ w h ⟨ht, hmt⟩
  have h4 := fun (t : ByteArray) w (ht : t.size ≤ maxLen) h => runPart a c r ⟨mt, t, true⟩ w h ⟨hmt, ht⟩
  have h5 := fun s w h => runCeiling a c r k s w h hk
  have h6 := fun s w h => runFloor a c r k s w h hk
  have HO := Lib.hid h
  have hlen := Nat.le_trans h.len h.cap
  unfold maxLen at hlen
  have hkm := hk
  unfold maxLen at hkm
  by_cases e0 : kchk k = 0
  · have hks := kchk_zero.1 e0
    rw [e0] at h1
    by_cases e : (rck r).2 = 0
    · obtain ⟨-, -, -, o4, o6, o5⟩ := rck_ok e
      have hra : rask r k = 0 := by unfold rask; rw [if_neg (by simp [e])]; exact e0
      obtain ⟨P1, P2⟩ := ends_facts (r := r) e hks (p := cntLtE r.es k) rfl
      have h3' := fun w h => h3 k w hk h
      have h4' := fun w h => h4 k w hk h
      rw [P1] at h3'
      rw [P2] at h4'
      have h5' := h5 false
      have h6' := h6 true
      have h5'' := h5 true
      have h6'' := h6 false
      rw [rcei_at, if_neg (by simp [hra]), ceN_lax] at h5'
      rw [rcei_at, if_neg (by simp [hra])] at h5''
      rw [rflo_at, if_neg (by simp [hra]), flN_strict] at h6'
      rw [rflo_at, if_neg (by simp [hra]), flN_lax] at h6''
      have T0 := Lib.hid (atE_two' (cntLtE_le r.es k))
      have V0 := Lib.hid (atE_prev' (cntLtE_le r.es k))
      have T1 := Lib.hid (atE_two' (ceN_le r.es k true))
      have V1 := Lib.hid (atE_prev' (ceN_le r.es k true))
      by_cases hn : (nxt k).2 = 0
      · obtain ⟨Q1, Q2⟩ := ends_facts (r := r) e (nxt_size hks hn) (cnt_nxt o5 o6 hks hn)
        have hnm : (nxt k).1.size ≤ maxLen := Nat.le_trans (nxt_size hks hn) (by unfold maxLen; omega)
        have h3'' := fun w h => h3 (nxt k).1 w hnm h
        have h4'' := fun w h => h4 (nxt k).1 w hnm h
        rw [Q1] at h3''
        rw [Q2] at h4''
        rw [hn] at h2
        have hc1 := cntLtE_le r.es k
        have hc2 := ceN_le r.es k true
        generalize cntLtE r.es k = p0 at *
        generalize ceN r.es k true = p1 at *
        generalize (nxt k).1 = nk at *
        clear P1 P2 Q1 Q2 h3 h4 h5 h6 hn hnm o5 o6
        obtain ⟨id, l⟩ := r
        unfold Rn.v Rng.v Ent.v at *
        simp only at *
        have H0 := Lib.hid h0
        have H1 := Lib.hid h1
        have H2 := Lib.hid h2
        have H3 := Lib.hid h3'
        have H4 := Lib.hid h4'
        have H5 := Lib.hid h5'
        have H6 := Lib.hid h6'
        clear h0 h1 h2 h3' h4' h5' h6' h hk e e0 hra
        have H33 := Lib.hid h3''
        have H44 := Lib.hid h4''
        have H55 := Lib.hid h5''
        have H66 := Lib.hid h6''
        clear h3'' h4'' h5'' h6''
        go_enter Try.func6, Try.ntmps6
        go_wp2_with fail
        refine (H0.out _ (HO.out.bl (by repeat (first | assumption | exact Bl.refl _ | apply Bl.drewN | apply Bl.drew | apply Bl.alloc | (refine Bl.dr ?_ (by assumption)) | (refine Bl.trans ?_ (by assumption)))))).mono ?_; rintro e w1 ⟨fb, rfl, hb1⟩
        have hr : Mem w1 [(⟨w.heap.size, 0, none⟩, .int .i64 id), (⟨w.heap.size, 1, none⟩, .slice a l.length c)] := Mem.bl (w := w.alloc (Obj.cells #[.int .i64 id, .slice a l.length c] 24)) (by simp [Mem, go_sem]) hb1
        have HR := Lib.hid hr
        
        have hm := hr
        simp only [Mem, VE, List.cons_append, List.nil_append, and_true] at hm
        have hb : Bl w w1 := (by repeat (first | assumption | exact Bl.refl _ | apply Bl.drewN | apply Bl.drew | apply Bl.alloc | (refine Bl.dr ?_ (by assumption)) | (refine Bl.trans ?_ (by assumption))))
        clear hr hb1
        cases fb
        case true =>
          go_wp2_with fail
          refine (HA.out _).mono ?_; rintro e w20 ⟨rfl, hb20⟩
          have hb := hb.trans hb20
          clear hb20
          go_wp2_with fail
          go_ret
          exact RB.mk rfl hb
        by_cases hkl : 100 < k.size
        · first
          | omega
          | (go_wp2_with fail; refine (HA.out _).mono ?_; rintro e w20 ⟨rfl, hb20⟩; have hb := hb.trans hb20; clear hb20; go_wp2_with fail; go_ret; exact RB.mk rfl hb)
        go_wp2_with fail
        refine (H1.out _).mono ?_; rintro e w2 ⟨rfl, hdr⟩
        have hr := HR.out.bl (Bl.of_dr hdr)
        have hbn := Bl.trans hb (Bl.of_dr hdr)
        clear hb
        have hb := hbn
        clear hbn
        clear HR hm
        have HR := Lib.hid hr
        
        have hm := hr
        simp only [Mem, VE, List.cons_append, List.nil_append, and_true] at hm
        clear hr
        clear hdr
        go_wp2_with fail
        refine (H2.out _).mono ?_; rintro e w3 ⟨rfl, hb1⟩
        have hr := HR.out.bl hb1
        have hbn := Bl.trans hb hb1
        clear hb
        have hb := hbn
        clear hbn
        clear HR hm
        have HR := Lib.hid hr
        
        have hm := hr
        simp only [Mem, VE, List.cons_append, List.nil_append, and_true] at hm
        clear hr
        clear hb1
        go_wp2_with fail
        go_loopg [7, 8, 9, 10, 11, 12, 13, 14, 15, 16, 17, 18] 2 (fun g i z1 z2 z3 z4 z5 z6 z7 z8 z9 z10 z11 wr => ∃ n : Nat, n ≤ 2 ∧ i = .int .i64 n ∧ Mem wr [(⟨w.heap.size, 0, none⟩, .int .i64 id), (⟨w.heap.size, 1, none⟩, .slice a l.length c)] ∧ Bl w wr ∧ g = 2 - n)
        case atStart => exact ⟨0, by omega, rfl, HR.out, hb, rfl⟩
        clear HR hm hb
        obtain ⟨n, hn, rfl, hr, hb, hg⟩ := hrel
        have G := Lib.hid hg
        have HR := Lib.hid hr
        
        have hm := hr
        simp only [Mem, VE, List.cons_append, List.nil_append, and_true] at hm
        clear hg hr
        have hn' : n = 0 ∨ n = 1 ∨ n = 2 := by omega
        rcases hn' with rfl | rfl | rfl
        · obtain ⟨X, ex, tx, twx⟩ := T0.out
          obtain ⟨Y, ey, ty, twy⟩ := V0.out
          have C := H5.out
          have F := H6.out
          rw [tx] at C
          rw [ty] at F
          have CH := Lib.hid C
          have FH := Lib.hid F
          clear C F tx ty
          go_wp2_with fail
          refine (H3.out _ (HO.out.bl hb)).mono ?_; rintro e w4 ⟨rfl, hb1⟩
          have hr := HR.out.bl hb1
          have hbn := Bl.trans hb hb1
          clear hb
          have hb := hbn
          clear hbn
          clear HR hm
          have HR := Lib.hid hr
          
          have hm := hr
          simp only [Mem, VE, List.cons_append, List.nil_append, and_true] at hm
          clear hr
          clear hb1
          go_wp2_with fail
          refine (H4.out _ (HO.out.bl hb)).mono ?_; rintro e w5 ⟨rfl, hb1⟩
          have hr := HR.out.bl hb1
          have hbn := Bl.trans hb hb1
          clear hb
          have hb := hbn
          clear hbn
          clear HR hm
          have HR := Lib.hid hr
          
          have hm := hr
          simp only [Mem, VE, List.cons_append, List.nil_append, and_true] at hm
          clear hr
          clear hb1
          go_wp2_with fail
          refine (CH.out _ (HO.out.bl hb)).mono ?_; rintro e w6 ⟨rfl, hb1⟩
          have hr := HR.out.bl hb1
          have hbn := Bl.trans hb hb1
          clear hb
          have hb := hbn
          clear hbn
          clear HR hm
          have HR := Lib.hid hr
          
          have hm := hr
          simp only [Mem, VE, List.cons_append, List.nil_append, and_true] at hm
          clear hr
          clear hb1
          have hal := (Bl.refl w6).alloc (Obj.cells #[.string X.key, .string X.val, .bool X.dead, .int .i64 X.seq] 31)
          have hr := (HR.out.bl hal).app (Mem.new4 w6 X 31)
          have hbn := hb.trans hal
          clear hb
          have hb := hbn
          clear hbn HR hm
          have HR := Lib.hid hr
          
          have hm := hr
          simp only [Mem, VE, List.cons_append, List.nil_append, and_true] at hm
          clear hr hal
          go_wp2_with fail
          refine (FH.out _ (HO.out.bl hb)).mono ?_; rintro e w7 ⟨rfl, hb1⟩
          have hr := HR.out.bl hb1
          have hbn := Bl.trans hb hb1
          clear hb
          have hb := hbn
          clear hbn
          clear HR hm
          have HR := Lib.hid hr
          
          have hm := hr
          simp only [Mem, VE, List.cons_append, List.nil_append, and_true] at hm
          clear hr
          clear hb1
          have hal := (Bl.refl w7).alloc (Obj.cells #[.string Y.key, .string Y.val, .bool Y.dead, .int .i64 Y.seq] 31)
          have hr := (HR.out.bl hal).app (Mem.new4 w7 Y 31)
          have hbn := hb.trans hal
          clear hb
          have hb := hbn
          clear hbn HR hm
          have HR := Lib.hid hr
          
          have hm := hr
          simp only [Mem, VE, List.cons_append, List.nil_append, and_true] at hm
          clear hr hal
          have u1 : ∀ s : ByteArray, (s.toList == s.toList) = true := fun s => by simp
          have u2 : ((p0 : Int) != (p0 : Int)) = false := by simp
          have u3 : ((l.length : Int) != (l.length : Int)) = false := by simp
          have u4 : (0 : Int) ≤ (p0 : Int) := by omega
          have u5 : ((p0 : Int) - 1).toNat = p0 - 1 := by omega
          rcases twx with ⟨g1, g2, rfl⟩ | ⟨g1, rfl⟩
          · obtain ⟨b, off, rfl, hat⟩ := HO.out.ents.get g1
            obtain ⟨m0, m1, m2, m3⟩ := (hat _ _ g2).bl hb
            have r2 : decide (p0 < l.length) = true := by rw [decide_eq_true_iff]; exact g1
            have r3 : (p0 : Int) < (l.length : Int) := by omega
            rcases twy with ⟨f1, f4, f2, rfl⟩ | ⟨f1, rfl⟩
            · obtain ⟨k0, k1, k2, k3⟩ := (hat _ _ f2).bl hb
              have r1 : decide (0 < p0) = true := by rw [decide_eq_true_iff]; exact f1
              have q6 : (0 : Int) ≤ (p0 : Int) - 1 := by omega
              have q7 : IntKind.i64.wrap ((p0 : Int) - 1) = (p0 : Int) - 1 := IntWalk.i64_in _ (by omega)
              have q8 : (p0 : Int) - 1 < (l.length : Int) := by omega
              clear g2 f2 f1 g1 hat
              go_wp2_with fail
              go_quiet (fail)
              go_wp2_with fail
              go_roundg (2 - 1)
              case rel => exact ⟨1, by omega, by go_num, Mem.bl (Mem.left (Mem.left HR.out)) (by repeat (first | exact Bl.refl _ | apply Bl.drewN)), (by repeat (first | assumption | exact Bl.refl _ | apply Bl.drewN | apply Bl.drew | apply Bl.alloc | (refine Bl.dr ?_ (by assumption)) | (refine Bl.trans ?_ (by assumption)))), rfl⟩
              case measure => rw [G.out]; omega
            · have r1 : decide (0 < p0) = false := by rw [f1]; rfl
              clear g2 f1 g1 hat
              go_wp2_with fail
              go_quiet (fail)
              go_wp2_with fail
              go_roundg (2 - 1)
              case rel => exact ⟨1, by omega, by go_num, Mem.bl (Mem.left (Mem.left HR.out)) (by repeat (first | exact Bl.refl _ | apply Bl.drewN)), (by repeat (first | assumption | exact Bl.refl _ | apply Bl.drewN | apply Bl.drew | apply Bl.alloc | (refine Bl.dr ?_ (by assumption)) | (refine Bl.trans ?_ (by assumption)))), rfl⟩
              case measure => rw [G.out]; omega
          · have r2 : decide (p0 < l.length) = false := by rw [decide_eq_false_iff_not]; omega
            rcases twy with ⟨f1, f4, f2, rfl⟩ | ⟨f1, rfl⟩
            · obtain ⟨b, off, rfl, hat⟩ := HO.out.ents.get f4
              obtain ⟨k0, k1, k2, k3⟩ := (hat _ _ f2).bl hb
              have r1 : decide (0 < p0) = true := by rw [decide_eq_true_iff]; exact f1
              have q6 : (0 : Int) ≤ (p0 : Int) - 1 := by omega
              have q7 : IntKind.i64.wrap ((p0 : Int) - 1) = (p0 : Int) - 1 := IntWalk.i64_in _ (by omega)
              have q8 : (p0 : Int) - 1 < (l.length : Int) := by omega
              clear f2 f1 g1 hat
              go_wp2_with fail
              go_quiet (fail)
              go_wp2_with fail
              go_roundg (2 - 1)
              case rel => exact ⟨1, by omega, by go_num, Mem.bl (Mem.left (Mem.left HR.out)) (by repeat (first | exact Bl.refl _ | apply Bl.drewN)), (by repeat (first | assumption | exact Bl.refl _ | apply Bl.drewN | apply Bl.drew | apply Bl.alloc | (refine Bl.dr ?_ (by assumption)) | (refine Bl.trans ?_ (by assumption)))), rfl⟩
              case measure => rw [G.out]; omega
            · have r1 : decide (0 < p0) = false := by rw [f1]; rfl
              clear f1 g1
              go_wp2_with fail
              go_quiet (fail)
              go_wp2_with fail
              go_roundg (2 - 1)
              case rel => exact ⟨1, by omega, by go_num, Mem.bl (Mem.left (Mem.left HR.out)) (by repeat (first | exact Bl.refl _ | apply Bl.drewN)), (by repeat (first | assumption | exact Bl.refl _ | apply Bl.drewN | apply Bl.drew | apply Bl.alloc | (refine Bl.dr ?_ (by assumption)) | (refine Bl.trans ?_ (by assumption)))), rfl⟩
              case measure => rw [G.out]; omega
        · obtain ⟨X, ex, tx, twx⟩ := T1.out
          obtain ⟨Y, ey, ty, twy⟩ := V1.out
          have C := H55.out
          have F := H66.out
          rw [tx] at C
          rw [ty] at F
          have CH := Lib.hid C
          have FH := Lib.hid F
          clear C F tx ty
          go_wp2_with fail
          refine (H33.out _ (HO.out.bl hb)).mono ?_; rintro e w4 ⟨rfl, hb1⟩
          have hr := HR.out.bl hb1
          have hbn := Bl.trans hb hb1
          clear hb
          have hb := hbn
          clear hbn
          clear HR hm
          have HR := Lib.hid hr
          
          have hm := hr
          simp only [Mem, VE, List.cons_append, List.nil_append, and_true] at hm
          clear hr
          clear hb1
          go_wp2_with fail
          refine (H44.out _ (HO.out.bl hb)).mono ?_; rintro e w5 ⟨rfl, hb1⟩
          have hr := HR.out.bl hb1
          have hbn := Bl.trans hb hb1
          clear hb
          have hb := hbn
          clear hbn
          clear HR hm
          have HR := Lib.hid hr
          
          have hm := hr
          simp only [Mem, VE, List.cons_append, List.nil_append, and_true] at hm
          clear hr
          clear hb1
          go_wp2_with fail
          refine (CH.out _ (HO.out.bl hb)).mono ?_; rintro e w6 ⟨rfl, hb1⟩
          have hr := HR.out.bl hb1
          have hbn := Bl.trans hb hb1
          clear hb
          have hb := hbn
          clear hbn
          clear HR hm
          have HR := Lib.hid hr
          
          have hm := hr
          simp only [Mem, VE, List.cons_append, List.nil_append, and_true] at hm
          clear hr
          clear hb1
          have hal := (Bl.refl w6).alloc (Obj.cells #[.string X.key, .string X.val, .bool X.dead, .int .i64 X.seq] 31)
          have hr := (HR.out.bl hal).app (Mem.new4 w6 X 31)
          have hbn := hb.trans hal
          clear hb
          have hb := hbn
          clear hbn HR hm
          have HR := Lib.hid hr
          
          have hm := hr
          simp only [Mem, VE, List.cons_append, List.nil_append, and_true] at hm
          clear hr hal
          go_wp2_with fail
          refine (FH.out _ (HO.out.bl hb)).mono ?_; rintro e w7 ⟨rfl, hb1⟩
          have hr := HR.out.bl hb1
          have hbn := Bl.trans hb hb1
          clear hb
          have hb := hbn
          clear hbn
          clear HR hm
          have HR := Lib.hid hr
          
          have hm := hr
          simp only [Mem, VE, List.cons_append, List.nil_append, and_true] at hm
          clear hr
          clear hb1
          have hal := (Bl.refl w7).alloc (Obj.cells #[.string Y.key, .string Y.val, .bool Y.dead, .int .i64 Y.seq] 31)
          have hr := (HR.out.bl hal).app (Mem.new4 w7 Y 31)
          have hbn := hb.trans hal
          clear hb
          have hb := hbn
          clear hbn HR hm
          have HR := Lib.hid hr
          
          have hm := hr
          simp only [Mem, VE, List.cons_append, List.nil_append, and_true] at hm
          clear hr hal
          have u1 : ∀ s : ByteArray, (s.toList == s.toList) = true := fun s => by simp
          have u2 : ((p1 : Int) != (p1 : Int)) = false := by simp
          have u3 : ((l.length : Int) != (l.length : Int)) = false := by simp
          have u4 : (0 : Int) ≤ (p1 : Int) := by omega
          have u5 : ((p1 : Int) - 1).toNat = p1 - 1 := by omega
          rcases twx with ⟨g1, g2, rfl⟩ | ⟨g1, rfl⟩
          · obtain ⟨b, off, rfl, hat⟩ := HO.out.ents.get g1
            obtain ⟨m0, m1, m2, m3⟩ := (hat _ _ g2).bl hb
            have r2 : decide (p1 < l.length) = true := by rw [decide_eq_true_iff]; exact g1
            have r3 : (p1 : Int) < (l.length : Int) := by omega
            rcases twy with ⟨f1, f4, f2, rfl⟩ | ⟨f1, rfl⟩
            · obtain ⟨k0, k1, k2, k3⟩ := (hat _ _ f2).bl hb
              have r1 : decide (0 < p1) = true := by rw [decide_eq_true_iff]; exact f1
              have q6 : (0 : Int) ≤ (p1 : Int) - 1 := by omega
              have q7 : IntKind.i64.wrap ((p1 : Int) - 1) = (p1 : Int) - 1 := IntWalk.i64_in _ (by omega)
              have q8 : (p1 : Int) - 1 < (l.length : Int) := by omega
              clear g2 f2 f1 g1 hat
              go_wp2_with fail
              go_quiet (fail)
              go_wp2_with fail
              go_roundg (2 - 2)
              case rel => exact ⟨2, by omega, by go_num, Mem.bl (Mem.left (Mem.left HR.out)) (by repeat (first | exact Bl.refl _ | apply Bl.drewN)), (by repeat (first | assumption | exact Bl.refl _ | apply Bl.drewN | apply Bl.drew | apply Bl.alloc | (refine Bl.dr ?_ (by assumption)) | (refine Bl.trans ?_ (by assumption)))), rfl⟩
              case measure => rw [G.out]; omega
            · have r1 : decide (0 < p1) = false := by rw [f1]; rfl
              clear g2 f1 g1 hat
              go_wp2_with fail
              go_quiet (fail)
              go_wp2_with fail
              go_roundg (2 - 2)
              case rel => exact ⟨2, by omega, by go_num, Mem.bl (Mem.left (Mem.left HR.out)) (by repeat (first | exact Bl.refl _ | apply Bl.drewN)), (by repeat (first | assumption | exact Bl.refl _ | apply Bl.drewN | apply Bl.drew | apply Bl.alloc | (refine Bl.dr ?_ (by assumption)) | (refine Bl.trans ?_ (by assumption)))), rfl⟩
              case measure => rw [G.out]; omega
          · have r2 : decide (p1 < l.length) = false := by rw [decide_eq_false_iff_not]; omega
            rcases twy with ⟨f1, f4, f2, rfl⟩ | ⟨f1, rfl⟩
            · obtain ⟨b, off, rfl, hat⟩ := HO.out.ents.get f4
              obtain ⟨k0, k1, k2, k3⟩ := (hat _ _ f2).bl hb
              have r1 : decide (0 < p1) = true := by rw [decide_eq_true_iff]; exact f1
              have q6 : (0 : Int) ≤ (p1 : Int) - 1 := by omega
              have q7 : IntKind.i64.wrap ((p1 : Int) - 1) = (p1 : Int) - 1 := IntWalk.i64_in _ (by omega)
              have q8 : (p1 : Int) - 1 < (l.length : Int) := by omega
              clear f2 f1 g1 hat
              go_wp2_with fail
              go_quiet (fail)
              go_wp2_with fail
              go_roundg (2 - 2)
              case rel => exact ⟨2, by omega, by go_num, Mem.bl (Mem.left (Mem.left HR.out)) (by repeat (first | exact Bl.refl _ | apply Bl.drewN)), (by repeat (first | assumption | exact Bl.refl _ | apply Bl.drewN | apply Bl.drew | apply Bl.alloc | (refine Bl.dr ?_ (by assumption)) | (refine Bl.trans ?_ (by assumption)))), rfl⟩
              case measure => rw [G.out]; omega
            · have r1 : decide (0 < p1) = false := by rw [f1]; rfl
              clear f1 g1
              go_wp2_with fail
              go_quiet (fail)
              go_wp2_with fail
              go_roundg (2 - 2)
              case rel => exact ⟨2, by omega, by go_num, Mem.bl (Mem.left (Mem.left HR.out)) (by repeat (first | exact Bl.refl _ | apply Bl.drewN)), (by repeat (first | assumption | exact Bl.refl _ | apply Bl.drewN | apply Bl.drew | apply Bl.alloc | (refine Bl.dr ?_ (by assumption)) | (refine Bl.trans ?_ (by assumption)))), rfl⟩
              case measure => rw [G.out]; omega
        · go_wp2_with fail
          refine (HA.out _).mono ?_; rintro e w20 ⟨rfl, hb20⟩
          have hb := hb.trans hb20
          clear hb20
          go_wp2_with fail
          go_ret
          exact RB.mk rfl hb
      · have z9 : ((nxt k).2 != 0) = true := by simp [hn]
        have hc1 := cntLtE_le r.es k
        generalize cntLtE r.es k = p0 at *
        generalize (nxt k).1 = nk at *
        generalize (nxt k).2 = ne at *
        clear P1 P2 h3 h4 h5 h6 hn o5 o6 h5'' h6'' T1 V1
        obtain ⟨id, l⟩ := r
        unfold Rn.v Rng.v Ent.v at *
        simp only at *
        have H0 := Lib.hid h0
        have H1 := Lib.hid h1
        have H2 := Lib.hid h2
        have H3 := Lib.hid h3'
        have H4 := Lib.hid h4'
        have H5 := Lib.hid h5'
        have H6 := Lib.hid h6'
        clear h0 h1 h2 h3' h4' h5' h6' h hk e e0 hra
        go_enter Try.func6, Try.ntmps6
        go_wp2_with fail
        refine (H0.out _ (HO.out.bl (by repeat (first | assumption | exact Bl.refl _ | apply Bl.drewN | apply Bl.drew | apply Bl.alloc | (refine Bl.dr ?_ (by assumption)) | (refine Bl.trans ?_ (by assumption)))))).mono ?_; rintro e w1 ⟨fb, rfl, hb1⟩
        have hr : Mem w1 [(⟨w.heap.size, 0, none⟩, .int .i64 id), (⟨w.heap.size, 1, none⟩, .slice a l.length c)] := Mem.bl (w := w.alloc (Obj.cells #[.int .i64 id, .slice a l.length c] 24)) (by simp [Mem, go_sem]) hb1
        have HR := Lib.hid hr
        
        have hm := hr
        simp only [Mem, VE, List.cons_append, List.nil_append, and_true] at hm
        have hb : Bl w w1 := (by repeat (first | assumption | exact Bl.refl _ | apply Bl.drewN | apply Bl.drew | apply Bl.alloc | (refine Bl.dr ?_ (by assumption)) | (refine Bl.trans ?_ (by assumption))))
        clear hr hb1
        cases fb
        case true =>
          go_wp2_with fail
          refine (HA.out _).mono ?_; rintro e w20 ⟨rfl, hb20⟩
          have hb := hb.trans hb20
          clear hb20
          go_wp2_with fail
          go_ret
          exact RB.mk rfl hb
        by_cases hkl : 100 < k.size
        · first
          | omega
          | (go_wp2_with fail; refine (HA.out _).mono ?_; rintro e w20 ⟨rfl, hb20⟩; have hb := hb.trans hb20; clear hb20; go_wp2_with fail; go_ret; exact RB.mk rfl hb)
        go_wp2_with fail
        refine (H1.out _).mono ?_; rintro e w2 ⟨rfl, hdr⟩
        have hr := HR.out.bl (Bl.of_dr hdr)
        have hbn := Bl.trans hb (Bl.of_dr hdr)
        clear hb
        have hb := hbn
        clear hbn
        clear HR hm
        have HR := Lib.hid hr
        
        have hm := hr
        simp only [Mem, VE, List.cons_append, List.nil_append, and_true] at hm
        clear hr
        clear hdr
        go_wp2_with fail
        refine (H2.out _).mono ?_; rintro e w3 ⟨rfl, hb1⟩
        have hr := HR.out.bl hb1
        have hbn := Bl.trans hb hb1
        clear hb
        have hb := hbn
        clear hbn
        clear HR hm
        have HR := Lib.hid hr
        
        have hm := hr
        simp only [Mem, VE, List.cons_append, List.nil_append, and_true] at hm
        clear hr
        clear hb1
        go_wp2_with fail
        go_loopg [7, 8, 9, 10, 11, 12, 13, 14, 15, 16, 17, 18] 2 (fun g i z1 z2 z3 z4 z5 z6 z7 z8 z9 z10 z11 wr => ∃ n : Nat, n ≤ 1 ∧ i = .int .i64 n ∧ Mem wr [(⟨w.heap.size, 0, none⟩, .int .i64 id), (⟨w.heap.size, 1, none⟩, .slice a l.length c)] ∧ Bl w wr ∧ g = 2 - n)
        case atStart => exact ⟨0, by omega, rfl, HR.out, hb, rfl⟩
        clear HR hm hb
        obtain ⟨n, hn, rfl, hr, hb, hg⟩ := hrel
        have G := Lib.hid hg
        have HR := Lib.hid hr
        
        have hm := hr
        simp only [Mem, VE, List.cons_append, List.nil_append, and_true] at hm
        clear hg hr
        have hn' : n = 0 ∨ n = 1 := by omega
        rcases hn' with rfl | rfl
        · obtain ⟨X, ex, tx, twx⟩ := T0.out
          obtain ⟨Y, ey, ty, twy⟩ := V0.out
          have C := H5.out
          have F := H6.out
          rw [tx] at C
          rw [ty] at F
          have CH := Lib.hid C
          have FH := Lib.hid F
          clear C F tx ty
          go_wp2_with fail
          refine (H3.out _ (HO.out.bl hb)).mono ?_; rintro e w4 ⟨rfl, hb1⟩
          have hr := HR.out.bl hb1
          have hbn := Bl.trans hb hb1
          clear hb
          have hb := hbn
          clear hbn
          clear HR hm
          have HR := Lib.hid hr
          
          have hm := hr
          simp only [Mem, VE, List.cons_append, List.nil_append, and_true] at hm
          clear hr
          clear hb1
          go_wp2_with fail
          refine (H4.out _ (HO.out.bl hb)).mono ?_; rintro e w5 ⟨rfl, hb1⟩
          have hr := HR.out.bl hb1
          have hbn := Bl.trans hb hb1
          clear hb
          have hb := hbn
          clear hbn
          clear HR hm
          have HR := Lib.hid hr
          
          have hm := hr
          simp only [Mem, VE, List.cons_append, List.nil_append, and_true] at hm
          clear hr
          clear hb1
          go_wp2_with fail
          refine (CH.out _ (HO.out.bl hb)).mono ?_; rintro e w6 ⟨rfl, hb1⟩
          have hr := HR.out.bl hb1
          have hbn := Bl.trans hb hb1
          clear hb
          have hb := hbn
          clear hbn
          clear HR hm
          have HR := Lib.hid hr
          
          have hm := hr
          simp only [Mem, VE, List.cons_append, List.nil_append, and_true] at hm
          clear hr
          clear hb1
          have hal := (Bl.refl w6).alloc (Obj.cells #[.string X.key, .string X.val, .bool X.dead, .int .i64 X.seq] 31)
          have hr := (HR.out.bl hal).app (Mem.new4 w6 X 31)
          have hbn := hb.trans hal
          clear hb
          have hb := hbn
          clear hbn HR hm
          have HR := Lib.hid hr
          
          have hm := hr
          simp only [Mem, VE, List.cons_append, List.nil_append, and_true] at hm
          clear hr hal
          go_wp2_with fail
          refine (FH.out _ (HO.out.bl hb)).mono ?_; rintro e w7 ⟨rfl, hb1⟩
          have hr := HR.out.bl hb1
          have hbn := Bl.trans hb hb1
          clear hb
          have hb := hbn
          clear hbn
          clear HR hm
          have HR := Lib.hid hr
          
          have hm := hr
          simp only [Mem, VE, List.cons_append, List.nil_append, and_true] at hm
          clear hr
          clear hb1
          have hal := (Bl.refl w7).alloc (Obj.cells #[.string Y.key, .string Y.val, .bool Y.dead, .int .i64 Y.seq] 31)
          have hr := (HR.out.bl hal).app (Mem.new4 w7 Y 31)
          have hbn := hb.trans hal
          clear hb
          have hb := hbn
          clear hbn HR hm
          have HR := Lib.hid hr
          
          have hm := hr
          simp only [Mem, VE, List.cons_append, List.nil_append, and_true] at hm
          clear hr hal
          have u1 : ∀ s : ByteArray, (s.toList == s.toList) = true := fun s => by simp
          have u2 : ((p0 : Int) != (p0 : Int)) = false := by simp
          have u3 : ((l.length : Int) != (l.length : Int)) = false := by simp
          have u4 : (0 : Int) ≤ (p0 : Int) := by omega
          have u5 : ((p0 : Int) - 1).toNat = p0 - 1 := by omega
          rcases twx with ⟨g1, g2, rfl⟩ | ⟨g1, rfl⟩
          · obtain ⟨b, off, rfl, hat⟩ := HO.out.ents.get g1
            obtain ⟨m0, m1, m2, m3⟩ := (hat _ _ g2).bl hb
            have r2 : decide (p0 < l.length) = true := by rw [decide_eq_true_iff]; exact g1
            have r3 : (p0 : Int) < (l.length : Int) := by omega
            rcases twy with ⟨f1, f4, f2, rfl⟩ | ⟨f1, rfl⟩
            · obtain ⟨k0, k1, k2, k3⟩ := (hat _ _ f2).bl hb
              have r1 : decide (0 < p0) = true := by rw [decide_eq_true_iff]; exact f1
              have q6 : (0 : Int) ≤ (p0 : Int) - 1 := by omega
              have q7 : IntKind.i64.wrap ((p0 : Int) - 1) = (p0 : Int) - 1 := IntWalk.i64_in _ (by omega)
              have q8 : (p0 : Int) - 1 < (l.length : Int) := by omega
              clear g2 f2 f1 g1 hat
              go_wp2_with fail
              go_quiet (fail)
              go_wp2_with fail
              go_roundg (2 - 1)
              case rel => exact ⟨1, by omega, by go_num, Mem.bl (Mem.left (Mem.left HR.out)) (by repeat (first | exact Bl.refl _ | apply Bl.drewN)), (by repeat (first | assumption | exact Bl.refl _ | apply Bl.drewN | apply Bl.drew | apply Bl.alloc | (refine Bl.dr ?_ (by assumption)) | (refine Bl.trans ?_ (by assumption)))), rfl⟩
              case measure => rw [G.out]; omega
            · have r1 : decide (0 < p0) = false := by rw [f1]; rfl
              clear g2 f1 g1 hat
              go_wp2_with fail
              go_quiet (fail)
              go_wp2_with fail
              go_roundg (2 - 1)
              case rel => exact ⟨1, by omega, by go_num, Mem.bl (Mem.left (Mem.left HR.out)) (by repeat (first | exact Bl.refl _ | apply Bl.drewN)), (by repeat (first | assumption | exact Bl.refl _ | apply Bl.drewN | apply Bl.drew | apply Bl.alloc | (refine Bl.dr ?_ (by assumption)) | (refine Bl.trans ?_ (by assumption)))), rfl⟩
              case measure => rw [G.out]; omega
          · have r2 : decide (p0 < l.length) = false := by rw [decide_eq_false_iff_not]; omega
            rcases twy with ⟨f1, f4, f2, rfl⟩ | ⟨f1, rfl⟩
            · obtain ⟨b, off, rfl, hat⟩ := HO.out.ents.get f4
              obtain ⟨k0, k1, k2, k3⟩ := (hat _ _ f2).bl hb
              have r1 : decide (0 < p0) = true := by rw [decide_eq_true_iff]; exact f1
              have q6 : (0 : Int) ≤ (p0 : Int) - 1 := by omega
              have q7 : IntKind.i64.wrap ((p0 : Int) - 1) = (p0 : Int) - 1 := IntWalk.i64_in _ (by omega)
              have q8 : (p0 : Int) - 1 < (l.length : Int) := by omega
              clear f2 f1 g1 hat
              go_wp2_with fail
              go_quiet (fail)
              go_wp2_with fail
              go_roundg (2 - 1)
              case rel => exact ⟨1, by omega, by go_num, Mem.bl (Mem.left (Mem.left HR.out)) (by repeat (first | exact Bl.refl _ | apply Bl.drewN)), (by repeat (first | assumption | exact Bl.refl _ | apply Bl.drewN | apply Bl.drew | apply Bl.alloc | (refine Bl.dr ?_ (by assumption)) | (refine Bl.trans ?_ (by assumption)))), rfl⟩
              case measure => rw [G.out]; omega
            · have r1 : decide (0 < p0) = false := by rw [f1]; rfl
              clear f1 g1
              go_wp2_with fail
              go_quiet (fail)
              go_wp2_with fail
              go_roundg (2 - 1)
              case rel => exact ⟨1, by omega, by go_num, Mem.bl (Mem.left (Mem.left HR.out)) (by repeat (first | exact Bl.refl _ | apply Bl.drewN)), (by repeat (first | assumption | exact Bl.refl _ | apply Bl.drewN | apply Bl.drew | apply Bl.alloc | (refine Bl.dr ?_ (by assumption)) | (refine Bl.trans ?_ (by assumption)))), rfl⟩
              case measure => rw [G.out]; omega
        · go_wp2_with fail
          refine (HA.out _).mono ?_; rintro e w20 ⟨rfl, hb20⟩
          have hb := hb.trans hb20
          clear hb20
          go_wp2_with fail
          go_ret
          exact RB.mk rfl hb
    · have he := ends_err e
      have h3' := fun w h => h3 k w hk h
      have h4' := fun w h => h4 k w hk h
      have hra : rask r k = (rck r).2 := by unfold rask; rw [if_pos e]
      have h5' := h5 false
      have h6' := h6 true
      rw [he] at h3' h4'
      rw [(neigh_err (r := r) (k := k) (by rw [hra]; exact e)).2.2 false, hra] at h5'
      rw [(neigh_err (r := r) (k := k) (by rw [hra]; exact e)).2.1 true, hra] at h6'
      clear he hra h3 h4 h5 h6
      have z1 : ((rck r).2 != 0) = true := by simp [e]
      have z2 : ((rck r).2 == (rck r).2) = true := by simp
      generalize (rck r).2 = q at *
      generalize (nxt k).1 = nk at *
      generalize (nxt k).2 = ne at *
      obtain ⟨id, l⟩ := r
      unfold Rn.v Rng.v Ent.v at *
      simp only [ent0] at h0 h3' h4' h5' h6' hlen ⊢
      have H0 := Lib.hid h0
      have H1 := Lib.hid h1
      have H2 := Lib.hid h2
      have H3 := Lib.hid h3'
      have H4 := Lib.hid h4'
      have H5 := Lib.hid h5'
      have H6 := Lib.hid h6'
      clear h0 h1 h2 h3' h4' h5' h6' h hk e e0
      go_enter Try.func6, Try.ntmps6
      go_wp2_with fail
      refine (H0.out _ (HO.out.bl (by repeat (first | assumption | exact Bl.refl _ | apply Bl.drewN | apply Bl.drew | apply Bl.alloc | (refine Bl.dr ?_ (by assumption)) | (refine Bl.trans ?_ (by assumption)))))).mono ?_; rintro e w1 ⟨fb, rfl, hb1⟩
      have hr : Mem w1 [(⟨w.heap.size, 0, none⟩, .int .i64 id), (⟨w.heap.size, 1, none⟩, .slice a l.length c)] := Mem.bl (w := w.alloc (Obj.cells #[.int .i64 id, .slice a l.length c] 24)) (by simp [Mem, go_sem]) hb1
      have HR := Lib.hid hr
      
      have hm := hr
      simp only [Mem, VE, List.cons_append, List.nil_append, and_true] at hm
      have hb : Bl w w1 := (by repeat (first | assumption | exact Bl.refl _ | apply Bl.drewN | apply Bl.drew | apply Bl.alloc | (refine Bl.dr ?_ (by assumption)) | (refine Bl.trans ?_ (by assumption))))
      clear hr hb1
      cases fb
      case true =>
        go_wp2_with fail
        refine (HA.out _).mono ?_; rintro e w20 ⟨rfl, hb20⟩
        have hb := hb.trans hb20
        clear hb20
        go_wp2_with fail
        go_ret
        exact RB.mk rfl hb
      by_cases hkl : 100 < k.size
      · first
        | omega
        | (go_wp2_with fail; refine (HA.out _).mono ?_; rintro e w20 ⟨rfl, hb20⟩; have hb := hb.trans hb20; clear hb20; go_wp2_with fail; go_ret; exact RB.mk rfl hb)
      go_wp2_with fail
      refine (H1.out _).mono ?_; rintro e w2 ⟨rfl, hdr⟩
      have hr := HR.out.bl (Bl.of_dr hdr)
      have hbn := Bl.trans hb (Bl.of_dr hdr)
      clear hb
      have hb := hbn
      clear hbn
      clear HR hm
      have HR := Lib.hid hr
      
      have hm := hr
      simp only [Mem, VE, List.cons_append, List.nil_append, and_true] at hm
      clear hr
      clear hdr
      go_wp2_with fail
      refine (H2.out _).mono ?_; rintro e w3 ⟨rfl, hb1⟩
      have hr := HR.out.bl hb1
      have hbn := Bl.trans hb hb1
      clear hb
      have hb := hbn
      clear hbn
      clear HR hm
      have HR := Lib.hid hr
      
      have hm := hr
      simp only [Mem, VE, List.cons_append, List.nil_append, and_true] at hm
      clear hr
      clear hb1
      go_wp2_with fail
      go_loopg [7, 8, 9, 10, 11, 12, 13, 14, 15, 16, 17, 18] 2 (fun g i z1 z2 z3 z4 z5 z6 z7 z8 z9 z10 z11 wr => ∃ n : Nat, n ≤ 0 ∧ i = .int .i64 n ∧ Mem wr [(⟨w.heap.size, 0, none⟩, .int .i64 id), (⟨w.heap.size, 1, none⟩, .slice a l.length c)] ∧ Bl w wr ∧ g = 2 - n)
      case atStart => exact ⟨0, by omega, rfl, HR.out, hb, rfl⟩
      clear HR hm hb
      obtain ⟨n, hn, rfl, hr, hb, hg⟩ := hrel
      have G := Lib.hid hg
      have HR := Lib.hid hr
      
      have hm := hr
      simp only [Mem, VE, List.cons_append, List.nil_append, and_true] at hm
      clear hg hr
      obtain rfl : n = 0 := by omega
      go_wp2_with fail
      refine (H3.out _ (HO.out.bl hb)).mono ?_; rintro e w4 ⟨rfl, hb1⟩
      have hr := HR.out.bl hb1
      have hbn := Bl.trans hb hb1
      clear hb
      have hb := hbn
      clear hbn
      clear HR hm
      have HR := Lib.hid hr
      
      have hm := hr
      simp only [Mem, VE, List.cons_append, List.nil_append, and_true] at hm
      clear hr
      clear hb1
      go_wp2_with fail
      refine (H4.out _ (HO.out.bl hb)).mono ?_; rintro e w5 ⟨rfl, hb1⟩
      have hr := HR.out.bl hb1
      have hbn := Bl.trans hb hb1
      clear hb
      have hb := hbn
      clear hbn
      clear HR hm
      have HR := Lib.hid hr
      
      have hm := hr
      simp only [Mem, VE, List.cons_append, List.nil_append, and_true] at hm
      clear hr
      clear hb1
      go_wp2_with fail
      refine (H5.out _ (HO.out.bl hb)).mono ?_; rintro e w6 ⟨rfl, hb1⟩
      have hr := HR.out.bl hb1
      have hbn := Bl.trans hb hb1
      clear hb
      have hb := hbn
      clear hbn
      clear HR hm
      have HR := Lib.hid hr
      
      have hm := hr
      simp only [Mem, VE, List.cons_append, List.nil_append, and_true] at hm
      clear hr
      clear hb1
      have hal := (Bl.refl w6).alloc (Obj.cells #[.string mt, .string mt, .bool false, .int .i64 0] 31)
      have hr := HR.out.bl hal
      have hbn := Bl.trans hb hal
      clear hb
      have hb := hbn
      clear hbn
      clear HR hm
      have HR := Lib.hid hr
      
      have hm := hr
      simp only [Mem, VE, List.cons_append, List.nil_append, and_true] at hm
      clear hr
      clear hal
      go_wp2_with fail
      refine (H6.out _ (HO.out.bl hb)).mono ?_; rintro e w7 ⟨rfl, hb1⟩
      have hr := HR.out.bl hb1
      have hbn := Bl.trans hb hb1
      clear hb
      have hb := hbn
      clear hbn
      clear HR hm
      have HR := Lib.hid hr
      
      have hm := hr
      simp only [Mem, VE, List.cons_append, List.nil_append, and_true] at hm
      clear hr
      clear hb1
      have hb := hb.alloc (Obj.cells #[.string mt, .string mt, .bool false, .int .i64 0] 31)
      go_wp2_with fail
      refine (HA.out _).mono ?_; rintro e w20 ⟨rfl, hb20⟩
      have hb := hb.trans hb20
      clear hb20
      go_wp2_with fail
      go_ret
      exact RB.mk rfl hb
  · have z0 : (kchk k != 0) = true := by simp [e0]
    generalize kchk k = kc at *
    obtain ⟨id, l⟩ := r
    unfold Rn.v at *
    simp only at h0 hlen ⊢
    have H0 := Lib.hid h0
    have H1 := Lib.hid h1
    clear h0 h1 h2 h3 h4 h5 h6 h hk e0
    go_enter Try.func6, Try.ntmps6
    go_wp2_with fail
    refine (H0.out _ (HO.out.bl (by repeat (first | assumption | exact Bl.refl _ | apply Bl.drewN | apply Bl.drew | apply Bl.alloc | (refine Bl.dr ?_ (by assumption)) | (refine Bl.trans ?_ (by assumption)))))).mono ?_; rintro e w1 ⟨fb, rfl, hb1⟩
    have hr : Mem w1 [(⟨w.heap.size, 0, none⟩, .int .i64 id), (⟨w.heap.size, 1, none⟩, .slice a l.length c)] := Mem.bl (w := w.alloc (Obj.cells #[.int .i64 id, .slice a l.length c] 24)) (by simp [Mem, go_sem]) hb1
    have HR := Lib.hid hr
    
    have hm := hr
    simp only [Mem, VE, List.cons_append, List.nil_append, and_true] at hm
    have hb : Bl w w1 := (by repeat (first | assumption | exact Bl.refl _ | apply Bl.drewN | apply Bl.drew | apply Bl.alloc | (refine Bl.dr ?_ (by assumption)) | (refine Bl.trans ?_ (by assumption))))
    clear hr hb1
    cases fb
    case true =>
      go_wp2_with fail
      refine (HA.out _).mono ?_; rintro e w20 ⟨rfl, hb20⟩
      have hb := hb.trans hb20
      clear hb20
      go_wp2_with fail
      go_ret
      exact RB.mk rfl hb
    by_cases hkl : 100 < k.size
    · first
      | omega
      | (go_wp2_with fail; refine (HA.out _).mono ?_; rintro e w20 ⟨rfl, hb20⟩; have hb := hb.trans hb20; clear hb20; go_wp2_with fail; go_ret; exact RB.mk rfl hb)
    go_wp2_with fail
    refine (H1.out _).mono ?_; rintro e w2 ⟨rfl, hdr⟩
    have hr := HR.out.bl (Bl.of_dr hdr)
    have hbn := Bl.trans hb (Bl.of_dr hdr)
    clear hb
    have hb := hbn
    clear hbn
    clear HR hm
    have HR := Lib.hid hr
    
    have hm := hr
    simp only [Mem, VE, List.cons_append, List.nil_append, and_true] at hm
    clear hr
    clear hdr
    go_wp2_with fail
    refine (HA.out _).mono ?_; rintro e w20 ⟨rfl, hb20⟩
    have hb := hb.trans hb20
    clear hb20
    go_wp2_with fail
    go_ret
    exact RB.mk rfl hb
end Go.Proofs.Ytndcjgkgkpkklaa

/-
  Own texts laid together: WkX.
-/
import Derived.Test.YtinbdppekhcekaaZu
import Derived.Test.YtinbdppekhcekaaZWkW
import Derived.Test.YtinbdppekhcekaaZWkY
/-
  The law WalkTakes, walked.
-/
namespace Go.Proofs.Ytinbdppekhcekaa
open Go.RowKit
set_option linter.unusedSimpArgs false
set_option linter.unusedVariables false
set_option maxRecDepth 100000

theorem skips_two (a : Option Addr) (c : Nat) (r : Rn) (n : Int) : ∃ F : Bool → Bool → Ent × Int × Int,
    (∀ d bk w, ROk w a c r → Calls Try.prog 18 #[r.v a c, cur n, .bool d, .bool bk] w (RB w (wv (F d bk)))) ∧
    (∀ d bk w, ROk w a c r → Calls Try.prog 19 #[r.v a c, cur n, .bool d, .bool bk] w (RB w (wv (F d bk)))) :=
  ⟨fun d bk => wstep r n bk (fun x => x.dead == d), fun d bk w h => walkSkip a c r n d bk w h, fun d bk w h => refWalkSkip a c r n d bk w h⟩

set_option maxHeartbeats 8000000 in
theorem lawTakes (a : Option Addr) (c : Nat) (r : Rn) (wc n : Int) (w : World) (h : ROk w a c r) (hn1 : -9223372036854775808 ≤ n) (hn2 : n ≤ 9223372036854775807) :
    Calls Try.prog 5 #[r.v a c, cur wc, .int .i64 n] w (RB w (.bool true)) := by
  have HA := Lib.hid (fun w => lawWalkAwake w)
  have h0 := fun w h => lawRunFar a c r w h
  have h1 := fun w h => walkTake a c r wc n w h
  have h2 := fun w h => refWalkTake a c r wc n w h hn1 hn2
  obtain ⟨F, h3, h4⟩ := skips_two a c r wc
  unfold TkOut at h1 h2
  have hlen : (wtake r wc n).1.length ≤ maxLen := by
    unfold wtake maxLen
    split
    · simp
    · split
      · simp
      · rename_i hz
        simp only [tk, List.length_map, upto_length]
        omega
  generalize wtake r wc n = T at *
  obtain ⟨L, v1, v2⟩ := T
  simp only at h1 h2 hlen
  have HO := Lib.hid h
  obtain ⟨id, l⟩ := r
  unfold Rn.v at *
  simp only at h0 h1 h2 h3 h4 ⊢
  have H0 := Lib.hid h0
  have H1 := Lib.hid h1
  have H2 := Lib.hid h2
  have H3 := Lib.hid h3
  have H4 := Lib.hid h4
  have HL := Lib.hid hlen
  clear h0 h1 h2 h3 h4 h hlen
  go_enter Try.func5, Try.ntmps5
  go_wp2_with fail
  refine (H0.out _ (HO.out.bl (by repeat (first | assumption | exact Bl.refl _ | apply Bl.drewN | apply Bl.drew | apply Bl.alloc | (refine Bl.dr ?_ (by assumption)) | (refine Bl.trans ?_ (by assumption)))))).mono ?_; rintro e w1 ⟨fb, rfl, hb1⟩
  have hr : Mem w1 [(⟨w.heap.size, 0, none⟩, .int .i64 id), (⟨w.heap.size, 1, none⟩, .slice a l.length c), (⟨w.heap.size + 1, 0, none⟩, .int .i64 wc)] := by
    refine Mem.bl ?_ hb1
    simp [Mem, go_sem]
  have HR := Lib.hid hr
  
  have hm := hr
  simp only [Mem, VE, List.cons_append, List.nil_append, and_true] at hm
  have hb : Bl w w1 := (by repeat (first | assumption | exact Bl.refl _ | apply Bl.drewN | apply Bl.drew | apply Bl.alloc | (refine Bl.dr ?_ (by assumption)) | (refine Bl.trans ?_ (by assumption))))
  clear hr hb1
  cases fb
  case true =>
    
    go_wp2_with fail
    refine (HA.out _).mono ?_; rintro e w8 ⟨rfl, hb8⟩
    go_wp2_with fail
    go_ret
    exact RB.mk rfl (by repeat (first | assumption | exact Bl.refl _ | apply Bl.drewN | apply Bl.drew | apply Bl.alloc | (refine Bl.dr ?_ (by assumption)) | (refine Bl.trans ?_ (by assumption))))
  go_wp2_with fail
  refine (H1.out _ (HO.out.bl hb)).mono ?_; rintro e w4 ⟨v, rfl, ⟨a4, c4, rfl, hE, hc1, hc2⟩, hb1⟩
  have hr := HR.out.bl hb1
  have hbn := Bl.trans hb hb1
  clear hb
  have hb := hbn
  clear hbn
  clear HR hm
  have HR := Lib.hid hr
  
  have hm := hr
  simp only [Mem, VE, List.cons_append, List.nil_append, and_true] at hm
  clear hr
  have hal := (Bl.refl w4).alloc (Obj.cells #[.int .i64 v1] 28)
  have hr := HR.out.bl hal
  have hbn := Bl.trans hb hal
  clear hb
  have hb := hbn
  clear hbn
  clear HR hm
  have HR := Lib.hid hr
  
  have hm := hr
  simp only [Mem, VE, List.cons_append, List.nil_append, and_true] at hm
  clear hr
  have hr := HR.out.app (show Mem ((w4).alloc (Obj.cells #[.int .i64 v1] 28)) [(⟨(w4).heap.size, 0, none⟩, .int .i64 v1)] by simp [Mem, go_sem])
  clear HR hm
  have HR := Lib.hid hr
  
  have hm := hr
  simp only [Mem, VE, List.cons_append, List.nil_append, and_true] at hm
  clear hr
  have hL := hE.bl hal
  clear hE hal hb1 hc1 hc2
  go_wp2_with fail
  refine (H2.out _ (HO.out.bl hb)).mono ?_; rintro e w5 ⟨v, rfl, ⟨a5, c5, rfl, hE, hc1, hc2⟩, hb1⟩
  have hr := HR.out.bl hb1
  have hbn := Bl.trans hb hb1
  clear hb
  have hb := hbn
  clear hbn
  clear HR hm
  have HR := Lib.hid hr
  
  have hm := hr
  simp only [Mem, VE, List.cons_append, List.nil_append, and_true] at hm
  clear hr
  have hal := (Bl.refl w5).alloc (Obj.cells #[.int .i64 v1] 28)
  have hr := HR.out.bl hal
  have hbn := Bl.trans hb hal
  clear hb
  have hb := hbn
  clear hbn
  clear HR hm
  have HR := Lib.hid hr
  
  have hm := hr
  simp only [Mem, VE, List.cons_append, List.nil_append, and_true] at hm
  clear hr
  have hr := HR.out.app (show Mem ((w5).alloc (Obj.cells #[.int .i64 v1] 28)) [(⟨(w5).heap.size, 0, none⟩, .int .i64 v1)] by simp [Mem, go_sem])
  clear HR hm
  have HR := Lib.hid hr
  
  have hm := hr
  simp only [Mem, VE, List.cons_append, List.nil_append, and_true] at hm
  clear hr
  have hK := hE.bl hal
  have hL := hL.bl (hb1.trans hal)
  have hS := refSameE a4 c4 a5 c5 L (w5.alloc (Obj.cells #[.int .i64 v1] 28)) hL hK HL.out
  have HS := Lib.hid hS
  clear hE hal hb1 hc1 hc2 hL hK hS
  go_wp2_with fail
  refine HS.out.mono ?_; rintro e w6 ⟨rfl, hb1⟩
  have hr := HR.out.bl hb1
  have hbn := Bl.trans hb hb1
  clear hb
  have hb := hbn
  clear hbn
  clear HR hm
  have HR := Lib.hid hr
  
  have hm := hr
  simp only [Mem, VE, List.cons_append, List.nil_append, and_true] at hm
  clear hr
  clear hb1 HS
  have z1 : (v1 != v1) = false := by simp
  have z2 : (v2 != v2) = false := by simp
  go_wp2_with fail
  clear z1 z2
  generalize w6 = W3 at *
  go_loopg [13] 4 (fun g i wr => ∃ k : Nat, k ≤ 4 ∧ i = .int .i64 k ∧ Bl W3 wr ∧ g = 4 - k)
  case atStart => exact ⟨0, by omega, rfl, Bl.refl _, rfl⟩
  case round =>
    obtain ⟨k, hk, rfl, hbw, hg⟩ := hrel
    have G := Lib.hid hg
    clear hg
    have hr := HR.out.bl hbw
    have hbn := Bl.trans hb hbw
    clear hb
    have hb := hbn
    clear hbn
    clear HR hm
    have HR := Lib.hid hr
    
    have hm := hr
    simp only [Mem, VE, List.cons_append, List.nil_append, and_true] at hm
    clear hr
    by_cases hk4 : k < 4
    · rcases (show k = 0 ∨ k = 1 ∨ k = 2 ∨ k = 3 by omega) with rfl | rfl | rfl | rfl
      · generalize hY : F true true = Y at *
        have G1 := Lib.hid (fun w h => H3.out true true w h)
        have G2 := Lib.hid (fun w h => H4.out true true w h)
        rw [hY] at G1 G2
        clear hY
        obtain ⟨⟨kk, vv, dd, ss⟩, q1, q2⟩ := Y
        unfold wv Ent.v at G1 G2
        simp only at G1 G2
        go_wp2_with fail
        refine (G1.out _ (HO.out.bl hb)).mono ?_; rintro e w5 ⟨rfl, hb1⟩
        have hal := hb1.trans (((Bl.refl w5).alloc (Obj.cells #[.string kk, .string vv, .bool dd, .int .i64 ss] 36)).alloc (Obj.cells #[.int .i64 q1] 28))
        have hp : Mem (((w5).alloc (Obj.cells #[.string kk, .string vv, .bool dd, .int .i64 ss] 36)).alloc (Obj.cells #[.int .i64 q1] 28)) (VE (w5).heap.size ⟨kk, vv, dd, ss⟩ ++ [(⟨(w5).heap.size + 1, 0, none⟩, .int .i64 q1)]) := by simp [Mem, VE, go_sem]
        have hr := (HR.out.bl hal).app hp
        have hbwn := hbw.trans hal
        have hbn := hb.trans hal
        clear HR hm hal hp hb1 hb hbw
        have hb := hbn
        have hbw := hbwn
        clear hbn hbwn
        have HR := Lib.hid hr
        
        have hm := hr
        simp only [Mem, VE, List.cons_append, List.nil_append, and_true] at hm
        clear hr
        go_wp2_with fail
        refine (G2.out _ (HO.out.bl hb)).mono ?_; rintro e w6 ⟨rfl, hb2⟩
        have hb1 := hb2
        clear hb2
        have hal := hb1.trans (((Bl.refl w6).alloc (Obj.cells #[.string kk, .string vv, .bool dd, .int .i64 ss] 36)).alloc (Obj.cells #[.int .i64 q1] 28))
        have hp : Mem (((w6).alloc (Obj.cells #[.string kk, .string vv, .bool dd, .int .i64 ss] 36)).alloc (Obj.cells #[.int .i64 q1] 28)) (VE (w6).heap.size ⟨kk, vv, dd, ss⟩ ++ [(⟨(w6).heap.size + 1, 0, none⟩, .int .i64 q1)]) := by simp [Mem, VE, go_sem]
        have hr := (HR.out.bl hal).app hp
        have hbwn := hbw.trans hal
        have hbn := hb.trans hal
        clear HR hm hal hp hb1 hb hbw
        have hb := hbn
        have hbw := hbwn
        clear hbn hbwn
        have HR := Lib.hid hr
        
        have hm := hr
        simp only [Mem, VE, List.cons_append, List.nil_append, and_true] at hm
        clear hr
        have y1 : (kk.toList == kk.toList) = true := by simp
        have y2 : (vv.toList == vv.toList) = true := by simp
        have y3 : (q1 != q1) = false := by simp
        have y4 : (q2 != q2) = false := by simp
        go_wp2_with fail
        go_roundg (4 - (0 + 1))
        case rel => exact ⟨0 + 1, by omega, by go_num, hbw, rfl⟩
        case measure => rw [G.out]; omega
      · generalize hY : F false true = Y at *
        have G1 := Lib.hid (fun w h => H3.out false true w h)
        have G2 := Lib.hid (fun w h => H4.out false true w h)
        rw [hY] at G1 G2
        clear hY
        obtain ⟨⟨kk, vv, dd, ss⟩, q1, q2⟩ := Y
        unfold wv Ent.v at G1 G2
        simp only at G1 G2
        go_wp2_with fail
        refine (G1.out _ (HO.out.bl hb)).mono ?_; rintro e w5 ⟨rfl, hb1⟩
        have hal := hb1.trans (((Bl.refl w5).alloc (Obj.cells #[.string kk, .string vv, .bool dd, .int .i64 ss] 36)).alloc (Obj.cells #[.int .i64 q1] 28))
        have hp : Mem (((w5).alloc (Obj.cells #[.string kk, .string vv, .bool dd, .int .i64 ss] 36)).alloc (Obj.cells #[.int .i64 q1] 28)) (VE (w5).heap.size ⟨kk, vv, dd, ss⟩ ++ [(⟨(w5).heap.size + 1, 0, none⟩, .int .i64 q1)]) := by simp [Mem, VE, go_sem]
        have hr := (HR.out.bl hal).app hp
        have hbwn := hbw.trans hal
        have hbn := hb.trans hal
        clear HR hm hal hp hb1 hb hbw
        have hb := hbn
        have hbw := hbwn
        clear hbn hbwn
        have HR := Lib.hid hr
        
        have hm := hr
        simp only [Mem, VE, List.cons_append, List.nil_append, and_true] at hm
        clear hr
        go_wp2_with fail
        refine (G2.out _ (HO.out.bl hb)).mono ?_; rintro e w6 ⟨rfl, hb2⟩
        have hb1 := hb2
        clear hb2
        have hal := hb1.trans (((Bl.refl w6).alloc (Obj.cells #[.string kk, .string vv, .bool dd, .int .i64 ss] 36)).alloc (Obj.cells #[.int .i64 q1] 28))
        have hp : Mem (((w6).alloc (Obj.cells #[.string kk, .string vv, .bool dd, .int .i64 ss] 36)).alloc (Obj.cells #[.int .i64 q1] 28)) (VE (w6).heap.size ⟨kk, vv, dd, ss⟩ ++ [(⟨(w6).heap.size + 1, 0, none⟩, .int .i64 q1)]) := by simp [Mem, VE, go_sem]
        have hr := (HR.out.bl hal).app hp
        have hbwn := hbw.trans hal
        have hbn := hb.trans hal
        clear HR hm hal hp hb1 hb hbw
        have hb := hbn
        have hbw := hbwn
        clear hbn hbwn
        have HR := Lib.hid hr
        
        have hm := hr
        simp only [Mem, VE, List.cons_append, List.nil_append, and_true] at hm
        clear hr
        have y1 : (kk.toList == kk.toList) = true := by simp
        have y2 : (vv.toList == vv.toList) = true := by simp
        have y3 : (q1 != q1) = false := by simp
        have y4 : (q2 != q2) = false := by simp
        go_wp2_with fail
        go_roundg (4 - (1 + 1))
        case rel => exact ⟨1 + 1, by omega, by go_num, hbw, rfl⟩
        case measure => rw [G.out]; omega
      · generalize hY : F true false = Y at *
        have G1 := Lib.hid (fun w h => H3.out true false w h)
        have G2 := Lib.hid (fun w h => H4.out true false w h)
        rw [hY] at G1 G2
        clear hY
        obtain ⟨⟨kk, vv, dd, ss⟩, q1, q2⟩ := Y
        unfold wv Ent.v at G1 G2
        simp only at G1 G2
        go_wp2_with fail
        refine (G1.out _ (HO.out.bl hb)).mono ?_; rintro e w5 ⟨rfl, hb1⟩
        have hal := hb1.trans (((Bl.refl w5).alloc (Obj.cells #[.string kk, .string vv, .bool dd, .int .i64 ss] 36)).alloc (Obj.cells #[.int .i64 q1] 28))
        have hp : Mem (((w5).alloc (Obj.cells #[.string kk, .string vv, .bool dd, .int .i64 ss] 36)).alloc (Obj.cells #[.int .i64 q1] 28)) (VE (w5).heap.size ⟨kk, vv, dd, ss⟩ ++ [(⟨(w5).heap.size + 1, 0, none⟩, .int .i64 q1)]) := by simp [Mem, VE, go_sem]
        have hr := (HR.out.bl hal).app hp
        have hbwn := hbw.trans hal
        have hbn := hb.trans hal
        clear HR hm hal hp hb1 hb hbw
        have hb := hbn
        have hbw := hbwn
        clear hbn hbwn
        have HR := Lib.hid hr
        
        have hm := hr
        simp only [Mem, VE, List.cons_append, List.nil_append, and_true] at hm
        clear hr
        go_wp2_with fail
        refine (G2.out _ (HO.out.bl hb)).mono ?_; rintro e w6 ⟨rfl, hb2⟩
        have hb1 := hb2
        clear hb2
        have hal := hb1.trans (((Bl.refl w6).alloc (Obj.cells #[.string kk, .string vv, .bool dd, .int .i64 ss] 36)).alloc (Obj.cells #[.int .i64 q1] 28))
        have hp : Mem (((w6).alloc (Obj.cells #[.string kk, .string vv, .bool dd, .int .i64 ss] 36)).alloc (Obj.cells #[.int .i64 q1] 28)) (VE (w6).heap.size ⟨kk, vv, dd, ss⟩ ++ [(⟨(w6).heap.size + 1, 0, none⟩, .int .i64 q1)]) := by simp [Mem, VE, go_sem]
        have hr := (HR.out.bl hal).app hp
        have hbwn := hbw.trans hal
        have hbn := hb.trans hal
        clear HR hm hal hp hb1 hb hbw
        have hb := hbn
        have hbw := hbwn
        clear hbn hbwn
        have HR := Lib.hid hr
        
        have hm := hr
        simp only [Mem, VE, List.cons_append, List.nil_append, and_true] at hm
        clear hr
        have y1 : (kk.toList == kk.toList) = true := by simp
        have y2 : (vv.toList == vv.toList) = true := by simp
        have y3 : (q1 != q1) = false := by simp
        have y4 : (q2 != q2) = false := by simp
        go_wp2_with fail
        go_roundg (4 - (2 + 1))
        case rel => exact ⟨2 + 1, by omega, by go_num, hbw, rfl⟩
        case measure => rw [G.out]; omega
      · generalize hY : F false false = Y at *
        have G1 := Lib.hid (fun w h => H3.out false false w h)
        have G2 := Lib.hid (fun w h => H4.out false false w h)
        rw [hY] at G1 G2
        clear hY
        obtain ⟨⟨kk, vv, dd, ss⟩, q1, q2⟩ := Y
        unfold wv Ent.v at G1 G2
        simp only at G1 G2
        go_wp2_with fail
        refine (G1.out _ (HO.out.bl hb)).mono ?_; rintro e w5 ⟨rfl, hb1⟩
        have hal := hb1.trans (((Bl.refl w5).alloc (Obj.cells #[.string kk, .string vv, .bool dd, .int .i64 ss] 36)).alloc (Obj.cells #[.int .i64 q1] 28))
        have hp : Mem (((w5).alloc (Obj.cells #[.string kk, .string vv, .bool dd, .int .i64 ss] 36)).alloc (Obj.cells #[.int .i64 q1] 28)) (VE (w5).heap.size ⟨kk, vv, dd, ss⟩ ++ [(⟨(w5).heap.size + 1, 0, none⟩, .int .i64 q1)]) := by simp [Mem, VE, go_sem]
        have hr := (HR.out.bl hal).app hp
        have hbwn := hbw.trans hal
        have hbn := hb.trans hal
        clear HR hm hal hp hb1 hb hbw
        have hb := hbn
        have hbw := hbwn
        clear hbn hbwn
        have HR := Lib.hid hr
        
        have hm := hr
        simp only [Mem, VE, List.cons_append, List.nil_append, and_true] at hm
        clear hr
        go_wp2_with fail
        refine (G2.out _ (HO.out.bl hb)).mono ?_; rintro e w6 ⟨rfl, hb2⟩
        have hb1 := hb2
        clear hb2
        have hal := hb1.trans (((Bl.refl w6).alloc (Obj.cells #[.string kk, .string vv, .bool dd, .int .i64 ss] 36)).alloc (Obj.cells #[.int .i64 q1] 28))
        have hp : Mem (((w6).alloc (Obj.cells #[.string kk, .string vv, .bool dd, .int .i64 ss] 36)).alloc (Obj.cells #[.int .i64 q1] 28)) (VE (w6).heap.size ⟨kk, vv, dd, ss⟩ ++ [(⟨(w6).heap.size + 1, 0, none⟩, .int .i64 q1)]) := by simp [Mem, VE, go_sem]
        have hr := (HR.out.bl hal).app hp
        have hbwn := hbw.trans hal
        have hbn := hb.trans hal
        clear HR hm hal hp hb1 hb hbw
        have hb := hbn
        have hbw := hbwn
        clear hbn hbwn
        have HR := Lib.hid hr
        
        have hm := hr
        simp only [Mem, VE, List.cons_append, List.nil_append, and_true] at hm
        clear hr
        have y1 : (kk.toList == kk.toList) = true := by simp
        have y2 : (vv.toList == vv.toList) = true := by simp
        have y3 : (q1 != q1) = false := by simp
        have y4 : (q2 != q2) = false := by simp
        go_wp2_with fail
        go_roundg (4 - (3 + 1))
        case rel => exact ⟨3 + 1, by omega, by go_num, hbw, rfl⟩
        case measure => rw [G.out]; omega
    · obtain rfl : k = 4 := by omega
      
      go_wp2_with fail
      refine (HA.out _).mono ?_; rintro e w8 ⟨rfl, hb8⟩
      go_wp2_with fail
      go_ret
      exact RB.mk rfl (by repeat (first | assumption | exact Bl.refl _ | apply Bl.drewN | apply Bl.drew | apply Bl.alloc | (refine Bl.dr ?_ (by assumption)) | (refine Bl.trans ?_ (by assumption))))
end Go.Proofs.Ytinbdppekhcekaa

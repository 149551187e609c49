/-
  Own texts laid together: WkU.
-/
import Derived.Test.YtinbdppekhcekaaZWkQ
import Derived.Test.YtinbdppekhcekaaZPlWc
import Derived.IntWalk
/-
  The law WalkSought, walked.
-/
namespace Go.Proofs.Ytinbdppekhcekaa
open Go.RowKit
set_option linter.unusedSimpArgs false
set_option linter.unusedVariables false
set_option maxRecDepth 100000

set_option maxHeartbeats 8000000 in
theorem lawSought (a : Option Addr) (c : Nat) (r : Rn) (k : ByteArray) (w : World) (h : ROk w a c r) (hk : k.size ≤ maxLen) :
    Calls Try.prog 3 #[r.v a c, .string k] w (RB w (.bool true)) := by
  have HA := Lib.hid (fun w => lawWalkAwake w)
  have h0 := fun w h => lawRunFar a c r w h
  have h1 := fun w h => walkSeek a c r k false w h hk
  have h2 := fun w h => walkSeek a c r k true w h hk
  have HC := Lib.hid (fun (s : ByteArray) w (hs : s.size ≤ maxLen) => refOrder s k w hs hk)
  unfold maxLen at hk
  by_cases hl : r.es.length ≤ 80
  · have hl80 : ¬ (80 : Int) < (r.es.length : Int) := by omega
    by_cases hkl : (100 : Int) < k.size
    · generalize wseek r k false = q1 at *
      generalize wseek r k true = q2 at *
      have HO := Lib.hid h
      obtain ⟨id, l⟩ := r
      unfold Rn.v at *
      try simp only at h0 h1 h2
      try simp only at hl hl80
      have H0 := Lib.hid h0
      have H1 := Lib.hid h1
      have H2 := Lib.hid h2
      clear h0 h1 h2 h
      go_enter Try.func3, Try.ntmps3
      go_wp2_with fail
      refine (H0.out _ (HO.out.bl (by repeat (first | assumption | exact Bl.refl _ | apply Bl.drewN | apply Bl.drew | apply Bl.alloc | (refine Bl.dr ?_ (by assumption)) | (refine Bl.trans ?_ (by assumption)))))).mono ?_; rintro e w1 ⟨fb, rfl, hb1⟩
      have hr : Mem w1 [(⟨w.heap.size, 0, none⟩, .int .i64 id), (⟨w.heap.size, 1, none⟩, .slice a l.length c)] := by
        refine Mem.bl ?_ hb1
        simp [Mem, go_sem]
      have HR := Lib.hid hr
      
      have hm := hr
      simp only [Mem, VE, List.cons_append, List.nil_append, and_true] at hm
      have hb : Bl w w1 := (by repeat (first | assumption | exact Bl.refl _ | apply Bl.drewN | apply Bl.drew | apply Bl.alloc | (refine Bl.dr ?_ (by assumption)) | (refine Bl.trans ?_ (by assumption))))
      clear hr hb1
      cases fb
      case true =>
        
        go_wp2_with fail
        refine (HA.out _).mono ?_; rintro e w8 ⟨rfl, hb8⟩
        go_wp2_with fail
        go_ret
        exact RB.mk rfl (by repeat (first | assumption | exact Bl.refl _ | apply Bl.drewN | apply Bl.drew | apply Bl.alloc | (refine Bl.dr ?_ (by assumption)) | (refine Bl.trans ?_ (by assumption))))
      
      go_wp2_with fail
      refine (HA.out _).mono ?_; rintro e w8 ⟨rfl, hb8⟩
      go_wp2_with fail
      go_ret
      exact RB.mk rfl (by repeat (first | assumption | exact Bl.refl _ | apply Bl.drewN | apply Bl.drew | apply Bl.alloc | (refine Bl.dr ?_ (by assumption)) | (refine Bl.trans ?_ (by assumption))))
    · rcases sought_cases r k with ⟨e, he, e1, e2⟩ | ⟨A, B, e1, e2, e3, e4, e5, hS⟩
      · rw [e1] at h1
        rw [e2] at h2
        clear e1 e2
        have z1 : (e == 0) = false := by simpa using he
        have z2 : (e == e) = true := by simp
        simp only at h1 h2
        have HO := Lib.hid h
        obtain ⟨id, l⟩ := r
        unfold Rn.v at *
        try simp only at h0 h1 h2
        try simp only at hl hl80
        have H0 := Lib.hid h0
        have H1 := Lib.hid h1
        have H2 := Lib.hid h2
        clear h0 h1 h2 h
        go_enter Try.func3, Try.ntmps3
        go_wp2_with fail
        refine (H0.out _ (HO.out.bl (by repeat (first | assumption | exact Bl.refl _ | apply Bl.drewN | apply Bl.drew | apply Bl.alloc | (refine Bl.dr ?_ (by assumption)) | (refine Bl.trans ?_ (by assumption)))))).mono ?_; rintro e w1 ⟨fb, rfl, hb1⟩
        have hr : Mem w1 [(⟨w.heap.size, 0, none⟩, .int .i64 id), (⟨w.heap.size, 1, none⟩, .slice a l.length c)] := by
          refine Mem.bl ?_ hb1
          simp [Mem, go_sem]
        have HR := Lib.hid hr
        
        have hm := hr
        simp only [Mem, VE, List.cons_append, List.nil_append, and_true] at hm
        have hb : Bl w w1 := (by repeat (first | assumption | exact Bl.refl _ | apply Bl.drewN | apply Bl.drew | apply Bl.alloc | (refine Bl.dr ?_ (by assumption)) | (refine Bl.trans ?_ (by assumption))))
        clear hr hb1
        cases fb
        case true =>
          
          go_wp2_with fail
          refine (HA.out _).mono ?_; rintro e w8 ⟨rfl, hb8⟩
          go_wp2_with fail
          go_ret
          exact RB.mk rfl (by repeat (first | assumption | exact Bl.refl _ | apply Bl.drewN | apply Bl.drew | apply Bl.alloc | (refine Bl.dr ?_ (by assumption)) | (refine Bl.trans ?_ (by assumption))))
        go_wp2_with fail
        refine (H1.out _ (HO.out.bl hb)).mono ?_; rintro e w2 ⟨rfl, hb1⟩
        have hr := HR.out.bl hb1
        have hbn := Bl.trans hb hb1
        clear hb
        have hb := hbn
        clear hbn
        clear HR hm
        have HR := Lib.hid hr
        
        have hm := hr
        simp only [Mem, VE, List.cons_append, List.nil_append, and_true] at hm
        clear hr
        clear hb1
        have hal := (Bl.refl w2).alloc (Obj.cells #[.int .i64 0] 28)
        have hp : Mem ((w2).alloc (Obj.cells #[.int .i64 0] 28)) [(⟨(w2).heap.size, 0, none⟩, .int .i64 0)] := by simp [Mem, go_sem]
        have hr := (HR.out.bl hal).app hp
        have hbn := hb.trans hal
        clear hb
        have hb := hbn
        clear hbn
        clear HR hm
        have HR := Lib.hid hr
        
        have hm := hr
        simp only [Mem, VE, List.cons_append, List.nil_append, and_true] at hm
        clear hr hp hal
        go_wp2_with fail
        refine (H2.out _ (HO.out.bl hb)).mono ?_; rintro e w3 ⟨rfl, hb1⟩
        have hr := HR.out.bl hb1
        have hbn := Bl.trans hb hb1
        clear hb
        have hb := hbn
        clear hbn
        clear HR hm
        have HR := Lib.hid hr
        
        have hm := hr
        simp only [Mem, VE, List.cons_append, List.nil_append, and_true] at hm
        clear hr
        clear hb1
        have hal := (Bl.refl w3).alloc (Obj.cells #[.int .i64 0] 28)
        have hp : Mem ((w3).alloc (Obj.cells #[.int .i64 0] 28)) [(⟨(w3).heap.size, 0, none⟩, .int .i64 0)] := by simp [Mem, go_sem]
        have hr := (HR.out.bl hal).app hp
        have hbn := hb.trans hal
        clear hb
        have hb := hbn
        clear hbn
        clear HR hm
        have HR := Lib.hid hr
        
        have hm := hr
        simp only [Mem, VE, List.cons_append, List.nil_append, and_true] at hm
        clear hr hp hal
        
        go_wp2_with fail
        refine (HA.out _).mono ?_; rintro e w8 ⟨rfl, hb8⟩
        go_wp2_with fail
        go_ret
        exact RB.mk rfl (by repeat (first | assumption | exact Bl.refl _ | apply Bl.drewN | apply Bl.drew | apply Bl.alloc | (refine Bl.dr ?_ (by assumption)) | (refine Bl.trans ?_ (by assumption))))
      · rw [e1] at h1
        rw [e2] at h2
        clear e1 e2
        have h3 := fun w h => walkTake a c r (A : Int) 5000 w h
        have h4 := fun w h => walkTake a c r (B : Int) 5000 w h
        have h5 := fun w h => walkTake a c r (A : Int) (-5000) w h
        unfold TkOut at h3 h4 h5
        rw [e3] at h3
        rw [e4] at h4
        rw [e5] at h5
        clear e3 e4 e5
        generalize (wtake r (A : Int) 5000).1 = L at *
        generalize (wtake r (B : Int) 5000).1 = P at *
        generalize (wtake r (A : Int) (-5000)).1 = F at *
        generalize (wtake r (A : Int) 5000).2.1 = v1 at *
        generalize (wtake r (B : Int) 5000).2.1 = v2 at *
        generalize (wtake r (A : Int) (-5000)).2.1 = v3 at *
        have HS := Lib.hid hS
        obtain ⟨s1, s2, s3, -, -, -, -⟩ := hS
        have H3 := Lib.hid h3
        have H4 := Lib.hid h4
        have H5 := Lib.hid h5
        clear h3 h4 h5
        simp only at h1 h2
        have HO := Lib.hid h
        obtain ⟨id, l⟩ := r
        unfold Rn.v at *
        try simp only at h0 h1 h2
        try simp only at hl hl80
        have H0 := Lib.hid h0
        have H1 := Lib.hid h1
        have H2 := Lib.hid h2
        clear h0 h1 h2 h
        go_enter Try.func3, Try.ntmps3
        go_wp2_with fail
        refine (H0.out _ (HO.out.bl (by repeat (first | assumption | exact Bl.refl _ | apply Bl.drewN | apply Bl.drew | apply Bl.alloc | (refine Bl.dr ?_ (by assumption)) | (refine Bl.trans ?_ (by assumption)))))).mono ?_; rintro e w1 ⟨fb, rfl, hb1⟩
        have hr : Mem w1 [(⟨w.heap.size, 0, none⟩, .int .i64 id), (⟨w.heap.size, 1, none⟩, .slice a l.length c)] := by
          refine Mem.bl ?_ hb1
          simp [Mem, go_sem]
        have HR := Lib.hid hr
        
        have hm := hr
        simp only [Mem, VE, List.cons_append, List.nil_append, and_true] at hm
        have hb : Bl w w1 := (by repeat (first | assumption | exact Bl.refl _ | apply Bl.drewN | apply Bl.drew | apply Bl.alloc | (refine Bl.dr ?_ (by assumption)) | (refine Bl.trans ?_ (by assumption))))
        clear hr hb1
        cases fb
        case true =>
          
          go_wp2_with fail
          refine (HA.out _).mono ?_; rintro e w8 ⟨rfl, hb8⟩
          go_wp2_with fail
          go_ret
          exact RB.mk rfl (by repeat (first | assumption | exact Bl.refl _ | apply Bl.drewN | apply Bl.drew | apply Bl.alloc | (refine Bl.dr ?_ (by assumption)) | (refine Bl.trans ?_ (by assumption))))
        try simp only at s1
        go_wp2_with fail
        refine (H1.out _ (HO.out.bl hb)).mono ?_; rintro e w2 ⟨rfl, hb1⟩
        have hr := HR.out.bl hb1
        have hbn := Bl.trans hb hb1
        clear hb
        have hb := hbn
        clear hbn
        clear HR hm
        have HR := Lib.hid hr
        
        have hm := hr
        simp only [Mem, VE, List.cons_append, List.nil_append, and_true] at hm
        clear hr
        clear hb1
        have hal := (Bl.refl w2).alloc (Obj.cells #[.int .i64 (A : Int)] 28)
        have hp : Mem ((w2).alloc (Obj.cells #[.int .i64 (A : Int)] 28)) [(⟨(w2).heap.size, 0, none⟩, .int .i64 (A : Int))] := by simp [Mem, go_sem]
        have hr := (HR.out.bl hal).app hp
        have hbn := hb.trans hal
        clear hb
        have hb := hbn
        clear hbn
        clear HR hm
        have HR := Lib.hid hr
        
        have hm := hr
        simp only [Mem, VE, List.cons_append, List.nil_append, and_true] at hm
        clear hr hp hal
        go_wp2_with fail
        refine (H2.out _ (HO.out.bl hb)).mono ?_; rintro e w3 ⟨rfl, hb1⟩
        have hr := HR.out.bl hb1
        have hbn := Bl.trans hb hb1
        clear hb
        have hb := hbn
        clear hbn
        clear HR hm
        have HR := Lib.hid hr
        
        have hm := hr
        simp only [Mem, VE, List.cons_append, List.nil_append, and_true] at hm
        clear hr
        clear hb1
        have hal := (Bl.refl w3).alloc (Obj.cells #[.int .i64 (B : Int)] 28)
        have hp : Mem ((w3).alloc (Obj.cells #[.int .i64 (B : Int)] 28)) [(⟨(w3).heap.size, 0, none⟩, .int .i64 (B : Int))] := by simp [Mem, go_sem]
        have hr := (HR.out.bl hal).app hp
        have hbn := hb.trans hal
        clear hb
        have hb := hbn
        clear hbn
        clear HR hm
        have HR := Lib.hid hr
        
        have hm := hr
        simp only [Mem, VE, List.cons_append, List.nil_append, and_true] at hm
        clear hr hp hal
        have q1 : IntKind.i64.wrap ((L.length : Int) + (F.length : Int)) = (L.length : Int) + (F.length : Int) := IntWalk.i64_in _ (by omega)
        have q2 : ((L.length : Int) + (F.length : Int) == (l.length : Int)) = true := by simp; omega
        have q3 : IntKind.i64.wrap ((L.length : Int) - (P.length : Int)) = (L.length : Int) - (P.length : Int) := IntWalk.i64_in _ (by omega)
        have q4 : decide ((1 : Int) < (L.length : Int) - (P.length : Int)) = false := by rw [decide_eq_false_iff_not]; omega
        have q5 : decide (L.length < P.length) = false := by rw [decide_eq_false_iff_not]; omega
        go_wp2_with fail
        refine (H3.out _ (HO.out.bl hb)).mono ?_; rintro e w4 ⟨v, rfl, ⟨a4, c4, rfl, hE, hc1, hc2⟩, hb1⟩
        have hr := HR.out.bl hb1
        have hbn := Bl.trans hb hb1
        clear hb
        have hb := hbn
        clear hbn
        clear HR hm
        have HR := Lib.hid hr
        
        have hm := hr
        simp only [Mem, VE, List.cons_append, List.nil_append, and_true] at hm
        clear hr
        clear hc1 hc2
        have hal := (Bl.refl w4).alloc (Obj.cells #[.int .i64 v1] 28)
        have hr := HR.out.bl hal
        have hbn := Bl.trans hb hal
        clear hb
        have hb := hbn
        clear hbn
        clear HR hm
        have HR := Lib.hid hr
        
        have hm := hr
        simp only [Mem, VE, List.cons_append, List.nil_append, and_true] at hm
        clear hr
        have hL := hE.bl hal
        clear hE hal
        go_wp2_with fail
        refine (H4.out _ (HO.out.bl hb)).mono ?_; rintro e w5 ⟨v, rfl, ⟨a5, c5, rfl, hE, hc1, hc2⟩, hb1⟩
        have hr := HR.out.bl hb1
        have hbn := Bl.trans hb hb1
        clear hb
        have hb := hbn
        clear hbn
        clear HR hm
        have HR := Lib.hid hr
        
        have hm := hr
        simp only [Mem, VE, List.cons_append, List.nil_append, and_true] at hm
        clear hr
        clear hc1 hc2
        have hal := (Bl.refl w5).alloc (Obj.cells #[.int .i64 v2] 28)
        have hr := HR.out.bl hal
        have hbn := Bl.trans hb hal
        clear hb
        have hb := hbn
        clear hbn
        clear HR hm
        have HR := Lib.hid hr
        
        have hm := hr
        simp only [Mem, VE, List.cons_append, List.nil_append, and_true] at hm
        clear hr
        have hP := hE.bl hal
        have hL := hL.bl (hb1.trans hal)
        clear hE hal hb1
        go_wp2_with fail
        refine (H5.out _ (HO.out.bl hb)).mono ?_; rintro e w6 ⟨v, rfl, ⟨a6, c6, rfl, hE, hc1, hc2⟩, hb1⟩
        have hr := HR.out.bl hb1
        have hbn := Bl.trans hb hb1
        clear hb
        have hb := hbn
        clear hbn
        clear HR hm
        have HR := Lib.hid hr
        
        have hm := hr
        simp only [Mem, VE, List.cons_append, List.nil_append, and_true] at hm
        clear hr
        clear hc1 hc2
        have hal := (Bl.refl w6).alloc (Obj.cells #[.int .i64 v3] 28)
        have hr := HR.out.bl hal
        have hbn := Bl.trans hb hal
        clear hb
        have hb := hbn
        clear hbn
        clear HR hm
        have HR := Lib.hid hr
        
        have hm := hr
        simp only [Mem, VE, List.cons_append, List.nil_append, and_true] at hm
        clear hr
        have HF := Lib.hid (hE.bl hal)
        have HL := Lib.hid (hL.bl (hb1.trans hal))
        have HP := Lib.hid (hP.bl (hb1.trans hal))
        clear hE hal hb1 hL hP
        go_wp2_with fail
        generalize w6.alloc (Obj.cells #[.int .i64 v3] 28) = W6 at *
        have hL8 : L.length ≤ 80 := by omega
        have hF8 : F.length ≤ 80 := by omega
        have hP8 : P.length ≤ 80 := by omega
        clear s1 s2 s3 q1 q2 q3 q4 q5
        go_loopg [16] L.length (fun g i wr => ∃ j : Nat, j ≤ L.length ∧ i = .int .i64 j ∧ Bl W6 wr ∧ g = L.length - j)
        case atStart => exact ⟨0, by omega, rfl, Bl.refl _, rfl⟩
        case round =>
          obtain ⟨j, hj, rfl, hbw, hg⟩ := hrel
          have G := Lib.hid hg
          clear hg
          have hr := HR.out.bl hbw
          have hbn := Bl.trans hb hbw
          clear hb
          have hb := hbn
          clear hbn
          clear HR hm
          have HR := Lib.hid hr
          
          have hm := hr
          simp only [Mem, VE, List.cons_append, List.nil_append, and_true] at hm
          clear hr
          by_cases hjl : j < L.length
          · obtain ⟨b2, off, rfl, hat⟩ := HL.out.get hjl
            obtain ⟨y, hy⟩ : ∃ y, L[j]? = some y := ⟨_, List.getElem?_eq_getElem hjl⟩
            have d0 := ((hat j y hy).bl hbw).key
            have hyk := (HL.out.ok y (List.mem_of_getElem? hy)).1
            have hO := fun w => HC.out y.key w hyk
            have hc := HS.out.ge j y hy
            have hc2 := cmpS_lss y.key k
            rw [hc] at hc2
            generalize cmpS y.key k = cv at *
            have HO2 := Lib.hid hO
            have hj0 : (0 : Int) ≤ (j : Int) := by omega
            have hjL : (j : Int) < (L.length : Int) := by omega
            try simp only [Bool.not_true] at hc2
            clear hat hy hyk hO hc
            go_wp2_with fail
            refine (HO2.out _).mono ?_; rintro e w' ⟨rfl, n1, rfl⟩
            have hbw := hbw.trans (Bl.of_dr ⟨n1, rfl⟩)
            go_wp2_with fail
            go_roundg (L.length - (j + 1))
            case rel => exact ⟨j + 1, by omega, by go_num, hbw, rfl⟩
            case measure => rw [G.out]; omega
          · have e : j = L.length := by omega
            subst e
            clear hjl hj G
            go_wp2_with fail
            have HL := Lib.hid (HL.out.bl hbw)
            have HF := Lib.hid (HF.out.bl hbw)
            have HP := Lib.hid (HP.out.bl hbw)
            clear hbw
            generalize wr = W7 at *
            go_loopg [17] F.length (fun g i wr => ∃ j : Nat, j ≤ F.length ∧ i = .int .i64 j ∧ Bl W7 wr ∧ g = F.length - j)
            case atStart => exact ⟨0, by omega, rfl, Bl.refl _, rfl⟩
            case round =>
              obtain ⟨j, hj, rfl, hbw, hg⟩ := hrel
              have G := Lib.hid hg
              clear hg
              have hr := HR.out.bl hbw
              have hbn := Bl.trans hb hbw
              clear hb
              have hb := hbn
              clear hbn
              clear HR hm
              have HR := Lib.hid hr
              
              have hm := hr
              simp only [Mem, VE, List.cons_append, List.nil_append, and_true] at hm
              clear hr
              by_cases hjl : j < F.length
              · obtain ⟨b2, off, rfl, hat⟩ := HF.out.get hjl
                obtain ⟨y, hy⟩ : ∃ y, F[j]? = some y := ⟨_, List.getElem?_eq_getElem hjl⟩
                have d0 := ((hat j y hy).bl hbw).key
                have hyk := (HF.out.ok y (List.mem_of_getElem? hy)).1
                have hO := fun w => HC.out y.key w hyk
                have hc := HS.out.lt j y hy
                have hc2 := cmpS_geq y.key k
                rw [hc] at hc2
                generalize cmpS y.key k = cv at *
                have HO2 := Lib.hid hO
                have hj0 : (0 : Int) ≤ (j : Int) := by omega
                have hjL : (j : Int) < (F.length : Int) := by omega
                try simp only [Bool.not_true] at hc2
                clear hat hy hyk hO hc
                go_wp2_with fail
                refine (HO2.out _).mono ?_; rintro e w' ⟨rfl, n1, rfl⟩
                have hbw := hbw.trans (Bl.of_dr ⟨n1, rfl⟩)
                go_wp2_with fail
                go_roundg (F.length - (j + 1))
                case rel => exact ⟨j + 1, by omega, by go_num, hbw, rfl⟩
                case measure => rw [G.out]; omega
              · have e : j = F.length := by omega
                subst e
                clear hjl hj G
                go_wp2_with fail
                have HL := Lib.hid (HL.out.bl hbw)
                have HF := Lib.hid (HF.out.bl hbw)
                have HP := Lib.hid (HP.out.bl hbw)
                clear hbw
                generalize wr = W8 at *
                go_loopg [18] P.length (fun g i wr => ∃ j : Nat, j ≤ P.length ∧ i = .int .i64 j ∧ Bl W8 wr ∧ g = P.length - j)
                case atStart => exact ⟨0, by omega, rfl, Bl.refl _, rfl⟩
                case round =>
                  obtain ⟨j, hj, rfl, hbw, hg⟩ := hrel
                  have G := Lib.hid hg
                  clear hg
                  have hr := HR.out.bl hbw
                  have hbn := Bl.trans hb hbw
                  clear hb
                  have hb := hbn
                  clear hbn
                  clear HR hm
                  have HR := Lib.hid hr
                  
                  have hm := hr
                  simp only [Mem, VE, List.cons_append, List.nil_append, and_true] at hm
                  clear hr
                  by_cases hjl : j < P.length
                  · obtain ⟨b2, off, rfl, hat⟩ := HP.out.get hjl
                    obtain ⟨y, hy⟩ : ∃ y, P[j]? = some y := ⟨_, List.getElem?_eq_getElem hjl⟩
                    have d0 := ((hat j y hy).bl hbw).key
                    have hyk := (HP.out.ok y (List.mem_of_getElem? hy)).1
                    have hO := fun w => HC.out y.key w hyk
                    have hc := HS.out.gt j y hy
                    have hc2 := cmpS_leq y.key k
                    rw [hc] at hc2
                    generalize cmpS y.key k = cv at *
                    have HO2 := Lib.hid hO
                    have hj0 : (0 : Int) ≤ (j : Int) := by omega
                    have hjL : (j : Int) < (P.length : Int) := by omega
                    try simp only [Bool.not_true] at hc2
                    clear hat hy hyk hO hc
                    go_wp2_with fail
                    refine (HO2.out _).mono ?_; rintro e w' ⟨rfl, n1, rfl⟩
                    have hbw := hbw.trans (Bl.of_dr ⟨n1, rfl⟩)
                    go_wp2_with fail
                    go_roundg (P.length - (j + 1))
                    case rel => exact ⟨j + 1, by omega, by go_num, hbw, rfl⟩
                    case measure => rw [G.out]; omega
                  · have e : j = P.length := by omega
                    subst e
                    clear hjl hj G
                    skip
                    have HL := Lib.hid (HL.out.bl hbw)
                    by_cases e9 : L.length = P.length
                    · have z1 : ((L.length : Int) == (P.length : Int)) = true := by simp [e9]
                      
                      go_wp2_with fail
                      refine (HA.out _).mono ?_; rintro e w8 ⟨rfl, hb8⟩
                      go_wp2_with fail
                      go_ret
                      exact RB.mk rfl (by repeat (first | assumption | exact Bl.refl _ | apply Bl.drewN | apply Bl.drew | apply Bl.alloc | (refine Bl.dr ?_ (by assumption)) | (refine Bl.trans ?_ (by assumption))))
                    · have z1 : ((L.length : Int) == (P.length : Int)) = false := by simpa using (show ¬ ((L.length : Int) = P.length) by omega)
                      obtain ⟨x, hx, hxk⟩ := HS.out.eq.resolve_left e9
                      have hL := (List.getElem?_eq_some_iff.1 hx).1
                      obtain ⟨b4, off4, rfl, hat⟩ := HL.out.get hL
                      have d0 := ((hat 0 x hx).bl (by repeat (first | assumption | exact Bl.refl _ | apply Bl.drewN | apply Bl.drew | apply Bl.alloc | (refine Bl.dr ?_ (by assumption)) | (refine Bl.trans ?_ (by assumption))))).key
                      rw [hxk] at d0
                      simp only [Nat.zero_mul, Nat.add_zero] at d0
                      have hL0 : (0 : Int) < (L.length : Int) := by omega
                      have y1 : (k.toList == k.toList) = true := by simp
                      clear hat
                      
                      go_wp2_with fail
                      refine (HA.out _).mono ?_; rintro e w8 ⟨rfl, hb8⟩
                      go_wp2_with fail
                      go_ret
                      exact RB.mk rfl (by repeat (first | assumption | exact Bl.refl _ | apply Bl.drewN | apply Bl.drew | apply Bl.alloc | (refine Bl.dr ?_ (by assumption)) | (refine Bl.trans ?_ (by assumption))))
  · generalize wseek r k false = q1 at *
    generalize wseek r k true = q2 at *
    have hl80 : (80 : Int) < (r.es.length : Int) := by omega
    have HO := Lib.hid h
    obtain ⟨id, l⟩ := r
    unfold Rn.v at *
    try simp only at h0 h1 h2
    try simp only at hl hl80
    have H0 := Lib.hid h0
    have H1 := Lib.hid h1
    have H2 := Lib.hid h2
    clear h0 h1 h2 h
    go_enter Try.func3, Try.ntmps3
    go_wp2_with fail
    refine (H0.out _ (HO.out.bl (by repeat (first | assumption | exact Bl.refl _ | apply Bl.drewN | apply Bl.drew | apply Bl.alloc | (refine Bl.dr ?_ (by assumption)) | (refine Bl.trans ?_ (by assumption)))))).mono ?_; rintro e w1 ⟨fb, rfl, hb1⟩
    have hr : Mem w1 [(⟨w.heap.size, 0, none⟩, .int .i64 id), (⟨w.heap.size, 1, none⟩, .slice a l.length c)] := by
      refine Mem.bl ?_ hb1
      simp [Mem, go_sem]
    have HR := Lib.hid hr
    
    have hm := hr
    simp only [Mem, VE, List.cons_append, List.nil_append, and_true] at hm
    have hb : Bl w w1 := (by repeat (first | assumption | exact Bl.refl _ | apply Bl.drewN | apply Bl.drew | apply Bl.alloc | (refine Bl.dr ?_ (by assumption)) | (refine Bl.trans ?_ (by assumption))))
    clear hr hb1
    cases fb
    case true =>
      
      go_wp2_with fail
      refine (HA.out _).mono ?_; rintro e w8 ⟨rfl, hb8⟩
      go_wp2_with fail
      go_ret
      exact RB.mk rfl (by repeat (first | assumption | exact Bl.refl _ | apply Bl.drewN | apply Bl.drew | apply Bl.alloc | (refine Bl.dr ?_ (by assumption)) | (refine Bl.trans ?_ (by assumption))))
    
    go_wp2_with fail
    refine (HA.out _).mono ?_; rintro e w8 ⟨rfl, hb8⟩
    go_wp2_with fail
    go_ret
    exact RB.mk rfl (by repeat (first | assumption | exact Bl.refl _ | apply Bl.drewN | apply Bl.drew | apply Bl.alloc | (refine Bl.dr ?_ (by assumption)) | (refine Bl.trans ?_ (by assumption))))
end Go.Proofs.Ytinbdppekhcekaa

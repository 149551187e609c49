/-
  Own texts laid together: WkS.
-/
import Derived.Test.YtinbdppekhcekaaZWkQ
import Derived.Test.YtinbdppekhcekaaZPlWa
import Derived.IntWalk
/-
  The law WalkSkips, walked.
-/
namespace Go.Proofs.Ytinbdppekhcekaa
open Go.RowKit
set_option linter.unusedSimpArgs false
set_option linter.unusedVariables false
set_option maxRecDepth 100000

theorem quietAwakeW {w0 : World} (x : BW w0) : Calls Try.prog 12 #[] x.w fun e w'' => e = .returned (.bool true) ∧ ∃ y : BW w0, w'' = y.w := quietB (lawWalkAwake x.w)
set_option maxHeartbeats 8000000 in
theorem lawSkips (a : Option Addr) (c : Nat) (r : Rn) (n : Int) (d b : Bool) (w : World) (h : ROk w a c r) :
    Calls Try.prog 6 #[r.v a c, cur n, .agg #[.bool d, .bool b]] w (RB w (.bool true)) := by
  have HA := Lib.hid (fun w => lawWalkAwake w)
  have h0 := fun w h => lawRunFar a c r w h
  by_cases hl : r.es.length ≤ 80
  · cases b
    · have HF := Lib.hid (skips_law r n d false hl)
      have h1 := fun w h => walkSkip a c r n d false w h
      have h2 := fun w h => walkTake a c r n (far5 false) w h
      unfold wv at h1
      unfold TkOut at h2
      generalize (wstep r n false (fun x => x.dead == d)).1 = Y at *
      generalize (wstep r n false (fun x => x.dead == d)).2.1 = v4 at *
      generalize (wstep r n false (fun x => x.dead == d)).2.2 = v5 at *
      generalize (wtake r n (far5 false)).1 = L at *
      generalize (wtake r n (far5 false)).2.1 = v6 at *
      generalize (wtake r n (far5 false)).2.2 = v7 at *
      simp only [far5, if_true, if_false, Bool.false_eq_true] at h2
      have HO := Lib.hid h
      obtain ⟨id, l⟩ := r
      unfold Rn.v Ent.v at *
      simp only at h0 h1 h2 hl ⊢
      have H0 := Lib.hid h0
      have H1 := Lib.hid h1
      have H2 := Lib.hid h2
      have hl80 : ¬ (80 : Int) < l.length := by omega
      clear h0 h1 h2 h
      go_enter Try.func6, Try.ntmps6
      go_wp2_with fail
      refine (H0.out _ (HO.out.bl (by repeat (first | assumption | exact Bl.refl _ | apply Bl.drewN | apply Bl.drew | apply Bl.alloc | (refine Bl.dr ?_ (by assumption)) | (refine Bl.trans ?_ (by assumption)))))).mono ?_; rintro e w1 ⟨fb, rfl, hb1⟩
      have hr : Mem w1 [(⟨w.heap.size, 0, none⟩, .int .i64 id), (⟨w.heap.size, 1, none⟩, .slice a l.length c), (⟨w.heap.size + 1, 0, none⟩, .int .i64 n), (⟨w.heap.size + 1 + 1, 0, none⟩, .bool d), (⟨w.heap.size + 1 + 1, 1, none⟩, .bool false)] := by
        refine Mem.bl ?_ hb1
        simp [Mem, go_sem]
      have HR := Lib.hid hr
      
      have hm := hr
      simp only [Mem, VE, List.cons_append, List.nil_append, and_true] at hm
      have hb : Bl w w1 := (by repeat (first | assumption | exact Bl.refl _ | apply Bl.drewN | apply Bl.drew | apply Bl.alloc | (refine Bl.dr ?_ (by assumption)) | (refine Bl.trans ?_ (by assumption))))
      clear hr hb1
      cases fb
      case true =>
        
        go_wp2_with fail
        refine (HA.out _).mono ?_; rintro e w8 ⟨rfl, hb8⟩
        go_wp2_with fail
        go_ret
        exact RB.mk rfl (by repeat (first | assumption | exact Bl.refl _ | apply Bl.drewN | apply Bl.drew | apply Bl.alloc | (refine Bl.dr ?_ (by assumption)) | (refine Bl.trans ?_ (by assumption))))
      go_wp2_with fail
      refine (H1.out _ (HO.out.bl hb)).mono ?_; rintro e w2 ⟨rfl, hb1⟩
      have hr := HR.out.bl hb1
      have hbn := Bl.trans hb hb1
      clear hb
      have hb := hbn
      clear hbn
      clear HR hm
      have HR := Lib.hid hr
      
      have hm := hr
      simp only [Mem, VE, List.cons_append, List.nil_append, and_true] at hm
      clear hr
      clear hb1
      have hal := ((Bl.refl w2).alloc (Obj.cells #[.string Y.key, .string Y.val, .bool Y.dead, .int .i64 Y.seq] 36)).alloc (Obj.cells #[.int .i64 v4] 28)
      have hp : Mem ((w2.alloc (Obj.cells #[.string Y.key, .string Y.val, .bool Y.dead, .int .i64 Y.seq] 36)).alloc (Obj.cells #[.int .i64 v4] 28)) (VE w2.heap.size Y ++ [(⟨w2.heap.size + 1, 0, none⟩, .int .i64 v4)]) := by simp [Mem, VE, go_sem]
      have hr := (HR.out.bl hal).app hp
      have hbn := hb.trans hal
      clear hb
      have hb := hbn
      clear hbn
      clear HR hm
      have HR := Lib.hid hr
      
      have hm := hr
      simp only [Mem, VE, List.cons_append, List.nil_append, and_true] at hm
      clear hr hp hal
      go_wp2_with fail
      refine (H2.out _ (HO.out.bl hb)).mono ?_; rintro e w3 ⟨v, rfl, ⟨a2, c2, rfl, hE, hc1, hc2⟩, hb1⟩
      have hr := HR.out.bl hb1
      have hbn := Bl.trans hb hb1
      clear hb
      have hb := hbn
      clear hbn
      clear HR hm
      have HR := Lib.hid hr
      
      have hm := hr
      simp only [Mem, VE, List.cons_append, List.nil_append, and_true] at hm
      clear hr
      clear hb1
      have hal := (Bl.refl w3).alloc (Obj.cells #[.int .i64 v6] 28)
      have hr := HR.out.bl hal
      have hbn := Bl.trans hb hal
      clear hb
      have hb := hbn
      clear hbn
      clear HR hm
      have HR := Lib.hid hr
      
      have hm := hr
      simp only [Mem, VE, List.cons_append, List.nil_append, and_true] at hm
      clear hr
      have hE := hE.bl hal
      clear hal
      by_cases e7 : v7 = 0
      · subst e7
        obtain ⟨hn1, hn2, hL⟩ := HF.out.low rfl
        go_wp2_with fail
        generalize w3.alloc (Obj.cells #[.int .i64 v6] 28) = W3 at *
        have HE := Lib.hid hE
        clear hE
        go_loopg [14] L.length (fun g i wr => ∃ k : Nat, k ≤ L.length ∧ i = .int .i64 k ∧ Bl W3 wr ∧ (∀ j y, j < k → L[j]? = some y → y.dead ≠ d) ∧ g = L.length - k)
        case atStart => exact ⟨0, by omega, rfl, Bl.refl _, (fun j y hj => by omega), rfl⟩
        case round =>
          obtain ⟨k, hk, rfl, hbw, hno, hg⟩ := hrel
          have G := Lib.hid hg
          have HN := Lib.hid hno
          clear hg hno
          have hr := HR.out.bl hbw
          have hbn := Bl.trans hb hbw
          clear hb
          have hb := hbn
          clear hbn
          clear HR hm
          have HR := Lib.hid hr
          
          have hm := hr
          simp only [Mem, VE, List.cons_append, List.nil_append, and_true] at hm
          clear hr
          by_cases hkl : k < L.length
          · obtain ⟨b2, off, rfl, hat⟩ := HE.out.get hkl
            obtain ⟨x, hx⟩ : ∃ x, L[k]? = some x := ⟨_, List.getElem?_eq_getElem hkl⟩
            obtain ⟨d0, d1, d2, d3⟩ := (hat k x hx).bl hbw
            have HX := Lib.hid hx
            clear hat hx
            have hk0 : (0 : Int) ≤ (k : Int) := by omega
            have hkL : (k : Int) < (L.length : Int) := by omega
            by_cases hd : x.dead = d
            · obtain ⟨f1, f2, f3⟩ := HF.out.hit rfl k x HX.out hd HN.out
              simp only [if_true, if_false, Bool.false_eq_true] at f2
              subst f1 f2 f3 hd
              have q1 : IntKind.i64.wrap ((k : Int) + 1) = (k : Int) + 1 := IntWalk.i64_in _ (by omega)
              have q2 : IntKind.i64.wrap (-((k : Int) + 1)) = -((k : Int) + 1) := IntWalk.i64_in _ (by omega)
              have q3 : IntKind.i64.wrap (n + ((k : Int) + 1)) = n + ((k : Int) + 1) := IntWalk.i64_in _ (by omega)
              have q4 : IntKind.i64.wrap (n + -((k : Int) + 1)) = n + -((k : Int) + 1) := IntWalk.i64_in _ (by omega)
              go_wp2_with fail
              go_quiet (fail)
              go_wp2_with fail
              have hq := fun z : BW wr => HR.out.bl z.h
              simp only [Mem, VE, List.cons_append, List.nil_append, and_true] at hq
              have d0' := BW.cell d0
              have d1' := BW.cell d1
              have d2' := BW.cell d2
              have d3' := BW.cell d3
              have y1 : (Y.key.toList == Y.key.toList) = true := by simp
              have y2 : (Y.val.toList == Y.val.toList) = true := by simp
              
              refine wp_region_quiet_bw wr (by kernel_rfl) (by kernel_rfl) (by repeat (first | assumption | exact Bl.refl _ | apply Bl.drewN | apply Bl.drew | apply Bl.alloc | (refine Bl.dr ?_ (by assumption)) | (refine Bl.trans ?_ (by assumption)))) ?_
              repeat (go_big_quiet_step ((first | (go_at_call 12; exact quietAwakeW _) | (go_at_call 20; exact quietB (lawAt _ _)))))
              refine wpQuiet_nil ?_
              intro wq hw'
              have hwq : Bl wr wq := by obtain ⟨x, hx⟩ := hw'; rw [hx]; exact x.h
              clear hw'
              have hb := hb.trans hwq
              clear hq hm
              go_wp2_with fail
              go_ret
              exact RB.mk rfl hb
            · have z1 : (x.dead == d) = false := by simpa using hd
              go_wp2_with fail
              go_quiet (fail)
              go_wp2_with fail
              go_roundg (L.length - (k + 1))
              case rel =>
                refine ⟨k + 1, by omega, by go_num, (by repeat (first | assumption | exact Bl.refl _ | apply Bl.drewN | apply Bl.drew | apply Bl.alloc | (refine Bl.dr ?_ (by assumption)) | (refine Bl.trans ?_ (by assumption)))), fun j y hj hy => ?_, rfl⟩
                by_cases e : j = k
                · subst e
                  rw [HX.out] at hy; injection hy with hy; subst hy; exact hd
                · exact HN.out j y (by omega) hy
              case measure => rw [G.out]; omega
          · have e : k = L.length := by omega
            subst e
            obtain ⟨f1, f2, f3⟩ := HF.out.miss rfl (fun j y hy => HN.out j y (List.getElem?_eq_some_iff.1 hy).1 hy)
            subst f1 f2 f3
            simp only [ent0, VE] at hm
            
            go_wp2_with fail
            refine (HA.out _).mono ?_; rintro e w8 ⟨rfl, hb8⟩
            go_wp2_with fail
            go_ret
            exact RB.mk rfl (by repeat (first | assumption | exact Bl.refl _ | apply Bl.drewN | apply Bl.drew | apply Bl.alloc | (refine Bl.dr ?_ (by assumption)) | (refine Bl.trans ?_ (by assumption))))
      · obtain ⟨f1, f2⟩ := HF.out.bad e7
        subst f1 f2
        simp only [ent0, VE] at hm
        
        go_wp2_with fail
        refine (HA.out _).mono ?_; rintro e w8 ⟨rfl, hb8⟩
        go_wp2_with fail
        go_ret
        exact RB.mk rfl (by repeat (first | assumption | exact Bl.refl _ | apply Bl.drewN | apply Bl.drew | apply Bl.alloc | (refine Bl.dr ?_ (by assumption)) | (refine Bl.trans ?_ (by assumption))))
    · have HF := Lib.hid (skips_law r n d true hl)
      have h1 := fun w h => walkSkip a c r n d true w h
      have h2 := fun w h => walkTake a c r n (far5 true) w h
      unfold wv at h1
      unfold TkOut at h2
      generalize (wstep r n true (fun x => x.dead == d)).1 = Y at *
      generalize (wstep r n true (fun x => x.dead == d)).2.1 = v4 at *
      generalize (wstep r n true (fun x => x.dead == d)).2.2 = v5 at *
      generalize (wtake r n (far5 true)).1 = L at *
      generalize (wtake r n (far5 true)).2.1 = v6 at *
      generalize (wtake r n (far5 true)).2.2 = v7 at *
      simp only [far5, if_true, if_false, Bool.false_eq_true] at h2
      have HO := Lib.hid h
      obtain ⟨id, l⟩ := r
      unfold Rn.v Ent.v at *
      simp only at h0 h1 h2 hl ⊢
      have H0 := Lib.hid h0
      have H1 := Lib.hid h1
      have H2 := Lib.hid h2
      have hl80 : ¬ (80 : Int) < l.length := by omega
      clear h0 h1 h2 h
      go_enter Try.func6, Try.ntmps6
      go_wp2_with fail
      refine (H0.out _ (HO.out.bl (by repeat (first | assumption | exact Bl.refl _ | apply Bl.drewN | apply Bl.drew | apply Bl.alloc | (refine Bl.dr ?_ (by assumption)) | (refine Bl.trans ?_ (by assumption)))))).mono ?_; rintro e w1 ⟨fb, rfl, hb1⟩
      have hr : Mem w1 [(⟨w.heap.size, 0, none⟩, .int .i64 id), (⟨w.heap.size, 1, none⟩, .slice a l.length c), (⟨w.heap.size + 1, 0, none⟩, .int .i64 n), (⟨w.heap.size + 1 + 1, 0, none⟩, .bool d), (⟨w.heap.size + 1 + 1, 1, none⟩, .bool true)] := by
        refine Mem.bl ?_ hb1
        simp [Mem, go_sem]
      have HR := Lib.hid hr
      
      have hm := hr
      simp only [Mem, VE, List.cons_append, List.nil_append, and_true] at hm
      have hb : Bl w w1 := (by repeat (first | assumption | exact Bl.refl _ | apply Bl.drewN | apply Bl.drew | apply Bl.alloc | (refine Bl.dr ?_ (by assumption)) | (refine Bl.trans ?_ (by assumption))))
      clear hr hb1
      cases fb
      case true =>
        
        go_wp2_with fail
        refine (HA.out _).mono ?_; rintro e w8 ⟨rfl, hb8⟩
        go_wp2_with fail
        go_ret
        exact RB.mk rfl (by repeat (first | assumption | exact Bl.refl _ | apply Bl.drewN | apply Bl.drew | apply Bl.alloc | (refine Bl.dr ?_ (by assumption)) | (refine Bl.trans ?_ (by assumption))))
      go_wp2_with fail
      refine (H1.out _ (HO.out.bl hb)).mono ?_; rintro e w2 ⟨rfl, hb1⟩
      have hr := HR.out.bl hb1
      have hbn := Bl.trans hb hb1
      clear hb
      have hb := hbn
      clear hbn
      clear HR hm
      have HR := Lib.hid hr
      
      have hm := hr
      simp only [Mem, VE, List.cons_append, List.nil_append, and_true] at hm
      clear hr
      clear hb1
      have hal := ((Bl.refl w2).alloc (Obj.cells #[.string Y.key, .string Y.val, .bool Y.dead, .int .i64 Y.seq] 36)).alloc (Obj.cells #[.int .i64 v4] 28)
      have hp : Mem ((w2.alloc (Obj.cells #[.string Y.key, .string Y.val, .bool Y.dead, .int .i64 Y.seq] 36)).alloc (Obj.cells #[.int .i64 v4] 28)) (VE w2.heap.size Y ++ [(⟨w2.heap.size + 1, 0, none⟩, .int .i64 v4)]) := by simp [Mem, VE, go_sem]
      have hr := (HR.out.bl hal).app hp
      have hbn := hb.trans hal
      clear hb
      have hb := hbn
      clear hbn
      clear HR hm
      have HR := Lib.hid hr
      
      have hm := hr
      simp only [Mem, VE, List.cons_append, List.nil_append, and_true] at hm
      clear hr hp hal
      go_wp2_with fail
      refine (H2.out _ (HO.out.bl hb)).mono ?_; rintro e w3 ⟨v, rfl, ⟨a2, c2, rfl, hE, hc1, hc2⟩, hb1⟩
      have hr := HR.out.bl hb1
      have hbn := Bl.trans hb hb1
      clear hb
      have hb := hbn
      clear hbn
      clear HR hm
      have HR := Lib.hid hr
      
      have hm := hr
      simp only [Mem, VE, List.cons_append, List.nil_append, and_true] at hm
      clear hr
      clear hb1
      have hal := (Bl.refl w3).alloc (Obj.cells #[.int .i64 v6] 28)
      have hr := HR.out.bl hal
      have hbn := Bl.trans hb hal
      clear hb
      have hb := hbn
      clear hbn
      clear HR hm
      have HR := Lib.hid hr
      
      have hm := hr
      simp only [Mem, VE, List.cons_append, List.nil_append, and_true] at hm
      clear hr
      have hE := hE.bl hal
      clear hal
      by_cases e7 : v7 = 0
      · subst e7
        obtain ⟨hn1, hn2, hL⟩ := HF.out.low rfl
        go_wp2_with fail
        generalize w3.alloc (Obj.cells #[.int .i64 v6] 28) = W3 at *
        have HE := Lib.hid hE
        clear hE
        go_loopg [14] L.length (fun g i wr => ∃ k : Nat, k ≤ L.length ∧ i = .int .i64 k ∧ Bl W3 wr ∧ (∀ j y, j < k → L[j]? = some y → y.dead ≠ d) ∧ g = L.length - k)
        case atStart => exact ⟨0, by omega, rfl, Bl.refl _, (fun j y hj => by omega), rfl⟩
        case round =>
          obtain ⟨k, hk, rfl, hbw, hno, hg⟩ := hrel
          have G := Lib.hid hg
          have HN := Lib.hid hno
          clear hg hno
          have hr := HR.out.bl hbw
          have hbn := Bl.trans hb hbw
          clear hb
          have hb := hbn
          clear hbn
          clear HR hm
          have HR := Lib.hid hr
          
          have hm := hr
          simp only [Mem, VE, List.cons_append, List.nil_append, and_true] at hm
          clear hr
          by_cases hkl : k < L.length
          · obtain ⟨b2, off, rfl, hat⟩ := HE.out.get hkl
            obtain ⟨x, hx⟩ : ∃ x, L[k]? = some x := ⟨_, List.getElem?_eq_getElem hkl⟩
            obtain ⟨d0, d1, d2, d3⟩ := (hat k x hx).bl hbw
            have HX := Lib.hid hx
            clear hat hx
            have hk0 : (0 : Int) ≤ (k : Int) := by omega
            have hkL : (k : Int) < (L.length : Int) := by omega
            by_cases hd : x.dead = d
            · obtain ⟨f1, f2, f3⟩ := HF.out.hit rfl k x HX.out hd HN.out
              simp only [if_true, if_false, Bool.false_eq_true] at f2
              subst f1 f2 f3 hd
              have q1 : IntKind.i64.wrap ((k : Int) + 1) = (k : Int) + 1 := IntWalk.i64_in _ (by omega)
              have q2 : IntKind.i64.wrap (-((k : Int) + 1)) = -((k : Int) + 1) := IntWalk.i64_in _ (by omega)
              have q3 : IntKind.i64.wrap (n + ((k : Int) + 1)) = n + ((k : Int) + 1) := IntWalk.i64_in _ (by omega)
              have q4 : IntKind.i64.wrap (n + -((k : Int) + 1)) = n + -((k : Int) + 1) := IntWalk.i64_in _ (by omega)
              go_wp2_with fail
              go_quiet (fail)
              go_wp2_with fail
              have hq := fun z : BW wr => HR.out.bl z.h
              simp only [Mem, VE, List.cons_append, List.nil_append, and_true] at hq
              have d0' := BW.cell d0
              have d1' := BW.cell d1
              have d2' := BW.cell d2
              have d3' := BW.cell d3
              have y1 : (Y.key.toList == Y.key.toList) = true := by simp
              have y2 : (Y.val.toList == Y.val.toList) = true := by simp
              
              refine wp_region_quiet_bw wr (by kernel_rfl) (by kernel_rfl) (by repeat (first | assumption | exact Bl.refl _ | apply Bl.drewN | apply Bl.drew | apply Bl.alloc | (refine Bl.dr ?_ (by assumption)) | (refine Bl.trans ?_ (by assumption)))) ?_
              repeat (go_big_quiet_step ((first | (go_at_call 12; exact quietAwakeW _) | (go_at_call 20; exact quietB (lawAt _ _)))))
              refine wpQuiet_nil ?_
              intro wq hw'
              have hwq : Bl wr wq := by obtain ⟨x, hx⟩ := hw'; rw [hx]; exact x.h
              clear hw'
              have hb := hb.trans hwq
              clear hq hm
              go_wp2_with fail
              go_ret
              exact RB.mk rfl hb
            · have z1 : (x.dead == d) = false := by simpa using hd
              go_wp2_with fail
              go_quiet (fail)
              go_wp2_with fail
              go_roundg (L.length - (k + 1))
              case rel =>
                refine ⟨k + 1, by omega, by go_num, (by repeat (first | assumption | exact Bl.refl _ | apply Bl.drewN | apply Bl.drew | apply Bl.alloc | (refine Bl.dr ?_ (by assumption)) | (refine Bl.trans ?_ (by assumption)))), fun j y hj hy => ?_, rfl⟩
                by_cases e : j = k
                · subst e
                  rw [HX.out] at hy; injection hy with hy; subst hy; exact hd
                · exact HN.out j y (by omega) hy
              case measure => rw [G.out]; omega
          · have e : k = L.length := by omega
            subst e
            obtain ⟨f1, f2, f3⟩ := HF.out.miss rfl (fun j y hy => HN.out j y (List.getElem?_eq_some_iff.1 hy).1 hy)
            subst f1 f2 f3
            simp only [ent0, VE] at hm
            
            go_wp2_with fail
            refine (HA.out _).mono ?_; rintro e w8 ⟨rfl, hb8⟩
            go_wp2_with fail
            go_ret
            exact RB.mk rfl (by repeat (first | assumption | exact Bl.refl _ | apply Bl.drewN | apply Bl.drew | apply Bl.alloc | (refine Bl.dr ?_ (by assumption)) | (refine Bl.trans ?_ (by assumption))))
      · obtain ⟨f1, f2⟩ := HF.out.bad e7
        subst f1 f2
        simp only [ent0, VE] at hm
        
        go_wp2_with fail
        refine (HA.out _).mono ?_; rintro e w8 ⟨rfl, hb8⟩
        go_wp2_with fail
        go_ret
        exact RB.mk rfl (by repeat (first | assumption | exact Bl.refl _ | apply Bl.drewN | apply Bl.drew | apply Bl.alloc | (refine Bl.dr ?_ (by assumption)) | (refine Bl.trans ?_ (by assumption))))
  · have HO := Lib.hid h
    obtain ⟨id, l⟩ := r
    unfold Rn.v at *
    simp only at h0 hl ⊢
    have H0 := Lib.hid h0
    have hl80 : (80 : Int) < l.length := by omega
    clear h0 h hl
    go_enter Try.func6, Try.ntmps6
    go_wp2_with fail
    refine (H0.out _ (HO.out.bl (by repeat (first | assumption | exact Bl.refl _ | apply Bl.drewN | apply Bl.drew | apply Bl.alloc | (refine Bl.dr ?_ (by assumption)) | (refine Bl.trans ?_ (by assumption)))))).mono ?_; rintro e w1 ⟨fb, rfl, hb1⟩
    have c1 : w1.cell? ⟨w.heap.size, 1, none⟩ = some (.slice a l.length c) := hb1.cell (by simp [go_sem])
    have hb : Bl w w1 := (by repeat (first | assumption | exact Bl.refl _ | apply Bl.drewN | apply Bl.drew | apply Bl.alloc | (refine Bl.dr ?_ (by assumption)) | (refine Bl.trans ?_ (by assumption))))
    clear hb1
    cases fb
    · 
      go_wp2_with fail
      refine (HA.out _).mono ?_; rintro e w8 ⟨rfl, hb8⟩
      go_wp2_with fail
      go_ret
      exact RB.mk rfl (by repeat (first | assumption | exact Bl.refl _ | apply Bl.drewN | apply Bl.drew | apply Bl.alloc | (refine Bl.dr ?_ (by assumption)) | (refine Bl.trans ?_ (by assumption))))
    · 
      go_wp2_with fail
      refine (HA.out _).mono ?_; rintro e w8 ⟨rfl, hb8⟩
      go_wp2_with fail
      go_ret
      exact RB.mk rfl (by repeat (first | assumption | exact Bl.refl _ | apply Bl.drewN | apply Bl.drew | apply Bl.alloc | (refine Bl.dr ?_ (by assumption)) | (refine Bl.trans ?_ (by assumption))))
end Go.Proofs.Ytinbdppekhcekaa

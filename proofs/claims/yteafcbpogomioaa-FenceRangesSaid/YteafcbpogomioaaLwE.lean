/-
  The law FenceRanges, walked.
-/
import Derived.Test.YteafcbpogomioaaPlB
namespace Go.Proofs.Yteafcbpogomioaa
open Go.RowKit
set_option linter.unusedSimpArgs false
set_option linter.unusedVariables false

set_option maxRecDepth 100000 in
set_option maxHeartbeats 4000000 in
theorem lawRanges (a : Option Addr) (c : Nat) (f : Fnc) (a2 : Option Addr) (c2 : Nat) (l : List Ent) (r : Rng) (w : World)
    (hm : Strs w a f.marks) (hmn : f.marks.length ≤ maxLen) (hs1 : -9223372036854775808 ≤ f.step) (hs2 : f.step ≤ 9223372036854775807)
    (hl : Ents w a2 l) (hn : l.length ≤ c2) (hc : c2 ≤ maxLen) (hr : r.ok) :
    Calls Try.prog 8 #[f.v a c, .slice a2 l.length c2, r.v] w (RB w (.bool true)) := by
  have HA := Lib.hid (fun w => lawAwake w)
  have HFar := Lib.hid (fun w h => lawFar a2 c2 l w h (Nat.le_trans hn hc))
  have hW := fun w h => lawWide a c f w h hmn
  have h0 := fun w h h' => fenceFits a c f a2 c2 l w h h' (Nat.le_trans hn hc)
  have h1 := fun w h => fenceBlocks a c f r w h hr
  have h2 := fun w => refEmpty r w hr
  have h3 := fun k w hk => refHas r k w hr hk
  have hfok : f.marks.length ≤ 5010 → FOk w a f := fun h => ⟨hm, by omega, hs1, hs2⟩
  have hft := fun (h : (ffits f l).2 = 0) (h' : (ffits f l).1 = true) => fits_facts h h'
  have hrf := fun (h : Fits f l) (h' : (blks f r).2.2 = 0) => ranges_facts h h'
  have HL := Lib.hid hl
  have HMk := Lib.hid hm
  generalize (ffits f l).1 = v1 at *
  generalize (ffits f l).2 = v2 at *
  obtain ⟨st, m⟩ := f
  generalize hB : blks ⟨st, m⟩ r = Bk at *
  generalize (remp r).1 = v4 at *
  generalize (remp r).2 = v5 at *
  generalize hh : rhas r = H at *
  obtain ⟨B1, B2, B3⟩ := Bk
  obtain ⟨lo, hi, bd⟩ := r
  unfold Fnc.v at *
  unfold Rng.v at *
  simp only at hW h0 h1 h2 h3 hs1 hs2 hfok hrf ⊢
  have HW := Lib.hid hW
  have H0 := Lib.hid h0
  have H1 := Lib.hid h1
  have H2 := Lib.hid h2
  have H3 := Lib.hid h3
  have HOk := Lib.hid hfok
  have HFT := Lib.hid hft
  have HRF := Lib.hid hrf
  clear hW h0 h1 h2 h3 hfok hm hl hft hrf hB hh hr
  go_enter Try.func8, Try.ntmps8
  go_wp2_with fail
  refine (HFar.out _ (HL.out.bl (by repeat (first | assumption | exact Bl.refl _ | apply Bl.drewN | apply Bl.drew | apply Bl.alloc | (refine Bl.dr ?_ (by assumption)) | (refine Bl.trans ?_ (by assumption)))))).mono ?_; rintro e w1 ⟨fb, rfl, hfb, hb1⟩
  have c0 : w1.cell? ⟨w.heap.size, 0, none⟩ = some (.int .i64 st) := hb1.cell (by simp [go_sem])
  have c1 : w1.cell? ⟨w.heap.size, 1, none⟩ = some (.slice a m.length c) := hb1.cell (by simp [go_sem])
  have d0 : w1.cell? ⟨w.heap.size + 1, 0, none⟩ = some (.string lo) := hb1.cell (by simp [go_sem])
  have d1 : w1.cell? ⟨w.heap.size + 1, 1, none⟩ = some (.string hi) := hb1.cell (by simp [go_sem])
  have d2 : w1.cell? ⟨w.heap.size + 1, 2, none⟩ = some (.bool bd) := hb1.cell (by simp [go_sem])
  have hb : Bl w w1 := (by repeat (first | assumption | exact Bl.refl _ | apply Bl.drewN | apply Bl.drew | apply Bl.alloc | (refine Bl.dr ?_ (by assumption)) | (refine Bl.trans ?_ (by assumption))))
  clear hb1 hfb
  cases fb
  · go_wp2_with fail
    refine (HW.out _ (HMk.out.bl (by repeat (first | assumption | exact Bl.refl _ | apply Bl.drewN | apply Bl.drew | apply Bl.alloc | (refine Bl.dr ?_ (by assumption)) | (refine Bl.trans ?_ (by assumption)))))).mono ?_; rintro e w2 ⟨wb, rfl, hwb, hb2⟩
    have c0 := hb2.cell c0
    have c1 := hb2.cell c1
    have d0 := hb2.cell d0
    have d1 := hb2.cell d1
    have d2 := hb2.cell d2
    have hb : Bl w w2 := hb.trans hb2
    clear hb2
    cases wb
    · have hok := HOk.out (hwb rfl)
      have HOK := Lib.hid hok
      clear hwb hok
      by_cases g1 : (100:Int) < (lo.size : Int)
      · 
        go_wp2_with fail
        refine (HA.out _).mono ?_; rintro e w8 ⟨rfl, hb8⟩
        go_wp2_with fail
        go_ret
        exact RB.mk rfl (by repeat (first | assumption | exact Bl.refl _ | apply Bl.drewN | apply Bl.drew | apply Bl.alloc | (refine Bl.dr ?_ (by assumption)) | (refine Bl.trans ?_ (by assumption))))
      by_cases g2 : (100:Int) < (hi.size : Int)
      · 
        go_wp2_with fail
        refine (HA.out _).mono ?_; rintro e w8 ⟨rfl, hb8⟩
        go_wp2_with fail
        go_ret
        exact RB.mk rfl (by repeat (first | assumption | exact Bl.refl _ | apply Bl.drewN | apply Bl.drew | apply Bl.alloc | (refine Bl.dr ?_ (by assumption)) | (refine Bl.trans ?_ (by assumption))))
      go_wp2_with fail
      refine (H0.out _ (HOK.out.bl (by repeat (first | assumption | exact Bl.refl _ | apply Bl.drewN | apply Bl.drew | apply Bl.alloc | (refine Bl.dr ?_ (by assumption)) | (refine Bl.trans ?_ (by assumption))))) (HL.out.bl (by repeat (first | assumption | exact Bl.refl _ | apply Bl.drewN | apply Bl.drew | apply Bl.alloc | (refine Bl.dr ?_ (by assumption)) | (refine Bl.trans ?_ (by assumption)))))).mono ?_
      rintro e w3 ⟨rfl, hb3⟩
      have c0 := hb3.cell c0
      have c1 := hb3.cell c1
      have d0 := hb3.cell d0
      have d1 := hb3.cell d1
      have d2 := hb3.cell d2
      have hb : Bl w w3 := hb.trans hb3
      clear hb3
      go_wp2_with fail
      refine (H1.out _ (HOK.out.bl (by repeat (first | assumption | exact Bl.refl _ | apply Bl.drewN | apply Bl.drew | apply Bl.alloc | (refine Bl.dr ?_ (by assumption)) | (refine Bl.trans ?_ (by assumption)))))).mono ?_
      rintro e w4 ⟨rfl, hb4⟩
      have c0 := hb4.cell c0
      have c1 := hb4.cell c1
      have d0 := hb4.cell d0
      have d1 := hb4.cell d1
      have d2 := hb4.cell d2
      have hb : Bl w w4 := hb.trans hb4
      clear hb4
      by_cases k1 : v2 = 0
      · have k1' : (v2 != 0) = false := by simp [k1]
        have K1 := Lib.hid k1
        clear k1
        cases v1
        · 
          go_wp2_with fail
          refine (HA.out _).mono ?_; rintro e w8 ⟨rfl, hb8⟩
          go_wp2_with fail
          go_ret
          exact RB.mk rfl (by repeat (first | assumption | exact Bl.refl _ | apply Bl.drewN | apply Bl.drew | apply Bl.alloc | (refine Bl.dr ?_ (by assumption)) | (refine Bl.trans ?_ (by assumption))))
        · have HFT2 := Lib.hid (HFT.out K1.out rfl)
          have hl5 := HFT2.out.ls
          have hst1 := HFT2.out.s1
          have hst2 := HFT2.out.s2
          have hms := HFT2.out.ms
          simp only at hst1 hst2 hms
          by_cases k2 : B3 = 0
          · obtain ⟨A, B, hA1, hA2, hA3, hA4, hA5, hA6⟩ := HRF.out HFT2.out k2
            clear HRF HFT
            simp only [Prod.mk.injEq] at hA1
            obtain ⟨rfl, rfl, rfl⟩ := hA1
            subst hA2
            have hA6' : ∀ i x, l[i]? = some x → H x.key = true → (A : Int) ≤ ((i / st.toNat : Nat) : Int) ∧ ((i / st.toNat : Nat) : Int) < (B : Int) := fun i x hx hh => by
              have := hA6 i x hx hh; omega
            have g4 : (A : Int) ≤ (B : Int) := by omega
            have g0 : 0 ≤ (A : Int) := by omega
            have g5 : (B : Int) ≤ (m.length : Int) + 1 := by omega
            clear hA6 k2 hA4 hA5
            generalize (A : Int) = A at *
            generalize (B : Int) = B at *
            have HIN := Lib.hid hA6'
            clear hA6'
            have q1 : (A == B) = v4 := by rw [hA3]; by_cases h : A = B <;> simp [h]
            have q1' : (v4 != v4) = false := by simp
            have q2 : ¬ (A < 0) := by omega
            have q3 : ¬ (B < A) := by omega
            have q4 : ¬ ((m.length : Int) + 1 < B) := by omega
            have q5 : IntKind.i64.wrap ((m.length : Int) + 1) = (m.length : Int) + 1 := IntWalk.i64_in _ (by omega)
            clear hA3
            go_wp2_with fail
            refine (H2.out _).mono ?_
            rintro e w5 ⟨rfl, hb5⟩
            have c0 := hb5.cell c0
            have c1 := hb5.cell c1
            have d0 := hb5.cell d0
            have d1 := hb5.cell d1
            have d2 := hb5.cell d2
            have hb : Bl w w5 := hb.trans hb5
            clear hb5
            go_wp2_with fail
            clear q1 q1' q2 q3 q4 q5 H0 H1 H2 HW g0 g4 g5
            obtain ⟨s, rfl⟩ := Int.eq_ofNat_of_zero_le (show 0 ≤ st by omega)
            have hs0 : ((s : Int) == 0) = false := by simp; omega
            go_loopg [13] l.length (fun g i wr => ∃ k : Nat, k ≤ l.length ∧ i = .int .i64 k ∧ Bl w5 wr ∧ g = l.length - k)
            case atStart => exact ⟨0, by omega, rfl, (by repeat (first | assumption | exact Bl.refl _ | apply Bl.drewN | apply Bl.drew | apply Bl.alloc | (refine Bl.dr ?_ (by assumption)) | (refine Bl.trans ?_ (by assumption)))), rfl⟩
            case round =>
              obtain ⟨j, hj1, rfl, hd, hg⟩ := hrel
              have G := Lib.hid hg
              have c0 := hd.cell c0
              have c1 := hd.cell c1
              have d0 := hd.cell d0
              have d1 := hd.cell d1
              have d2 := hd.cell d2
              have hb : Bl w wr := hb.trans hd
              clear hg
              by_cases h2 : j < l.length
              · obtain ⟨b', off', ha2, hat'⟩ := HL.out.get h2
                obtain ⟨x, hx⟩ : ∃ x, l[j]? = some x := ⟨_, List.getElem?_eq_getElem h2⟩
                have e0 := hb.cell (hat' _ x hx).key
                have hxk := (HL.out.ok x (List.mem_of_getElem? hx)).1
                have hin := HIN.out j x hx
                have h3 := fun w => H3.out x.key w hxk
                rw [Int.toNat_natCast] at hin
                generalize H x.key = y at *
                have H3' := Lib.hid h3
                have HI := Lib.hid hin
                have ej : ((j : Int)) / (s : Int) = ((j / s : Nat) : Int) := rfl
                subst ha2
                clear hx hat' hxk h3 hin
                generalize j / s = q at *
                go_wp2_with fail
                have hw1 : ((j : Int)).toNat = j := by omega
                have hw2 : (0 : Int) ≤ (j : Int) := by omega
                have hw3 : (j : Int) < (l.length : Int) := by omega
                have c0' : ∀ z : BW wr, z.w.cell? ⟨w.heap.size, 0, none⟩ = some (.int .i64 s) := BW.cell c0
                have d0' : ∀ z : BW wr, z.w.cell? ⟨w.heap.size + 1, 0, none⟩ = some (.string lo) := BW.cell d0
                have d1' : ∀ z : BW wr, z.w.cell? ⟨w.heap.size + 1, 1, none⟩ = some (.string hi) := BW.cell d1
                have d2' : ∀ z : BW wr, z.w.cell? ⟨w.heap.size + 1, 2, none⟩ = some (.bool bd) := BW.cell d2
                have e0' : ∀ z : BW wr, z.w.cell? ⟨b', off' + j * 4, none⟩ = some (.string x.key) := BW.cell e0
                cases y
                · 
                  refine wp_region_quiet_bw wr (by kernel_rfl) (by kernel_rfl) (Bl.refl wr) ?_
                  repeat (go_big_quiet_step ((go_at_call 33; exact quietB (H3'.out _))))
                  refine wpQuiet_nil ?_
                  intro wq hw'
                  have hwq : Bl wr wq := by obtain ⟨x, hx⟩ := hw'; rw [hx]; exact x.h
                  clear hw'
                  have hd2 : Bl w5 wq := hd.trans hwq
                  clear hwq hd hb c0' d0' d1' d2' e0' hw1 hw2 hw3
                  go_wp2_with fail
                  go_roundg (l.length - (j + 1))
                  case rel => exact ⟨j + 1, by omega, by go_num, (by repeat (first | assumption | exact Bl.refl _ | apply Bl.drewN | apply Bl.drew | apply Bl.alloc | (refine Bl.dr ?_ (by assumption)) | (refine Bl.trans ?_ (by assumption)))), rfl⟩
                  case measure => have := G.out; omega
                · obtain ⟨i1, i2⟩ := HI.out rfl
                  have t1 : ¬ ((q : Int) < A) := by omega
                  have t2 : ¬ (B ≤ (q : Int)) := by omega
                  clear i1 i2
                  
                  refine wp_region_quiet_bw wr (by kernel_rfl) (by kernel_rfl) (Bl.refl wr) ?_
                  repeat (go_big_quiet_step ((go_at_call 33; exact quietB (H3'.out _))))
                  refine wpQuiet_nil ?_
                  intro wq hw'
                  have hwq : Bl wr wq := by obtain ⟨x, hx⟩ := hw'; rw [hx]; exact x.h
                  clear hw'
                  have hd2 : Bl w5 wq := hd.trans hwq
                  clear hwq hd hb c0' d0' d1' d2' e0' hw1 hw2 hw3
                  go_wp2_with fail
                  go_roundg (l.length - (j + 1))
                  case rel => exact ⟨j + 1, by omega, by go_num, (by repeat (first | assumption | exact Bl.refl _ | apply Bl.drewN | apply Bl.drew | apply Bl.alloc | (refine Bl.dr ?_ (by assumption)) | (refine Bl.trans ?_ (by assumption)))), rfl⟩
                  case measure => have := G.out; omega
              · go_wp2_with fail
                refine (HA.out _).mono ?_; rintro e w8 ⟨rfl, hb8⟩
                go_wp2_with fail
                go_ret
                exact RB.mk rfl (by repeat (first | assumption | exact Bl.refl _ | apply Bl.drewN | apply Bl.drew | apply Bl.alloc | (refine Bl.dr ?_ (by assumption)) | (refine Bl.trans ?_ (by assumption))))
          · have k2' : (B3 != 0) = true := by simpa using k2
            clear k2
            
            go_wp2_with fail
            refine (HA.out _).mono ?_; rintro e w8 ⟨rfl, hb8⟩
            go_wp2_with fail
            go_ret
            exact RB.mk rfl (by repeat (first | assumption | exact Bl.refl _ | apply Bl.drewN | apply Bl.drew | apply Bl.alloc | (refine Bl.dr ?_ (by assumption)) | (refine Bl.trans ?_ (by assumption))))
      · have k1' : (v2 != 0) = true := by simpa using k1
        clear k1
        
        go_wp2_with fail
        refine (HA.out _).mono ?_; rintro e w8 ⟨rfl, hb8⟩
        go_wp2_with fail
        go_ret
        exact RB.mk rfl (by repeat (first | assumption | exact Bl.refl _ | apply Bl.drewN | apply Bl.drew | apply Bl.alloc | (refine Bl.dr ?_ (by assumption)) | (refine Bl.trans ?_ (by assumption))))
    · clear hwb
      
      go_wp2_with fail
      refine (HA.out _).mono ?_; rintro e w8 ⟨rfl, hb8⟩
      go_wp2_with fail
      go_ret
      exact RB.mk rfl (by repeat (first | assumption | exact Bl.refl _ | apply Bl.drewN | apply Bl.drew | apply Bl.alloc | (refine Bl.dr ?_ (by assumption)) | (refine Bl.trans ?_ (by assumption))))
  · 
    go_wp2_with fail
    refine (HA.out _).mono ?_; rintro e w8 ⟨rfl, hb8⟩
    go_wp2_with fail
    go_ret
    exact RB.mk rfl (by repeat (first | assumption | exact Bl.refl _ | apply Bl.drewN | apply Bl.drew | apply Bl.alloc | (refine Bl.dr ?_ (by assumption)) | (refine Bl.trans ?_ (by assumption))))
end Go.Proofs.Yteafcbpogomioaa

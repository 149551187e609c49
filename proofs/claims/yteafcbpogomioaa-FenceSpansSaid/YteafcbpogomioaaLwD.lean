/-
  The law FenceSpans, walked.
-/
import Derived.Test.YteafcbpogomioaaPlA
namespace Go.Proofs.Yteafcbpogomioaa
open Go.RowKit
set_option linter.unusedSimpArgs false
set_option linter.unusedVariables false

set_option maxRecDepth 100000 in
set_option maxHeartbeats 4000000 in
theorem lawSpans (a : Option Addr) (c : Nat) (f : Fnc) (a2 : Option Addr) (c2 : Nat) (l : List Ent) (k : ByteArray) (w : World)
    (hm : Strs w a f.marks) (hmn : f.marks.length ≤ maxLen) (hs1 : -9223372036854775808 ≤ f.step) (hs2 : f.step ≤ 9223372036854775807)
    (hl : Ents w a2 l) (hn : l.length ≤ c2) (hc : c2 ≤ maxLen) (hk : k.size ≤ maxLen) :
    Calls Try.prog 7 #[f.v a c, .slice a2 l.length c2, .string k] w (RB w (.bool true)) := by
  have HA := Lib.hid (fun w => lawAwake w)
  have HFar := Lib.hid (fun w h => lawFar a2 c2 l w h (Nat.le_trans hn hc))
  have hW := fun w h => lawWide a c f w h hmn
  have h0 := fun w h h' => fenceFits a c f a2 c2 l w h h' (Nat.le_trans hn hc)
  have h1 := fun k w h h' hk => fenceFind a c f a2 c2 l k w h h' (Nat.le_trans hn hc) hk hn hc
  have hml : maxLen = 9223372036854775807 := by unfold maxLen; rfl
  have h2 := fun k w h hk => fenceSpan a c f l.length k w h hk (by omega) (by omega)
  have h3 := fun w h => refFind a2 c2 l k w h (Nat.le_trans hn hc) hk
  have hfok : f.marks.length ≤ 5010 → FOk w a f := fun h => ⟨hm, by omega, hs1, hs2⟩
  have hsp := fun (h : (ffits f l).2 = 0) (h' : (ffits f l).1 = true) i x (hx : l[i]? = some x) => spans_at (fits_facts h h') h h' hx
  have hfs := fun (h : (ffits f l).2 = 0) (h' : (ffits f l).1 = true) => find_same h h' k
  have hft := fun (h : (ffits f l).2 = 0) (h' : (ffits f l).1 = true) => fits_facts h h'
  have HL := Lib.hid hl
  have HMk := Lib.hid hm
  generalize (ffits f l).1 = v1 at *
  generalize (ffits f l).2 = v2 at *
  have hF1 := h1 k
  clear hml
  obtain ⟨st, m⟩ := f
  unfold Fnc.v at *
  simp only at hW h0 h1 hF1 h2 hs1 hs2 hfok ⊢
  have HW := Lib.hid hW
  have H0 := Lib.hid h0
  have H1 := Lib.hid h1
  have HF1 := Lib.hid hF1
  have H2 := Lib.hid h2
  have H3 := Lib.hid h3
  have HOk := Lib.hid hfok
  have HSP := Lib.hid hsp
  have HFS := Lib.hid hfs
  have HFT := Lib.hid hft
  have HK := Lib.hid hk
  clear hW h0 h1 hF1 h2 h3 hfok hm hl hsp hfs hft hk
  go_enter Try.func7, Try.ntmps7
  go_wp2_with fail
  refine (HFar.out _ (HL.out.bl (by repeat (first | assumption | exact Bl.refl _ | apply Bl.drewN | apply Bl.drew | apply Bl.alloc | (refine Bl.dr ?_ (by assumption)) | (refine Bl.trans ?_ (by assumption)))))).mono ?_; rintro e w1 ⟨fb, rfl, hfb, hb1⟩
  have c0 : w1.cell? ⟨w.heap.size, 0, none⟩ = some (.int .i64 st) := hb1.cell (by simp [go_sem])
  have c1 : w1.cell? ⟨w.heap.size, 1, none⟩ = some (.slice a m.length c) := hb1.cell (by simp [go_sem])
  have hb : Bl w w1 := (by repeat (first | assumption | exact Bl.refl _ | apply Bl.drewN | apply Bl.drew | apply Bl.alloc | (refine Bl.dr ?_ (by assumption)) | (refine Bl.trans ?_ (by assumption))))
  clear hb1 hfb
  cases fb
  · go_wp2_with fail
    refine (HW.out _ (HMk.out.bl (by repeat (first | assumption | exact Bl.refl _ | apply Bl.drewN | apply Bl.drew | apply Bl.alloc | (refine Bl.dr ?_ (by assumption)) | (refine Bl.trans ?_ (by assumption)))))).mono ?_; rintro e w2 ⟨wb, rfl, hwb, hb2⟩
    have c0 := hb2.cell c0
    have c1 := hb2.cell c1
    have hb : Bl w w2 := hb.trans hb2
    clear hb2
    cases wb
    · have hok := HOk.out (hwb rfl)
      have HOK := Lib.hid hok
      clear hwb hok
      by_cases g1 : (100:Int) < (k.size : Int)
      · 
        go_wp2_with fail
        refine (HA.out _).mono ?_; rintro e w8 ⟨rfl, hb8⟩
        go_wp2_with fail
        go_ret
        exact RB.mk rfl (by repeat (first | assumption | exact Bl.refl _ | apply Bl.drewN | apply Bl.drew | apply Bl.alloc | (refine Bl.dr ?_ (by assumption)) | (refine Bl.trans ?_ (by assumption))))
      go_wp2_with fail
      refine (H0.out _ (HOK.out.bl (by repeat (first | assumption | exact Bl.refl _ | apply Bl.drewN | apply Bl.drew | apply Bl.alloc | (refine Bl.dr ?_ (by assumption)) | (refine Bl.trans ?_ (by assumption))))) (HL.out.bl (by repeat (first | assumption | exact Bl.refl _ | apply Bl.drewN | apply Bl.drew | apply Bl.alloc | (refine Bl.dr ?_ (by assumption)) | (refine Bl.trans ?_ (by assumption)))))).mono ?_
      rintro e w3 ⟨rfl, hb3⟩
      have c0 := hb3.cell c0
      have c1 := hb3.cell c1
      have hb : Bl w w3 := hb.trans hb3
      clear hb3
      by_cases k1 : v2 = 0
      · have k1' : (v2 != 0) = false := by simp [k1]
        have K1 := Lib.hid k1
        clear k1
        cases v1
        · 
          go_wp2_with fail
          refine (HA.out _).mono ?_; rintro e w8 ⟨rfl, hb8⟩
          go_wp2_with fail
          go_ret
          exact RB.mk rfl (by repeat (first | assumption | exact Bl.refl _ | apply Bl.drewN | apply Bl.drew | apply Bl.alloc | (refine Bl.dr ?_ (by assumption)) | (refine Bl.trans ?_ (by assumption))))
        · have HSP2 := Lib.hid (HSP.out K1.out rfl)
          have HFS2 := Lib.hid (HFS.out K1.out rfl)
          have HFT2 := Lib.hid (HFT.out K1.out rfl)
          have hl5 := HFT2.out.ls
          clear HSP HFS HFT
          go_wp2_with fail
          go_loopg [9] l.length (fun g i wr => ∃ k : Nat, k ≤ l.length ∧ i = .int .i64 k ∧ Bl w3 wr ∧ g = l.length - k)
          case atStart => exact ⟨0, by omega, rfl, (by repeat (first | assumption | exact Bl.refl _ | apply Bl.drewN | apply Bl.drew | apply Bl.alloc | (refine Bl.dr ?_ (by assumption)) | (refine Bl.trans ?_ (by assumption)))), rfl⟩
          case round =>
            obtain ⟨j, hj1, rfl, hd, hg⟩ := hrel
            have G := Lib.hid hg
            have c0 := hd.cell c0
            have c1 := hd.cell c1
            have hb : Bl w wr := hb.trans hd
            clear hg
            by_cases h2 : j < l.length
            · obtain ⟨b', off', ha2, hat'⟩ := HL.out.get h2
              obtain ⟨x, hx⟩ : ∃ x, l[j]? = some x := ⟨_, List.getElem?_eq_getElem h2⟩
              have e0 := hb.cell (hat' _ x hx).key
              have hxk := (HL.out.ok x (List.mem_of_getElem? hx)).1
              obtain ⟨A, B, hA1, hA2, hA3, hA4, hA5, hA6, hA7, hA8⟩ := HSP2.out j x hx
              have g2 := H2.out x.key
              have g1 := H1.out x.key
              rw [hA1] at g2
              rw [hA2] at g1
              simp only at g1 g2
              have G1 := Lib.hid g1
              have G2 := Lib.hid g2
              have HXK := Lib.hid hxk
              have H2' := Lib.hid h2
              have hw1 : ((j : Int)).toNat = j := by omega
              have hw2 : (0 : Int) ≤ (j : Int) := by omega
              have hw3 : (j : Int) < (l.length : Int) := by omega
              subst ha2
              clear hx hat' hxk hA1 hA2 g1 g2 hw1 hw2 hw3
              go_wp2_with fail
              have c0' : ∀ z : BW wr, z.w.cell? ⟨w.heap.size, 0, none⟩ = some (.int .i64 st) := BW.cell c0
              have c1' : ∀ z : BW wr, z.w.cell? ⟨w.heap.size, 1, none⟩ = some (.slice a m.length c) := BW.cell c1
              have e0' : ∀ z : BW wr, z.w.cell? ⟨b', off' + j * 4, none⟩ = some (.string x.key) := BW.cell e0
              
              refine wp_region_quiet_bw wr (by kernel_rfl) (by kernel_rfl) (Bl.refl wr) ?_
              repeat (go_big_quiet_step ((go_at_call 29; exact quietB (G2.out _ (HOK.out.bl (hb.trans (BW.h _))) HXK.out))))
              refine wpQuiet_nil ?_
              intro wq hw'
              have hwq : Bl wr wq := by obtain ⟨x, hx⟩ := hw'; rw [hx]; exact x.h
              clear hw'
              clear c0' c1' e0'
              have c0 := hwq.cell c0
              have c1 := hwq.cell c1
              have e0 := hwq.cell e0
              have hb : Bl w wq := hb.trans hwq
              have hd2 : Bl w3 wq := hd.trans hwq
              clear hwq hd
              go_wp2_with fail
              have hw1 : ((j : Int)).toNat = j := by omega
              have hw2 : (0 : Int) ≤ (j : Int) := by omega
              have hw3 : (j : Int) < (l.length : Int) := by omega
              have c0' : ∀ z : BW wq, z.w.cell? ⟨w.heap.size, 0, none⟩ = some (.int .i64 st) := BW.cell c0
              have c1' : ∀ z : BW wq, z.w.cell? ⟨w.heap.size, 1, none⟩ = some (.slice a m.length c) := BW.cell c1
              have e0' : ∀ z : BW wq, z.w.cell? ⟨b', off' + j * 4, none⟩ = some (.string x.key) := BW.cell e0
              
              refine wp_region_quiet_bw wq (by kernel_rfl) (by kernel_rfl) (Bl.refl wq) ?_
              repeat (go_big_quiet_step ((go_at_call 27; exact quietB (G1.out _ (HOK.out.bl (hb.trans (BW.h _))) (HL.out.bl (hb.trans (BW.h _))) HXK.out))))
              refine wpQuiet_nil ?_
              intro wq2 hw'
              have hwq2 : Bl wq wq2 := by obtain ⟨x, hx⟩ := hw'; rw [hx]; exact x.h
              clear hw'
              clear c0' c1' e0' hw1 hw2 hw3
              have c0 := hwq2.cell c0
              have k2 : ((j : Int) != (j : Int)) = false := by simp
              have t1 : ¬ ((j : Int) < A) := by omega
              have t2 : ¬ (B ≤ (j : Int)) := by omega
              have t3 : ¬ (st < B - A) := by omega
              have t4 : ¬ (B - A < 1) := by omega
              have t5 : IntKind.i64.wrap (B - A) = B - A := IntWalk.i64_in _ (by omega)
              have hd3 : Bl w3 wq2 := hd2.trans hwq2
              clear hwq2 hd2 hb
              go_wp2_with fail
              go_roundg (l.length - (j + 1))
              case rel => exact ⟨j + 1, by omega, by go_num, (by repeat (first | assumption | exact Bl.refl _ | apply Bl.drewN | apply Bl.drew | apply Bl.alloc | (refine Bl.dr ?_ (by assumption)) | (refine Bl.trans ?_ (by assumption)))), rfl⟩
              case measure => have := G.out; omega
            · have hf1 := HF1.out
              have hfs := HFS2.out
              rw [hfs] at hf1
              have h3 := H3.out
              clear hfs
              generalize (fnd l k).1 = v5 at *
              generalize (fnd l k).2 = v6 at *
              have F1 := Lib.hid hf1
              have F3 := Lib.hid h3
              have q1 : (v5 == v5) = true := by simp
              have q2 : (v6 == v6) = true := by simp
              have q3 : ¬ (j : Int) < (l.length : Int) := by omega
              clear hf1 h3 h2
              go_wp2_with fail
              refine (F1.out _ (HOK.out.bl (by repeat (first | assumption | exact Bl.refl _ | apply Bl.drewN | apply Bl.drew | apply Bl.alloc | (refine Bl.dr ?_ (by assumption)) | (refine Bl.trans ?_ (by assumption))))) (HL.out.bl (by repeat (first | assumption | exact Bl.refl _ | apply Bl.drewN | apply Bl.drew | apply Bl.alloc | (refine Bl.dr ?_ (by assumption)) | (refine Bl.trans ?_ (by assumption))))) HK.out).mono ?_
              rintro e w4 ⟨rfl, hb4⟩
              have hb : Bl w w4 := hb.trans hb4
              clear hb4
              go_wp2_with fail
              refine (F3.out _ (HL.out.bl (by repeat (first | assumption | exact Bl.refl _ | apply Bl.drewN | apply Bl.drew | apply Bl.alloc | (refine Bl.dr ?_ (by assumption)) | (refine Bl.trans ?_ (by assumption)))))).mono ?_
              rintro e w5 ⟨rfl, hb5⟩
              have hb : Bl w w5 := hb.trans hb5
              clear hb5
              go_wp2_with fail
              refine (HA.out _).mono ?_; rintro e w8 ⟨rfl, hb8⟩
              go_wp2_with fail
              go_ret
              exact RB.mk rfl (by repeat (first | assumption | exact Bl.refl _ | apply Bl.drewN | apply Bl.drew | apply Bl.alloc | (refine Bl.dr ?_ (by assumption)) | (refine Bl.trans ?_ (by assumption))))
      · have k1' : (v2 != 0) = true := by simpa using k1
        clear k1
        
        go_wp2_with fail
        refine (HA.out _).mono ?_; rintro e w8 ⟨rfl, hb8⟩
        go_wp2_with fail
        go_ret
        exact RB.mk rfl (by repeat (first | assumption | exact Bl.refl _ | apply Bl.drewN | apply Bl.drew | apply Bl.alloc | (refine Bl.dr ?_ (by assumption)) | (refine Bl.trans ?_ (by assumption))))
    · clear hwb
      
      go_wp2_with fail
      refine (HA.out _).mono ?_; rintro e w8 ⟨rfl, hb8⟩
      go_wp2_with fail
      go_ret
      exact RB.mk rfl (by repeat (first | assumption | exact Bl.refl _ | apply Bl.drewN | apply Bl.drew | apply Bl.alloc | (refine Bl.dr ?_ (by assumption)) | (refine Bl.trans ?_ (by assumption))))
  · 
    go_wp2_with fail
    refine (HA.out _).mono ?_; rintro e w8 ⟨rfl, hb8⟩
    go_wp2_with fail
    go_ret
    exact RB.mk rfl (by repeat (first | assumption | exact Bl.refl _ | apply Bl.drewN | apply Bl.drew | apply Bl.alloc | (refine Bl.dr ?_ (by assumption)) | (refine Bl.trans ?_ (by assumption))))
end Go.Proofs.Yteafcbpogomioaa


/-
  The laws WordsSplits, WordsNames, WordsQuotes walked.
-/
import Derived.Test.YtfjdcfmoodlnaaaDoorWoS
import Derived.Test.YtfjdcfmoodlnaaaDoorWoN
namespace Go.Proofs.YtfjdcfmoodlnaaaDoor
open Go.RowKit
set_option linter.unusedSimpArgs false
set_option linter.unusedVariables false
set_option maxRecDepth 100000

set_option maxHeartbeats 4000000 in
theorem lawSplits (s : ByteArray) (w : World) (hE : WEnv w) : Calls Tryd.prog 3 #[.string s] w (RB w (.bool true)) := by
  have HE := Lib.hid hE
  clear hE
  by_cases hfar : 3000 < s.size ∧ s.size ≤ 8192 ∨ 9000 < s.size
  · by_cases h3 : 9000 < s.size
    · have d1 : decide ((3000 : Int) < (s.size : Int)) = true := by rw [decide_eq_true_eq]; omega
      have d2 : decide ((s.size : Int) ≤ 8192) = false := by rw [decide_eq_false_iff_not]; omega
      have d3 : decide ((9000 : Int) < (s.size : Int)) = true := by rw [decide_eq_true_eq]; omega
      clear hfar
      go_enter Tryd.func3, Tryd.ntmps3
      go_wp2_with fail
      refine (lawShown _ (HE.out.bl (Bl.refl w))).mono ?_; rintro e w8 ⟨rfl, hb8⟩
      go_wp2_with fail
      go_ret
      exact RB.mk rfl (Bl.trans (Bl.refl w) hb8)
    · have d1 : decide ((3000 : Int) < (s.size : Int)) = true := by rw [decide_eq_true_eq]; omega
      have d2 : decide ((s.size : Int) ≤ 8192) = true := by rw [decide_eq_true_eq]; omega
      clear hfar
      go_enter Tryd.func3, Tryd.ntmps3
      go_wp2_with fail
      refine (lawShown _ (HE.out.bl (Bl.refl w))).mono ?_; rintro e w8 ⟨rfl, hb8⟩
      go_wp2_with fail
      go_ret
      exact RB.mk rfl (Bl.trans (Bl.refl w) hb8)
  · have hsz : s.size ≤ 9000 := by omega
    have H1 := Lib.hid (fun w h => woSplit s (by omega) w h)
    have H2 := Lib.hid (fun w => refSplit s (by omega) w)
    have d3 : decide ((9000 : Int) < (s.size : Int)) = false := by rw [decide_eq_false_iff_not]; omega
    have hres : (wsplit s.data.toList).1.length ≤ 100000 := by
      unfold wsplit
      split
      · simp
      · split
        · simp
        · split
          · simp
          · rename_i fs hfs
            split
            · simp
            · rename_i hno
              have : ¬ 64 < fs.length := fun h => hno (.inr h)
              simp only
              omega
    generalize wsplit s.data.toList = r at H1 H2 hres
    obtain ⟨fl, en⟩ := r
    have HLn := Lib.hid hres
    by_cases h30 : 3000 < s.size
    all_goals
      first
        | (have d1 : decide ((3000 : Int) < (s.size : Int)) = true := by rw [decide_eq_true_eq]; omega
           have d2 : decide ((s.size : Int) ≤ 8192) = false := by rw [decide_eq_false_iff_not]; omega)
        | have d1 : decide ((3000 : Int) < (s.size : Int)) = false := by rw [decide_eq_false_iff_not]; omega
      clear hfar hres
      go_enter Tryd.func3, Tryd.ntmps3
      go_wp2_with fail
      refine (H1.out _ HE.out.esc).mono ?_; rintro e w1 ⟨v, rfl, ⟨vl, rfl, a, c, rfl, hF, -, -⟩, hb1⟩
      have HF := Lib.hid hF
      clear hF
      go_wp2_with fail
      refine (H2.out _).mono ?_; rintro e w2 ⟨v, rfl, ⟨vl, rfl, a2, c2, rfl, hG, -, -⟩, hb2⟩
      have hbw2 : Bl w w2 := hb1.trans hb2
      have hF2 := HF.out.bl hb2
      have HF2 := Lib.hid hF2
      have HG := Lib.hid hG
      clear hF2 hG hb2
      go_wp2_with fail
      refine (refSame _ _ _ _ fl _ HF2.out HG.out HLn.out).mono ?_; rintro e w3 ⟨rfl, hb3⟩
      have hbw3 : Bl w w3 := hbw2.trans hb3
      clear hb3
      go_wp2_with fail
      refine (lawShown _ (HE.out.bl hbw3)).mono ?_; rintro e w8 ⟨rfl, hb8⟩
      go_wp2_with fail
      go_ret
      exact RB.mk rfl (Bl.trans hbw3 hb8)
set_option maxHeartbeats 4000000 in
theorem lawNames (s : ByteArray) (low high : Int) (w : World) (l0 : -9223372036854775808 ≤ low) (l1 : low ≤ 9223372036854775807) (h0 : -9223372036854775808 ≤ high) (h1 : high ≤ 9223372036854775807) (hE : WEnv w) : Calls Tryd.prog 4 #[.string s, .int .i64 low, .int .i64 high] w (RB w (.bool true)) := by
  have HE := Lib.hid hE
  clear hE
  by_cases hfar : 1000 < s.size
  · have d1 : (1000 : Int) < (s.size : Int) := by omega
    clear hfar
    go_enter Tryd.func4, Tryd.ntmps4
    go_wp2_with fail
    refine (lawShown _ (HE.out.bl (Bl.refl w))).mono ?_; rintro e w8 ⟨rfl, hb8⟩
    go_wp2_with fail
    go_ret
    exact RB.mk rfl (Bl.trans (Bl.refl w) hb8)
  · have d1 : ¬ (1000 : Int) < (s.size : Int) := by omega
    have H1 := Lib.hid (fun w h => woInt s low high (by omega) w h)
    have H2 := Lib.hid (fun w => refInt s low high (by omega) w)
    have H3 := Lib.hid (fun w => woName s (by omega) w)
    have H4 := Lib.hid (fun w => refName s (by omega) w)
    have H5 := Lib.hid (fun w h => woDigits low l0 l1 w h)
    have H6 := Lib.hid (fun w => refDigits _ low rfl l0 l1 w)
    have H7 := Lib.hid (fun w h => woDigits high h0 h1 w h)
    have H8 := Lib.hid (fun w => refDigits _ high rfl h0 h1 w)
    generalize wint s.data.toList low high = r at H1 H2
    generalize nameB s.data.toList = nb at H3 H4
    generalize (⟨(Lib.itoa low).toArray⟩ : ByteArray) = dl at H5 H6
    generalize (⟨(Lib.itoa high).toArray⟩ : ByteArray) = dh at H7 H8
    obtain ⟨iv, en⟩ := r
    clear hfar
    go_enter Tryd.func4, Tryd.ntmps4
    go_wp2_with fail
    refine (H1.out _ HE.out).mono ?_; rintro e w1 ⟨rfl, hb1⟩
    go_wp2_with fail
    refine (H2.out _).mono ?_; rintro e w2 ⟨rfl, hb2⟩
    have hb : Bl w w2 := hb1.trans hb2
    clear hb1 hb2
    go_wp2_with fail
    refine (H3.out _).mono ?_; rintro e w3 ⟨rfl, hb3⟩
    have hb : Bl w w3 := hb.trans hb3
    clear hb3
    go_wp2_with fail
    refine (H4.out _).mono ?_; rintro e w4 ⟨rfl, hb4⟩
    have hb : Bl w w4 := hb.trans hb4
    clear hb4
    go_wp2_with fail
    refine (H5.out _ (HE.out.bl hb)).mono ?_; rintro e w5 ⟨rfl, hb5⟩
    have hb : Bl w w5 := hb.trans hb5
    clear hb5
    go_wp2_with fail
    refine (H6.out _).mono ?_; rintro e w6 ⟨rfl, hb6⟩
    have hb : Bl w w6 := hb.trans hb6
    clear hb6
    go_wp2_with fail
    refine (H7.out _ (HE.out.bl hb)).mono ?_; rintro e w7 ⟨rfl, hb7⟩
    have hb : Bl w w7 := hb.trans hb7
    clear hb7
    go_wp2_with fail
    refine (H8.out _).mono ?_; rintro e w9 ⟨rfl, hb9⟩
    have hb : Bl w w9 := hb.trans hb9
    clear hb9
    go_wp2_with fail
    refine (lawShown _ (HE.out.bl hb)).mono ?_; rintro e w8 ⟨rfl, hb8⟩
    go_wp2_with fail
    go_ret
    exact RB.mk rfl (Bl.trans hb hb8)
set_option maxHeartbeats 4000000 in
theorem lawQuotes (s : ByteArray) (w : World) (hE : WEnv w) : Calls Tryd.prog 5 #[.string s] w (RB w (.bool true)) := by
  have HE := Lib.hid hE
  clear hE
  by_cases hfar : 1000 < s.size
  · have d1 : (1000 : Int) < (s.size : Int) := by omega
    clear hfar
    go_enter Tryd.func5, Tryd.ntmps5
    go_wp2_with fail
    refine (lawShown _ (HE.out.bl (Bl.refl w))).mono ?_; rintro e w8 ⟨rfl, hb8⟩
    go_wp2_with fail
    go_ret
    exact RB.mk rfl (Bl.trans (Bl.refl w) hb8)
  · have d1 : ¬ (1000 : Int) < (s.size : Int) := by omega
    have H1 := Lib.hid (fun w h => woUnquote s (by omega) w h)
    have H2 := Lib.hid (fun w => refUnquote s (by omega) w)
    have H3 := Lib.hid (fun w h => woQuote s (by omega) w h)
    have H4 := Lib.hid (fun w => refQuote s (by omega) w)
    generalize unqR s.data.toList = r at H1 H2
    obtain ⟨ul, en⟩ := r
    simp only at H1 H2
    generalize (⟨ul.toArray⟩ : ByteArray) = us at H1 H2
    generalize (⟨(quoteW s.data.toList).toArray⟩ : ByteArray) = qs at H3 H4
    clear hfar
    go_enter Tryd.func5, Tryd.ntmps5
    go_wp2_with fail
    refine (H1.out _ HE.out.esc).mono ?_; rintro e w1 ⟨rfl, hb1⟩
    go_wp2_with fail
    refine (H2.out _).mono ?_; rintro e w2 ⟨rfl, hb2⟩
    have hb : Bl w w2 := hb1.trans hb2
    clear hb1 hb2
    go_wp2_with fail
    refine (H3.out _ (HE.out.bl hb).esc).mono ?_; rintro e w3 ⟨rfl, hb3⟩
    have hb : Bl w w3 := hb.trans hb3
    clear hb3
    go_wp2_with fail
    refine (H4.out _).mono ?_; rintro e w4 ⟨rfl, hb4⟩
    have hb : Bl w w4 := hb.trans hb4
    clear hb4
    go_wp2_with fail
    refine (lawShown _ (HE.out.bl hb)).mono ?_; rintro e w8 ⟨rfl, hb8⟩
    go_wp2_with fail
    go_ret
    exact RB.mk rfl (Bl.trans hb hb8)
end Go.Proofs.YtfjdcfmoodlnaaaDoor

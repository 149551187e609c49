
/-
  The law of lists: List and ParseList are the reference's.
-/
import Derived.Test.YtfjdcfmoodlnaaaGreatDoorWoS
import Derived.Test.YtfjdcfmoodlnaaaGreatDoorWpN
import Derived.Test.YtfjdcfmoodlnaaaGreatDoorOpen
import Derived.Test.YtfjdcfmoodlnaaaGreatDoorWoV
import Derived.Deep.OwnRows
namespace Go.Proofs.YtfjdcfmoodlnaaaGreatDoor
open Go.RowKit Go.ChangeShapes Go.WideShapes Go.Deep Go.Joins
set_option linter.unusedSimpArgs false
set_option linter.unusedVariables false
set_option maxRecDepth 100000

section
variable {H : Type} {enc : TypeId × Value → H} {w : World}
theorem open_nums {fuel : Nat} {cs : List Value} {x : DataW H × List MemPlace} (h : DataW.trod enc Tryz.prog w 0 (fun _ => true) true fuel 22 cs = some x) :
    ∃ a c l, cs = [.slice a l.length c] ∧ Nums w a l ∧ l.length ≤ c ∧ c ≤ maxLen ∧ ∀ (j : Nat) x, l[j]? = some x → -9223372036854775808 ≤ x ∧ x ≤ 9223372036854775807 := by
  rcases open_slice Tryz.underlying22 h with ⟨rfl, _⟩ | ⟨a, len, cap, m, n, D, Pl, rfl, _, hl, hm, hmm, _, hi⟩
  · exact ⟨none, 0, [], rfl, ⟨fun h => absurd rfl h⟩, Nat.le_refl _, by unfold maxLen; omega, by simp⟩
  · have hm' : m = cap := by simpa using hmm
    rw [show Tryz.prog.cellsOf 3 = 1 by kernel_rfl] at hi
    have each : ∀ i, i < len → ∃ y : Int, w.cell? (a.add i) = some (.int .i64 y) ∧ -9223372036854775808 ≤ y ∧ y ≤ 9223372036854775807 := by
      intro i hlt
      obtain ⟨cs', hc, ht⟩ := hi i (by omega)
      obtain ⟨_, hcl, hat⟩ := World.cells?_some hc
      obtain ⟨s, e0, _, b⟩ := DataW.trod_int Tryz.underlying3 ht
      subst e0
      simp [Lit.wf, IntKind.min, IntKind.max, IntKind.signed, IntKind.bits] at b
      have g0 := hat 0 (by omega)
      rw [Go.Deep.add_add, Nat.mul_one, Nat.add_zero] at g0
      exact ⟨s, g0, by omega, by omega⟩
    rcases Nat.eq_zero_or_pos len with hz | hpos
    · subst hz
      exact ⟨some a, cap, [], rfl, ⟨fun h => absurd rfl h⟩, by simp, hm, by simp⟩
    have hs : a.spot = none := by
      obtain ⟨y, g, _⟩ := each 0 hpos
      have := World.cell?_spot g
      simpa [Addr.add] using this
    obtain ⟨b, o, s⟩ := a
    simp only at hs; subst hs
    simp only [addr_add] at each
    obtain ⟨l, hll, hlq⟩ := list_of _ len each
    refine ⟨some ⟨b, o, none⟩, cap, l, by rw [hll], ⟨fun hn => ⟨b, o, rfl, fun i y hy => (hlq i y hy).1⟩⟩, by omega, hm, fun j y hy => (hlq j y hy).2⟩
/-- Numbers that came in. -/
theorem arg_nums {base : Nat} {v : Value} {d : DataW H} {p : List MemPlace} (hv : Value.okWide Tryz.prog w .any base 22 v) (h : DataW.Trod enc Tryz.prog w 0 (fun _ => true) true 22 v d p) :
    ∃ a c l, v = .slice a l.length c ∧ Nums w a l ∧ l.length ≤ c ∧ c ≤ maxLen ∧ ∀ (j : Nat) x, l[j]? = some x → -9223372036854775808 ≤ x ∧ x ≤ 9223372036854775807 := by
  obtain ⟨a, n, c, rfl⟩ := okWide_slice Tryz.underlying22 hv
  obtain ⟨fuel, hf⟩ := h
  obtain ⟨a', c', l, h1, h2, h3, h4, h5⟩ := open_nums hf
  simp [Value.cells] at h1
  obtain ⟨rfl, rfl, rfl⟩ := h1
  exact ⟨_, _, l, rfl, h2, h3, h4, h5⟩
end
set_option maxHeartbeats 1000000 in
theorem lawSameN (a b : Option Addr) (c d : Nat) (l : List Int) (w : World) (ha : Nums w a l) (hb : Nums w b l) (hl : l.length ≤ 100000) : Calls Tryz.prog 11 #[.slice a l.length c, .slice b l.length d] w (RB w (.bool true)) := by
  have HA := Lib.hid ha
  have HB := Lib.hid hb
  clear ha hb
  go_enter Tryz.func11, Tryz.ntmps11
  go_wp2_with fail
  go_loopg [5] l.length (fun g i wr => ∃ k : Nat, k ≤ l.length ∧ i = .int .i64 k ∧ Bl w wr ∧ g = l.length - k)
  case atStart => exact ⟨0, by omega, rfl, Bl.refl _, rfl⟩
  case round =>
    obtain ⟨k, hk, rfl, hbw, hg⟩ := hrel
    have G := Lib.hid hg
    clear hg
    by_cases hkl : k < l.length
    · obtain ⟨b1, o1, rfl, h1⟩ := (HA.out.bl hbw).get hkl
      obtain ⟨b2, o2, rfl, h2⟩ := (HB.out.bl hbw).get hkl
      obtain ⟨x, hx⟩ : ∃ x, l[k]? = some x := ⟨_, List.getElem?_eq_getElem hkl⟩
      have p0 := h1 k x hx
      have q0 := h2 k x hx
      have i1 : (0 : Int) ≤ (k : Int) := by omega
      have i2 : (k : Int) < (l.length : Int) := by omega
      have hne : (x != x) = false := by simp
      clear h1 h2 hx
      go_wp2_with fail
      go_quiet (fail)
      go_wp2_with fail
      go_roundg (l.length - (k + 1))
      case rel => exact ⟨k + 1, by omega, by go_num, (by repeat (first | assumption | exact Bl.refl _ | apply Bl.drewN | apply Bl.drew | apply Bl.alloc | (refine Bl.dr ?_ (by assumption)) | (refine Bl.trans ?_ (by assumption)))), rfl⟩
      case measure => rw [G.out]; omega
    · obtain rfl : k = l.length := by omega
      go_wp2_with fail
      go_ret
      exact RB.mk rfl hbw
theorem wparse_len (s : List UInt8) : (wparse s).1.length ≤ 500 := by
  unfold wparse
  split
  · simp
  · split
    · simp
    · split
      · simp
      · split
        · simp
        · rename_i h
          show (expd _).length ≤ 500
          rw [expd_len]; omega
set_option maxHeartbeats 4000000 in
theorem lawLists (a : Option Addr) (c : Nat) (l : List Int) (s : ByteArray) (w : World) (hN : Nums w a l) (hln : l.length ≤ maxLen) (hb64 : ∀ (j : Nat) x, l[j]? = some x → -9223372036854775808 ≤ x ∧ x ≤ 9223372036854775807) (hE : WEnv w) : Calls Tryz.prog 3 #[.slice a l.length c, .string s] w (RB w (.bool true)) := by
  have HE := Lib.hid hE
  clear hE
  by_cases h510 : 510 < l.length
  · have d1 : decide ((510 : Int) < (l.length : Int)) = true := by rw [decide_eq_true_eq]; omega
    clear h510 hN hb64
    go_enter Tryz.func3, Tryz.ntmps3
    go_wp2_with fail
    refine (lawShown _ (HE.out.bl (Bl.refl w))).mono ?_; rintro e w8 ⟨rfl, hb8⟩
    go_wp2_with fail
    go_ret
    exact RB.mk rfl (Bl.trans (Bl.refl w) hb8)
  · have d1 : decide ((510 : Int) < (l.length : Int)) = false := by rw [decide_eq_false_iff_not]; omega
    by_cases h2000 : 2000 < s.size
    · have d2 : decide ((2000 : Int) < (s.size : Int)) = true := by rw [decide_eq_true_eq]; omega
      clear h510 hN hb64 h2000
      go_enter Tryz.func3, Tryz.ntmps3
      go_wp2_with fail
      refine (lawShown _ (HE.out.bl (Bl.refl w))).mono ?_; rintro e w8 ⟨rfl, hb8⟩
      go_wp2_with fail
      go_ret
      exact RB.mk rfl (Bl.trans (Bl.refl w) hb8)
    · have d2 : decide ((2000 : Int) < (s.size : Int)) = false := by rw [decide_eq_false_iff_not]; omega
      have H1 := Lib.hid (fun w h hn => woList a c l w h hn hb64 (by omega))
      have H2 := Lib.hid (fun w hn => refList a c l w hn hb64 (by omega))
      have H3 := Lib.hid (fun w h => woParse s (by omega) w h)
      have H4 := Lib.hid (fun w => refParse s (by omega) w)
      have hpl := wparse_len s.data.toList
      generalize wlist l = r at H1 H2
      generalize wparse s.data.toList = p at H3 H4 hpl
      obtain ⟨r1, r2⟩ := r
      obtain ⟨p1, p2⟩ := p
      generalize (⟨r1.toArray⟩ : ByteArray) = rs at H1 H2
      have HN := Lib.hid hN
      have HPl := Lib.hid hpl
      clear hN hb64 hpl h510 h2000
      go_enter Tryz.func3, Tryz.ntmps3
      go_wp2_with fail
      refine (H1.out _ HE.out HN.out).mono ?_; rintro e w1 ⟨rfl, hb1⟩
      go_wp2_with fail
      refine (H2.out _ (HN.out.bl hb1)).mono ?_; rintro e w2 ⟨rfl, hb2⟩
      have hbw2 := hb1.trans hb2
      clear hb1 hb2
      go_wp2_with fail
      refine (H3.out _ (HE.out.bl hbw2)).mono ?_; rintro e w3 ⟨v, rfl, ⟨a3, c3, rfl, hM⟩, hb3⟩
      have HM := Lib.hid hM
      have hbw3 := hbw2.trans hb3
      clear hM hb3 hbw2
      go_wp2_with fail
      refine (H4.out _).mono ?_; rintro e w4 ⟨v, rfl, ⟨a4, c4, rfl, hK⟩, hb4⟩
      have hM4 := HM.out.bl hb4
      have HM4 := Lib.hid hM4
      have HK := Lib.hid hK
      have hbw4 := hbw3.trans hb4
      clear hK hb4 hbw3 hM4
      go_wp2_with fail
      refine (lawSameN _ _ _ _ p1 _ HM4.out HK.out (by have := HPl.out; omega)).mono ?_; rintro e w5 ⟨rfl, hb5⟩
      have hbw5 := hbw4.trans hb5
      clear hb5 hbw4
      go_wp2_with fail
      refine (lawShown _ (HE.out.bl hbw5)).mono ?_; rintro e w8 ⟨rfl, hb8⟩
      go_wp2_with fail
      go_ret
      exact RB.mk rfl (Bl.trans hbw5 hb8)
end Go.Proofs.YtfjdcfmoodlnaaaGreatDoor

/-
  The law KeysMeets, walked.
-/
import Derived.Test.YtldccffbjohokaaDoorKyG
import Derived.Deep.DeepCutAuto
import Derived.Deep.RegionHeld3
import Derived.StillTailTactics
namespace Go.Proofs.YtldccffbjohokaaDoor
open Go.RowKit
set_option linter.unusedSimpArgs false
set_option linter.unusedVariables false

theorem farC (s : ByteArray) (w : World) (hs : s.size ≤ maxLen) : Calls Tryd.prog 11 #[.string s] w (RD w (.bool (decide (200 < s.size)))) := lawFar s w hs
theorem kchk_two (k : ByteArray) : (kchk k = 0 ∧ k.size ≤ 32) ∨ kchk k = 3 := by unfold kchk; split <;> simp <;> omega
theorem meetR_sz {r s : Rng} (hr : r.ok) (hs : s.ok) : (meet r s).1.ok := by
  unfold meet
  split
  · exact ⟨by show 0 ≤ maxLen; exact Nat.zero_le _, by show 0 ≤ maxLen; exact Nat.zero_le _⟩
  · split
    · exact ⟨by show 0 ≤ maxLen; exact Nat.zero_le _, by show 0 ≤ maxLen; exact Nat.zero_le _⟩
    · unfold meetR
      split
      · exact ⟨by simp only; split <;> first | exact hr.1 | exact hs.1, hs.2⟩
      · split
        · exact ⟨by simp only; split <;> first | exact hr.1 | exact hs.1, by simp only; split <;> first | exact hr.2 | exact hs.2⟩
        · exact ⟨by simp only; split <;> first | exact hr.1 | exact hs.1, hr.2⟩
theorem ofR_sz (k : ByteArray) (hk : k.size ≤ maxLen) : (ofR k).1.ok := by
  unfold ofR
  split
  · exact ⟨by show 0 ≤ maxLen; exact Nat.zero_le _, by show 0 ≤ maxLen; exact Nat.zero_le _⟩
  · exact ⟨hk, by have := rsdS_size k; simp only; omega⟩

set_option maxRecDepth 100000 in
set_option maxHeartbeats 4000000 in
theorem lawMeets (r s : Rng) (k : ByteArray) (w : World) (hr : r.ok) (hs : s.ok) (hk : k.size ≤ maxLen) (hT : Tabs w) :
    Calls Tryd.prog 9 #[r.v, s.v, .string k] w (RB w (.bool true)) := by
  have HA := Lib.hid (fun w h => lawAwake w h)
  have HT := Lib.hid (fun W (h : Bl w W) => tabs_bl hT h)
  have h1 := fun w => keysIn r k w hr hk
  have h2 := fun w => keysIn s k w hs hk
  have h3 := fun w => keysMeet r s w hr hs
  have h4 := fun w => keysIn (meet r s).1 k w (meetR_sz hr hs) hk
  have h5 := fun w => keysCheckRange (meet r s).1 w (meetR_sz hr hs)
  have h6 := fun w => keysEmpty r w hr
  have h7 := fun w => keysIn r r.lo w hr hr.1
  have h8 := fun w => keysOf r.lo w hr.1
  have h9 := fun w => keysIn (ofR r.lo).1 k w (ofR_sz r.lo hr.1) hk
  have h10 := fun w => keysCheck k w hk
  have m1 := fun h => @meet_err r s h
  have m2 := fun h => @meets_facts r s k h
  have m3 := kchk_two k
  generalize (rin r k).1 = a at *
  generalize (rin r k).2 = a2 at *
  generalize (rin s k).1 = b at *
  generalize (rin s k).2 = b2 at *
  generalize (meet r s).2 = v6 at *
  generalize (meet r s).1 = M at *
  generalize (rin M k).1 = c at *
  generalize (rin M k).2 = c2 at *
  generalize rchk M = mc at *
  generalize (remp r).1 = em at *
  generalize (remp r).2 = em2 at *
  generalize (rin r r.lo).1 = l1 at *
  generalize (rin r r.lo).2 = l2 at *
  generalize (ofR r.lo).2 = o2 at *
  generalize (ofR r.lo).1 = O at *
  generalize (rin O k).1 = q at *
  generalize (rin O k).2 = q2 at *
  generalize kchk k = kc at *
  obtain ⟨rl, rh, rb⟩ := r
  obtain ⟨sl, sh, sb⟩ := s
  obtain ⟨ml, mh, mb⟩ := M
  obtain ⟨ol, oh, ob⟩ := O
  have f1 := fun w => farC rl w hr.1
  have f2 := fun w => farC rh w hr.2
  have f3 := fun w => farC sl w hs.1
  have f4 := fun w => farC sh w hs.2
  have f5 := fun w => farC k w hk
  have kb : k.size ≤ maxLen := hk
  have rlb : rl.size ≤ maxLen := hr.1
  generalize decide (200 < rl.size) = b1 at *
  generalize decide (200 < rh.size) = b2' at *
  generalize decide (200 < sl.size) = b3 at *
  generalize decide (200 < sh.size) = b4 at *
  generalize decide (200 < k.size) = b5 at *
  unfold Rng.v at *
  simp only at h1 h2 h3 h4 h5 h6 h7 h8 h9 h10 m1 m2 ⊢
  have H1 := Lib.hid h1
  have H2 := Lib.hid h2
  have H3 := Lib.hid h3
  have H4 := Lib.hid h4
  have H5 := Lib.hid h5
  have H6 := Lib.hid h6
  have H7 := Lib.hid h7
  have H8 := Lib.hid h8
  have H9 := Lib.hid h9
  have H10 := Lib.hid h10
  have M1 := Lib.hid m1
  have M2 := Lib.hid m2
  have M3 := Lib.hid m3
  have F1 := Lib.hid f1
  have F2 := Lib.hid f2
  have F3 := Lib.hid f3
  have F4 := Lib.hid f4
  have F5 := Lib.hid f5
  clear h1 h2 h3 h4 h5 h6 h7 h8 h9 h10 f1 f2 f3 f4 f5 hT hr hs hk m1 m2 m3
  go_enter Tryd.func9, Tryd.ntmps9
  go_wp2_with fail
  refine (F1.out _).mono ?_; rintro e w1 ⟨rfl, hdf⟩
  have hb : Bl w w1 := (by repeat (first | assumption | exact Bl.refl _ | apply Bl.drewN | apply Bl.drew | apply Bl.alloc | (refine Bl.dr ?_ (by assumption)) | (refine Bl.trans ?_ (by assumption))))
  have c0 : w1.cell? ⟨w.heap.size, 0, none⟩ = some (.string rl) := (Bl.of_dr hdf).cell (by simp [go_sem])
  have c1 : w1.cell? ⟨w.heap.size, 1, none⟩ = some (.string rh) := (Bl.of_dr hdf).cell (by simp [go_sem])
  have c2 : w1.cell? ⟨w.heap.size, 2, none⟩ = some (.bool rb) := (Bl.of_dr hdf).cell (by simp [go_sem])
  have d0 : w1.cell? ⟨w.heap.size + 1, 0, none⟩ = some (.string sl) := (Bl.of_dr hdf).cell (by simp [go_sem])
  have d1 : w1.cell? ⟨w.heap.size + 1, 1, none⟩ = some (.string sh) := (Bl.of_dr hdf).cell (by simp [go_sem])
  have d2 : w1.cell? ⟨w.heap.size + 1, 2, none⟩ = some (.bool sb) := (Bl.of_dr hdf).cell (by simp [go_sem])
  clear hdf
  cases b1
  case true =>
    go_wp2_with fail
    refine (HA.out _ (HT.out _ (by repeat (first | assumption | exact Bl.refl _ | apply Bl.drewN | apply Bl.drew | apply Bl.alloc | (refine Bl.dr ?_ (by assumption)) | (refine Bl.trans ?_ (by assumption)))))).mono ?_; rintro e w8 ⟨rfl, hb8⟩
    go_wp2_with fail
    go_ret
    exact RB.mk rfl (by repeat (first | assumption | exact Bl.refl _ | apply Bl.drewN | apply Bl.drew | apply Bl.alloc | (refine Bl.dr ?_ (by assumption)) | (refine Bl.trans ?_ (by assumption))))
  go_wp2_with fail
  refine (F2.out _).mono ?_; rintro e w2 ⟨rfl, hdf⟩
  have hbk := Bl.of_dr hdf
  have hb : Bl w w2 := Bl.trans hb hbk
  have c0 := hbk.cell c0
  have c1 := hbk.cell c1
  have c2 := hbk.cell c2
  have d0 := hbk.cell d0
  have d1 := hbk.cell d1
  have d2 := hbk.cell d2
  have s0 := lt_of_cell c0
  have s1 := lt_of_cell d0
  simp only at s0 s1
  clear hbk
  clear hdf
  cases b2'
  case true =>
    go_wp2_with fail
    refine (HA.out _ (HT.out _ (by repeat (first | assumption | exact Bl.refl _ | apply Bl.drewN | apply Bl.drew | apply Bl.alloc | (refine Bl.dr ?_ (by assumption)) | (refine Bl.trans ?_ (by assumption)))))).mono ?_; rintro e w8 ⟨rfl, hb8⟩
    go_wp2_with fail
    go_ret
    exact RB.mk rfl (by repeat (first | assumption | exact Bl.refl _ | apply Bl.drewN | apply Bl.drew | apply Bl.alloc | (refine Bl.dr ?_ (by assumption)) | (refine Bl.trans ?_ (by assumption))))
  go_wp2_with fail
  refine (F3.out _).mono ?_; rintro e w3 ⟨rfl, hdf⟩
  have hbk := Bl.of_dr hdf
  have hb : Bl w w3 := Bl.trans hb hbk
  have c0 := hbk.cell c0
  have c1 := hbk.cell c1
  have c2 := hbk.cell c2
  have d0 := hbk.cell d0
  have d1 := hbk.cell d1
  have d2 := hbk.cell d2
  have s0 := lt_of_cell c0
  have s1 := lt_of_cell d0
  simp only at s0 s1
  clear hbk
  clear hdf
  cases b3
  case true =>
    go_wp2_with fail
    refine (HA.out _ (HT.out _ (by repeat (first | assumption | exact Bl.refl _ | apply Bl.drewN | apply Bl.drew | apply Bl.alloc | (refine Bl.dr ?_ (by assumption)) | (refine Bl.trans ?_ (by assumption)))))).mono ?_; rintro e w8 ⟨rfl, hb8⟩
    go_wp2_with fail
    go_ret
    exact RB.mk rfl (by repeat (first | assumption | exact Bl.refl _ | apply Bl.drewN | apply Bl.drew | apply Bl.alloc | (refine Bl.dr ?_ (by assumption)) | (refine Bl.trans ?_ (by assumption))))
  go_wp2_with fail
  refine (F4.out _).mono ?_; rintro e w4 ⟨rfl, hdf⟩
  have hbk := Bl.of_dr hdf
  have hb : Bl w w4 := Bl.trans hb hbk
  have c0 := hbk.cell c0
  have c1 := hbk.cell c1
  have c2 := hbk.cell c2
  have d0 := hbk.cell d0
  have d1 := hbk.cell d1
  have d2 := hbk.cell d2
  have s0 := lt_of_cell c0
  have s1 := lt_of_cell d0
  simp only at s0 s1
  clear hbk
  clear hdf
  cases b4
  case true =>
    go_wp2_with fail
    refine (HA.out _ (HT.out _ (by repeat (first | assumption | exact Bl.refl _ | apply Bl.drewN | apply Bl.drew | apply Bl.alloc | (refine Bl.dr ?_ (by assumption)) | (refine Bl.trans ?_ (by assumption)))))).mono ?_; rintro e w8 ⟨rfl, hb8⟩
    go_wp2_with fail
    go_ret
    exact RB.mk rfl (by repeat (first | assumption | exact Bl.refl _ | apply Bl.drewN | apply Bl.drew | apply Bl.alloc | (refine Bl.dr ?_ (by assumption)) | (refine Bl.trans ?_ (by assumption))))
  go_wp2_with fail
  refine (F5.out _).mono ?_; rintro e w5 ⟨rfl, hdf⟩
  have hbk := Bl.of_dr hdf
  have hb : Bl w w5 := Bl.trans hb hbk
  have c0 := hbk.cell c0
  have c1 := hbk.cell c1
  have c2 := hbk.cell c2
  have d0 := hbk.cell d0
  have d1 := hbk.cell d1
  have d2 := hbk.cell d2
  have s0 := lt_of_cell c0
  have s1 := lt_of_cell d0
  simp only at s0 s1
  clear hbk
  clear hdf
  cases b5
  case true =>
    go_wp2_with fail
    refine (HA.out _ (HT.out _ (by repeat (first | assumption | exact Bl.refl _ | apply Bl.drewN | apply Bl.drew | apply Bl.alloc | (refine Bl.dr ?_ (by assumption)) | (refine Bl.trans ?_ (by assumption)))))).mono ?_; rintro e w8 ⟨rfl, hb8⟩
    go_wp2_with fail
    go_ret
    exact RB.mk rfl (by repeat (first | assumption | exact Bl.refl _ | apply Bl.drewN | apply Bl.drew | apply Bl.alloc | (refine Bl.dr ?_ (by assumption)) | (refine Bl.trans ?_ (by assumption))))
  go_wp2_with fail
  refine (H3.out _).mono ?_; rintro e w11 ⟨rfl, hbf⟩
  have hbk := hbf
  have hb : Bl w w11 := Bl.trans hb hbk
  have c0 := hbk.cell c0
  have c1 := hbk.cell c1
  have c2 := hbk.cell c2
  have d0 := hbk.cell d0
  have d1 := hbk.cell d1
  have d2 := hbk.cell d2
  have s0 := lt_of_cell c0
  have s1 := lt_of_cell d0
  simp only at s0 s1
  clear hbk
  clear hbf
  by_cases hv : v6 = 0
  case neg =>
    obtain ⟨rfl, rfl, rfl⟩ := Rng.mk.inj (M1.out hv)
    have y1 : ((⟨#[]⟩ : ByteArray).toList == (⟨#[]⟩ : ByteArray).toList) = true := by simp
    have y2 : (v6 != 0) = true := by simpa using hv
    clear M1 M2 M3 H1 H2 H3 H4 H5 H6 H7 H8 H9 H10 F1 F2 F3 F4 F5
    go_wp2_with fail
    refine (HA.out _ (HT.out _ (by repeat (first | assumption | exact Bl.refl _ | apply Bl.drewN | apply Bl.drew | apply Bl.alloc | (refine Bl.dr ?_ (by assumption)) | (refine Bl.trans ?_ (by assumption)))))).mono ?_; rintro e w8 ⟨rfl, hb8⟩
    go_wp2_with fail
    go_ret
    exact RB.mk rfl (by repeat (first | assumption | exact Bl.refl _ | apply Bl.drewN | apply Bl.drew | apply Bl.alloc | (refine Bl.dr ?_ (by assumption)) | (refine Bl.trans ?_ (by assumption))))
  case pos =>
  obtain ⟨e1, e2, e3, e4, e5, e6, e7, e8, e9, e10, e11, e12⟩ := M2.out hv
  have e1 := e1.symm
  have e2 := e2.symm
  have e3 := e3.symm
  have e11 := e11.symm
  subst e1 e2 e3 e4 e5 e6 e7 e8 e10 e11 hv
  have E9 := Lib.hid e9
  have E12 := Lib.hid e12
  have M4 := Lib.hid (M3.out)
  clear M1 M2 M3 e9 e12 F1 F2 F3 F4 F5
  go_wp2_with fail
  refine (H1.out _).mono ?_; rintro e w12 ⟨rfl, hbf⟩
  have q0 : w12.cell? ⟨w11.heap.size, 0, none⟩ = some (.string ml) := hbf.cell (by simp [go_sem])
  have q1 : w12.cell? ⟨w11.heap.size, 1, none⟩ = some (.string mh) := hbf.cell (by simp [go_sem])
  have q2 : w12.cell? ⟨w11.heap.size, 2, none⟩ = some (.bool mb) := hbf.cell (by simp [go_sem])
  have hbk := ((Bl.refl w11).alloc _).trans hbf
  have hb : Bl w w12 := Bl.trans hb hbk
  have c0 := hbk.cell c0
  have c1 := hbk.cell c1
  have c2 := hbk.cell c2
  have d0 := hbk.cell d0
  have d1 := hbk.cell d1
  have d2 := hbk.cell d2
  have s0 := lt_of_cell c0
  have s1 := lt_of_cell d0
  simp only at s0 s1
  clear hbk
  clear hbf
  go_wp2_with fail
  refine (H2.out _).mono ?_; rintro e w13 ⟨rfl, hbf⟩
  have q0 := hbf.cell q0
  have q1 := hbf.cell q1
  have q2 := hbf.cell q2
  have hbk := hbf
  have hb : Bl w w13 := Bl.trans hb hbk
  have c0 := hbk.cell c0
  have c1 := hbk.cell c1
  have c2 := hbk.cell c2
  have d0 := hbk.cell d0
  have d1 := hbk.cell d1
  have d2 := hbk.cell d2
  have s0 := lt_of_cell c0
  have s1 := lt_of_cell d0
  simp only at s0 s1
  clear hbk
  clear hbf
  go_wp2_with fail
  refine (H4.out _).mono ?_; rintro e w14 ⟨rfl, hbf⟩
  have q0 := hbf.cell q0
  have q1 := hbf.cell q1
  have q2 := hbf.cell q2
  have hbk := hbf
  have hb : Bl w w14 := Bl.trans hb hbk
  have c0 := hbk.cell c0
  have c1 := hbk.cell c1
  have c2 := hbk.cell c2
  have d0 := hbk.cell d0
  have d1 := hbk.cell d1
  have d2 := hbk.cell d2
  have s0 := lt_of_cell c0
  have s1 := lt_of_cell d0
  simp only at s0 s1
  clear hbk
  clear hbf
  have z1 : (kc != kc) = false := by simp
  have z2 : ((0:Int) != 0) = false := by decide
  go_upto_region 9 with fail
  go_cut [3, 9, 98] (fun s3 s9 s98 wx => s3 = .pointer (some ⟨w.heap.size, 0, none⟩) ∧ s9 = .bool a ∧ s98 = .bool false ∧ Bl w wx ∧ wx.cell? ⟨w.heap.size, 0, none⟩ = some (.string rl) ∧ wx.cell? ⟨w.heap.size, 1, none⟩ = some (.string rh) ∧ wx.cell? ⟨w.heap.size, 2, none⟩ = some (.bool rb))
  case first =>
    rcases M4.out with ⟨hk0, hk1⟩ | hk0
    · subst hk0
      cases a <;> cases b
      all_goals
        go_wp2_with fail
        refine (H5.out _).mono ?_; rintro e w15 ⟨rfl, hbf⟩
        have hbk := hbf
        have hb : Bl w w15 := Bl.trans hb hbk
        have c0 := hbk.cell c0
        have c1 := hbk.cell c1
        have c2 := hbk.cell c2
        have d0 := hbk.cell d0
        have d1 := hbk.cell d1
        have d2 := hbk.cell d2
        have s0 := lt_of_cell c0
        have s1 := lt_of_cell d0
        simp only at s0 s1
        clear hbk
        go_wp2_with fail
        go_meet
        exact ⟨rfl, rfl, rfl, hb, c0, c1, c2⟩
    · subst hk0
      cases a <;> cases b
      all_goals
        go_wp2_with fail
        go_meet
        exact ⟨rfl, rfl, rfl, hb, c0, c1, c2⟩
  case rest =>
    clear hb c0 c1 c2 d0 d1 d2 s0 s1 q0 q1 q2
    obtain ⟨rfl, rfl, rfl, hb, c0, c1, c2⟩ := hcut
    have s0 := lt_of_cell c0
    simp only at s0
    go_wp2_with fail
    refine (H6.out _).mono ?_; rintro e w16 ⟨rfl, hbf⟩
    have hb : Bl w w16 := Bl.trans hb hbf
    have c0 := hbf.cell c0
    have c1 := hbf.cell c1
    have c2 := hbf.cell c2
    clear hbf
    go_wp2_with fail
    refine (H7.out _).mono ?_; rintro e w17 ⟨rfl, hbf⟩
    have hb : Bl w w17 := Bl.trans hb hbf
    have c0 := hbf.cell c0
    have c1 := hbf.cell c1
    have c2 := hbf.cell c2
    clear hbf
    cases em
    · go_wp2_with fail
      refine (H8.out _).mono ?_; rintro e w18 ⟨rfl, hbf⟩
      have hb : Bl w w18 := Bl.trans hb hbf
      have c0 := hbf.cell c0
      have c1 := hbf.cell c1
      have c2 := hbf.cell c2
      clear hbf
      go_wp2_with fail
      refine (H9.out _).mono ?_; rintro e w19 ⟨rfl, hbf⟩
      have hbf := ((Bl.refl w18).alloc _).trans hbf
      have hb : Bl w w19 := Bl.trans hb hbf
      have c0 := hbf.cell c0
      have c1 := hbf.cell c1
      have c2 := hbf.cell c2
      clear hbf
      go_wp2_with fail
      refine (H10.out _).mono ?_; rintro e w20 ⟨rfl, hdf⟩
      have hbf := Bl.of_dr hdf
      have hb : Bl w w20 := Bl.trans hb hbf
      have c0 := hbf.cell c0
      have c1 := hbf.cell c1
      have c2 := hbf.cell c2
      clear hbf hdf
      rcases M4.out with ⟨hk0, hk1⟩ | hk0
      · subst hk0
        obtain ⟨v, hv⟩ : ∃ v, v = begS rl k := ⟨_, rfl⟩
        have hq : q = v := by rw [E12.out hk1, hv]
        subst hq
        have HV := Lib.hid hv
        clear hv
        by_cases hl : rl.size ≤ k.size
        · have l1 : (rl.size : Int) ≤ (k.size : Int) := by omega
          have l2 : ((k.extract 0 rl.size).toList == rl.toList) = q := by rw [HV.out]; exact begS_take hl
          have l3 : min (rl.size : Int) (k.size : Int) = (rl.size : Int) := by omega
          have l4 : (q == q) = true := by simp
          go_wp2_with fail
          go_region_held3 (fun w' => Bl w w' ∧ w'.cell? ⟨w.heap.size, 0, none⟩ = some (.string rl)) (first | exact ⟨hb, c0⟩ | exact ⟨(by repeat (first | assumption | exact Bl.refl _ | apply Bl.drewN | apply Bl.drew | apply Bl.alloc | (refine Bl.dr ?_ (by assumption)) | (refine Bl.trans ?_ (by assumption)))), c0⟩ | exact ⟨(by repeat (first | assumption | exact Bl.refl _ | apply Bl.drewN | apply Bl.drew | apply Bl.alloc | (refine Bl.dr ?_ (by assumption)) | (refine Bl.trans ?_ (by assumption)))), hb8.cell c0⟩) (first | (go_at_call 12; refine (HA.out _ (HT.out _ (by repeat (first | assumption | exact Bl.refl _ | apply Bl.drewN | apply Bl.drew | apply Bl.alloc | (refine Bl.dr ?_ (by assumption)) | (refine Bl.trans ?_ (by assumption)))))).mono ?_; rintro e w8 ⟨rfl, hb8⟩))
          go_wp2_with fail
          go_ret
          exact RB.mk rfl (by repeat (first | assumption | exact Bl.refl _ | apply Bl.drewN | apply Bl.drew | apply Bl.alloc | (refine Bl.dr ?_ (by assumption)) | (refine Bl.trans ?_ (by assumption))))
        · have l2 : q = false := by rw [HV.out]; exact begS_long (by omega)
          subst l2
          have l1 : ((rl.size : Int) ≤ (k.size : Int)) = False := eq_false (by omega)
          have L4 := Lib.hid (decide_eq_false hl : decide (rl.size ≤ k.size) = false)
          clear HV hl l1
          go_wp2_with fail
          have c0' : ∀ z : BW w20, z.w.cell? ⟨w.heap.size, 0, none⟩ = some (.string rl) := BW.cell c0
          refine wp_region_quiet_bw w20 (by kernel_rfl) (by kernel_rfl) (Bl.refl w20) ?_
          repeat (first | (go_big_quiet_step ((go_at_call 12; exact quietB (HA.out _ (HT.out _ (Bl.trans hb (BW.h _))))))) | (simp only [L4.out]))
          refine wpQuiet_nil ?_
          intro wq hw'
          have hwq : Bl w20 wq := by obtain ⟨x, hx⟩ := hw'; rw [hx]; exact x.h
          clear hw'
          clear c0'
          have hb : Bl w wq := Bl.trans hb hwq
          go_wp2_with fail
          go_ret
          exact RB.mk rfl (by repeat (first | assumption | exact Bl.refl _ | apply Bl.drewN | apply Bl.drew | apply Bl.alloc | (refine Bl.dr ?_ (by assumption)) | (refine Bl.trans ?_ (by assumption))))
      · subst hk0
        go_wp2_with fail
        refine (HA.out _ (HT.out _ (by repeat (first | assumption | exact Bl.refl _ | apply Bl.drewN | apply Bl.drew | apply Bl.alloc | (refine Bl.dr ?_ (by assumption)) | (refine Bl.trans ?_ (by assumption)))))).mono ?_; rintro e w8 ⟨rfl, hb8⟩
        go_wp2_with fail
        go_ret
        exact RB.mk rfl (by repeat (first | assumption | exact Bl.refl _ | apply Bl.drewN | apply Bl.drew | apply Bl.alloc | (refine Bl.dr ?_ (by assumption)) | (refine Bl.trans ?_ (by assumption))))
    · have ha : a = false := by simpa using E9.out
      subst ha
      go_wp2_with fail
      refine (H8.out _).mono ?_; rintro e w18 ⟨rfl, hbf⟩
      have hb : Bl w w18 := Bl.trans hb hbf
      have c0 := hbf.cell c0
      have c1 := hbf.cell c1
      have c2 := hbf.cell c2
      clear hbf
      go_wp2_with fail
      refine (H9.out _).mono ?_; rintro e w19 ⟨rfl, hbf⟩
      have hbf := ((Bl.refl w18).alloc _).trans hbf
      have hb : Bl w w19 := Bl.trans hb hbf
      have c0 := hbf.cell c0
      have c1 := hbf.cell c1
      have c2 := hbf.cell c2
      clear hbf
      go_wp2_with fail
      refine (H10.out _).mono ?_; rintro e w20 ⟨rfl, hdf⟩
      have hbf := Bl.of_dr hdf
      have hb : Bl w w20 := Bl.trans hb hbf
      have c0 := hbf.cell c0
      have c1 := hbf.cell c1
      have c2 := hbf.cell c2
      clear hbf hdf
      rcases M4.out with ⟨hk0, hk1⟩ | hk0
      · subst hk0
        obtain ⟨v, hv⟩ : ∃ v, v = begS rl k := ⟨_, rfl⟩
        have hq : q = v := by rw [E12.out hk1, hv]
        subst hq
        have HV := Lib.hid hv
        clear hv
        by_cases hl : rl.size ≤ k.size
        · have l1 : (rl.size : Int) ≤ (k.size : Int) := by omega
          have l2 : ((k.extract 0 rl.size).toList == rl.toList) = q := by rw [HV.out]; exact begS_take hl
          have l3 : min (rl.size : Int) (k.size : Int) = (rl.size : Int) := by omega
          have l4 : (q == q) = true := by simp
          go_wp2_with fail
          go_region_held3 (fun w' => Bl w w' ∧ w'.cell? ⟨w.heap.size, 0, none⟩ = some (.string rl)) (first | exact ⟨hb, c0⟩ | exact ⟨(by repeat (first | assumption | exact Bl.refl _ | apply Bl.drewN | apply Bl.drew | apply Bl.alloc | (refine Bl.dr ?_ (by assumption)) | (refine Bl.trans ?_ (by assumption)))), c0⟩ | exact ⟨(by repeat (first | assumption | exact Bl.refl _ | apply Bl.drewN | apply Bl.drew | apply Bl.alloc | (refine Bl.dr ?_ (by assumption)) | (refine Bl.trans ?_ (by assumption)))), hb8.cell c0⟩) (first | (go_at_call 12; refine (HA.out _ (HT.out _ (by repeat (first | assumption | exact Bl.refl _ | apply Bl.drewN | apply Bl.drew | apply Bl.alloc | (refine Bl.dr ?_ (by assumption)) | (refine Bl.trans ?_ (by assumption)))))).mono ?_; rintro e w8 ⟨rfl, hb8⟩))
          go_wp2_with fail
          go_ret
          exact RB.mk rfl (by repeat (first | assumption | exact Bl.refl _ | apply Bl.drewN | apply Bl.drew | apply Bl.alloc | (refine Bl.dr ?_ (by assumption)) | (refine Bl.trans ?_ (by assumption))))
        · have l2 : q = false := by rw [HV.out]; exact begS_long (by omega)
          subst l2
          have l1 : ((rl.size : Int) ≤ (k.size : Int)) = False := eq_false (by omega)
          have L4 := Lib.hid (decide_eq_false hl : decide (rl.size ≤ k.size) = false)
          clear HV hl l1
          go_wp2_with fail
          have c0' : ∀ z : BW w20, z.w.cell? ⟨w.heap.size, 0, none⟩ = some (.string rl) := BW.cell c0
          refine wp_region_quiet_bw w20 (by kernel_rfl) (by kernel_rfl) (Bl.refl w20) ?_
          repeat (first | (go_big_quiet_step ((go_at_call 12; exact quietB (HA.out _ (HT.out _ (Bl.trans hb (BW.h _))))))) | (simp only [L4.out]))
          refine wpQuiet_nil ?_
          intro wq hw'
          have hwq : Bl w20 wq := by obtain ⟨x, hx⟩ := hw'; rw [hx]; exact x.h
          clear hw'
          clear c0'
          have hb : Bl w wq := Bl.trans hb hwq
          go_wp2_with fail
          go_ret
          exact RB.mk rfl (by repeat (first | assumption | exact Bl.refl _ | apply Bl.drewN | apply Bl.drew | apply Bl.alloc | (refine Bl.dr ?_ (by assumption)) | (refine Bl.trans ?_ (by assumption))))
      · subst hk0
        go_wp2_with fail
        refine (HA.out _ (HT.out _ (by repeat (first | assumption | exact Bl.refl _ | apply Bl.drewN | apply Bl.drew | apply Bl.alloc | (refine Bl.dr ?_ (by assumption)) | (refine Bl.trans ?_ (by assumption)))))).mono ?_; rintro e w8 ⟨rfl, hb8⟩
        go_wp2_with fail
        go_ret
        exact RB.mk rfl (by repeat (first | assumption | exact Bl.refl _ | apply Bl.drewN | apply Bl.drew | apply Bl.alloc | (refine Bl.dr ?_ (by assumption)) | (refine Bl.trans ?_ (by assumption))))
end Go.Proofs.YtldccffbjohokaaDoor

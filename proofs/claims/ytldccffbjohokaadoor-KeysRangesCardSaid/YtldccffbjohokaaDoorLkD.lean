/-
  The law KeysRanges, walked.
-/
import Derived.Test.YtldccffbjohokaaDoorKyF
import Derived.Deep.DeepCutAuto
namespace Go.Proofs.YtldccffbjohokaaDoor
open Go.RowKit
set_option linter.unusedSimpArgs false
set_option linter.unusedVariables false

theorem set3_facts {w : World} {g : Nat} {x y z : Value} (a b c : Value) (h0 : w.cell? ⟨g, 0, none⟩ = some x) (h1 : w.cell? ⟨g, 1, none⟩ = some y) (h2 : w.cell? ⟨g, 2, none⟩ = some z) :
    (((w.setCell ⟨g, 0, none⟩ a).setCell ⟨g, 1, none⟩ b).setCell ⟨g, 2, none⟩ c).cell? ⟨g, 0, none⟩ = some a ∧
    (((w.setCell ⟨g, 0, none⟩ a).setCell ⟨g, 1, none⟩ b).setCell ⟨g, 2, none⟩ c).cell? ⟨g, 1, none⟩ = some b ∧
    (((w.setCell ⟨g, 0, none⟩ a).setCell ⟨g, 1, none⟩ b).setCell ⟨g, 2, none⟩ c).cell? ⟨g, 2, none⟩ = some c ∧
    (∀ p : Addr, p.block ≠ g → (((w.setCell ⟨g, 0, none⟩ a).setCell ⟨g, 1, none⟩ b).setCell ⟨g, 2, none⟩ c).cell? p = w.cell? p) ∧
    (∀ p : Addr, (((w.setCell ⟨g, 0, none⟩ a).setCell ⟨g, 1, none⟩ b).setCell ⟨g, 2, none⟩ c).frozen? p = w.frozen? p) ∧
    (((w.setCell ⟨g, 0, none⟩ a).setCell ⟨g, 1, none⟩ b).setCell ⟨g, 2, none⟩ c).heap.size = w.heap.size := by
  have o : ∀ (W : World) (i j : Nat) (v : Value), i ≠ j → (W.setCell ⟨g, i, none⟩ v).cell? ⟨g, j, none⟩ = W.cell? ⟨g, j, none⟩ := fun W i j v h =>
    World.cell?_setCell_other W ⟨g, i, none⟩ ⟨g, j, none⟩ v (by intro e; injection e with _ e; exact h e)
  have sm : ∀ (W : World) (i : Nat) (v u : Value), W.cell? ⟨g, i, none⟩ = some u → (W.setCell ⟨g, i, none⟩ v).cell? ⟨g, i, none⟩ = some v := fun W i v u h =>
    World.cell?_setCell_same' W _ _ (by rw [h]; rfl)
  refine ⟨?_, ?_, ?_, fun p hp => ?_, fun p => ?_, by simp [World.setCell]⟩
  · rw [o _ 2 0 _ (by omega), o _ 1 0 _ (by omega)]; exact sm _ _ _ _ h0
  · rw [o _ 2 1 _ (by omega)]; exact sm _ _ _ y (by rw [o _ 0 1 _ (by omega)]; exact h1)
  · exact sm _ _ _ z (by rw [o _ 1 2 _ (by omega), o _ 0 2 _ (by omega)]; exact h2)
  · have o2 : ∀ (W : World) (i : Nat) (v : Value), (W.setCell ⟨g, i, none⟩ v).cell? p = W.cell? p := fun W i v =>
      World.cell?_setCell_other W ⟨g, i, none⟩ p v (by intro e; subst e; exact hp rfl)
    rw [o2, o2, o2]
  · rw [World.frozen?_setCell, World.frozen?_setCell, World.frozen?_setCell]
theorem farB (s : ByteArray) (w : World) (hs : s.size ≤ maxLen) : Calls Tryd.prog 11 #[.string s] w (RD w (.bool (decide (200 < s.size)))) := lawFar s w hs

set_option maxRecDepth 100000 in
set_option maxHeartbeats 4000000 in
theorem lawRanges (r s : Rng) (k : ByteArray) (w : World) (hr : r.ok) (hs : s.ok) (hk : k.size ≤ maxLen) (hT : Tabs w) :
    Calls Tryd.prog 8 #[r.v, s.v, .string k] w (RB w (.bool true)) := by
  have HA := Lib.hid (fun w h => lawAwake w h)
  have HT := Lib.hid (fun W (h : Bl w W) => tabs_bl hT h)
  have h1 := fun w => keysIn r k w hr hk
  have h2 := fun w => refIn r k w hr hk
  have h3 := fun w => keysEmpty r w hr
  have h4 := fun w => refEmpty r w hr
  have h5 := fun w => keysMeet r s w hr hs
  have h6 := fun w => refMeet r s w hr hs
  have h7 := fun w => keysCheckRange r w hr
  have h8 := fun w => refCheckRange r w hr
  have h9 := fun w => keysOf k w hk
  have h10 := fun w => refOf k w hk
  generalize (rin r k).1 = v1 at *
  generalize (rin r k).2 = v2 at *
  generalize (remp r).1 = v3 at *
  generalize (remp r).2 = v4 at *
  generalize (meet r s).1 = M at *
  generalize (meet r s).2 = v6 at *
  generalize rchk r = v7 at *
  generalize (ofR k).1 = O at *
  generalize (ofR k).2 = v8 at *
  obtain ⟨rl, rh, rb⟩ := r
  obtain ⟨sl, sh, sb⟩ := s
  obtain ⟨ml, mh, mb⟩ := M
  obtain ⟨ol, oh, ob⟩ := O
  have f1 := fun w => farB rl w hr.1
  have f2 := fun w => farB rh w hr.2
  have f3 := fun w => farB sl w hs.1
  have f4 := fun w => farB sh w hs.2
  have f5 := fun w => farB k w hk
  generalize decide (200 < rl.size) = b1 at *
  generalize decide (200 < rh.size) = b2 at *
  generalize decide (200 < sl.size) = b3 at *
  generalize decide (200 < sh.size) = b4 at *
  generalize decide (200 < k.size) = b5 at *
  unfold Rng.v at *
  simp only at h1 h2 h3 h4 h5 h6 h7 h8 h9 h10 ⊢
  have H1 := Lib.hid h1
  have H2 := Lib.hid h2
  have H3 := Lib.hid h3
  have H4 := Lib.hid h4
  have H5 := Lib.hid h5
  have H6 := Lib.hid h6
  have H7 := Lib.hid h7
  have H8 := Lib.hid h8
  have H9 := Lib.hid h9
  have H10 := Lib.hid h10
  have F1 := Lib.hid f1
  have F2 := Lib.hid f2
  have F3 := Lib.hid f3
  have F4 := Lib.hid f4
  have F5 := Lib.hid f5
  clear h1 h2 h3 h4 h5 h6 h7 h8 h9 h10 f1 f2 f3 f4 f5 hT hr hs hk
  go_enter Tryd.func8, Tryd.ntmps8
  go_wp2_with fail
  refine (F1.out _).mono ?_; rintro e w1 ⟨rfl, hdf⟩
  have hb : Bl w w1 := (by repeat (first | assumption | exact Bl.refl _ | apply Bl.drewN | apply Bl.drew | apply Bl.alloc | (refine Bl.dr ?_ (by assumption)) | (refine Bl.trans ?_ (by assumption))))
  have c0 : w1.cell? ⟨w.heap.size, 0, none⟩ = some (.string rl) := (Bl.of_dr hdf).cell (by simp [go_sem])
  have c1 : w1.cell? ⟨w.heap.size, 1, none⟩ = some (.string rh) := (Bl.of_dr hdf).cell (by simp [go_sem])
  have c2 : w1.cell? ⟨w.heap.size, 2, none⟩ = some (.bool rb) := (Bl.of_dr hdf).cell (by simp [go_sem])
  have d0 : w1.cell? ⟨w.heap.size + 1, 0, none⟩ = some (.string sl) := (Bl.of_dr hdf).cell (by simp [go_sem])
  have d1 : w1.cell? ⟨w.heap.size + 1, 1, none⟩ = some (.string sh) := (Bl.of_dr hdf).cell (by simp [go_sem])
  have d2 : w1.cell? ⟨w.heap.size + 1, 2, none⟩ = some (.bool sb) := (Bl.of_dr hdf).cell (by simp [go_sem])
  clear hdf
  cases b1
  case true =>
    go_wp2_with fail
    refine (HA.out _ (HT.out _ (by repeat (first | assumption | exact Bl.refl _ | apply Bl.drewN | apply Bl.drew | apply Bl.alloc | (refine Bl.dr ?_ (by assumption)) | (refine Bl.trans ?_ (by assumption)))))).mono ?_; rintro e w8 ⟨rfl, hb8⟩
    go_wp2_with fail
    go_ret
    exact RB.mk rfl (by repeat (first | assumption | exact Bl.refl _ | apply Bl.drewN | apply Bl.drew | apply Bl.alloc | (refine Bl.dr ?_ (by assumption)) | (refine Bl.trans ?_ (by assumption))))
  go_wp2_with fail
  refine (F2.out _).mono ?_; rintro e w2 ⟨rfl, hdf⟩
  have hbk := Bl.of_dr hdf
  have hb : Bl w w2 := Bl.trans hb hbk
  have c0 := hbk.cell c0
  have c1 := hbk.cell c1
  have c2 := hbk.cell c2
  have d0 := hbk.cell d0
  have d1 := hbk.cell d1
  have d2 := hbk.cell d2
  have s0 := lt_of_cell c0
  have s1 := lt_of_cell d0
  simp only at s0 s1
  clear hbk
  clear hdf
  cases b2
  case true =>
    go_wp2_with fail
    refine (HA.out _ (HT.out _ (by repeat (first | assumption | exact Bl.refl _ | apply Bl.drewN | apply Bl.drew | apply Bl.alloc | (refine Bl.dr ?_ (by assumption)) | (refine Bl.trans ?_ (by assumption)))))).mono ?_; rintro e w8 ⟨rfl, hb8⟩
    go_wp2_with fail
    go_ret
    exact RB.mk rfl (by repeat (first | assumption | exact Bl.refl _ | apply Bl.drewN | apply Bl.drew | apply Bl.alloc | (refine Bl.dr ?_ (by assumption)) | (refine Bl.trans ?_ (by assumption))))
  go_wp2_with fail
  refine (F3.out _).mono ?_; rintro e w3 ⟨rfl, hdf⟩
  have hbk := Bl.of_dr hdf
  have hb : Bl w w3 := Bl.trans hb hbk
  have c0 := hbk.cell c0
  have c1 := hbk.cell c1
  have c2 := hbk.cell c2
  have d0 := hbk.cell d0
  have d1 := hbk.cell d1
  have d2 := hbk.cell d2
  have s0 := lt_of_cell c0
  have s1 := lt_of_cell d0
  simp only at s0 s1
  clear hbk
  clear hdf
  cases b3
  case true =>
    go_wp2_with fail
    refine (HA.out _ (HT.out _ (by repeat (first | assumption | exact Bl.refl _ | apply Bl.drewN | apply Bl.drew | apply Bl.alloc | (refine Bl.dr ?_ (by assumption)) | (refine Bl.trans ?_ (by assumption)))))).mono ?_; rintro e w8 ⟨rfl, hb8⟩
    go_wp2_with fail
    go_ret
    exact RB.mk rfl (by repeat (first | assumption | exact Bl.refl _ | apply Bl.drewN | apply Bl.drew | apply Bl.alloc | (refine Bl.dr ?_ (by assumption)) | (refine Bl.trans ?_ (by assumption))))
  go_wp2_with fail
  refine (F4.out _).mono ?_; rintro e w4 ⟨rfl, hdf⟩
  have hbk := Bl.of_dr hdf
  have hb : Bl w w4 := Bl.trans hb hbk
  have c0 := hbk.cell c0
  have c1 := hbk.cell c1
  have c2 := hbk.cell c2
  have d0 := hbk.cell d0
  have d1 := hbk.cell d1
  have d2 := hbk.cell d2
  have s0 := lt_of_cell c0
  have s1 := lt_of_cell d0
  simp only at s0 s1
  clear hbk
  clear hdf
  cases b4
  case true =>
    go_wp2_with fail
    refine (HA.out _ (HT.out _ (by repeat (first | assumption | exact Bl.refl _ | apply Bl.drewN | apply Bl.drew | apply Bl.alloc | (refine Bl.dr ?_ (by assumption)) | (refine Bl.trans ?_ (by assumption)))))).mono ?_; rintro e w8 ⟨rfl, hb8⟩
    go_wp2_with fail
    go_ret
    exact RB.mk rfl (by repeat (first | assumption | exact Bl.refl _ | apply Bl.drewN | apply Bl.drew | apply Bl.alloc | (refine Bl.dr ?_ (by assumption)) | (refine Bl.trans ?_ (by assumption))))
  go_wp2_with fail
  refine (F5.out _).mono ?_; rintro e w5 ⟨rfl, hdf⟩
  have hbk := Bl.of_dr hdf
  have hb : Bl w w5 := Bl.trans hb hbk
  have c0 := hbk.cell c0
  have c1 := hbk.cell c1
  have c2 := hbk.cell c2
  have d0 := hbk.cell d0
  have d1 := hbk.cell d1
  have d2 := hbk.cell d2
  have s0 := lt_of_cell c0
  have s1 := lt_of_cell d0
  simp only at s0 s1
  clear hbk
  clear hdf
  cases b5
  case true =>
    go_wp2_with fail
    refine (HA.out _ (HT.out _ (by repeat (first | assumption | exact Bl.refl _ | apply Bl.drewN | apply Bl.drew | apply Bl.alloc | (refine Bl.dr ?_ (by assumption)) | (refine Bl.trans ?_ (by assumption)))))).mono ?_; rintro e w8 ⟨rfl, hb8⟩
    go_wp2_with fail
    go_ret
    exact RB.mk rfl (by repeat (first | assumption | exact Bl.refl _ | apply Bl.drewN | apply Bl.drew | apply Bl.alloc | (refine Bl.dr ?_ (by assumption)) | (refine Bl.trans ?_ (by assumption))))
  go_wp2_with fail
  refine (H1.out _).mono ?_; rintro e w6 ⟨rfl, hbf⟩
  have hbk := hbf
  have hb : Bl w w6 := Bl.trans hb hbk
  have c0 := hbk.cell c0
  have c1 := hbk.cell c1
  have c2 := hbk.cell c2
  have d0 := hbk.cell d0
  have d1 := hbk.cell d1
  have d2 := hbk.cell d2
  have s0 := lt_of_cell c0
  have s1 := lt_of_cell d0
  simp only at s0 s1
  clear hbk
  clear hbf
  go_wp2_with fail
  refine (H2.out _).mono ?_; rintro e w7 ⟨rfl, hbf⟩
  have hbk := hbf
  have hb : Bl w w7 := Bl.trans hb hbk
  have c0 := hbk.cell c0
  have c1 := hbk.cell c1
  have c2 := hbk.cell c2
  have d0 := hbk.cell d0
  have d1 := hbk.cell d1
  have d2 := hbk.cell d2
  have s0 := lt_of_cell c0
  have s1 := lt_of_cell d0
  simp only at s0 s1
  clear hbk
  clear hbf
  go_wp2_with fail
  refine (H3.out _).mono ?_; rintro e w9 ⟨rfl, hbf⟩
  have hbk := hbf
  have hb : Bl w w9 := Bl.trans hb hbk
  have c0 := hbk.cell c0
  have c1 := hbk.cell c1
  have c2 := hbk.cell c2
  have d0 := hbk.cell d0
  have d1 := hbk.cell d1
  have d2 := hbk.cell d2
  have s0 := lt_of_cell c0
  have s1 := lt_of_cell d0
  simp only at s0 s1
  clear hbk
  clear hbf
  go_wp2_with fail
  refine (H4.out _).mono ?_; rintro e w10 ⟨rfl, hbf⟩
  have hbk := hbf
  have hb : Bl w w10 := Bl.trans hb hbk
  have c0 := hbk.cell c0
  have c1 := hbk.cell c1
  have c2 := hbk.cell c2
  have d0 := hbk.cell d0
  have d1 := hbk.cell d1
  have d2 := hbk.cell d2
  have s0 := lt_of_cell c0
  have s1 := lt_of_cell d0
  simp only at s0 s1
  clear hbk
  clear hbf
  go_wp2_with fail
  refine (H5.out _).mono ?_; rintro e w11 ⟨rfl, hbf⟩
  have hbk := hbf
  have hb : Bl w w11 := Bl.trans hb hbk
  have c0 := hbk.cell c0
  have c1 := hbk.cell c1
  have c2 := hbk.cell c2
  have d0 := hbk.cell d0
  have d1 := hbk.cell d1
  have d2 := hbk.cell d2
  have s0 := lt_of_cell c0
  have s1 := lt_of_cell d0
  simp only at s0 s1
  clear hbk
  clear hbf
  go_wp2_with fail
  refine (H6.out _).mono ?_; rintro e w12 ⟨rfl, hbf⟩
  have p0 : w12.cell? ⟨w11.heap.size, 0, none⟩ = some (.string ml) := hbf.cell (by simp [go_sem])
  have p1 : w12.cell? ⟨w11.heap.size, 1, none⟩ = some (.string mh) := hbf.cell (by simp [go_sem])
  have p2 : w12.cell? ⟨w11.heap.size, 2, none⟩ = some (.bool mb) := hbf.cell (by simp [go_sem])
  have g0 : w12.frozen? ⟨w11.heap.size, 0, none⟩ = false := hbf.frozen (by simp [go_sem]; rfl) (by simp [go_sem])
  have g1 : w12.frozen? ⟨w11.heap.size, 1, none⟩ = false := hbf.frozen (by simp [go_sem]; rfl) (by simp [go_sem])
  have g2 : w12.frozen? ⟨w11.heap.size, 2, none⟩ = false := hbf.frozen (by simp [go_sem]; rfl) (by simp [go_sem])
  have s2 := lt_of_cell p0
  simp only at s2
  have hbk := ((Bl.refl w11).alloc _).trans hbf
  have hb : Bl w w12 := Bl.trans hb hbk
  have c0 := hbk.cell c0
  have c1 := hbk.cell c1
  have c2 := hbk.cell c2
  have d0 := hbk.cell d0
  have d1 := hbk.cell d1
  have d2 := hbk.cell d2
  have s0 := lt_of_cell c0
  have s1 := lt_of_cell d0
  simp only at s0 s1
  clear hbk
  clear hbf
  go_wp2_with fail
  have hal : Bl w12 (w12.alloc (Obj.cells #[Value.string ml, Value.string mh, Value.bool mb] 34)) := (Bl.refl w12).alloc _
  have q0 : (w12.alloc (Obj.cells #[Value.string ml, Value.string mh, Value.bool mb] 34)).cell? ⟨w12.heap.size, 0, none⟩ = some (.string ml) := by simp [go_sem]
  have q1 : (w12.alloc (Obj.cells #[Value.string ml, Value.string mh, Value.bool mb] 34)).cell? ⟨w12.heap.size, 1, none⟩ = some (.string mh) := by simp [go_sem]
  have q2 : (w12.alloc (Obj.cells #[Value.string ml, Value.string mh, Value.bool mb] 34)).cell? ⟨w12.heap.size, 2, none⟩ = some (.bool mb) := by simp [go_sem]
  have k0 : (w12.alloc (Obj.cells #[Value.string ml, Value.string mh, Value.bool mb] 34)).frozen? ⟨w12.heap.size, 0, none⟩ = false := by simp [go_sem]
  have k1 : (w12.alloc (Obj.cells #[Value.string ml, Value.string mh, Value.bool mb] 34)).frozen? ⟨w12.heap.size, 1, none⟩ = false := by simp [go_sem]
  have k2 : (w12.alloc (Obj.cells #[Value.string ml, Value.string mh, Value.bool mb] 34)).frozen? ⟨w12.heap.size, 2, none⟩ = false := by simp [go_sem]
  generalize w12.alloc (Obj.cells #[Value.string ml, Value.string mh, Value.bool mb] 34) = W at *
  have g0 := hal.frozen p0 g0
  have g1 := hal.frozen p1 g1
  have g2 := hal.frozen p2 g2
  have p0 := hal.cell p0
  have p1 := hal.cell p1
  have p2 := hal.cell p2
  have hbk := hal
  have hb : Bl w W := Bl.trans hb hbk
  have c0 := hbk.cell c0
  have c1 := hbk.cell c1
  have c2 := hbk.cell c2
  have d0 := hbk.cell d0
  have d1 := hbk.cell d1
  have d2 := hbk.cell d2
  have s0 := lt_of_cell c0
  have s1 := lt_of_cell d0
  simp only at s0 s1
  clear hbk
  clear hal
  have z1 : (v1 != v1) = false := by simp
  have z2 : (v2 != v2) = false := by simp
  have z3 : (v3 != v3) = false := by simp
  have z4 : (v4 != v4) = false := by simp
  have z5 : (v6 != v6) = false := by simp
  have z6 : (v7 != v7) = false := by simp
  have y1 : (ml.toList == ml.toList) = true := by simp
  have y2 : (mh.toList == mh.toList) = true := by simp
  have c0' : ∀ z : BW W, z.w.cell? ⟨w.heap.size, 0, none⟩ = some (.string rl) := BW.cell c0
  have c1' : ∀ z : BW W, z.w.cell? ⟨w.heap.size, 1, none⟩ = some (.string rh) := BW.cell c1
  have c2' : ∀ z : BW W, z.w.cell? ⟨w.heap.size, 2, none⟩ = some (.bool rb) := BW.cell c2
  have p0' : ∀ z : BW W, z.w.cell? ⟨w11.heap.size, 0, none⟩ = some (.string ml) := BW.cell p0
  have p1' : ∀ z : BW W, z.w.cell? ⟨w11.heap.size, 1, none⟩ = some (.string mh) := BW.cell p1
  have p2' : ∀ z : BW W, z.w.cell? ⟨w11.heap.size, 2, none⟩ = some (.bool mb) := BW.cell p2
  have q0' : ∀ z : BW W, z.w.cell? ⟨w12.heap.size, 0, none⟩ = some (.string ml) := BW.cell q0
  have q1' : ∀ z : BW W, z.w.cell? ⟨w12.heap.size, 1, none⟩ = some (.string mh) := BW.cell q1
  have q2' : ∀ z : BW W, z.w.cell? ⟨w12.heap.size, 2, none⟩ = some (.bool mb) := BW.cell q2
  
  refine wp_region_quiet_bw W (by kernel_rfl) (by kernel_rfl) (Bl.refl W) ?_
  repeat (go_big_quiet_step ((first | (go_at_call 36; exact quietB (H7.out _)) | (go_at_call 37; exact quietB (H8.out _)))))
  refine wpQuiet_nil ?_
  intro wq hw'
  have hwq : Bl W wq := by obtain ⟨x, hx⟩ := hw'; rw [hx]; exact x.h
  clear hw'
  clear c0' c1' c2' p0' p1' p2' q0' q1' q2'
  have hne : w11.heap.size ≠ w12.heap.size := by omega
  have hb : Bl w wq := Bl.trans hb hwq
  have g0 := Bl.frozen hwq p0 g0
  have g1 := Bl.frozen hwq p1 g1
  have g2 := Bl.frozen hwq p2 g2
  have k0 := Bl.frozen hwq q0 k0
  have k1 := Bl.frozen hwq q1 k1
  have k2 := Bl.frozen hwq q2 k2
  have p0 := Bl.cell hwq p0
  have p1 := Bl.cell hwq p1
  have p2 := Bl.cell hwq p2
  have q0 := Bl.cell hwq q0
  have q1 := Bl.cell hwq q1
  have q2 := Bl.cell hwq q2
  clear c0 c1 c2 d0 d1 d2 hwq
  go_wp2_with fail
  refine (H9.out _).mono ?_; rintro e w15 ⟨rfl, hbf⟩
  have hb : Bl w w15 := Bl.trans hb hbf
  have g0 := Bl.frozen hbf p0 g0
  have g1 := Bl.frozen hbf p1 g1
  have g2 := Bl.frozen hbf p2 g2
  have k0 := Bl.frozen hbf q0 k0
  have k1 := Bl.frozen hbf q1 k1
  have k2 := Bl.frozen hbf q2 k2
  have p0 := Bl.cell hbf p0
  have p1 := Bl.cell hbf p1
  have p2 := Bl.cell hbf p2
  have q0 := Bl.cell hbf q0
  have q1 := Bl.cell hbf q1
  have q2 := Bl.cell hbf q2
  clear hbf
  have t1 : w.heap.size ≤ w11.heap.size := by omega
  have t2 : w.heap.size ≤ w12.heap.size := by omega
  go_wp2_with fail
  obtain ⟨e0, e1, e2, eo, ef, ez⟩ := set3_facts (.string ol) (.string oh) (.bool ob) p0 p1 p2
  have hb : Bl w (((w15.setCell ⟨w11.heap.size, 0, none⟩ (.string ol)).setCell ⟨w11.heap.size, 1, none⟩ (.string oh)).setCell ⟨w11.heap.size, 2, none⟩ (.bool ob)) := ((hb.setCell _ t1 _).setCell _ t1 _).setCell _ t1 _
  have q0 := (eo ⟨w12.heap.size, 0, none⟩ (by simp; omega)).trans q0
  have q1 := (eo ⟨w12.heap.size, 1, none⟩ (by simp; omega)).trans q1
  have q2 := (eo ⟨w12.heap.size, 2, none⟩ (by simp; omega)).trans q2
  have k0 := (ef ⟨w12.heap.size, 0, none⟩).trans k0
  have k1 := (ef ⟨w12.heap.size, 1, none⟩).trans k1
  have k2 := (ef ⟨w12.heap.size, 2, none⟩).trans k2
  clear p0 p1 p2 g0 g1 g2 eo ef ez
  generalize (((w15.setCell ⟨w11.heap.size, 0, none⟩ (.string ol)).setCell ⟨w11.heap.size, 1, none⟩ (.string oh)).setCell ⟨w11.heap.size, 2, none⟩ (.bool ob)) = V at *
  refine (H10.out _).mono ?_; rintro e w16 ⟨rfl, hbf⟩
  have hb : Bl w w16 := Bl.trans hb hbf
  have k0 := hbf.frozen q0 k0
  have k1 := hbf.frozen q1 k1
  have k2 := hbf.frozen q2 k2
  have e0 := hbf.cell e0
  have e1 := hbf.cell e1
  have e2 := hbf.cell e2
  have q0 := hbf.cell q0
  have q1 := hbf.cell q1
  have q2 := hbf.cell q2
  clear hbf
  have x1 : (ol.toList == ol.toList) = true := by simp
  have x2 : (oh.toList == oh.toList) = true := by simp
  have x3 : (v8 == v8) = true := by simp
  go_wp2_with fail
  generalize hV : (((w16.setCell ⟨w12.heap.size, 0, none⟩ _).setCell ⟨w12.heap.size, 1, none⟩ _).setCell ⟨w12.heap.size, 2, none⟩ _) = V2
  have hb : Bl w V2 := by
    rw [← hV]
    exact ((hb.setCell _ t2 _).setCell _ t2 _).setCell _ t2 _
  clear hV
  refine (HA.out _ (HT.out _ hb)).mono ?_; rintro e w8 ⟨rfl, hb8⟩
  go_wp2_with fail
  go_ret
  exact RB.mk rfl (by repeat (first | assumption | exact Bl.refl _ | apply Bl.drewN | apply Bl.drew | apply Bl.alloc | (refine Bl.dr ?_ (by assumption)) | (refine Bl.trans ?_ (by assumption))))
end Go.Proofs.YtldccffbjohokaaDoor

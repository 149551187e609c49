
/-
  Contracts of words: an escape is read.
-/
import Derived.Test.YtkbfjficmdgjpaaGreatDoorWoF
import Derived.Test.YtkbfjficmdgjpaaGreatDoorShelf
namespace Go.Proofs.YtkbfjficmdgjpaaGreatDoor
open Go.RowKit
set_option linter.unusedSimpArgs false
set_option linter.unusedVariables false
set_option maxRecDepth 100000

def hxI (b : UInt8) : Int := match unhx b with
  | some n => (n : Int)
  | none => -1
theorem hx_ix : ∀ b : UInt8, Lib.indexByte hxB.data.toList b = hxI b := byte_all (by decide +kernel)
theorem hx_at (b : UInt8) : Lib.indexByte hxB.data.toList ((b.toNat : Int).toNat.toUInt8) = hxI b := by
  have : ((b.toNat : Int).toNat.toUInt8) = b := by simp
  rw [this, hx_ix]
theorem orv_all : ∀ a b : Fin 16, bits BinOp.or IntKind.i64 ((a.val : Int) * 16) (b.val : Int) % 256 = ((UInt8.ofNat (a.val * 16 + b.val)).toNat : Int) := by decide +kernel
theorem orv (n2 n3 : Nat) (l2 : n2 < 16) (l3 : n3 < 16) : bits BinOp.or IntKind.i64 ((n2 : Int) * 16) (n3 : Int) % 256 = ((UInt8.ofNat (n2 * 16 + n3)).toNat : Int) := orv_all ⟨n2, l2⟩ ⟨n3, l3⟩
theorem quiet_same {P : Program} {f : FuncId} {args : Array Value} {w : World} {n : Nat} {v : Value}
    (h : Calls P f args (w.drewN n) fun e w' => e = .returned v ∧ w' = w.drewN n) : Calls P f args (w.drewN n) fun e w'' => e = .returned v ∧ ∃ m, w'' = w.drewN m :=
  h.mono fun _ _ ⟨he, hw⟩ => ⟨he, n, hw⟩
theorem same_sym {P : Program} {f : FuncId} {args : Array Value} {w : World} {v : Value} (h : Calls P f args w fun e w' => e = .returned v ∧ w' = w) : Calls P f args w fun e w' => e = .returned v ∧ w = w' :=
  h.mono fun _ _ ⟨he, hw⟩ => ⟨he, hw.symm⟩
theorem unlet_none {l : UInt8} (h : ∀ j, j < 5 → l.toNat ≠ escL.getD (2 * j + 1) 0) : unlet l = none := by
  have h0 := h 0 (by omega); have h1 := h 1 (by omega); have h2 := h 2 (by omega); have h3 := h 3 (by omega); have h4 := h 4 (by omega)
  simp [escL] at h0 h1 h2 h3 h4
  unfold unlet
  rw [if_neg (by rintro rfl; exact h0 rfl), if_neg (by rintro rfl; exact h1 rfl), if_neg (by rintro rfl; exact h2 rfl), if_neg (by rintro rfl; exact h3 rfl), if_neg (by rintro rfl; exact h4 rfl)]
theorem unesc_a {l : List UInt8} {c x : UInt8} (h : l[0]? = some c) (hu : unlet c = some x) : unesc l = some (x, 1) := by
  match l, h with
  | d :: r, h => simp at h; subst h; simp [unesc, hu]
theorem unesc_b {l : List UInt8} {c : UInt8} (h : l[0]? = some c) (hu : unlet c = none) (hx : c ≠ 120) : unesc l = none := by
  match l, h with
  | d :: r, h => simp at h; subst h; simp [unesc, hu, hx]
theorem unesc_c {l : List UInt8} (h : l[0]? = some 120) (hl : l.length < 3) : unesc l = none := by
  match l, h, hl with
  | [d], h, _ => simp at h; subst h; rfl
  | [d, e], h, _ => simp at h; subst h; rfl
theorem unesc_d {l : List UInt8} {a b : UInt8} (h : l[0]? = some 120) (h1 : l[1]? = some a) (h2 : l[2]? = some b) : unesc l = match unhx a, unhx b with
    | some h, some k => if plainB (UInt8.ofNat (h * 16 + k)) ∨ letB (UInt8.ofNat (h * 16 + k)) ≠ 0 then none else some (UInt8.ofNat (h * 16 + k), 3)
    | _, _ => none := by
  match l, h, h1, h2 with
  | d :: e :: f :: r, h, h1, h2 => simp at h h1 h2; subst h h1 h2; rfl
def ueN (l : List UInt8) : Int × Int := match unesc l with
  | some (c, n) => ((c.toNat : Nat), (n : Nat))
  | none => (0, 0)
theorem unhx_lt {b : UInt8} {n : Nat} (h : unhx b = some n) : n < 16 := (hxd_unhx b n h).2
set_option maxHeartbeats 8000000 in
theorem woUnesc (s : ByteArray) (hs : s.size ≤ 100000) (w : World) (hE : EscTab w) (res : Int × Int) (hres : ueN s.data.toList = res) : Calls Tryz.prog 139 #[.string s] w (RB w (.tuple #[.int .u8 res.1, .int .i64 res.2])) := by
  have HR := Lib.hid hres
  clear hres
  by_cases hz : s.size = 0
  · obtain rfl : s = ⟨#[]⟩ := by
      apply ByteArray.ext
      exact Array.eq_empty_of_size_eq_zero hz
    obtain rfl : res = (0, 0) := by rw [← HR.out]; rfl
    clear hz HR hE
    go_enter Tryz.func139, Tryz.ntmps139
    go_wp2_with fail
    go_ret2
    exact rb_tuple rfl rfl (by repeat (first | assumption | exact Bl.refl _ | apply Bl.drewN | apply Bl.drew | apply Bl.alloc | (refine Bl.dr ?_ (by assumption)) | (refine Bl.trans ?_ (by assumption))))
  · have h0 : 0 < s.size := by omega
    have hne : s.toList.isEmpty = false := by
      rw [toL]
      cases e : s.data.toList with
      | nil => exact absurd (by have := congrArg List.length e; simpa using this) hz
      | cons _ _ => rfl
    have hx := str_get h0
    have HX := Lib.hid hx
    have HE := Lib.hid hE
    have d0 := hE.at_ 0 (by omega); have d1 := hE.at_ 1 (by omega); have d2 := hE.at_ 2 (by omega); have d3 := hE.at_ 3 (by omega); have d4 := hE.at_ 4 (by omega)
    have d5 := hE.at_ 5 (by omega); have d6 := hE.at_ 6 (by omega); have d7 := hE.at_ 7 (by omega); have d8 := hE.at_ 8 (by omega); have d9 := hE.at_ 9 (by omega)
    simp [escL] at d0 d1 d2 d3 d4 d5 d6 d7 d8 d9
    clear hx hE hz
    go_enter Tryz.func139, Tryz.ntmps139
    go_wp2_with fail
    clear d0 d1 d2 d3 d4 d5 d6 d7 d8 d9
    go_loopg [12] 5 (fun g i wr => ∃ k : Nat, k ≤ 5 ∧ i = .int .i64 k ∧ Bl w wr ∧ (∀ j, j < k → (s[0]'h0).toNat ≠ escL.getD (2 * j + 1) 0) ∧ g = 5 - k)
    case atStart => exact ⟨0, by omega, rfl, Bl.refl _, by intro j hj; omega, rfl⟩
    case round =>
      obtain ⟨k, hk, rfl, hbw, hno, hg⟩ := hrel
      have G := Lib.hid hg
      have HN := Lib.hid hno
      clear hg hno
      rcases (by omega : k = 0 ∨ k = 1 ∨ k = 2 ∨ k = 3 ∨ k = 4 ∨ k = 5) with rfl | rfl | rfl | rfl | rfl | rfl
      · have ix := idx0 wr
        by_cases hc : (s[0]'h0).toNat = 34
        · have e : (s[0]'h0) = UInt8.ofNat 34 := UInt8.toNat_inj.1 (by rw [hc]; rfl)
          have hr : res = (34, 1) := by
            rw [← HR.out]; unfold ueN; rw [unesc_a HX.out (x := 34) (by rw [e]; rfl)]; rfl
          have e1 : ((34 : Int) == ((s[0]'h0).toNat : Int)) = true := by rw [hc]; rfl
          subst hr
          clear hc e
          go_wp2_with fail
          go_quiet (fail)
          go_wp2_with fail
          go_ret2
          exact rb_tuple rfl rfl (by repeat (first | assumption | exact Bl.refl _ | apply Bl.drewN | apply Bl.drew | apply Bl.alloc | (refine Bl.dr ?_ (by assumption)) | (refine Bl.trans ?_ (by assumption))))
        · have e1 : ((34 : Int) == ((s[0]'h0).toNat : Int)) = false := by rw [beq_eq_false_iff_ne]; omega
          have HC := Lib.hid hc
          clear hc
          go_wp2_with fail
          go_quiet (fail)
          go_wp2_with fail
          go_roundg (5 - (0 + 1))
          case rel =>
            refine ⟨0 + 1, by omega, by go_num, (by repeat (first | assumption | exact Bl.refl _ | apply Bl.drewN | apply Bl.drew | apply Bl.alloc | (refine Bl.dr ?_ (by assumption)) | (refine Bl.trans ?_ (by assumption)))), fun j hj => ?_, rfl⟩
            by_cases e : j = 0
            · subst e; simpa [escL] using HC.out
            · exact HN.out j (by omega)
          case measure => rw [G.out]; omega
      · have ix := idx1 wr
        by_cases hc : (s[0]'h0).toNat = 92
        · have e : (s[0]'h0) = UInt8.ofNat 92 := UInt8.toNat_inj.1 (by rw [hc]; rfl)
          have hr : res = (92, 1) := by
            rw [← HR.out]; unfold ueN; rw [unesc_a HX.out (x := 92) (by rw [e]; rfl)]; rfl
          have e1 : ((92 : Int) == ((s[0]'h0).toNat : Int)) = true := by rw [hc]; rfl
          subst hr
          clear hc e
          go_wp2_with fail
          go_quiet (fail)
          go_wp2_with fail
          go_ret2
          exact rb_tuple rfl rfl (by repeat (first | assumption | exact Bl.refl _ | apply Bl.drewN | apply Bl.drew | apply Bl.alloc | (refine Bl.dr ?_ (by assumption)) | (refine Bl.trans ?_ (by assumption))))
        · have e1 : ((92 : Int) == ((s[0]'h0).toNat : Int)) = false := by rw [beq_eq_false_iff_ne]; omega
          have HC := Lib.hid hc
          clear hc
          go_wp2_with fail
          go_quiet (fail)
          go_wp2_with fail
          go_roundg (5 - (1 + 1))
          case rel =>
            refine ⟨1 + 1, by omega, by go_num, (by repeat (first | assumption | exact Bl.refl _ | apply Bl.drewN | apply Bl.drew | apply Bl.alloc | (refine Bl.dr ?_ (by assumption)) | (refine Bl.trans ?_ (by assumption)))), fun j hj => ?_, rfl⟩
            by_cases e : j = 1
            · subst e; simpa [escL] using HC.out
            · exact HN.out j (by omega)
          case measure => rw [G.out]; omega
      · have ix := idx2 wr
        by_cases hc : (s[0]'h0).toNat = 110
        · have e : (s[0]'h0) = UInt8.ofNat 110 := UInt8.toNat_inj.1 (by rw [hc]; rfl)
          have hr : res = (10, 1) := by
            rw [← HR.out]; unfold ueN; rw [unesc_a HX.out (x := 10) (by rw [e]; rfl)]; rfl
          have e1 : ((110 : Int) == ((s[0]'h0).toNat : Int)) = true := by rw [hc]; rfl
          subst hr
          clear hc e
          go_wp2_with fail
          go_quiet (fail)
          go_wp2_with fail
          go_ret2
          exact rb_tuple rfl rfl (by repeat (first | assumption | exact Bl.refl _ | apply Bl.drewN | apply Bl.drew | apply Bl.alloc | (refine Bl.dr ?_ (by assumption)) | (refine Bl.trans ?_ (by assumption))))
        · have e1 : ((110 : Int) == ((s[0]'h0).toNat : Int)) = false := by rw [beq_eq_false_iff_ne]; omega
          have HC := Lib.hid hc
          clear hc
          go_wp2_with fail
          go_quiet (fail)
          go_wp2_with fail
          go_roundg (5 - (2 + 1))
          case rel =>
            refine ⟨2 + 1, by omega, by go_num, (by repeat (first | assumption | exact Bl.refl _ | apply Bl.drewN | apply Bl.drew | apply Bl.alloc | (refine Bl.dr ?_ (by assumption)) | (refine Bl.trans ?_ (by assumption)))), fun j hj => ?_, rfl⟩
            by_cases e : j = 2
            · subst e; simpa [escL] using HC.out
            · exact HN.out j (by omega)
          case measure => rw [G.out]; omega
      · have ix := idx3 wr
        by_cases hc : (s[0]'h0).toNat = 114
        · have e : (s[0]'h0) = UInt8.ofNat 114 := UInt8.toNat_inj.1 (by rw [hc]; rfl)
          have hr : res = (13, 1) := by
            rw [← HR.out]; unfold ueN; rw [unesc_a HX.out (x := 13) (by rw [e]; rfl)]; rfl
          have e1 : ((114 : Int) == ((s[0]'h0).toNat : Int)) = true := by rw [hc]; rfl
          subst hr
          clear hc e
          go_wp2_with fail
          go_quiet (fail)
          go_wp2_with fail
          go_ret2
          exact rb_tuple rfl rfl (by repeat (first | assumption | exact Bl.refl _ | apply Bl.drewN | apply Bl.drew | apply Bl.alloc | (refine Bl.dr ?_ (by assumption)) | (refine Bl.trans ?_ (by assumption))))
        · have e1 : ((114 : Int) == ((s[0]'h0).toNat : Int)) = false := by rw [beq_eq_false_iff_ne]; omega
          have HC := Lib.hid hc
          clear hc
          go_wp2_with fail
          go_quiet (fail)
          go_wp2_with fail
          go_roundg (5 - (3 + 1))
          case rel =>
            refine ⟨3 + 1, by omega, by go_num, (by repeat (first | assumption | exact Bl.refl _ | apply Bl.drewN | apply Bl.drew | apply Bl.alloc | (refine Bl.dr ?_ (by assumption)) | (refine Bl.trans ?_ (by assumption)))), fun j hj => ?_, rfl⟩
            by_cases e : j = 3
            · subst e; simpa [escL] using HC.out
            · exact HN.out j (by omega)
          case measure => rw [G.out]; omega
      · have ix := idx4 wr
        by_cases hc : (s[0]'h0).toNat = 116
        · have e : (s[0]'h0) = UInt8.ofNat 116 := UInt8.toNat_inj.1 (by rw [hc]; rfl)
          have hr : res = (9, 1) := by
            rw [← HR.out]; unfold ueN; rw [unesc_a HX.out (x := 9) (by rw [e]; rfl)]; rfl
          have e1 : ((116 : Int) == ((s[0]'h0).toNat : Int)) = true := by rw [hc]; rfl
          subst hr
          clear hc e
          go_wp2_with fail
          go_quiet (fail)
          go_wp2_with fail
          go_ret2
          exact rb_tuple rfl rfl (by repeat (first | assumption | exact Bl.refl _ | apply Bl.drewN | apply Bl.drew | apply Bl.alloc | (refine Bl.dr ?_ (by assumption)) | (refine Bl.trans ?_ (by assumption))))
        · have e1 : ((116 : Int) == ((s[0]'h0).toNat : Int)) = false := by rw [beq_eq_false_iff_ne]; omega
          have HC := Lib.hid hc
          clear hc
          go_wp2_with fail
          go_quiet (fail)
          go_wp2_with fail
          go_roundg (5 - (4 + 1))
          case rel =>
            refine ⟨4 + 1, by omega, by go_num, (by repeat (first | assumption | exact Bl.refl _ | apply Bl.drewN | apply Bl.drew | apply Bl.alloc | (refine Bl.dr ?_ (by assumption)) | (refine Bl.trans ?_ (by assumption)))), fun j hj => ?_, rfl⟩
            by_cases e : j = 4
            · subst e; simpa [escL] using HC.out
            · exact HN.out j (by omega)
          case measure => rw [G.out]; omega
      · have hu := unlet_none HN.out
        by_cases hx : (s[0]'h0) = 120
        · have e1 : (((s[0]'h0).toNat : Int) != 120) = false := by rw [hx]; rfl
          have hX := HX.out
          rw [hx] at hX
          have HX0 := Lib.hid hX
          clear hX hx
          by_cases h3 : s.size < 3
          · have hr : res = (0, 0) := by rw [← HR.out]; unfold ueN; rw [unesc_c HX0.out (by simpa using h3)]
            have i3 : (s.size : Int) < 3 := by omega
            subst hr
            clear h3 hu
            go_wp2_with fail
            go_ret2
            exact rb_tuple rfl rfl (by repeat (first | assumption | exact Bl.refl _ | apply Bl.drewN | apply Bl.drew | apply Bl.alloc | (refine Bl.dr ?_ (by assumption)) | (refine Bl.trans ?_ (by assumption))))
          · have h1 : 1 < s.size := by omega
            have h2 : 2 < s.size := by omega
            have i3 : ¬ (s.size : Int) < 3 := by omega
            have hI1 := fun w => Tryz.strings_IndexByte hxB ((s[1]'h1).toNat : Int) w
            have hI2 := fun w => Tryz.strings_IndexByte hxB ((s[2]'h2).toNat : Int) w
            rw [hx_at] at hI1 hI2
            have hd := unesc_d HX0.out (str_get h1) (str_get h2)
            have hr : res = ueN s.data.toList := HR.out.symm
            unfold ueN at hr
            rw [hd] at hr
            clear hd h3 hu
            have q1 : (1 : Int) < (s.size : Int) := by omega
            have q2 : (2 : Int) < (s.size : Int) := by omega
            cases u1 : unhx (s[1]'h1) with
            | none =>
              have e2 : hxI (s[1]'h1) = -1 := by unfold hxI; rw [u1]
              have hr' : res = (0, 0) := by rw [hr, u1]
              subst hr'
              rw [e2] at hI1
              obtain ⟨v2, hv2⟩ : ∃ v, hxI (s[2]'h2) = v := ⟨_, rfl⟩
              rw [hv2] at hI2
              have J1 := Lib.hid hI1
              have J2 := Lib.hid hI2
              clear hr e2 hv2 hI1 hI2 u1
              go_wp2_with fail
              go_quiet ((go_at_call 106; first | with_reducible exact quiet_same (J1.out _) | with_reducible exact quiet_same (J2.out _)))
              go_wp2_with fail
              go_ret2
              exact rb_tuple rfl rfl (by repeat (first | assumption | exact Bl.refl _ | apply Bl.drewN | apply Bl.drew | apply Bl.alloc | (refine Bl.dr ?_ (by assumption)) | (refine Bl.trans ?_ (by assumption))))
            | some n1 =>
              have l1 := unhx_lt u1
              have e2 : hxI (s[1]'h1) = (n1 : Int) := by unfold hxI; rw [u1]
              rw [e2] at hI1
              have J1 := Lib.hid hI1
              have i4 : (0 : Int) ≤ (n1 : Int) := by omega
              cases u2 : unhx (s[2]'h2) with
              | none =>
                have e3 : hxI (s[2]'h2) = -1 := by unfold hxI; rw [u2]
                have hr' : res = (0, 0) := by rw [hr, u1, u2]
                subst hr'
                rw [e3] at hI2
                have J2 := Lib.hid hI2
                clear hr e2 e3 hI1 hI2 u1 u2
                go_wp2_with fail
                go_quiet ((go_at_call 106; first | with_reducible exact quiet_same (J1.out _) | with_reducible exact quiet_same (J2.out _)))
                go_wp2_with fail
                go_ret2
                exact rb_tuple rfl rfl (by repeat (first | assumption | exact Bl.refl _ | apply Bl.drewN | apply Bl.drew | apply Bl.alloc | (refine Bl.dr ?_ (by assumption)) | (refine Bl.trans ?_ (by assumption))))
              | some n2 =>
                have l2 := unhx_lt u2
                have e3 : hxI (s[2]'h2) = (n2 : Int) := by unfold hxI; rw [u2]
                rw [e3] at hI2
                have J2 := Lib.hid hI2
                have i5 : (0 : Int) ≤ (n2 : Int) := by omega
                rw [u1, u2] at hr
                simp only at hr
                have hov := orv n1 n2 l1 l2
                generalize UInt8.ofNat (n1 * 16 + n2) = c at hr hov
                have HV := Lib.hid hov
                have HRr := Lib.hid hr
                clear hr e2 e3 hI1 hI2 u1 u2 hov
                go_wp2_with fail
                go_quiet ((go_at_call 106; first | with_reducible exact quiet_same (J1.out _) | with_reducible exact quiet_same (J2.out _)))
                go_wp2_with fail
                rw [HV.out]
                refine (woPlain c _).mono ?_; rintro e w1 ⟨rfl, hb1⟩
                have hb2 : Bl w w1 := (hbw.drewN nq).trans hb1
                clear hb1
                by_cases hp : plainB c = true
                · have hr' : res = (0, 0) := by rw [HRr.out, if_pos (.inl hp)]
                  subst hr'
                  clear HRr
                  rw [hp]
                  go_wp2_with fail
                  go_ret2
                  exact rb_tuple rfl rfl (by repeat (first | assumption | exact Bl.refl _ | apply Bl.drewN | apply Bl.drew | apply Bl.alloc | (refine Bl.dr ?_ (by assumption)) | (refine Bl.trans ?_ (by assumption))))
                · have hp' : plainB c = false := by simpa using hp
                  rw [hp']
                  have hL := fun w h => woLetter c w h
                  by_cases hl : letB c = 0
                  · have hr' : res = (((c.toNat : Nat) : Int), 3) := by rw [HRr.out, if_neg (by simp [hp', hl])]; rfl
                    subst hr'
                    rw [hl] at hL
                    have HL := Lib.hid hL
                    clear HRr hL hp hl hp'
                    go_wp2_with fail
                    refine (HL.out _ (HE.out.bl hb2)).mono ?_; rintro e w2 ⟨rfl, hb3⟩
                    go_wp2_with fail
                    go_ret2
                    exact rb_tuple rfl rfl (by repeat (first | assumption | exact Bl.refl _ | apply Bl.drewN | apply Bl.drew | apply Bl.alloc | (refine Bl.dr ?_ (by assumption)) | (refine Bl.trans ?_ (by assumption))))
                  · have hr' : res = (0, 0) := by rw [HRr.out, if_pos (.inr hl)]
                    subst hr'
                    have e9 : (((letB c).toNat : Int) != 0) = true := u8_bne (d := 0) hl
                    have HL := Lib.hid hL
                    clear HRr hL hp hl hp'
                    go_wp2_with fail
                    refine (HL.out _ (HE.out.bl hb2)).mono ?_; rintro e w2 ⟨rfl, hb3⟩
                    go_wp2_with fail
                    go_ret2
                    exact rb_tuple rfl rfl (by repeat (first | assumption | exact Bl.refl _ | apply Bl.drewN | apply Bl.drew | apply Bl.alloc | (refine Bl.dr ?_ (by assumption)) | (refine Bl.trans ?_ (by assumption))))
        · have hr : res = (0, 0) := by rw [← HR.out]; unfold ueN; rw [unesc_b HX.out hu hx]
          have e1 : (((s[0]'h0).toNat : Int) != 120) = true := u8_bne (d := 120) hx
          subst hr
          clear hx hu
          go_wp2_with fail
          go_ret2
          exact rb_tuple rfl rfl (by repeat (first | assumption | exact Bl.refl _ | apply Bl.drewN | apply Bl.drew | apply Bl.alloc | (refine Bl.dr ?_ (by assumption)) | (refine Bl.trans ?_ (by assumption))))
end Go.Proofs.YtkbfjficmdgjpaaGreatDoor


/-
  Contracts of words: the reference's quoted forms.
-/
import Derived.Test.YtkbfjficmdgjpaaGreatDoorWoI
import Derived.Test.YtkbfjficmdgjpaaGreatDoorWoE
namespace Go.Proofs.YtkbfjficmdgjpaaGreatDoor
open Go.RowKit
set_option linter.unusedSimpArgs false
set_option linter.unusedVariables false
set_option maxRecDepth 100000

theorem pre_dec {t : List UInt8} {c : UInt8} (h : escW c <+: t) : dec1 t = some (c, (escW c).length) := by
  obtain ⟨r, rfl⟩ := h; exact esc_dec c r
theorem no_dec {t : List UInt8} (h : ∀ x : UInt8, x.toNat < 256 → ¬ escW x <+: t) : dec1 t = none := by
  cases hd : dec1 t with
  | none => rfl
  | some p =>
    obtain ⟨c, n⟩ := p
    obtain ⟨r, h1, _⟩ := dec_esc hd
    exact absurd ⟨r, h1.symm⟩ (h c c.toNat_lt)
theorem ext_mid (s : ByteArray) (a b : Nat) : (s.extract a b).data.toList = (s.data.toList.drop a).take (b - a) := by
  rw [ByteArray.data_extract]; simp [List.take_drop]
theorem pre_take {t q : List UInt8} (h : q.length ≤ t.length) : t.take q.length = q ↔ q <+: t := by
  rw [List.prefix_iff_eq_take]; exact eq_comm
/-- What the inner loop knows. -/
def Inn (w wr : World) (l : List UInt8) (k : Nat) (acc : List UInt8) (v i f c : Value) (g : Nat) : Prop :=
  (∃ j : Nat, j ≤ 256 ∧ c = .int .i64 j ∧ f = .bool false ∧ i = .int .i64 k ∧ wr.ownsRow w.heap.size 5 1 v acc.length (Lib.byteCells acc) ∧ Bl w wr ∧ (∀ x : UInt8, x.toNat < j → ¬ escW x <+: l.drop k) ∧ g = 256 - j) ∨
  (∃ (j : Nat) (x : UInt8) (n : Nat), c = .int .i64 j ∧ j ≤ 256 ∧ f = .bool true ∧ i = .int .i64 ((k + n : Nat) : Int) ∧ wr.ownsRow w.heap.size 5 1 v (acc ++ [x]).length (Lib.byteCells (acc ++ [x])) ∧ Bl w wr ∧ dec1 (l.drop k) = some (x, n))
set_option maxHeartbeats 8000000 in
theorem refQuoted (s : ByteArray) (hs : s.size ≤ 100000) (w : World) (res : List UInt8 × Int) (hres : uqR s.data.toList = res) : Calls Tryz.prog 131 #[.string s] w (RB w (.tuple #[.string ⟨res.1.toArray⟩, .int .i64 res.2])) := by
  obtain ⟨i0, hi, hz0, hz1, hz2⟩ := info_parts inf_by
  have HR := Lib.hid hres
  clear hres
  by_cases hz : s.size = 0
  · obtain rfl : s = ⟨#[]⟩ := by
      apply ByteArray.ext
      exact Array.eq_empty_of_size_eq_zero hz
    obtain rfl : res = ([], 0) := by rw [← HR.out]; rfl
    clear hz HR
    go_enter Tryz.func131, Tryz.ntmps131
    go_wp2_with fail
    go_ret2
    exact rb_tuple rfl rfl (by repeat (first | assumption | exact Bl.refl _ | apply Bl.drewN | apply Bl.drew | apply Bl.alloc | (refine Bl.dr ?_ (by assumption)) | (refine Bl.trans ?_ (by assumption))))
  · have h0 : 0 < s.size := by omega
    have z0 : ((s.size : Int) == 0) = false := by rw [beq_eq_false_iff_ne]; omega
    have hx0 := str_get h0
    by_cases h34 : (s[0]'h0) = 34
    · have e0 : (((s[0]'h0).toNat : Int) != 34) = false := by rw [h34]; rfl
      rw [h34] at hx0
      have HX0 := Lib.hid hx0
      clear hx0 h34 hz
      go_enter Tryz.func131, Tryz.ntmps131
      go_wp2_with fail
      go_loopg [4, 5] (s.size - 1) (fun g v i wr => ∃ (k : Nat) (acc : List UInt8), 1 ≤ k ∧ k ≤ s.size ∧ i = .int .i64 k ∧ wr.ownsRow w.heap.size 5 1 v acc.length (Lib.byteCells acc) ∧ acc.length ≤ k ∧ Bl w wr ∧ UqS s.data.toList k acc ∧ g = s.size - k)
      case atStart => exact ⟨1, [], by omega, by omega, rfl, own_lit0 w, by simp, Bl.refl _, uqs_start _, rfl⟩
      case round =>
        obtain ⟨k, acc, hk1, hk, rfl, hown, hal, hbw, hst, hg⟩ := hrel
        have G := Lib.hid hg
        have HS := Lib.hid hst
        have HO := Lib.hid hown
        clear hg hst hown
        by_cases hkl : k < s.size
        · have hx := str_get hkl
          have h1 : (0 : Int) ≤ (k : Int) := by omega
          have h2 : (k : Int) < (s.size : Int) := by omega
          have hk3 : ((k : Int) == (s.size : Int)) = false := by rw [beq_eq_false_iff_ne]; omega
          generalize hc : s[k]'hkl = c at hx
          by_cases hc34 : c = 34
          · subst hc34
            have hr : res = (acc, ((k + 1 : Nat) : Int)) := by rw [← HR.out, uqR_some HX0.out (uqs_end HS.out hk1 hx)]
            subst hr
            have hcv := conv_own HO.out
            clear hx
            go_wp2_with fail
            go_ret2
            exact rb_tuple rfl (by go_num) hbw
          · have e34 : ((c.toNat : Int) != 34) = true := u8_bne (d := 34) hc34
            have HX := Lib.hid hx
            have HC := Lib.hid hc34
            clear hx hc34
            go_wp2_with fail
            go_loopg [4, 5, 6, 7] 256 (fun g v i f c wr2 => Inn w wr2 s.data.toList k acc v i f c g)
            case atStart => exact .inl ⟨0, by omega, rfl, rfl, rfl, HO.out, hbw, by intro x hx; omega, rfl⟩
            case round =>
              rcases hrel with ⟨j, hj, rfl, rfl, rfl, hown, hbw2, hno, hg2⟩ | ⟨j, x, n, rfl, hj, rfl, rfl, hown, hbw2, hd⟩
              · have G2 := Lib.hid hg2
                have HO2 := Lib.hid hown
                have HN := Lib.hid hno
                clear hg2 hown hno
                by_cases hjl : j < 256
                · have j1 : (0 : Int) ≤ (j : Int) := by omega
                  have j2 : (j : Int) < 256 := by omega
                  obtain ⟨x, hx⟩ : ∃ x : UInt8, x = UInt8.ofNat j := ⟨_, rfl⟩
                  have hxn : x.toNat = j := by rw [hx]; simp; omega
                  have hE := fun w => refEscaped x w
                  rw [hxn] at hE
                  have hel := escW_len x
                  have hep := escW_pos x
                  obtain ⟨q, hq⟩ : ∃ q : ByteArray, (⟨(escW x).toArray⟩ : ByteArray) = q := ⟨_, rfl⟩
                  have hqs : q.size = (escW x).length := by rw [← hq]; rfl
                  have hql : q.data.toList = escW x := by rw [← hq]
                  rw [hq] at hE
                  have HE := Lib.hid hE
                  have hnext : (¬ escW x <+: s.data.toList.drop k) → ∀ y : UInt8, y.toNat < j + 1 → ¬ escW y <+: s.data.toList.drop k := by
                    intro hno y hy
                    by_cases e : y.toNat = j
                    · rw [UInt8.toNat_inj.1 (e.trans hxn.symm)]; exact hno
                    · exact HN.out y (by omega)
                  have HNX := Lib.hid hnext
                  have hpt := fun h => pre_take (t := s.data.toList.drop k) (q := escW x) h
                  have hdl : (s.data.toList.drop k).length = s.size - k := by simp
                  rw [hdl] at hpt
                  clear hE hx hq hnext hdl
                  by_cases hfit : (escW x).length ≤ s.size - k
                  · have hpt := hpt hfit
                    rw [← hqs] at hfit hpt hel hep
                    have f1 : decide ((q.size : Int) ≤ (s.size : Int) - (k : Int)) = true := by rw [decide_eq_true_eq]; omega
                    have f2 : (k : Int) + (q.size : Int) ≤ (s.size : Int) := by omega
                    have f3 : (0 : Int) ≤ (q.size : Int) := by omega
                    have f4 : (k : Int) ≤ (k : Int) + (q.size : Int) := by omega
                    have hel2 : (s.extract k (k + q.size)).toList = (s.data.toList.drop k).take q.size := by rw [toL, ext_mid, Nat.add_sub_cancel_left]
                    by_cases heq : escW x <+: s.data.toList.drop k
                    · have f5 : ((s.extract k (k + q.size)).toList == q.toList) = true := by rw [beq_iff_eq, hel2, hpt.2 heq, toL, hql]
                      have hd := pre_dec heq
                      rw [← hqs] at hd
                      have HD := Lib.hid hd
                      have HQ := Lib.hid hxn
                      clear hpt hel2 heq hd hqs hql
                      go_wp2_with fail
                      refine (HE.out _).mono ?_; rintro e w1 ⟨rfl, hb1⟩
                      have hbw1 : Bl w w1 := hbw2.trans hb1
                      have hown1 := own_bl HO2.out hb1
                      have hsz := hbw1.size
                      clear hb1
                      go_wp2_with (at_builtin; refine wpList_append_own _ rfl _ _ 66 rfl w.heap.size 5 i0 (.int .u8 0) 1 1 Tryz.underlying66 hi hz0 hz1 hz2 rfl (by decide) _ _ _ rfl (hown1.alloc _) ⟨w1.heap.size, 0, none⟩ 1 1 [.int .u8 (j : Nat)] rfl rfl ?c1 ?c2 ?c3 ?c4 ?c5 ?_)
                      case c1 => exact multi_new _ _ _
                      case c2 => intro u hu; simp at hu; subst hu; rfl
                      case c3 => unfold maxLen; omega
                      case c4 => omega
                      case c5 => simp; omega
                      intro v' w3 hown2 hgrow _
                      have hb3 := grown_bl (hbw1.alloc _) (hown1.alloc _) hgrow (Nat.le_refl _)
                      have hown3 : w3.ownsRow w.heap.size 5 1 v' (acc ++ [x]).length (Lib.byteCells (acc ++ [x])) := by
                        rw [Lib.byteCells_append, List.length_append]
                        rw [show Lib.byteCells [x] = [.int .u8 (x.toNat : Nat)] from rfl, HQ.out]; exact hown2
                      have HW := Lib.hid hown3
                      clear hown1 hown2 hown3 hgrow
                      go_wp2_with fail
                      go_roundg (256 - (j + 1))
                      case rel => exact .inr ⟨j + 1, x, q.size, by go_num, by omega, rfl, by go_num, HW.out, hb3, HD.out⟩
                      case measure => rw [G2.out]; omega
                    · have f5 : ((s.extract k (k + q.size)).toList == q.toList) = false := by rw [beq_eq_false_iff_ne, hel2, toL, hql]; exact fun e => heq (hpt.1 e)
                      have HNX2 := Lib.hid (HNX.out heq)
                      clear hpt hel2 heq hqs hql hxn
                      go_wp2_with fail
                      refine (HE.out _).mono ?_; rintro e w1 ⟨rfl, hb1⟩
                      have hbw1 : Bl w w1 := hbw2.trans hb1
                      have hown1 := own_bl HO2.out hb1
                      have HO3 := Lib.hid hown1
                      clear hb1 hown1
                      go_wp2_with fail
                      go_roundg (256 - (j + 1))
                      case rel => exact .inl ⟨j + 1, by omega, by go_num, rfl, rfl, HO3.out, hbw1, HNX2.out, rfl⟩
                      case measure => rw [G2.out]; omega
                  · have hn : ¬ escW x <+: s.data.toList.drop k := by
                      intro h
                      have := h.length_le
                      simp at this; omega
                    have HNX2 := Lib.hid (HNX.out hn)
                    rw [← hqs] at hfit
                    have f1 : decide ((q.size : Int) ≤ (s.size : Int) - (k : Int)) = false := by rw [decide_eq_false_iff_not]; omega
                    clear hn hpt hqs hql hxn hfit
                    go_wp2_with fail
                    refine (HE.out _).mono ?_; rintro e w1 ⟨rfl, hb1⟩
                    have hbw1 : Bl w w1 := hbw2.trans hb1
                    have hown1 := own_bl HO2.out hb1
                    have HO3 := Lib.hid hown1
                    clear hb1 hown1
                    go_wp2_with fail
                    go_roundg (256 - (j + 1))
                    case rel => exact .inl ⟨j + 1, by omega, by go_num, rfl, rfl, HO3.out, hbw1, HNX2.out, rfl⟩
                    case measure => rw [G2.out]; omega
                · obtain rfl : j = 256 := by omega
                  have hr : res = ([], 0) := by rw [← HR.out, uqR_none HX0.out (uqs_bad HS.out HX.out HC.out (no_dec HN.out))]
                  subst hr
                  go_wp2_with fail
                  go_ret2
                  exact rb_tuple rfl rfl hbw2
              · have hp := dec_pos hd
                have hs2 := uqs_step HS.out hk1 HX.out HC.out hd
                have hkn : k + n ≤ s.size := by have := hp.2; simp at this; omega
                have hp1 := hp.1
                have HS2 := Lib.hid hs2
                have HO3 := Lib.hid hown
                have hal2 : (acc ++ [x]).length ≤ k + n := by rw [List.length_append, List.length_singleton]; omega
                have j1 : (0 : Int) ≤ (j : Int) := by omega
                have j2 : (j : Int) ≤ 256 := by omega
                clear hs2 hown hd hp
                by_cases hjl : j < 256
                · have j3 : decide ((j : Int) < 256) = true := by rw [decide_eq_true_eq]; omega
                  go_wp2_with fail
                  go_roundg (s.size - (k + n))
                  case rel => exact ⟨k + n, acc ++ [x], by omega, hkn, rfl, HO3.out, hal2, hbw2, HS2.out, rfl⟩
                  case measure => rw [G.out]; omega
                · have j3 : decide ((j : Int) < 256) = false := by rw [decide_eq_false_iff_not]; omega
                  go_wp2_with fail
                  go_roundg (s.size - (k + n))
                  case rel => exact ⟨k + n, acc ++ [x], by omega, hkn, rfl, HO3.out, hal2, hbw2, HS2.out, rfl⟩
                  case measure => rw [G.out]; omega
        · obtain rfl : k = s.size := by omega
          have hr : res = ([], 0) := by rw [← HR.out, uqR_none HX0.out (uqs_out HS.out (by simp))]
          subst hr
          go_wp2_with fail
          go_ret2
          exact rb_tuple rfl rfl (by repeat (first | assumption | exact Bl.refl _ | apply Bl.drewN | apply Bl.drew | apply Bl.alloc | (refine Bl.dr ?_ (by assumption)) | (refine Bl.trans ?_ (by assumption))))
    · have e0 : (((s[0]'h0).toNat : Int) != 34) = true := u8_bne (d := 34) h34
      have hr : res = ([], 0) := by rw [← HR.out, uqR_no hx0 h34]
      subst hr
      clear hx0 h34 hz
      go_enter Tryz.func131, Tryz.ntmps131
      go_wp2_with fail
      go_ret2
      exact rb_tuple rfl rfl (by repeat (first | assumption | exact Bl.refl _ | apply Bl.drewN | apply Bl.drew | apply Bl.alloc | (refine Bl.dr ?_ (by assumption)) | (refine Bl.trans ?_ (by assumption))))
end Go.Proofs.YtkbfjficmdgjpaaGreatDoor


/-
  Contracts of words: the reference's Join; the law's far.
-/
import Derived.Test.YtfjdcfmoodlnaaaDoorWoW
import Derived.Test.YtfjdcfmoodlnaaaDoorWoE
import Derived.Test.YtfjdcfmoodlnaaaDoorWoN
namespace Go.Proofs.YtfjdcfmoodlnaaaDoor
open Go.RowKit
set_option linter.unusedSimpArgs false
set_option linter.unusedVariables false
set_option maxRecDepth 100000

theorem join_step {l : List Fld} {k : Nat} {x : Fld} (h : l[k]? = some x) : joinW (l.take (k + 1)) = if k = 0 then x.txt else joinW (l.take k) ++ 32 :: x.txt := by
  obtain ⟨hk, hz⟩ := List.getElem?_eq_some_iff.1 h
  rw [List.take_succ_eq_append_getElem hk, hz]
  by_cases e : k = 0
  · subst e; simp [joinW]
  · rw [if_neg e, join_app _ _ (by intro h; have h2 : (l.take k).length = k := by { rw [List.length_take]; omega }; rw [h] at h2; simp at h2; omega) (by simp)]; rfl
theorem val_at {l : List Fld} {k : Nat} {x : Fld} (h : l[k]? = some x) (hx : x.val = false) : l.all Fld.val = false := by
  rw [List.all_eq_false]; exact ⟨x, List.mem_of_getElem? h, by simp [hx]⟩
theorem val_all {l : List Fld} (h : ∀ (j : Nat) x, l[j]? = some x → x.val = true) : l.all Fld.val = true := by
  rw [List.all_eq_true]
  intro x hx
  obtain ⟨j, hj, rfl⟩ := List.getElem_of_mem hx
  exact h j _ (List.getElem?_eq_getElem hj)
set_option maxHeartbeats 8000000 in
theorem refJoin (a : Option Addr) (c : Nat) (l : List Fld) (w : World) (hF : Flds w a l) (hln : l.length ≤ maxLen) : Calls Tryd.prog 25 #[.slice a l.length c] w (RB w (.tuple #[.string ⟨(wjoin l).1.toArray⟩, .int .i64 (wjoin l).2])) := by
  obtain ⟨res, hres⟩ : ∃ r, wjoin l = r := ⟨_, rfl⟩
  rw [hres]
  unfold wjoin at hres
  by_cases h64 : 64 < l.length
  · rw [if_pos h64] at hres
    subst hres
    have i1 : (64 : Int) < (l.length : Int) := by omega
    clear hF h64
    go_enter Tryd.func25, Tryd.ntmps25
    go_wp2_with fail
    go_ret2
    exact rb_tuple rfl rfl (by repeat (first | assumption | exact Bl.refl _ | apply Bl.drewN | apply Bl.drew | apply Bl.alloc | (refine Bl.dr ?_ (by assumption)) | (refine Bl.trans ?_ (by assumption))))
  · rw [if_neg h64] at hres
    have i1 : ¬ (64 : Int) < (l.length : Int) := by omega
    have hl64 : l.length ≤ 64 := by omega
    have HR := Lib.hid hres
    have HF := Lib.hid hF
    clear hres hF hln
    go_enter Tryd.func25, Tryd.ntmps25
    go_wp2_with fail
    go_loopg [4] l.length (fun g i wr => ∃ k : Nat, k ≤ l.length ∧ i = .int .i64 k ∧ Bl w wr ∧ (∀ (j : Nat) x, j < k → l[j]? = some x → x.s.length ≤ 2000) ∧ g = l.length - k)
    case atStart => exact ⟨0, by omega, rfl, Bl.refl _, by intro j x hj; omega, rfl⟩
    case round =>
      obtain ⟨k, hk, rfl, hbw, hno, hg⟩ := hrel
      have G := Lib.hid hg
      have HNo := Lib.hid hno
      clear hg hno
      by_cases hkl : k < l.length
      · obtain ⟨b, off, rfl, hat⟩ := (HF.out.bl hbw).get hkl
        obtain ⟨x, hx⟩ : ∃ x, l[k]? = some x := ⟨_, List.getElem?_eq_getElem hkl⟩
        obtain ⟨d0, d1⟩ := hat k x hx
        have j0 : (0 : Int) ≤ (k : Int) := by omega
        have j1 : (k : Int) < (l.length : Int) := by omega
        obtain ⟨xs, hxs⟩ : ∃ xs : ByteArray, (⟨x.s.toArray⟩ : ByteArray) = xs := ⟨_, rfl⟩
        have hxl : xs.size = x.s.length := by rw [← hxs]; rfl
        rw [hxs] at d0
        by_cases hlong : 2000 < xs.size
        · have t1 : (2000 : Int) < (xs.size : Int) := by omega
          have hr := HR.out
          rw [if_pos (tooL_at hx (by omega))] at hr
          subst hr
          clear hat hx hxs hxl hlong
          go_wp2_with fail
          go_ret2
          exact rb_tuple rfl rfl (by repeat (first | assumption | exact Bl.refl _ | apply Bl.drewN | apply Bl.drew | apply Bl.alloc | (refine Bl.dr ?_ (by assumption)) | (refine Bl.trans ?_ (by assumption))))
        · have t1 : ¬ (2000 : Int) < (xs.size : Int) := by omega
          have hno2 : ∀ (j : Nat) y, j < k + 1 → l[j]? = some y → y.s.length ≤ 2000 := by
            intro j y hj hy
            by_cases e : j = k
            · subst e; rw [hx] at hy; injection hy with hy; subst hy; omega
            · exact HNo.out j y (by omega) hy
          have HN2 := Lib.hid hno2
          clear hat hx hxs hxl hlong hno2
          go_wp2_with fail
          go_roundg (l.length - (k + 1))
          case rel => exact ⟨k + 1, by omega, by go_num, (by repeat (first | assumption | exact Bl.refl _ | apply Bl.drewN | apply Bl.drew | apply Bl.alloc | (refine Bl.dr ?_ (by assumption)) | (refine Bl.trans ?_ (by assumption)))), HN2.out, rfl⟩
          case measure => rw [G.out]; omega
      · obtain rfl : k = l.length := by omega
        have hall := fun j x hx => HNo.out j x (List.getElem?_eq_some_iff.1 hx).1 hx
        have hr := HR.out
        rw [if_neg (by rw [tooL_no hall]; simp)] at hr
        have HR2 := Lib.hid hr
        have HAll := Lib.hid hall
        have hjl : ∀ k, (joinW (l.take k)).length ≤ 8003 * k := fun k => Nat.le_trans (join_len (l.take k) (fun f hf => by obtain ⟨j, hj, rfl⟩ := List.getElem_of_mem (List.mem_of_mem_take hf); exact hall j _ (List.getElem?_eq_getElem hj))) (Nat.mul_le_mul (Nat.le_refl _) (List.length_take_le _ _))
        have HJl := Lib.hid hjl
        have hbw0 := hbw
        clear hr hall hjl hkl hbw
        go_wp2_with fail
        go_loopg [5, 6] l.length (fun g o i wr => ∃ k : Nat, k ≤ l.length ∧ i = .int .i64 k ∧ o = .string ⟨(joinW (l.take k)).toArray⟩ ∧ Bl w wr ∧ (∀ (j : Nat) x, j < k → l[j]? = some x → x.val = true) ∧ g = l.length - k)
        case atStart => exact ⟨0, by omega, rfl, by simp [joinW], hbw0, by intro j x hj; omega, rfl⟩
        case round =>
          clear hbw0
          obtain ⟨k, hk, rfl, rfl, hbw, hno, hg⟩ := hrel
          have G := Lib.hid hg
          have HNo2 := Lib.hid hno
          clear hg hno
          obtain ⟨os, hos⟩ : ∃ os : ByteArray, (⟨(joinW (l.take k)).toArray⟩ : ByteArray) = os := ⟨_, rfl⟩
          have hosz : os.size ≤ 8003 * k := by rw [← hos]; exact HJl.out k
          have hod : os.data.toList = joinW (l.take k) := by rw [← hos]
          rw [hos]
          by_cases hkl : k < l.length
          · obtain ⟨b, off, rfl, hat⟩ := (HF.out.bl hbw).get hkl
            obtain ⟨x, hx⟩ : ∃ x, l[k]? = some x := ⟨_, List.getElem?_eq_getElem hkl⟩
            obtain ⟨d0, d1⟩ := hat k x hx
            have hxb := HAll.out k x hx
            have j0 : (0 : Int) ≤ (k : Int) := by omega
            have j1 : (k : Int) < (l.length : Int) := by omega
            obtain ⟨xs, hxs⟩ : ∃ xs : ByteArray, (⟨x.s.toArray⟩ : ByteArray) = xs := ⟨_, rfl⟩
            have hxl : xs.size = x.s.length := by rw [← hxs]; rfl
            have hxd : xs.data.toList = x.s := by rw [← hxs]
            rw [hxs] at d0
            obtain ⟨ts, hts⟩ : ∃ ts : ByteArray, (⟨x.txt.toArray⟩ : ByteArray) = ts := ⟨_, rfl⟩
            have htz : ts.size ≤ 8002 := by rw [← hts]; exact txt_len hxb
            have htd : ts.data.toList = x.txt := by rw [← hts]
            have hjs := join_step hx
            have hnew : (os ++ ts = ⟨(joinW (l.take (k + 1))).toArray⟩ ∧ k = 0) ∨ (os ++ ⟨#[32]⟩ ++ ts = ⟨(joinW (l.take (k + 1))).toArray⟩ ∧ 0 < k) := by
              by_cases e : k = 0
              · left
                refine ⟨?_, e⟩
                rw [if_pos e] at hjs
                rw [hjs, apS, htd, hod, e]; simp [joinW]
              · right
                refine ⟨?_, by omega⟩
                rw [if_neg e] at hjs
                rw [hjs, apS, apS, htd, hod]; simp
            have z1 : ¬ 9223372036854775807 < os.size + 1 := by omega
            have z2 : ¬ 9223372036854775807 < os.size + ts.size := by omega
            have z3 : ¬ 9223372036854775807 < os.size + 1 + ts.size := by omega
            have hno2 : x.val = true → ∀ (j : Nat) y, j < k + 1 → l[j]? = some y → y.val = true := by
              intro hv j y hj hy
              by_cases e : j = k
              · subst e; rw [hx] at hy; injection hy with hy; subst hy; exact hv
              · exact HNo2.out j y (by omega) hy
            cases hq : x.q with
            | true =>
              have hQ := fun w => refQuote xs (by omega) w
              rw [hxd, show quoteW x.s = x.txt by unfold Fld.txt; rw [hq]; rfl, hts] at hQ
              have HN2 := Lib.hid (hno2 (by unfold Fld.val; rw [hq]; rfl))
              have HQ := Lib.hid hQ
              rw [hq] at d1
              clear hat hx hxs hxl hxd hno2 hQ hts htd hjs hod hos hq hosz htz
              rcases hnew with ⟨hnew, hk0⟩ | ⟨hnew, hk0⟩
              · have HNew := Lib.hid hnew
                have e0 : decide (0 < k) = false := by rw [decide_eq_false_iff_not]; omega
                clear hk0
                clear hnew
                go_wp2_with fail
                refine (HQ.out _).mono ?_; rintro e w4 ⟨rfl, hb4⟩
                have hbw4 : Bl w w4 := hbw.trans hb4
                go_wp2_with fail
                go_roundg (l.length - (k + 1))
                case rel => exact ⟨k + 1, by omega, by go_num, sval HNew.out, hbw4, HN2.out, rfl⟩
                case measure => rw [G.out]; omega
              · have HNew := Lib.hid hnew
                have e0 : decide (0 < k) = true := by rw [decide_eq_true_eq]; omega
                clear hnew
                go_wp2_with fail
                refine (HQ.out _).mono ?_; rintro e w4 ⟨rfl, hb4⟩
                have hbw4 : Bl w w4 := hbw.trans hb4
                go_wp2_with fail
                go_roundg (l.length - (k + 1))
                case rel => exact ⟨k + 1, by omega, by go_num, sval HNew.out, hbw4, HN2.out, rfl⟩
                case measure => rw [G.out]; omega
            | false =>
              have hB := fun w => refBare xs (by omega) w
              rw [hxd] at hB
              have hte : ts = xs := by rw [← hts, ← hxs]; unfold Fld.txt; rw [hq]; rfl
              rw [hq] at d1
              cases hbb : bareW x.s with
              | false =>
                rw [hbb] at hB
                have hr := HR2.out
                rw [if_pos (val_at hx (by unfold Fld.val; rw [hq, hbb]; rfl))] at hr
                subst hr
                have HBr := Lib.hid hB
                clear hat hx hxs hxl hxd hno2 hB hts htd hjs hod hos hq hosz htz hbb hte hnew z1 z2 z3
                go_wp2_with fail
                refine (HBr.out _).mono ?_; rintro e w4 ⟨rfl, hb4⟩
                go_wp2_with fail
                go_ret2
                exact rb_tuple rfl rfl (hbw.trans hb4)
              | true =>
                rw [hbb] at hB
                have HBr := Lib.hid hB
                have HN2 := Lib.hid (hno2 (by unfold Fld.val; rw [hq, hbb]; rfl))
                subst hte
                clear hat hx hxs hxl hxd hno2 hB hts htd hjs hod hos hq hosz htz hbb
                rcases hnew with ⟨hnew, hk0⟩ | ⟨hnew, hk0⟩
                · have HNew := Lib.hid hnew
                  have e0 : decide (0 < k) = false := by rw [decide_eq_false_iff_not]; omega
                  clear hk0
                  clear hnew
                  go_wp2_with fail
                  refine (HBr.out _).mono ?_; rintro e w4 ⟨rfl, hb4⟩
                  have hbw4 : Bl w w4 := hbw.trans hb4
                  have d0 := hb4.cell d0
                  have d1 := hb4.cell d1
                  go_wp2_with fail
                  go_roundg (l.length - (k + 1))
                  case rel => exact ⟨k + 1, by omega, by go_num, sval HNew.out, hbw4, HN2.out, rfl⟩
                  case measure => rw [G.out]; omega
                · have HNew := Lib.hid hnew
                  have e0 : decide (0 < k) = true := by rw [decide_eq_true_eq]; omega
                  clear hnew
                  go_wp2_with fail
                  refine (HBr.out _).mono ?_; rintro e w4 ⟨rfl, hb4⟩
                  have hbw4 : Bl w w4 := hbw.trans hb4
                  have d0 := hb4.cell d0
                  have d1 := hb4.cell d1
                  go_wp2_with fail
                  go_roundg (l.length - (k + 1))
                  case rel => exact ⟨k + 1, by omega, by go_num, sval HNew.out, hbw4, HN2.out, rfl⟩
                  case measure => rw [G.out]; omega
          · obtain rfl : k = l.length := by omega
            have hr := HR2.out
            rw [if_neg (by rw [val_all (fun j x hx => HNo2.out j x (List.getElem?_eq_some_iff.1 hx).1 hx)]; simp)] at hr
            rw [List.take_length] at hos hod
            have hjz : os.size = (joinW l).length := by rw [← hos]; rfl
            by_cases h8 : 8192 < os.size
            · rw [if_pos (by omega)] at hr
              subst hr
              have t2 : (8192 : Int) < (os.size : Int) := by omega
              clear hjz hos hod h8 hosz
              go_wp2_with fail
              go_ret2
              exact rb_tuple rfl rfl hbw
            · rw [if_neg (by omega)] at hr
              subst hr
              have t2 : ¬ (8192 : Int) < (os.size : Int) := by omega
              have HOS := Lib.hid hos
              clear hjz hos hod h8 hosz
              go_wp2_with fail
              go_ret2
              exact rb_tuple (sval HOS.out.symm) rfl hbw
end Go.Proofs.YtfjdcfmoodlnaaaDoor


/-
  Contracts of words: the reference's Lines.
-/
import Derived.Test.YtidclkojekodpaaGreatDoorWlB
import Derived.Laws.AppendOwn
namespace Go.Proofs.YtidclkojekodpaaGreatDoor
open Go.RowKit
set_option linter.unusedSimpArgs false
set_option linter.unusedVariables false
set_option maxRecDepth 100000

/-- Between two rounds of the reference's loop: done are the pieces laid, fr where the next begins. -/
theorem spl_take {l : List UInt8} {fr i : Nat} {c : UInt8} (hf : fr ≤ i) (hc : l[i]? = some c) : spl ((l.take i).drop fr) (l.drop i) = if c = 10 then (l.take i).drop fr :: spl [] (l.drop (i + 1)) else spl ((l.take (i + 1)).drop fr) (l.drop (i + 1)) := by
  obtain ⟨hi, he⟩ := List.getElem?_eq_some_iff.1 hc
  rw [List.drop_eq_getElem_cons hi, he, spl]
  have e : (l.take (i + 1)).drop fr = (l.take i).drop fr ++ [c] := by
    rw [List.take_succ_eq_append_getElem hi, he, List.drop_append]
    rw [show fr - (l.take i).length = 0 by rw [List.length_take]; omega]
    simp
  rw [e]
theorem u8_no {c : UInt8} (h : ¬ c = 10) : ((c.toNat : Int) == 10) = false := by
  rw [beq_eq_false_iff_ne]
  intro e
  exact h (UInt8.toNat_inj.1 (show c.toNat = (10 : UInt8).toNat by rw [show (10 : UInt8).toNat = 10 from rfl]; omega))
theorem ext_list (s : ByteArray) (fr i : Nat) : (s.extract fr i).data.toList = (s.data.toList.take i).drop fr := by
  rw [Lib.extract_data, List.drop_take]
theorem last_suffix {s : ByteArray} {c : UInt8} (h : s.data.toList[s.size - 1]? = some c) (hp : 1 ≤ s.size) : Lib.hasSuffix s.data.toList [10] = decide (c = 10) := by
  have hl := Lib.size_eq s
  obtain ⟨hi, he⟩ := List.getElem?_eq_some_iff.1 h
  have hs : s.data.toList = s.data.toList.take (s.size - 1) ++ [c] := by
    have := List.take_succ_eq_append_getElem hi
    rw [he] at this
    rw [← this, List.take_of_length_le (by omega)]
  by_cases hc : c = 10
  · subst hc
    rw [decide_eq_true rfl]
    unfold Lib.hasSuffix
    exact List.isSuffixOf_iff_suffix.2 ⟨_, hs.symm⟩
  · rw [decide_eq_false hc]
    unfold Lib.hasSuffix
    rw [Bool.eq_false_iff]
    intro hh
    obtain ⟨t, ht⟩ := List.isSuffixOf_iff_suffix.1 hh
    rw [hs] at ht
    have := (List.append_inj' ht rfl).2
    simp at this
    exact hc this.symm
set_option maxHeartbeats 4000000 in
theorem refLines (s : ByteArray) (w : World) (hs : s.size ≤ 2000000) : Calls Tryz.prog 21 #[.string s] w (RM w (LinesIs (wlines s.data.toList))) := by
  obtain ⟨i0, hi, hz0, hz1, hz2⟩ := info_parts inf_string
  obtain ⟨res, hres⟩ : ∃ r, wlines s.data.toList = r := ⟨_, rfl⟩
  rw [hres]
  unfold wlines at hres
  have hsz : s.data.toList.length = s.size := (Lib.size_eq s).symm
  rw [hsz] at hres
  by_cases h1 : 1048576 < s.size
  · rw [if_pos h1] at hres
    subst hres
    have i1 : (1048576 : Int) < (s.size : Int) := by omega
    clear h1 hsz hi hz0 hz1 hz2
    go_enter Tryz.func21, Tryz.ntmps21
    go_wp2_with fail
    go_ret2
    exact RM.mk (lines_none _ _) (by repeat (first | assumption | exact Bl.refl _ | apply Bl.drewN | apply Bl.drew | apply Bl.alloc | (refine Bl.dr ?_ (by assumption)) | (refine Bl.trans ?_ (by assumption))))
  · rw [if_neg h1] at hres
    have i1 : ¬ (1048576 : Int) < (s.size : Int) := by omega
    by_cases h2 : s.data.toList = []
    · rw [if_pos h2] at hres
      subst hres
      obtain rfl : s = ⟨#[]⟩ := by apply ByteArray.ext; apply Array.ext'; simpa using h2
      clear h1 h2 hsz i1 hs hi hz0 hz1 hz2
      go_enter Tryz.func21, Tryz.ntmps21
      go_wp2_with fail
      go_ret2
      exact RM.mk (lines_none _ _) (by repeat (first | assumption | exact Bl.refl _ | apply Bl.drewN | apply Bl.drew | apply Bl.alloc | (refine Bl.dr ?_ (by assumption)) | (refine Bl.trans ?_ (by assumption))))
    · rw [if_neg h2] at hres
      have hne : s.toList.isEmpty = false := by
        rw [Lib.toList_data]
        match s.data.toList, h2 with
        | [], h => exact absurd rfl h
        | _ :: _, _ => rfl
      have hpos : 1 ≤ s.size := by
        rw [← hsz]
        match s.data.toList, h2 with
        | [], h => exact absurd rfl h
        | _ :: _, _ => simp
      have hk : s.size - 1 < s.size := by omega
      obtain ⟨c, hc⟩ : ∃ c, s[s.size - 1]'hk = c := ⟨_, rfl⟩
      have hc2 : s.data.toList[s.size - 1]? = some c := by rw [← hc]; simp [ByteArray.getElem_eq_getElem_data]
      have hb := last_suffix hc2 hpos
      rw [hb] at hres
      have q1 : (0 : Int) ≤ (s.size : Int) - 1 := by omega
      have q2 : (s.size : Int) - 1 < (s.size : Int) := by omega
      have q3 : ((s.size : Int) - 1).toNat = s.size - 1 := by omega
      have q4 : (1 : Int) ≤ (s.size : Int) := by omega
      clear hb hc2 h1 h2
      by_cases h10 : c = 10
      · rw [if_neg (by simp [h10])] at hres
        have e10 : (((s[s.size - 1]'hk).toNat : Int) != 10) = false := by rw [hc, h10]; rfl
        have HRes := Lib.hid hres
        have hall : ∃ r, spl [] s.data.toList = r := ⟨_, rfl⟩
        clear hres hc h10
        go_enter Tryz.func21, Tryz.ntmps21
        go_wp2_with fail
        go_loopg [4, 5, 6] s.size (fun g o f i wr => ∃ (fr k : Nat) (D : List ByteArray), f = .int .i64 fr ∧ i = .int .i64 k ∧ fr ≤ k ∧ k ≤ s.size ∧ wr.ownsRow w.heap.size 9 1 o D.length (D.map Value.string) ∧ D.map (·.data.toList) ++ spl ((s.data.toList.take k).drop fr) (s.data.toList.drop k) = spl [] s.data.toList ∧ D.length ≤ k ∧ (∀ x ∈ D, x.size ≤ s.size) ∧ Bl w wr ∧ g = s.size - k)
        case atStart => exact ⟨0, 0, [], rfl, rfl, Nat.le_refl _, Nat.zero_le _, own_nil _ _ _ _, by simp, Nat.le_refl _, by simp, Bl.refl _, rfl⟩
        case round =>
          obtain ⟨fr, k, D, rfl, rfl, hfk, hks, hown, hsp, hDl, hD, hbw, hg⟩ := hrel
          have G := Lib.hid hg
          have HSp := Lib.hid hsp
          have HD := Lib.hid hD
          clear hg hsp hD
          by_cases hkl : k < s.size
          · obtain ⟨d, hd⟩ : ∃ d, s[k]'hkl = d := ⟨_, rfl⟩
            have hd2 : s.data.toList[k]? = some d := by rw [← hd]; simp [ByteArray.getElem_eq_getElem_data]
            have ht := spl_take hfk hd2
            have j0 : (0 : Int) ≤ (k : Int) := by omega
            have j1 : (k : Int) < (s.size : Int) := by omega
            by_cases hd10 : d = 10
            · rw [if_pos hd10] at ht
              have t1 : (((s[k]'hkl).toNat : Int) == 10) = true := by rw [hd, hd10]; rfl
              have j3 : (fr : Int) ≤ (k : Int) := by omega
              have HT := Lib.hid ht
              have HO := Lib.hid hown
              clear hd hd2 ht hd10 hown
              obtain ⟨q, hq⟩ : ∃ q, s.extract fr k = q := ⟨_, rfl⟩
              have hql : q.data.toList = (s.data.toList.take k).drop fr := by rw [← hq]; exact ext_list s fr k
              have hqs : q.size ≤ s.size := by rw [← hq, ByteArray.size_extract]; omega
              have HQ := Lib.hid hq
              have HQL := Lib.hid hql
              have HQS := Lib.hid hqs
              have hsz := hbw.size
              have hown := HO.out
              clear hq hql hqs
              go_wp2_with (at_builtin; refine wpList_append_own _ rfl _ _ 54 rfl w.heap.size 9 i0 (.string ⟨#[]⟩) 1 16 Tryz.underlying54 hi hz0 hz1 hz2 rfl (by decide) _ _ _ rfl (hown.alloc _) ⟨wr.heap.size, 0, none⟩ 1 1 [.string q] rfl rfl ?c1 ?c2 ?c3 ?c4 ?c5 ?_)
              case c1 => rw [HQ.out]; exact one_new _ _ _
              case c2 => intro u hu; simp at hu; subst hu; rfl
              case c3 => unfold maxLen; omega
              case c4 => omega
              case c5 => simp; omega
              intro v' w3 hown2 hgrow _
              rw [HQ.out] at hgrow
              have hb3 := grown_bl (hbw.alloc _) (hown.alloc _) hgrow (Nat.le_refl _)
              have hown3 : w3.ownsRow w.heap.size 9 1 v' (D ++ [q]).length ((D ++ [q]).map Value.string) := by
                rw [List.length_append, List.map_append]; exact hown2
              have hsp2 : (D ++ [q]).map (·.data.toList) ++ spl ((s.data.toList.take (k + 1)).drop (k + 1)) (s.data.toList.drop (k + 1)) = spl [] s.data.toList := by
                rw [← HSp.out, HT.out, List.map_append, List.append_assoc]
                rw [show (s.data.toList.take (k + 1)).drop (k + 1) = [] by rw [List.drop_take]; simp]
                simp only [List.map_cons, List.map_nil, HQL.out, List.singleton_append]
              have hD2 : ∀ x ∈ D ++ [q], x.size ≤ s.size := by
                intro x hx
                rcases List.mem_append.1 hx with hx | hx
                · exact HD.out x hx
                · simp at hx; subst hx; exact HQS.out
              have HW := Lib.hid hown3
              have HS2 := Lib.hid hsp2
              have HD2 := Lib.hid hD2
              clear hown hown2 hown3 hgrow hsp2 hD2
              go_wp2_with fail
              go_roundg (s.size - (k + 1))
              case rel => exact ⟨k + 1, k + 1, D ++ [q], by go_num, by go_num, by omega, by omega, HW.out, HS2.out, by simp; omega, HD2.out, hb3, rfl⟩
              case measure => rw [G.out]; omega
            · rw [if_neg hd10] at ht
              have t1 : (((s[k]'hkl).toNat : Int) == 10) = false := by rw [hd]; exact u8_no hd10
              have HT := Lib.hid ht
              have HO := Lib.hid hown
              clear hd hd2 ht hd10 hown
              go_wp2_with fail
              go_roundg (s.size - (k + 1))
              case rel => exact ⟨fr, k + 1, D, rfl, by go_num, by omega, by omega, HO.out, by rw [← HT.out]; exact HSp.out, by omega, HD.out, hbw, rfl⟩
              case measure => rw [G.out]; omega
          · obtain rfl : k = s.size := by omega
            have hfin : D.map (·.data.toList) = spl [] s.data.toList := by
              rw [← HSp.out, show s.data.toList.drop s.size = [] from List.drop_of_length_le (by rw [← Lib.size_eq]; exact Nat.le_refl _)]; simp [spl]
            have hlen : (spl [] s.data.toList).length = D.length := by rw [← hfin, List.length_map]
            have hr := HRes.out
            rw [hlen] at hr
            have HF := Lib.hid hfin
            obtain ⟨a, c, rfl, hS, hc1, hc2⟩ := own_strs hown (fun x hx => by have := HD.out x hx; unfold maxLen; omega)
            have HS := Lib.hid hS
            clear HSp hfin hlen hown hS
            by_cases h5 : 5000 < D.length
            · rw [if_pos h5] at hr
              subst hr
              have i5 : (5000 : Int) < (D.length : Int) := by omega
              clear h5 HRes
              go_wp2_with fail
              go_ret2
              exact RM.mk (lines_none _ _) hbw
            · rw [if_neg h5] at hr
              subst hr
              have i5 : ¬ (5000 : Int) < (D.length : Int) := by omega
              have hn5 : D.length ≤ 5000 := by omega
              clear h5 HRes
              go_wp2_with fail
              go_ret2
              exact RM.mk ⟨a, c, D, rfl, HS.out, HF.out, hn5⟩ hbw
      · rw [if_pos (by simp [h10])] at hres
        subst hres
        have e10 : (((s[s.size - 1]'hk).toNat : Int) != 10) = true := by rw [hc, bne, u8_no h10]; rfl
        clear hc h10 hi hz0 hz1 hz2
        go_enter Tryz.func21, Tryz.ntmps21
        go_wp2_with fail
        go_ret2
        exact RM.mk (lines_none _ _) (by repeat (first | assumption | exact Bl.refl _ | apply Bl.drewN | apply Bl.drew | apply Bl.alloc | (refine Bl.dr ?_ (by assumption)) | (refine Bl.trans ?_ (by assumption))))
end Go.Proofs.YtidclkojekodpaaGreatDoor

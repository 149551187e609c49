
/-
  The reference's one: the entry of a line.
-/
import Derived.Test.YtkbfjficmdgjpaaGreatDoorEtA
import Derived.Test.YtkbfjficmdgjpaaGreatDoorMem
namespace Go.Proofs.YtkbfjficmdgjpaaGreatDoor
open Go.RowKit Go.Sort
set_option linter.unusedSimpArgs false
set_option linter.unusedVariables false
set_option maxRecDepth 100000

/-! ### One field of a variable is stored -/
theorem Mem.k0 {w : World} {g : Nat} {x : Ent} (h : Mem w (VE g x)) (k : ByteArray) : Mem (w.setCell ⟨g, 0, none⟩ (.string k)) (VE g { x with key := k }) := by
  obtain ⟨a0, f0, a1, f1, a2, f2, a3, f3, -⟩ := h
  refine ⟨smc _ _ _ _ _ a0, ?_, ?_, ?_, ?_, ?_, ?_, ?_, trivial⟩
  · rw [frozen_set]; exact f0
  · rw [oth _ _ 0 1 _ (by omega)]; exact a1
  · rw [frozen_set]; exact f1
  · rw [oth _ _ 0 2 _ (by omega)]; exact a2
  · rw [frozen_set]; exact f2
  · rw [oth _ _ 0 3 _ (by omega)]; exact a3
  · rw [frozen_set]; exact f3
theorem Mem.k1 {w : World} {g : Nat} {x : Ent} (h : Mem w (VE g x)) (v : ByteArray) : Mem (w.setCell ⟨g, 1, none⟩ (.string v)) (VE g { x with val := v }) := by
  obtain ⟨a0, f0, a1, f1, a2, f2, a3, f3, -⟩ := h
  refine ⟨?_, ?_, smc _ _ _ _ _ a1, ?_, ?_, ?_, ?_, ?_, trivial⟩
  · rw [oth _ _ 1 0 _ (by omega)]; exact a0
  · rw [frozen_set]; exact f0
  · rw [frozen_set]; exact f1
  · rw [oth _ _ 1 2 _ (by omega)]; exact a2
  · rw [frozen_set]; exact f2
  · rw [oth _ _ 1 3 _ (by omega)]; exact a3
  · rw [frozen_set]; exact f3
theorem Mem.k2 {w : World} {g : Nat} {x : Ent} (h : Mem w (VE g x)) (d : Bool) : Mem (w.setCell ⟨g, 2, none⟩ (.bool d)) (VE g { x with dead := d }) := by
  obtain ⟨a0, f0, a1, f1, a2, f2, a3, f3, -⟩ := h
  refine ⟨?_, ?_, ?_, ?_, smc _ _ _ _ _ a2, ?_, ?_, ?_, trivial⟩
  · rw [oth _ _ 2 0 _ (by omega)]; exact a0
  · rw [frozen_set]; exact f0
  · rw [oth _ _ 2 1 _ (by omega)]; exact a1
  · rw [frozen_set]; exact f1
  · rw [frozen_set]; exact f2
  · rw [oth _ _ 2 3 _ (by omega)]; exact a3
  · rw [frozen_set]; exact f3
theorem Mem.k3 {w : World} {g : Nat} {x : Ent} (h : Mem w (VE g x)) (n : Int) : Mem (w.setCell ⟨g, 3, none⟩ (.int .i64 n)) (VE g { x with seq := n }) := by
  obtain ⟨a0, f0, a1, f1, a2, f2, a3, f3, -⟩ := h
  refine ⟨?_, ?_, ?_, ?_, ?_, ?_, smc _ _ _ _ _ a3, ?_, trivial⟩
  · rw [oth _ _ 3 0 _ (by omega)]; exact a0
  · rw [frozen_set]; exact f0
  · rw [oth _ _ 3 1 _ (by omega)]; exact a1
  · rw [frozen_set]; exact f1
  · rw [oth _ _ 3 2 _ (by omega)]; exact a2
  · rw [frozen_set]; exact f2
  · rw [frozen_set]; exact f3
theorem Mem.drew' {w : World} {l : List (Addr × Value)} (h : Mem w l) : Mem w.drew l := h.bl ((Bl.refl _).drew)
/-- The answer: the result's own cells stored last. -/
theorem strLit {q : ByteArray} {l : List UInt8} (h : q.data.toList = l) (p : ByteArray) (b : Bool) (hb : decide (l = p.data.toList) = b) : (q.toList == p.toList) = b ∧ (q.toList != p.toList) = !b := by
  have : (q.toList == p.toList) = b := by
    rw [toL, toL, h, ← hb]
    by_cases e : l = p.data.toList <;> simp [e]
  exact ⟨this, by rw [bne, this]⟩
theorem baT (b : ByteArray) : (⟨b.data.toList.toArray⟩ : ByteArray) = b := by cases b; simp
theorem esc_pos : ∀ c : UInt8, 1 ≤ (escW c).length := byte_all (by decide +kernel)
theorem escs_ge : ∀ l : List UInt8, l.length ≤ (l.flatMap escW).length
  | [] => by simp
  | c :: l => by
    have h1 := esc_pos c
    have h2 := escs_ge l
    rw [List.flatMap_cons, List.length_append, List.length_cons]; omega
theorem unq1_small {l v : List UInt8} {n : Nat} (h : unq1 l = some (v, n)) : v.length ≤ n := by
  obtain ⟨h1, h2⟩ := unq1_inv h
  have := escs_ge v
  rw [h2]
  unfold quoteW
  simp only [List.length_cons, List.length_append, List.length_nil]
  omega
theorem wint_rng {l : List UInt8} {sq se : Int} (h : wint l 1 1000000000 = (sq, se)) : -9223372036854775808 ≤ sq ∧ sq ≤ 9223372036854775807 := by
  unfold wint at h
  split at h
  · split at h
    · rename_i h2
      injection h with h _
      simp only [Bool.and_eq_true, decide_eq_true_eq] at h2
      omega
    · injection h with h _; omega
  · injection h with h _; omega
theorem pfin_is {D : Bool} {key val : ByteArray} {t : List UInt8} {sq se : Int} (hw : wint t 1 1000000000 = (sq, se)) (h6 : se ≠ 6) :
    pfin D key.data.toList val.data.toList t = if echk ⟨key, val, D, sq⟩ ≠ 0 then (e0, echk ⟨key, val, D, sq⟩) else (⟨key, val, D, sq⟩, 0) := by
  unfold pfin
  rw [hw]
  simp only [baT]
  rw [if_neg h6]
/-! ### one -/
set_option maxHeartbeats 8000000 in
theorem refOneE (s : ByteArray) (hs : s.size ≤ 100000) (w : World) : Calls Tryz.prog 52 #[.string s] w (RB w (.tuple #[(pone s.data.toList).1.v, .int .i64 (pone s.data.toList).2])) := by
  have hsz : s.data.toList.length = s.size := (Lib.size_eq s).symm
  obtain ⟨wa, hwa⟩ : ∃ z, (w.alloc (.cells #[.string ⟨#[]⟩, .string ⟨#[]⟩, .bool false, .int .i64 0] 35)).alloc (.cells #[.string ⟨#[]⟩, .string ⟨#[]⟩, .bool false, .int .i64 0] 35) = z := ⟨_, rfl⟩
  have hba : Bl w wa := hwa ▸ ((Bl.refl _).alloc _).alloc _
  have hM : Mem wa (VE w.heap.size e0 ++ VE (w.heap.size + 1) e0) := by rw [← hwa]; simp [Mem, VE, go_sem, e0]
  have HM := Lib.hid hM
  have HB := Lib.hid hba
  obtain ⟨res, hres⟩ : ∃ r, pone s.data.toList = r := ⟨_, rfl⟩
  rw [hres]
  clear hM hba
  by_cases h4 : s.size < 4
  · have hr : res = (e0, 6) := by
      rw [← hres]
      unfold pone
      have hl : ∀ p : List UInt8, p.length = 4 → s.data.toList.take 4 ≠ p := fun p hp e => by
        have := congrArg List.length e
        rw [List.length_take, hsz, hp] at this; omega
      rw [if_neg (hl _ rfl), if_neg (hl _ rfl)]
    subst hr
    have i1 : (s.size : Int) < 4 := by omega
    clear hres h4 hsz
    unfold Ent.v e0
    simp only
    have hm := HM.out
    simp only [Mem, VE, List.cons_append, List.nil_append, and_true, e0] at hm
    have hb := HB.out
    go_enter Tryz.func52, Tryz.ntmps52
    go_wp2_with fail
    
    refine bodyPost_ret (v := .tuple #[.agg #[.string ⟨#[]⟩, .string ⟨#[]⟩, .bool false, .int .i64 0], .int .i64 6]) (by simp [results, Tryz.results52, go_sem, *]) rfl ?_
    exact ⟨rfl, (by repeat (first | assumption | exact Bl.refl _ | apply Bl.drewN | apply Bl.drew | apply Bl.alloc | (refine Bl.setCell ?_ _ (by first | (simp; done) | (simp; omega)) _) | (refine Bl.dr ?_ (by assumption)) | (refine Bl.trans ?_ (by assumption))))⟩
  · have i1 : ¬ (s.size : Int) < 4 := by omega
    have i2 : (4 : Int) ≤ (s.size : Int) := by omega
    have hx4 : (s.extract 0 4).data.toList = s.data.toList.take 4 := ext_takeW s 4 (by omega)
    by_cases hput : s.data.toList.take 4 = putW ++ [32]
    · have p1 : ((s.extract 0 4).toList == [112, 117, 116, 32]) = true := by rw [toL, hx4, hput]; rfl
      have p2 : ((s.extract 0 4).toList == [100, 101, 108, 32]) = false := by rw [toL, hx4, hput]; rfl
      have hp : pone s.data.toList = match unq1 (s.data.toList.drop 4) with
          | some (k, n) => pval k ((s.data.toList.drop 4).drop n)
          | none => (e0, 6) := by unfold pone; rw [if_pos hput]; cases unq1 (List.drop 4 s.data.toList) <;> rfl
      rw [hp] at hres
      have hdel : True := trivial
      obtain ⟨WA, hWA⟩ : ∃ z, wa.setCell ⟨w.heap.size + 1, 2, none⟩ (.bool false) = z := ⟨_, rfl⟩
      have hMA : Mem WA (VE w.heap.size e0 ++ VE (w.heap.size + 1) { e0 with dead := false }) := by
        rw [← hWA]; exact (Mem.off _ _ _ HM.out.left (by simp [VE])).app (Mem.k2 HM.out.right false)
      have hBA : Bl w WA := by rw [← hWA]; exact Bl.setCell HB.out _ (by simp) _
      have HMA := Lib.hid hMA
      have HBA := Lib.hid hBA
      have hd4 : (s.extract 4 s.size).data.toList = s.data.toList.drop 4 := ext_dropW s 4
      have hQ := fun w => refQuotedE (s.extract 4 s.size) (by rw [ByteArray.size_extract]; omega) w _ rfl
      rw [hd4] at hQ
      cases hu : unq1 (s.data.toList.drop 4) with
      | none =>
        rw [hu] at hres
        subst hres
        have hqn := rquoted_none hu
        obtain ⟨⟨qv, qn, qb⟩, hqe⟩ : ∃ z, rquoted (s.data.toList.drop 4) = z := ⟨_, rfl⟩
        rw [hqe] at hQ hqn
        simp only at hqn
        subst hqn
        have HQ := Lib.hid hQ
        clear hp hput hdel hx4 hsz h4 hu hqe hQ hd4 hMA hBA
        unfold Ent.v e0
        simp only
        have hm := HM.out
        simp only [Mem, VE, List.cons_append, List.nil_append, and_true, e0] at hm
        go_enter Tryz.func52, Tryz.ntmps52
        go_wp2_with fail
        refine (HQ.out _).mono ?_; rintro e w1 ⟨rfl, hb1⟩
        clear hm
        have hm := HMA.out.bl hb1
        simp only [Mem, VE, List.cons_append, List.nil_append, and_true, e0] at hm
        have hb := HBA.out.trans hb1
        clear hb1
        go_wp2_with fail
        
        refine bodyPost_ret (v := .tuple #[.agg #[.string ⟨#[]⟩, .string ⟨#[]⟩, .bool false, .int .i64 0], .int .i64 6]) (by simp [results, Tryz.results52, go_sem, *]) rfl ?_
        exact ⟨rfl, (by repeat (first | assumption | exact Bl.refl _ | apply Bl.drewN | apply Bl.drew | apply Bl.alloc | (refine Bl.setCell ?_ _ (by first | (simp; done) | (simp; omega)) _) | (refine Bl.dr ?_ (by assumption)) | (refine Bl.trans ?_ (by assumption))))⟩
      | some kk =>
        obtain ⟨ky, n⟩ := kk
        rw [hu] at hres
        simp only at hres
        have hqs := rquoted_some hu
        have hnl := (unq1_len hu).2
        rw [List.length_drop, hsz] at hnl
        rw [hqs] at hQ
        simp only at hQ
        have HQ := Lib.hid hQ
        obtain ⟨key, hkey⟩ : ∃ b : ByteArray, (⟨ky.toArray⟩ : ByteArray) = b := ⟨_, rfl⟩
        have hkl : key.data.toList = ky := by rw [← hkey]
        rw [hkey] at hQ
        have HQ := Lib.hid hQ
        obtain ⟨r, hr⟩ : ∃ r, s.extract (4 + n) s.size = r := ⟨_, rfl⟩
        have hrl : r.data.toList = (s.data.toList.drop 4).drop n := by rw [← hr, ext_dropW, List.drop_drop]
        have hrs : r.size ≤ 100000 := by rw [← hr, ByteArray.size_extract]; omega
        rw [← hrl, ← hkl] at hres
        have i3 : (4 : Int) + (n : Int) ≤ (s.size : Int) := by omega
        have i4 : (0 : Int) ≤ (4 : Int) + (n : Int) := by omega
        have i5 : ((4 : Int) + (n : Int)).toNat = 4 + n := by omega
        have hn9 : n ≤ 100000 := by omega
        have HKs := Lib.hid (show key.size ≤ maxLen ∧ (⟨#[]⟩ : ByteArray).size ≤ maxLen from ⟨by have := unq1_small hu; rw [Lib.size_eq, hkl]; unfold maxLen; omega, by unfold maxLen; decide⟩)
        have HRes := Lib.hid hres
        clear hp hput hdel hx4 hsz h4 hu hqs hnl hQ hd4 hMA hBA hkey hkl hrl hres
        have hm := HM.out
        simp only [Mem, VE, List.cons_append, List.nil_append, and_true, e0] at hm
        go_enter Tryz.func52, Tryz.ntmps52
        go_wp2_with fail
        refine (HQ.out _).mono ?_; rintro e w1 ⟨rfl, hb1⟩
        clear hm
        have hm := HMA.out.bl hb1
        simp only [Mem, VE, List.cons_append, List.nil_append, and_true, e0] at hm
        have hb := HBA.out.trans hb1
        have hMx := Mem.drew' ((Mem.off (w.heap.size + 1) 0 (.string key) (HMA.out.bl hb1).left (by simp [VE])).app (Mem.k0 (HMA.out.bl hb1).right key))
        have hbx := (hb.setCell ⟨w.heap.size + 1, 0, none⟩ (by simp) (.string key)).drew
        obtain ⟨W2, hW2⟩ : ∃ z, (w1.setCell ⟨w.heap.size + 1, 0, none⟩ (.string key)).drew = z := ⟨_, rfl⟩
        rw [hW2] at hMx hbx
        have HMx := Lib.hid hMx
        have HW2 := Lib.hid hW2
        clear hMx hW2
        go_wp2_with fail
        go_region
        rw [HW2.out]
        clear hm hb hb1 hwa hWA
        cases hrl0 : r.data.toList with
        | nil =>
          have hr0 : res = (e0, 6) := by rw [← HRes.out, hrl0]; rfl
          subst hr0
          have hem : r.toList.isEmpty = true := by rw [toL, hrl0]; rfl
          have hem2 : r.toList = [] := by rw [toL, hrl0]
          clear hrl0 hr
          unfold Ent.v e0
          simp only
          have hm := HMx.out
          simp only [Mem, VE, List.cons_append, List.nil_append, and_true, e0] at hm
          have hb := hbx
          go_wp2_with fail
          
          refine bodyPost_ret (v := .tuple #[.agg #[.string ⟨#[]⟩, .string ⟨#[]⟩, .bool false, .int .i64 0], .int .i64 6]) (by simp [results, Tryz.results52, go_sem, *]) rfl ?_
          exact ⟨rfl, (by repeat (first | assumption | exact Bl.refl _ | apply Bl.drewN | apply Bl.drew | apply Bl.alloc | (refine Bl.setCell ?_ _ (by first | (simp; done) | (simp; omega)) _) | (refine Bl.dr ?_ (by assumption)) | (refine Bl.trans ?_ (by assumption))))⟩
        | cons c t =>
          have hem : r.toList.isEmpty = false := by rw [toL, hrl0]; rfl
          have hq0 : 0 < r.size := by rw [Lib.size_eq, hrl0]; simp
          have hix : r[0]'hq0 = c := byte_eq hq0 (by rw [hrl0]; rfl)
          have hqi : (0 : Int) < (r.size : Int) := by omega
          have hqj : (1 : Int) ≤ (r.size : Int) := by omega
          by_cases hc : c = 32
          · have e1 : (((r[0]'hq0).toNat : Int) != 32) = false := by rw [hix, hc]; rfl
            have hql : (r.extract 1 r.size).data.toList = t := by rw [ext_dropW, hrl0]; rfl
            have hQ2 := fun w => refQuotedE (r.extract 1 r.size) (by rw [ByteArray.size_extract]; omega) w _ rfl
            rw [hql] at hQ2
            have hre : (match unq1 t with | some (v, n) => pnum false key.data.toList v (t.drop n) | none => (e0, 6)) = res := by rw [← HRes.out, hrl0, pval_cons, if_pos hc]; cases unq1 t <;> rfl
            have htl : t.length + 1 = r.size := by rw [Lib.size_eq, hrl0]; rfl
            cases hu2 : unq1 t with
            | none =>
              rw [hu2] at hre
              subst hre
              have hqn := rquoted_none hu2
              obtain ⟨⟨qv, qn, qb⟩, hqe⟩ : ∃ z, rquoted t = z := ⟨_, rfl⟩
              rw [hqe] at hQ2 hqn
              simp only at hqn
              subst hqn
              have HQ2 := Lib.hid hQ2
              clear hrl0 hr hix hc hql hQ2 hu2 hqe htl
              unfold Ent.v e0
              simp only
              have hm := HMx.out
              simp only [Mem, VE, List.cons_append, List.nil_append, and_true, e0] at hm
              go_wp2_with fail
              refine (HQ2.out _).mono ?_; rintro e w4 ⟨rfl, hb4⟩
              clear hm
              have hm := HMx.out.bl hb4
              simp only [Mem, VE, List.cons_append, List.nil_append, and_true, e0] at hm
              have hb := hbx.trans hb4
              clear hb4
              go_wp2_with fail
              
              refine bodyPost_ret (v := .tuple #[.agg #[.string ⟨#[]⟩, .string ⟨#[]⟩, .bool false, .int .i64 0], .int .i64 6]) (by simp [results, Tryz.results52, go_sem, *]) rfl ?_
              exact ⟨rfl, (by repeat (first | assumption | exact Bl.refl _ | apply Bl.drewN | apply Bl.drew | apply Bl.alloc | (refine Bl.setCell ?_ _ (by first | (simp; done) | (simp; omega)) _) | (refine Bl.dr ?_ (by assumption)) | (refine Bl.trans ?_ (by assumption))))⟩
            | some kk =>
              obtain ⟨vy, n2⟩ := kk
              rw [hu2] at hre
              simp only at hre
              have hqs := rquoted_some hu2
              have hnl := (unq1_len hu2).2
              rw [hqs] at hQ2
              simp only at hQ2
              obtain ⟨val, hval⟩ : ∃ b : ByteArray, (⟨vy.toArray⟩ : ByteArray) = b := ⟨_, rfl⟩
              have hvl : val.data.toList = vy := by rw [← hval]
              rw [hval] at hQ2
              have HQ2 := Lib.hid hQ2
              obtain ⟨r2, hr2⟩ : ∃ z, r.extract (1 + n2) r.size = z := ⟨_, rfl⟩
              have hrl2 : r2.data.toList = t.drop n2 := by rw [← hr2, ext_dropW, hrl0, show 1 + n2 = n2 + 1 by omega, List.drop_succ_cons]
              have hrs2 : r2.size ≤ 100000 := by rw [← hr2, ByteArray.size_extract]; omega
              rw [← hrl2, ← hvl] at hre
              have j3 : (1 : Int) + (n2 : Int) ≤ (r.size : Int) := by omega
              have j4 : (0 : Int) ≤ (1 : Int) + (n2 : Int) := by omega
              have j5 : ((1 : Int) + (n2 : Int)).toNat = 1 + n2 := by omega
              have hn29 : n2 ≤ 100000 := by omega
              have HKs := Lib.hid (show key.size ≤ maxLen ∧ val.size ≤ maxLen from ⟨HKs.out.1, by have := unq1_small hu2; rw [Lib.size_eq, hvl]; unfold maxLen; omega⟩)
              have HRes := Lib.hid hre
              clear hrl0 hix hc hql hQ2 hu2 hqs hnl hval hvl hrl2 hre htl
              have hm := HMx.out
              simp only [Mem, VE, List.cons_append, List.nil_append, and_true, e0] at hm
              go_wp2_with fail
              refine (HQ2.out _).mono ?_; rintro e w4 ⟨rfl, hb4⟩
              clear hm
              have hm := HMx.out.bl hb4
              simp only [Mem, VE, List.cons_append, List.nil_append, and_true, e0] at hm
              have hMy := Mem.drew' ((Mem.off (w.heap.size + 1) 1 (.string val) (HMx.out.bl hb4).left (by simp [VE])).app (Mem.k1 (HMx.out.bl hb4).right val))
              have hby := ((hbx.trans hb4).setCell ⟨w.heap.size + 1, 1, none⟩ (by simp) (.string val)).drew
              obtain ⟨W3, hW3⟩ : ∃ z, (w4.setCell ⟨w.heap.size + 1, 1, none⟩ (.string val)).drew = z := ⟨_, rfl⟩
              rw [hW3] at hMy hby
              have HMx := Lib.hid hMy
              have HW3 := Lib.hid hW3
              clear hMy hW3
              go_wp2_with fail
              go_region
              rw [HW3.out]
              clear hm hb4 hbx j3 j4 j5
              have hrs := hrs2
              have hbx := hby
              clear hby
              obtain ⟨r3, hr3⟩ : ∃ z, z = r2 := ⟨_, rfl⟩
              clear hr3
              cases hrl : (r2).data.toList with
              | nil =>
                have hr0 : res = (e0, 6) := by rw [← HRes.out, hrl]; rfl
                subst hr0
                have hem : (r2).toList.isEmpty = true := by rw [toL, hrl]; rfl
                have hem2 : (r2).toList = [] := by rw [toL, hrl]
                clear hrl hr2
                unfold Ent.v e0
                simp only
                have hm := HMx.out
                simp only [Mem, VE, List.cons_append, List.nil_append, and_true, e0] at hm
                have hb := hbx
                go_wp2_with fail
                
                refine bodyPost_ret (v := .tuple #[.agg #[.string ⟨#[]⟩, .string ⟨#[]⟩, .bool false, .int .i64 0], .int .i64 6]) (by simp [results, Tryz.results52, go_sem, *]) rfl ?_
                exact ⟨rfl, (by repeat (first | assumption | exact Bl.refl _ | apply Bl.drewN | apply Bl.drew | apply Bl.alloc | (refine Bl.setCell ?_ _ (by first | (simp; done) | (simp; omega)) _) | (refine Bl.dr ?_ (by assumption)) | (refine Bl.trans ?_ (by assumption))))⟩
              | cons c t =>
                have hem : (r2).toList.isEmpty = false := by rw [toL, hrl]; rfl
                have hq0 : 0 < (r2).size := by rw [Lib.size_eq, hrl]; simp
                have hix : (r2)[0]'hq0 = c := byte_eq hq0 (by rw [hrl]; rfl)
                have hqi : (0 : Int) < ((r2).size : Int) := by omega
                have hqj : (1 : Int) ≤ ((r2).size : Int) := by omega
                by_cases hc : c = 32
                · have e1 : ((((r2)[0]'hq0).toNat : Int) != 32) = false := by rw [hix, hc]; rfl
                  have hql : ((r2).extract 1 (r2).size).data.toList = t := by rw [ext_dropW, hrl]; rfl
                  have hI := fun w => refInt ((r2).extract 1 (r2).size) 1 1000000000 (by rw [ByteArray.size_extract]; omega) w
                  rw [hql] at hI
                  have hre : pfin false key.data.toList (ByteArray.data val).toList t = res := by rw [← HRes.out, hrl, pnum_cons, if_pos hc]
                  obtain ⟨⟨sq, se⟩, hw⟩ : ∃ z, wint t 1 1000000000 = z := ⟨_, rfl⟩
                  rw [hw] at hI
                  have HI := Lib.hid hI
                  by_cases h6 : se = 6
                  · have hr0 : res = (e0, 6) := by rw [← hre]; unfold pfin; rw [hw, if_pos h6]
                    subst hr0
                    subst h6
                    clear hrl hr2 hix hc hql hI hre hw
                    unfold Ent.v e0
                    simp only
                    have hm := HMx.out
                    simp only [Mem, VE, List.cons_append, List.nil_append, and_true, e0] at hm
                    go_wp2_with fail
                    refine (HI.out _).mono ?_; rintro e w4 ⟨rfl, hb4⟩
                    clear hm
                    have hm := HMx.out.bl hb4
                    simp only [Mem, VE, List.cons_append, List.nil_append, and_true, e0] at hm
                    have hb := hbx.trans hb4
                    clear hb4
                    go_wp2_with fail
                    
                    refine bodyPost_ret (v := .tuple #[.agg #[.string ⟨#[]⟩, .string ⟨#[]⟩, .bool false, .int .i64 0], .int .i64 6]) (by simp [results, Tryz.results52, go_sem, *]) rfl ?_
                    exact ⟨rfl, (by repeat (first | assumption | exact Bl.refl _ | apply Bl.drewN | apply Bl.drew | apply Bl.alloc | (refine Bl.setCell ?_ _ (by first | (simp; done) | (simp; omega)) _) | (refine Bl.dr ?_ (by assumption)) | (refine Bl.trans ?_ (by assumption))))⟩
                  · have hrs2 : res = _ := hre.symm.trans (pfin_is (D := false) (key := key) (val := val) hw h6)
                    have e6 : (se == 6) = false := by rw [beq_eq_false_iff_ne]; exact h6
                    have hok : Ent.ok ⟨key, val, false, sq⟩ := ⟨HKs.out.1, HKs.out.2, wint_rng hw⟩
                    have hC := fun w => refEntCheck ⟨key, val, false, sq⟩ w hok
                    obtain ⟨q2, hq2⟩ : ∃ q, echk ⟨key, val, false, sq⟩ = q := ⟨_, rfl⟩
                    rw [hq2] at hC hrs2
                    have HRs2 := Lib.hid hrs2
                    unfold Ent.v at hC
                    simp only at hC
                    have HC := Lib.hid hC
                    clear hrl hr2 hix hc hql hI hre hw h6 hok hq2 hC hrs2
                    have hm := HMx.out
                    simp only [Mem, VE, List.cons_append, List.nil_append, and_true, e0] at hm
                    go_wp2_with fail
                    refine (HI.out _).mono ?_; rintro e w4 ⟨rfl, hb4⟩
                    clear hm
                    have hm4 := HMx.out.bl hb4
                    have hM5 := (Mem.off (w.heap.size + 1) 3 (.int .i64 sq) hm4.left (by simp [VE])).app (Mem.k3 hm4.right sq)
                    have hb5 := (hbx.trans hb4).setCell ⟨w.heap.size + 1, 3, none⟩ (by simp) (.int .i64 sq)
                    obtain ⟨W5, hW5⟩ : ∃ z, w4.setCell ⟨w.heap.size + 1, 3, none⟩ (.int .i64 sq) = z := ⟨_, rfl⟩
                    rw [hW5] at hM5 hb5
                    have HM5 := Lib.hid hM5
                    have hm4' := hm4
                    simp only [Mem, VE, List.cons_append, List.nil_append, and_true, e0] at hm4'
                    have hm5' := hM5
                    simp only [Mem, VE, List.cons_append, List.nil_append, and_true, e0] at hm5'
                    clear hm4 hM5 hb4
                    go_wp2_with fail
                    refine (HC.out _).mono ?_; rintro e w6 ⟨rfl, hb6⟩
                    clear hm4' hm5' hW5
                    have hm := HM5.out.bl hb6
                    simp only [Mem, VE, List.cons_append, List.nil_append, and_true, e0] at hm
                    have hb := hb5.trans hb6
                    clear hb6 hb5
                    have hrs2 := HRs2.out
                    by_cases hz : q2 = 0
                    · rw [if_neg (by simp [hz])] at hrs2
                      subst hrs2
                      subst hz
                      unfold Ent.v
                      simp only
                      go_wp2_with fail
                      
                      refine bodyPost_ret (v := .tuple #[.agg #[.string key, .string val, .bool false, .int .i64 sq], .int .i64 0]) (by simp [results, Tryz.results52, go_sem, *]) rfl ?_
                      exact ⟨rfl, (by repeat (first | assumption | exact Bl.refl _ | apply Bl.drewN | apply Bl.drew | apply Bl.alloc | (refine Bl.setCell ?_ _ (by first | (simp; done) | (simp; omega)) _) | (refine Bl.dr ?_ (by assumption)) | (refine Bl.trans ?_ (by assumption))))⟩
                    · have hz1 : (q2 != 0) = true := by rw [bne_iff_ne]; exact hz
                      rw [if_pos hz] at hrs2
                      subst hrs2
                      clear hz
                      unfold Ent.v e0
                      simp only
                      go_wp2_with fail
                      
                      refine bodyPost_ret (v := .tuple #[.agg #[.string ⟨#[]⟩, .string ⟨#[]⟩, .bool false, .int .i64 0], .int .i64 q2]) (by simp [results, Tryz.results52, go_sem, *]) rfl ?_
                      exact ⟨rfl, (by repeat (first | assumption | exact Bl.refl _ | apply Bl.drewN | apply Bl.drew | apply Bl.alloc | (refine Bl.setCell ?_ _ (by first | (simp; done) | (simp; omega)) _) | (refine Bl.dr ?_ (by assumption)) | (refine Bl.trans ?_ (by assumption))))⟩
                · have hr0 : res = (e0, 6) := by rw [← HRes.out, hrl, pnum_cons, if_neg hc]
                  subst hr0
                  have e1 : ((((r2)[0]'hq0).toNat : Int) != 32) = true := by rw [hix]; exact u8_bne (d := 32) hc
                  clear hrl hr2 hix hc
                  unfold Ent.v e0
                  simp only
                  have hm := HMx.out
                  simp only [Mem, VE, List.cons_append, List.nil_append, and_true, e0] at hm
                  have hb := hbx
                  go_wp2_with fail
                  
                  refine bodyPost_ret (v := .tuple #[.agg #[.string ⟨#[]⟩, .string ⟨#[]⟩, .bool false, .int .i64 0], .int .i64 6]) (by simp [results, Tryz.results52, go_sem, *]) rfl ?_
                  exact ⟨rfl, (by repeat (first | assumption | exact Bl.refl _ | apply Bl.drewN | apply Bl.drew | apply Bl.alloc | (refine Bl.setCell ?_ _ (by first | (simp; done) | (simp; omega)) _) | (refine Bl.dr ?_ (by assumption)) | (refine Bl.trans ?_ (by assumption))))⟩
          · have hr0 : res = (e0, 6) := by rw [← HRes.out, hrl0, pval_cons, if_neg hc]
            subst hr0
            have e1 : (((r[0]'hq0).toNat : Int) != 32) = true := by rw [hix]; exact u8_bne (d := 32) hc
            clear hrl0 hr hix hc
            unfold Ent.v e0
            simp only
            have hm := HMx.out
            simp only [Mem, VE, List.cons_append, List.nil_append, and_true, e0] at hm
            have hb := hbx
            go_wp2_with fail
            
            refine bodyPost_ret (v := .tuple #[.agg #[.string ⟨#[]⟩, .string ⟨#[]⟩, .bool false, .int .i64 0], .int .i64 6]) (by simp [results, Tryz.results52, go_sem, *]) rfl ?_
            exact ⟨rfl, (by repeat (first | assumption | exact Bl.refl _ | apply Bl.drewN | apply Bl.drew | apply Bl.alloc | (refine Bl.setCell ?_ _ (by first | (simp; done) | (simp; omega)) _) | (refine Bl.dr ?_ (by assumption)) | (refine Bl.trans ?_ (by assumption))))⟩
    · have p1 : ((s.extract 0 4).toList == [112, 117, 116, 32]) = false := by rw [toL, hx4, beq_eq_false_iff_ne]; exact hput
      by_cases hdel : s.data.toList.take 4 = delW ++ [32]
      · have p2 : ((s.extract 0 4).toList == [100, 101, 108, 32]) = true := by rw [toL, hx4, hdel]; rfl
        have hp : pone s.data.toList = match unq1 (s.data.toList.drop 4) with
            | some (k, n) => pnum true k [] ((s.data.toList.drop 4).drop n)
            | none => (e0, 6) := by unfold pone; rw [if_neg hput, if_pos hdel]; cases unq1 (List.drop 4 s.data.toList) <;> rfl
        rw [hp] at hres
        obtain ⟨WA, hWA⟩ : ∃ z, wa.setCell ⟨w.heap.size + 1, 2, none⟩ (.bool true) = z := ⟨_, rfl⟩
        have hMA : Mem WA (VE w.heap.size e0 ++ VE (w.heap.size + 1) { e0 with dead := true }) := by
          rw [← hWA]; exact (Mem.off _ _ _ HM.out.left (by simp [VE])).app (Mem.k2 HM.out.right true)
        have hBA : Bl w WA := by rw [← hWA]; exact Bl.setCell HB.out _ (by simp) _
        have hput := hput
        have HMA := Lib.hid hMA
        have HBA := Lib.hid hBA
        have hd4 : (s.extract 4 s.size).data.toList = s.data.toList.drop 4 := ext_dropW s 4
        have hQ := fun w => refQuotedE (s.extract 4 s.size) (by rw [ByteArray.size_extract]; omega) w _ rfl
        rw [hd4] at hQ
        cases hu : unq1 (s.data.toList.drop 4) with
        | none =>
          rw [hu] at hres
          subst hres
          have hqn := rquoted_none hu
          obtain ⟨⟨qv, qn, qb⟩, hqe⟩ : ∃ z, rquoted (s.data.toList.drop 4) = z := ⟨_, rfl⟩
          rw [hqe] at hQ hqn
          simp only at hqn
          subst hqn
          have HQ := Lib.hid hQ
          clear hp hput hdel hx4 hsz h4 hu hqe hQ hd4 hMA hBA
          unfold Ent.v e0
          simp only
          have hm := HM.out
          simp only [Mem, VE, List.cons_append, List.nil_append, and_true, e0] at hm
          go_enter Tryz.func52, Tryz.ntmps52
          go_wp2_with fail
          refine (HQ.out _).mono ?_; rintro e w1 ⟨rfl, hb1⟩
          clear hm
          have hm := HMA.out.bl hb1
          simp only [Mem, VE, List.cons_append, List.nil_append, and_true, e0] at hm
          have hb := HBA.out.trans hb1
          clear hb1
          go_wp2_with fail
          
          refine bodyPost_ret (v := .tuple #[.agg #[.string ⟨#[]⟩, .string ⟨#[]⟩, .bool false, .int .i64 0], .int .i64 6]) (by simp [results, Tryz.results52, go_sem, *]) rfl ?_
          exact ⟨rfl, (by repeat (first | assumption | exact Bl.refl _ | apply Bl.drewN | apply Bl.drew | apply Bl.alloc | (refine Bl.setCell ?_ _ (by first | (simp; done) | (simp; omega)) _) | (refine Bl.dr ?_ (by assumption)) | (refine Bl.trans ?_ (by assumption))))⟩
        | some kk =>
          obtain ⟨ky, n⟩ := kk
          rw [hu] at hres
          simp only at hres
          have hqs := rquoted_some hu
          have hnl := (unq1_len hu).2
          rw [List.length_drop, hsz] at hnl
          rw [hqs] at hQ
          simp only at hQ
          have HQ := Lib.hid hQ
          obtain ⟨key, hkey⟩ : ∃ b : ByteArray, (⟨ky.toArray⟩ : ByteArray) = b := ⟨_, rfl⟩
          have hkl : key.data.toList = ky := by rw [← hkey]
          rw [hkey] at hQ
          have HQ := Lib.hid hQ
          obtain ⟨r, hr⟩ : ∃ r, s.extract (4 + n) s.size = r := ⟨_, rfl⟩
          have hrl : r.data.toList = (s.data.toList.drop 4).drop n := by rw [← hr, ext_dropW, List.drop_drop]
          have hrs : r.size ≤ 100000 := by rw [← hr, ByteArray.size_extract]; omega
          rw [← hrl, ← hkl] at hres
          have i3 : (4 : Int) + (n : Int) ≤ (s.size : Int) := by omega
          have i4 : (0 : Int) ≤ (4 : Int) + (n : Int) := by omega
          have i5 : ((4 : Int) + (n : Int)).toNat = 4 + n := by omega
          have hn9 : n ≤ 100000 := by omega
          have HKs := Lib.hid (show key.size ≤ maxLen ∧ (⟨#[]⟩ : ByteArray).size ≤ maxLen from ⟨by have := unq1_small hu; rw [Lib.size_eq, hkl]; unfold maxLen; omega, by unfold maxLen; decide⟩)
          have HRes := Lib.hid hres
          clear hp hput hdel hx4 hsz h4 hu hqs hnl hQ hd4 hMA hBA hkey hkl hrl hres
          have hm := HM.out
          simp only [Mem, VE, List.cons_append, List.nil_append, and_true, e0] at hm
          go_enter Tryz.func52, Tryz.ntmps52
          go_wp2_with fail
          refine (HQ.out _).mono ?_; rintro e w1 ⟨rfl, hb1⟩
          clear hm
          have hm := HMA.out.bl hb1
          simp only [Mem, VE, List.cons_append, List.nil_append, and_true, e0] at hm
          have hb := HBA.out.trans hb1
          have hMx := Mem.drew' ((Mem.off (w.heap.size + 1) 0 (.string key) (HMA.out.bl hb1).left (by simp [VE])).app (Mem.k0 (HMA.out.bl hb1).right key))
          have hbx := (hb.setCell ⟨w.heap.size + 1, 0, none⟩ (by simp) (.string key)).drew
          obtain ⟨W2, hW2⟩ : ∃ z, (w1.setCell ⟨w.heap.size + 1, 0, none⟩ (.string key)).drew = z := ⟨_, rfl⟩
          rw [hW2] at hMx hbx
          have HMx := Lib.hid hMx
          have HW2 := Lib.hid hW2
          clear hMx hW2
          go_wp2_with fail
          go_region
          rw [HW2.out]
          clear hm hb hb1 hwa hWA
          cases hrl : (r).data.toList with
          | nil =>
            have hr0 : res = (e0, 6) := by rw [← HRes.out, hrl]; rfl
            subst hr0
            have hem : (r).toList.isEmpty = true := by rw [toL, hrl]; rfl
            have hem2 : (r).toList = [] := by rw [toL, hrl]
            clear hrl hr
            unfold Ent.v e0
            simp only
            have hm := HMx.out
            simp only [Mem, VE, List.cons_append, List.nil_append, and_true, e0] at hm
            have hb := hbx
            go_wp2_with fail
            
            refine bodyPost_ret (v := .tuple #[.agg #[.string ⟨#[]⟩, .string ⟨#[]⟩, .bool false, .int .i64 0], .int .i64 6]) (by simp [results, Tryz.results52, go_sem, *]) rfl ?_
            exact ⟨rfl, (by repeat (first | assumption | exact Bl.refl _ | apply Bl.drewN | apply Bl.drew | apply Bl.alloc | (refine Bl.setCell ?_ _ (by first | (simp; done) | (simp; omega)) _) | (refine Bl.dr ?_ (by assumption)) | (refine Bl.trans ?_ (by assumption))))⟩
          | cons c t =>
            have hem : (r).toList.isEmpty = false := by rw [toL, hrl]; rfl
            have hq0 : 0 < (r).size := by rw [Lib.size_eq, hrl]; simp
            have hix : (r)[0]'hq0 = c := byte_eq hq0 (by rw [hrl]; rfl)
            have hqi : (0 : Int) < ((r).size : Int) := by omega
            have hqj : (1 : Int) ≤ ((r).size : Int) := by omega
            by_cases hc : c = 32
            · have e1 : ((((r)[0]'hq0).toNat : Int) != 32) = false := by rw [hix, hc]; rfl
              have hql : ((r).extract 1 (r).size).data.toList = t := by rw [ext_dropW, hrl]; rfl
              have hI := fun w => refInt ((r).extract 1 (r).size) 1 1000000000 (by rw [ByteArray.size_extract]; omega) w
              rw [hql] at hI
              have hre : pfin true key.data.toList (ByteArray.data (⟨#[]⟩ : ByteArray)).toList t = res := by rw [← HRes.out, hrl, pnum_cons, if_pos hc]
              obtain ⟨⟨sq, se⟩, hw⟩ : ∃ z, wint t 1 1000000000 = z := ⟨_, rfl⟩
              rw [hw] at hI
              have HI := Lib.hid hI
              by_cases h6 : se = 6
              · have hr0 : res = (e0, 6) := by rw [← hre]; unfold pfin; rw [hw, if_pos h6]
                subst hr0
                subst h6
                clear hrl hr hix hc hql hI hre hw
                unfold Ent.v e0
                simp only
                have hm := HMx.out
                simp only [Mem, VE, List.cons_append, List.nil_append, and_true, e0] at hm
                go_wp2_with fail
                refine (HI.out _).mono ?_; rintro e w4 ⟨rfl, hb4⟩
                clear hm
                have hm := HMx.out.bl hb4
                simp only [Mem, VE, List.cons_append, List.nil_append, and_true, e0] at hm
                have hb := hbx.trans hb4
                clear hb4
                go_wp2_with fail
                
                refine bodyPost_ret (v := .tuple #[.agg #[.string ⟨#[]⟩, .string ⟨#[]⟩, .bool false, .int .i64 0], .int .i64 6]) (by simp [results, Tryz.results52, go_sem, *]) rfl ?_
                exact ⟨rfl, (by repeat (first | assumption | exact Bl.refl _ | apply Bl.drewN | apply Bl.drew | apply Bl.alloc | (refine Bl.setCell ?_ _ (by first | (simp; done) | (simp; omega)) _) | (refine Bl.dr ?_ (by assumption)) | (refine Bl.trans ?_ (by assumption))))⟩
              · have hrs2 : res = _ := hre.symm.trans (pfin_is (D := true) (key := key) (val := (⟨#[]⟩ : ByteArray)) hw h6)
                have e6 : (se == 6) = false := by rw [beq_eq_false_iff_ne]; exact h6
                have hok : Ent.ok ⟨key, (⟨#[]⟩ : ByteArray), true, sq⟩ := ⟨HKs.out.1, HKs.out.2, wint_rng hw⟩
                have hC := fun w => refEntCheck ⟨key, (⟨#[]⟩ : ByteArray), true, sq⟩ w hok
                obtain ⟨q2, hq2⟩ : ∃ q, echk ⟨key, (⟨#[]⟩ : ByteArray), true, sq⟩ = q := ⟨_, rfl⟩
                rw [hq2] at hC hrs2
                have HRs2 := Lib.hid hrs2
                unfold Ent.v at hC
                simp only at hC
                have HC := Lib.hid hC
                clear hrl hr hix hc hql hI hre hw h6 hok hq2 hC hrs2
                have hm := HMx.out
                simp only [Mem, VE, List.cons_append, List.nil_append, and_true, e0] at hm
                go_wp2_with fail
                refine (HI.out _).mono ?_; rintro e w4 ⟨rfl, hb4⟩
                clear hm
                have hm4 := HMx.out.bl hb4
                have hM5 := (Mem.off (w.heap.size + 1) 3 (.int .i64 sq) hm4.left (by simp [VE])).app (Mem.k3 hm4.right sq)
                have hb5 := (hbx.trans hb4).setCell ⟨w.heap.size + 1, 3, none⟩ (by simp) (.int .i64 sq)
                obtain ⟨W5, hW5⟩ : ∃ z, w4.setCell ⟨w.heap.size + 1, 3, none⟩ (.int .i64 sq) = z := ⟨_, rfl⟩
                rw [hW5] at hM5 hb5
                have HM5 := Lib.hid hM5
                have hm4' := hm4
                simp only [Mem, VE, List.cons_append, List.nil_append, and_true, e0] at hm4'
                have hm5' := hM5
                simp only [Mem, VE, List.cons_append, List.nil_append, and_true, e0] at hm5'
                clear hm4 hM5 hb4
                go_wp2_with fail
                refine (HC.out _).mono ?_; rintro e w6 ⟨rfl, hb6⟩
                clear hm4' hm5' hW5
                have hm := HM5.out.bl hb6
                simp only [Mem, VE, List.cons_append, List.nil_append, and_true, e0] at hm
                have hb := hb5.trans hb6
                clear hb6 hb5
                have hrs2 := HRs2.out
                by_cases hz : q2 = 0
                · rw [if_neg (by simp [hz])] at hrs2
                  subst hrs2
                  subst hz
                  unfold Ent.v
                  simp only
                  go_wp2_with fail
                  
                  refine bodyPost_ret (v := .tuple #[.agg #[.string key, .string (⟨#[]⟩ : ByteArray), .bool true, .int .i64 sq], .int .i64 0]) (by simp [results, Tryz.results52, go_sem, *]) rfl ?_
                  exact ⟨rfl, (by repeat (first | assumption | exact Bl.refl _ | apply Bl.drewN | apply Bl.drew | apply Bl.alloc | (refine Bl.setCell ?_ _ (by first | (simp; done) | (simp; omega)) _) | (refine Bl.dr ?_ (by assumption)) | (refine Bl.trans ?_ (by assumption))))⟩
                · have hz1 : (q2 != 0) = true := by rw [bne_iff_ne]; exact hz
                  rw [if_pos hz] at hrs2
                  subst hrs2
                  clear hz
                  unfold Ent.v e0
                  simp only
                  go_wp2_with fail
                  
                  refine bodyPost_ret (v := .tuple #[.agg #[.string ⟨#[]⟩, .string ⟨#[]⟩, .bool false, .int .i64 0], .int .i64 q2]) (by simp [results, Tryz.results52, go_sem, *]) rfl ?_
                  exact ⟨rfl, (by repeat (first | assumption | exact Bl.refl _ | apply Bl.drewN | apply Bl.drew | apply Bl.alloc | (refine Bl.setCell ?_ _ (by first | (simp; done) | (simp; omega)) _) | (refine Bl.dr ?_ (by assumption)) | (refine Bl.trans ?_ (by assumption))))⟩
            · have hr0 : res = (e0, 6) := by rw [← HRes.out, hrl, pnum_cons, if_neg hc]
              subst hr0
              have e1 : ((((r)[0]'hq0).toNat : Int) != 32) = true := by rw [hix]; exact u8_bne (d := 32) hc
              clear hrl hr hix hc
              unfold Ent.v e0
              simp only
              have hm := HMx.out
              simp only [Mem, VE, List.cons_append, List.nil_append, and_true, e0] at hm
              have hb := hbx
              go_wp2_with fail
              
              refine bodyPost_ret (v := .tuple #[.agg #[.string ⟨#[]⟩, .string ⟨#[]⟩, .bool false, .int .i64 0], .int .i64 6]) (by simp [results, Tryz.results52, go_sem, *]) rfl ?_
              exact ⟨rfl, (by repeat (first | assumption | exact Bl.refl _ | apply Bl.drewN | apply Bl.drew | apply Bl.alloc | (refine Bl.setCell ?_ _ (by first | (simp; done) | (simp; omega)) _) | (refine Bl.dr ?_ (by assumption)) | (refine Bl.trans ?_ (by assumption))))⟩
      · have p2 : ((s.extract 0 4).toList == [100, 101, 108, 32]) = false := by rw [toL, hx4, beq_eq_false_iff_ne]; exact hdel
        have hr : res = (e0, 6) := by
          rw [← hres]; unfold pone; rw [if_neg hput, if_neg hdel]
        subst hr
        clear hres hput hdel hx4 hsz h4
        unfold Ent.v e0
        simp only
        have hm := HM.out
        simp only [Mem, VE, List.cons_append, List.nil_append, and_true, e0] at hm
        have hb := HB.out
        go_enter Tryz.func52, Tryz.ntmps52
        go_wp2_with fail
        
        refine bodyPost_ret (v := .tuple #[.agg #[.string ⟨#[]⟩, .string ⟨#[]⟩, .bool false, .int .i64 0], .int .i64 6]) (by simp [results, Tryz.results52, go_sem, *]) rfl ?_
        exact ⟨rfl, (by repeat (first | assumption | exact Bl.refl _ | apply Bl.drewN | apply Bl.drew | apply Bl.alloc | (refine Bl.setCell ?_ _ (by first | (simp; done) | (simp; omega)) _) | (refine Bl.dr ?_ (by assumption)) | (refine Bl.trans ?_ (by assumption))))⟩
end Go.Proofs.YtkbfjficmdgjpaaGreatDoor

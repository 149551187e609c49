/-
  Own texts laid together: WkW.
-/
import Derived.Test.YtinbdppekhcekaaZp
import Derived.IntWalk
import Derived.RegionTactic
import Derived.ChangeAlike
/-
  The reference's Take and Skip.
-/
namespace Go.Proofs.Ytinbdppekhcekaa
open Go.RowKit
set_option linter.unusedSimpArgs false
set_option linter.unusedVariables false
set_option maxRecDepth 100000

/-- Own cells below a row's base stay as the row grows. -/
theorem Mem.grown {w w' : World} {base : Nat} {e : TypeId} {size : Nat} {v : Value} {n : Nat} {xs : List Value} (h : w.ownsRow base e size v n xs) (hg : w.grownBy w' v.ownBlock) : ∀ {l : List (Addr × Value)}, Mem w l → (∀ q, q ∈ l → q.1.block < base) → Mem w' l
  | [], _, _ => trivial
  | (p, u) :: l, ⟨h1, h2, h3⟩, hn => ⟨grown_cell h hg h1 (hn (p, u) (by simp)), grown_frozen h hg h1 h2 (hn (p, u) (by simp)), Mem.grown h hg h3 (fun q hq => hn q (by simp [hq]))⟩
theorem tcur_upto (l : List Ent) (p : Nat) (back : Bool) (k : Nat) : tcur p (upto (wf l p back) k) = if back then (p : Int) - k else (p : Int) + k := by
  cases k with
  | zero => cases back <;> simp [tcur, upto]
  | succ k => rw [upto_succ, tcur_snoc]; cases back <;> simp [wf] <;> omega
theorem upto_ents {l : List Ent} {p : Nat} {back : Bool} {k : Nat} (hp : p ≤ l.length) (hk : k ≤ wN l p back) (ho : ∀ x, x ∈ l → x.ok) : ∀ x, x ∈ (upto (wf l p back) k).map (·.1) → x.ok := by
  intro x hx
  simp only [upto, List.map_map, List.mem_map, List.mem_range, Function.comp_apply] at hx
  obtain ⟨i, hi, rfl⟩ := hx
  have g : ∀ j, j < l.length → (l.getD j ent0).ok := fun j hj => by
    rw [List.getD_eq_getElem?_getD, List.getElem?_eq_getElem hj]; exact ho _ (List.getElem_mem hj)
  cases back
  · simp only [wN, Bool.false_eq_true, if_false] at hk; simp only [wf, Bool.false_eq_true, if_false]; exact g _ (by omega)
  · simp only [wN, if_true] at hk; simp only [wf, if_true]; exact g _ (by omega)

set_option maxHeartbeats 4000000 in
theorem refWalkTake (a : Option Addr) (c : Nat) (r : Rn) (n m : Int) (w : World) (h : ROk w a c r) (hm1 : -9223372036854775808 ≤ m) (hm2 : m ≤ 9223372036854775807) : Calls Try.prog 17 #[r.v a c, cur n, .int .i64 m] w (RM w (TkOut (wtake r n m))) := by
  have hC := fun w h => refWalkCheck a c r n w h
  unfold wtake
  by_cases e : wchk r n = 0
  · rw [if_neg (by simp [e])]
    by_cases f : m < -5000 ∨ 5000 < m
    · rw [if_pos f]
      rw [e] at hC
      clear e
      have HC := Lib.hid hC
      have HO := Lib.hid h
      obtain ⟨id, l⟩ := r
      unfold Rn.v
      simp only at *
      clear hC h
      by_cases f1 : m < -5000
      · clear f
        go_enter Try.func17, Try.ntmps17
        go_wp2_with fail
        refine (HC.out _ (HO.out.bl (by repeat (first | assumption | exact Bl.refl _ | apply Bl.drewN | apply Bl.drew | apply Bl.alloc | (refine Bl.dr ?_ (by assumption)) | (refine Bl.trans ?_ (by assumption)))))).mono ?_; rintro e w1 ⟨rfl, hb1⟩
        have hr : Mem w1 [(⟨w.heap.size, 0, none⟩, .int .i64 id), (⟨w.heap.size, 1, none⟩, .slice a l.length c), (⟨w.heap.size + 1, 0, none⟩, .int .i64 (n)), (⟨w.heap.size + 1 + 1, 0, none⟩, .int .i64 0)] := by
          refine Mem.bl ?_ hb1
          simp [Mem, go_sem]
        have hb : Bl w w1 := (by repeat (first | assumption | exact Bl.refl _ | apply Bl.drewN | apply Bl.drew | apply Bl.alloc | (refine Bl.dr ?_ (by assumption)) | (refine Bl.trans ?_ (by assumption))))
        have hs1 : w.heap.size + 3 ≤ w1.heap.size := by have := hb1.size; simp at this; omega
        clear hb1
        have HR := Lib.hid hr
        
        have hm := hr
        simp only [Mem, VE, List.cons_append, List.nil_append, and_true] at hm
        clear hr
        go_wp2_with fail
        
        refine bodyPost_ret (v := .tuple #[.slice none 0 0, .agg #[.int .i64 0], .int .i64 7]) (by simp [results, Try.results17, go_sem, *]) rfl ?_
        exact RM.mk ⟨none, 0, rfl, ents_nil _, Nat.le_refl _, by unfold maxLen; omega⟩ (by repeat (first | assumption | exact Bl.refl _ | apply Bl.drewN | apply Bl.drew | apply Bl.alloc | (refine Bl.setCell ?_ _ (by first | (simp; done) | (simp; omega)) _) | (refine Bl.dr ?_ (by assumption)) | (refine Bl.trans ?_ (by assumption))))
      · have f2 : 5000 < m := by omega
        clear f
        go_enter Try.func17, Try.ntmps17
        go_wp2_with fail
        refine (HC.out _ (HO.out.bl (by repeat (first | assumption | exact Bl.refl _ | apply Bl.drewN | apply Bl.drew | apply Bl.alloc | (refine Bl.dr ?_ (by assumption)) | (refine Bl.trans ?_ (by assumption)))))).mono ?_; rintro e w1 ⟨rfl, hb1⟩
        have hr : Mem w1 [(⟨w.heap.size, 0, none⟩, .int .i64 id), (⟨w.heap.size, 1, none⟩, .slice a l.length c), (⟨w.heap.size + 1, 0, none⟩, .int .i64 (n)), (⟨w.heap.size + 1 + 1, 0, none⟩, .int .i64 0)] := by
          refine Mem.bl ?_ hb1
          simp [Mem, go_sem]
        have hb : Bl w w1 := (by repeat (first | assumption | exact Bl.refl _ | apply Bl.drewN | apply Bl.drew | apply Bl.alloc | (refine Bl.dr ?_ (by assumption)) | (refine Bl.trans ?_ (by assumption))))
        have hs1 : w.heap.size + 3 ≤ w1.heap.size := by have := hb1.size; simp at this; omega
        clear hb1
        have HR := Lib.hid hr
        
        have hm := hr
        simp only [Mem, VE, List.cons_append, List.nil_append, and_true] at hm
        clear hr
        go_wp2_with fail
        
        refine bodyPost_ret (v := .tuple #[.slice none 0 0, .agg #[.int .i64 0], .int .i64 7]) (by simp [results, Try.results17, go_sem, *]) rfl ?_
        exact RM.mk ⟨none, 0, rfl, ents_nil _, Nat.le_refl _, by unfold maxLen; omega⟩ (by repeat (first | assumption | exact Bl.refl _ | apply Bl.drewN | apply Bl.drew | apply Bl.alloc | (refine Bl.setCell ?_ _ (by first | (simp; done) | (simp; omega)) _) | (refine Bl.dr ?_ (by assumption)) | (refine Bl.trans ?_ (by assumption))))
    · rw [if_neg f]
      obtain ⟨e1, e2, e3⟩ := wchk_ok e
      obtain ⟨p, rfl⟩ := Int.eq_ofNat_of_zero_le e2
      have o4 := (rck_ok e1).2.2.2.1
      rw [e] at hC
      clear e e1
      by_cases g : m < 0
      · obtain ⟨M, hMM⟩ : ∃ M : Nat, m = -(M : Int) := ⟨m.natAbs, by omega⟩
        subst hMM
        have hd : decide (-(M : Int) < 0) = true := by simp; omega
        have ha : (-(M : Int)).natAbs = M := by omega
        rw [hd, ha, Int.toNat_natCast]
        unfold tk
        obtain ⟨N, hN⟩ : ∃ N, min M (wN r.es p true) = N := ⟨_, rfl⟩
        rw [hN]
        have hN1 : N = min M p := by rw [← hN]; simp [wN]
        have hN2 : N ≤ M ∧ N ≤ p ∧ (N < M → N = p) := by omega
        obtain ⟨hN3, hN4, hN5⟩ := hN2
        have f1 : (M : Int) ≤ 5000 := by omega
        have hM1 : (1 : Int) ≤ (M : Int) := by omega
        clear hN hN1 hd ha f g
        obtain ⟨i0, hi, hz0, hz1, hz2⟩ := info_parts inf_ent
        have hMn : -(M : Int) ≤ 0 := by omega
        have qn : IntKind.i64.wrap (-(-(M : Int))) = (M : Int) := by rw [IntWalk.i64_in _ (by omega)]; omega
        have HC := Lib.hid hC
        have HO := Lib.hid h
        obtain ⟨id, l⟩ := r
        unfold Rn.v
        simp only at *
        clear hC h
        have H5 := Lib.hid hN5
        clear hN5
        go_enter Try.func17, Try.ntmps17
        go_wp2_with fail
        refine (HC.out _ (HO.out.bl (by repeat (first | assumption | exact Bl.refl _ | apply Bl.drewN | apply Bl.drew | apply Bl.alloc | (refine Bl.dr ?_ (by assumption)) | (refine Bl.trans ?_ (by assumption)))))).mono ?_; rintro e w1 ⟨rfl, hb1⟩
        have hr : Mem w1 [(⟨w.heap.size, 0, none⟩, .int .i64 id), (⟨w.heap.size, 1, none⟩, .slice a l.length c), (⟨w.heap.size + 1, 0, none⟩, .int .i64 ((p : Int))), (⟨w.heap.size + 1 + 1, 0, none⟩, .int .i64 0)] := by
          refine Mem.bl ?_ hb1
          simp [Mem, go_sem]
        have hb : Bl w w1 := (by repeat (first | assumption | exact Bl.refl _ | apply Bl.drewN | apply Bl.drew | apply Bl.alloc | (refine Bl.dr ?_ (by assumption)) | (refine Bl.trans ?_ (by assumption))))
        have hs1 : w.heap.size + 3 ≤ w1.heap.size := by have := hb1.size; simp at this; omega
        clear hb1
        have HR := Lib.hid hr
        
        have hm := hr
        simp only [Mem, VE, List.cons_append, List.nil_append, and_true] at hm
        clear hr
        go_wp2_with fail
        go_loop [10, 11] (fun v i => v = .slice none 0 0 ∧ i = .int .i64 0) (fun _ _ => 0)
        case atStart => exact ⟨rfl, rfl⟩
        obtain ⟨rfl, rfl⟩ := hrel
        go_wp2_with fail
        go_loopg [10, 12] N (fun g v i wr => ∃ k : Nat, k ≤ N ∧ i = .int .i64 k ∧ wr.ownsRow w1.heap.size 36 4 v k (entCells ((upto (wf l p true) k).map (·.1))) ∧ Mem wr [(⟨w.heap.size, 0, none⟩, .int .i64 id), (⟨w.heap.size, 1, none⟩, .slice a l.length c), (⟨w.heap.size + 1 + 1, 0, none⟩, .int .i64 0)] ∧ wr.cell? ⟨w.heap.size + 1, 0, none⟩ = some (.int .i64 ((p : Int) - k)) ∧ wr.frozen? ⟨w.heap.size + 1, 0, none⟩ = false ∧ Bl w wr ∧ w1.heap.size ≤ wr.heap.size ∧ g = N - k)
        case atStart =>
          refine ⟨0, by omega, rfl, by simpa [entCells, upto] using own_nil _ _ _ _, ?_, ?_, ?_, by assumption, by omega, by omega⟩
          · simp [Mem, hm]
          · simp [hm]
          · simp [hm]
        case round =>
          obtain ⟨k, hk, rfl, hown, hr, hq, hf, hb, hsz, hg⟩ := hrel
          have G := Lib.hid hg
          have HW := Lib.hid hown
          have HR := Lib.hid hr
          clear hg hown
          
          have hm := hr
          simp only [Mem, VE, List.cons_append, List.nil_append, and_true] at hm
          clear hr
          by_cases hkN : k < N
          · have hb0 : Bl w (wr.setCell ⟨w.heap.size + 1, 0, none⟩ (.int .i64 ((p : Int) - k - 1))) := hb.setCell _ (by simp) _
            have hq0 := smc wr (w.heap.size + 1) 0 (.int .i64 ((p : Int) - k - 1)) _ hq
            have hf0 : (wr.setCell ⟨w.heap.size + 1, 0, none⟩ (.int .i64 ((p : Int) - k - 1))).frozen? ⟨w.heap.size + 1, 0, none⟩ = false := by rw [frozen_set]; exact hf
            have hr0 := HR.out.off (w.heap.size + 1) 0 (.int .i64 ((p : Int) - k - 1)) (by intro q hq; simp at hq; rcases hq with rfl | rfl | rfl <;> simp <;> omega)
            have ho0 := own_set HW.out ⟨w.heap.size + 1, 0, none⟩ (by simp only; omega) (.int .i64 ((p : Int) - k - 1))
            obtain ⟨b, off, rfl, hat⟩ := HO.out.ents.get (k := p - k - 1) (show p - k - 1 < l.length by omega)
            obtain ⟨x, hx⟩ : ∃ x, l[p - k - 1]? = some x := ⟨_, List.getElem?_eq_getElem (by omega)⟩
            obtain ⟨d0, d1, d2, d3⟩ := (hat _ x hx).bl hb0
            have hbw := lt_of_cell (hat _ x hx).1
            have HX := Lib.hid hx
            have hk1 : (k : Int) < (M : Int) := by omega
            have hk2 : (0 : Int) < (p : Int) - (k : Int) := by omega
            have hk3 : (p : Int) - (k : Int) - 1 < (l.length : Int) := by omega
            have hk4 : (0 : Int) ≤ (p : Int) - (k : Int) - 1 := by omega
            have hk5 : (1 : Int) ≤ (p : Int) - (k : Int) := by omega
            have HO0 := Lib.hid ho0
            have HR0 := Lib.hid hr0
            clear hx hat ho0
            go_wp2_with (at_builtin; refine wpList_append_own _ rfl _ _ 22 rfl w1.heap.size 36 i0 (.agg #[.string ⟨#[]⟩, .string ⟨#[]⟩, .bool false, .int .i64 0]) 4 48 Try.underlying22 hi hz0 hz1 hz2 rfl (by decide) _ _ _ rfl (HO0.out.alloc _) ⟨wr.heap.size, 0, none⟩ 1 1 [.string x.key, .string x.val, .bool x.dead, .int .i64 x.seq] rfl rfl ?g1 ?g2 ?g3 ?g4 ?g5 ?_)
            case g3 => unfold maxLen; omega
            case g4 => omega
            case g5 => omega
            case g2 => exact ⟨rfl, rfl, rfl, rfl⟩
            intro v' w4 hown4 hgrow _
            have hr4 := Mem.grown (HO0.out.alloc _) hgrow (HR0.out.alloc _) (by intro q hq; simp at hq; rcases hq with rfl | rfl | rfl <;> simp <;> omega)
            have hq4 := grown_cell (HO0.out.alloc _) hgrow (((Bl.refl (wr.setCell ⟨w.heap.size + 1, 0, none⟩ (.int .i64 ((p : Int) - k - 1)))).alloc (Obj.cells #[.string x.key, .string x.val, .bool x.dead, .int .i64 x.seq] 36)).cell hq0) (by simp; omega)
            have hf4 := grown_frozen (HO0.out.alloc _) hgrow (((Bl.refl (wr.setCell ⟨w.heap.size + 1, 0, none⟩ (.int .i64 ((p : Int) - k - 1)))).alloc (Obj.cells #[.string x.key, .string x.val, .bool x.dead, .int .i64 x.seq] 36)).cell hq0) (((Bl.refl (wr.setCell ⟨w.heap.size + 1, 0, none⟩ (.int .i64 ((p : Int) - k - 1)))).alloc (Obj.cells #[.string x.key, .string x.val, .bool x.dead, .int .i64 x.seq] 36)).frozen hq0 hf0) (by simp; omega)
            have hb4 := grown_bl (hb0.alloc _) (HO0.out.alloc _) hgrow (by omega)
            have hs4 := hgrow.size
            simp at hs4
            have hown5 : w4.ownsRow w1.heap.size 36 4 v' (k + 1) (entCells ((upto (wf l p true) (k + 1)).map (·.1))) := by
              rw [upto_succ, List.map_append, List.map_singleton, entCells_snoc]
              have e : (wf l p true k).1 = x := by simp [wf, List.getD_eq_getElem?_getD, HX.out]
              rw [e]; exact hown4
            have HO5 := Lib.hid hown5
            have HR4 := Lib.hid hr4
            clear hown4 hown5 hgrow hm hq hf d0 d1 d2 d3 hq0 hf0 hr0
            go_wp2_with fail
            go_roundg (N - (k + 1))
            case rel =>
              refine ⟨k + 1, by omega, by go_num, HO5.out, HR4.out, ?_, hf4, hb4, by omega, rfl⟩
              rw [show (p : Int) - ((k + 1 : Nat) : Int) = (p : Int) - (k : Int) - 1 by omega]; exact hq4
            case measure => rw [G.out]; omega
          · obtain rfl : k = N := by omega
            have hx : (k : Int) < (M : Int) → (p : Int) - (k : Int) ≤ 0 := fun z => by have := H5.out (by omega); omega
            by_cases hkM : (k : Int) < (M : Int)
            · have hy := hx hkM
              clear hx
              have ho := HW.out
              obtain ⟨a9, c9, e9, hc1, hc2, -⟩ := own_form ho
              subst e9
              have HW := Lib.hid ho
              clear ho hc1 hc2
              go_wp2_with fail
              go_region
              all_goals
                go_wp2_with fail
                have ht := tcur_upto l p true k
                simp only [Bool.false_eq_true, if_false, if_true] at ht
                obtain ⟨a8, c8, e8, hE, hc1, hc2⟩ := own_ents (w := (wr.setCell ⟨w.heap.size + 1 + 1, 0, none⟩ (.int .i64 ((p : Int) - k))).drew) (l := (upto (wf l p true) k).map (·.1)) (by rw [List.length_map, upto_length]; exact own_set HW.out _ (by simp only; omega) _) (upto_ents (show p ≤ l.length by omega) (by simp [wN]; omega) HO.out.ents.ok)
                rw [List.length_map, upto_length] at e8 hc1
                injection e8 with e8 _ e9
                subst e8 e9
                
                refine bodyPost_ret (v := .tuple #[.slice a9 k c9, .agg #[.int .i64 ((p : Int) - k)], .int .i64 0]) (by simp [results, Try.results17, go_sem, *]) rfl ?_
                exact RM.mk ⟨a9, c9, by rw [List.length_map, upto_length, ht], hE, by rw [List.length_map, upto_length]; exact hc1, hc2⟩ ((hb.setCell _ (by simp only; omega) _).drew)
            · clear hx
              have ho := HW.out
              obtain ⟨a9, c9, e9, hc1, hc2, -⟩ := own_form ho
              subst e9
              have HW := Lib.hid ho
              clear ho hc1 hc2
              go_wp2_with fail
              go_region
              all_goals
                go_wp2_with fail
                have ht := tcur_upto l p true k
                simp only [Bool.false_eq_true, if_false, if_true] at ht
                obtain ⟨a8, c8, e8, hE, hc1, hc2⟩ := own_ents (w := (wr.setCell ⟨w.heap.size + 1 + 1, 0, none⟩ (.int .i64 ((p : Int) - k))).drew) (l := (upto (wf l p true) k).map (·.1)) (by rw [List.length_map, upto_length]; exact own_set HW.out _ (by simp only; omega) _) (upto_ents (show p ≤ l.length by omega) (by simp [wN]; omega) HO.out.ents.ok)
                rw [List.length_map, upto_length] at e8 hc1
                injection e8 with e8 _ e9
                subst e8 e9
                
                refine bodyPost_ret (v := .tuple #[.slice a9 k c9, .agg #[.int .i64 ((p : Int) - k)], .int .i64 0]) (by simp [results, Try.results17, go_sem, *]) rfl ?_
                exact RM.mk ⟨a9, c9, by rw [List.length_map, upto_length, ht], hE, by rw [List.length_map, upto_length]; exact hc1, hc2⟩ ((hb.setCell _ (by simp only; omega) _).drew)
      · obtain ⟨M, rfl⟩ := Int.eq_ofNat_of_zero_le (show 0 ≤ m by omega)
        have hd : decide ((M : Int) < 0) = false := by simp
        have ha : ((M : Int)).natAbs = M := by omega
        rw [hd, ha, Int.toNat_natCast]
        unfold tk
        obtain ⟨N, hN⟩ : ∃ N, min M (wN r.es p false) = N := ⟨_, rfl⟩
        rw [hN]
        have hN1 : N = min M (r.es.length - p) := by rw [← hN]; simp [wN]
        have hN2 : N ≤ M ∧ p + N ≤ r.es.length ∧ (N < M → p + N = r.es.length) := by omega
        obtain ⟨hN3, hN4, hN5⟩ := hN2
        have f1 : (M : Int) ≤ 5000 := by omega
        clear hN hN1 hd ha f g
        obtain ⟨i0, hi, hz0, hz1, hz2⟩ := info_parts inf_ent
        have hM : (0 : Int) ≤ (M : Int) := by omega
        have hMn : -(M : Int) ≤ 0 := by omega
        have qn : IntKind.i64.wrap (-(M : Int)) = -(M : Int) := IntWalk.i64_in _ (by omega)
        have HC := Lib.hid hC
        have HO := Lib.hid h
        obtain ⟨id, l⟩ := r
        unfold Rn.v
        simp only at *
        clear hC h
        have H5 := Lib.hid hN5
        clear hN5
        go_enter Try.func17, Try.ntmps17
        go_wp2_with fail
        refine (HC.out _ (HO.out.bl (by repeat (first | assumption | exact Bl.refl _ | apply Bl.drewN | apply Bl.drew | apply Bl.alloc | (refine Bl.dr ?_ (by assumption)) | (refine Bl.trans ?_ (by assumption)))))).mono ?_; rintro e w1 ⟨rfl, hb1⟩
        have hr : Mem w1 [(⟨w.heap.size, 0, none⟩, .int .i64 id), (⟨w.heap.size, 1, none⟩, .slice a l.length c), (⟨w.heap.size + 1, 0, none⟩, .int .i64 ((p : Int))), (⟨w.heap.size + 1 + 1, 0, none⟩, .int .i64 0)] := by
          refine Mem.bl ?_ hb1
          simp [Mem, go_sem]
        have hb : Bl w w1 := (by repeat (first | assumption | exact Bl.refl _ | apply Bl.drewN | apply Bl.drew | apply Bl.alloc | (refine Bl.dr ?_ (by assumption)) | (refine Bl.trans ?_ (by assumption))))
        have hs1 : w.heap.size + 3 ≤ w1.heap.size := by have := hb1.size; simp at this; omega
        clear hb1
        have HR := Lib.hid hr
        
        have hm := hr
        simp only [Mem, VE, List.cons_append, List.nil_append, and_true] at hm
        clear hr
        go_wp2_with fail
        go_loopg [10, 11] N (fun g v i wr => ∃ k : Nat, k ≤ N ∧ i = .int .i64 k ∧ wr.ownsRow w1.heap.size 36 4 v k (entCells ((upto (wf l p false) k).map (·.1))) ∧ Mem wr [(⟨w.heap.size, 0, none⟩, .int .i64 id), (⟨w.heap.size, 1, none⟩, .slice a l.length c), (⟨w.heap.size + 1 + 1, 0, none⟩, .int .i64 0)] ∧ wr.cell? ⟨w.heap.size + 1, 0, none⟩ = some (.int .i64 ((p : Int) + k)) ∧ wr.frozen? ⟨w.heap.size + 1, 0, none⟩ = false ∧ Bl w wr ∧ w1.heap.size ≤ wr.heap.size ∧ g = N - k)
        case atStart =>
          refine ⟨0, by omega, rfl, by simpa [entCells, upto] using own_nil _ _ _ _, ?_, ?_, ?_, by assumption, by omega, by omega⟩
          · simp [Mem, hm]
          · simp [hm]
          · simp [hm]
        case round =>
          obtain ⟨k, hk, rfl, hown, hr, hq, hf, hb, hsz, hg⟩ := hrel
          have G := Lib.hid hg
          have HW := Lib.hid hown
          have HR := Lib.hid hr
          clear hg hown
          
          have hm := hr
          simp only [Mem, VE, List.cons_append, List.nil_append, and_true] at hm
          clear hr
          by_cases hkN : k < N
          · obtain ⟨b, off, rfl, hat⟩ := HO.out.ents.get (k := p + k) (show p + k < l.length by omega)
            obtain ⟨x, hx⟩ : ∃ x, l[p + k]? = some x := ⟨_, List.getElem?_eq_getElem (by omega)⟩
            obtain ⟨d0, d1, d2, d3⟩ := (hat _ x hx).bl hb
            have HX := Lib.hid hx
            clear hx hat
            have hk1 : (k : Int) < (M : Int) := by omega
            have hk2 : (p : Int) + (k : Int) < (l.length : Int) := by omega
            have hk3 : (0 : Int) ≤ (p : Int) + (k : Int) := by omega
            go_wp2_with (at_builtin; refine wpList_append_own _ rfl _ _ 22 rfl w1.heap.size 36 i0 (.agg #[.string ⟨#[]⟩, .string ⟨#[]⟩, .bool false, .int .i64 0]) 4 48 Try.underlying22 hi hz0 hz1 hz2 rfl (by decide) _ _ _ rfl (HW.out.alloc _) ⟨wr.heap.size, 0, none⟩ 1 1 [.string x.key, .string x.val, .bool x.dead, .int .i64 x.seq] rfl rfl ?c1 ?c2 ?c3 ?c4 ?c5 ?_)
            case c1 => exact multi_new _ _ _
            case c2 => intro u hu; simp at hu; rcases hu with rfl | rfl | rfl | rfl <;> rfl
            case c3 => unfold maxLen; omega
            case c4 => omega
            case c5 => simp; omega
            intro v' w4 hown4 hgrow _
            have hr4 := Mem.grown (HW.out.alloc _) hgrow (HR.out.alloc _) (by intro q hq; simp at hq; rcases hq with rfl | rfl | rfl <;> simp <;> omega)
            have hq4 := grown_cell (HW.out.alloc _) hgrow (((Bl.refl wr).alloc (Obj.cells #[.string x.key, .string x.val, .bool x.dead, .int .i64 x.seq] 36)).cell hq) (by simp; omega)
            have hf4 := grown_frozen (HW.out.alloc _) hgrow (((Bl.refl wr).alloc (Obj.cells #[.string x.key, .string x.val, .bool x.dead, .int .i64 x.seq] 36)).cell hq) (((Bl.refl wr).alloc (Obj.cells #[.string x.key, .string x.val, .bool x.dead, .int .i64 x.seq] 36)).frozen hq hf) (by simp; omega)
            have hb4 := grown_bl (hb.alloc _) (HW.out.alloc _) hgrow (by omega)
            have hs4 := hgrow.size
            simp at hs4
            have hown5 : w4.ownsRow w1.heap.size 36 4 v' (k + 1) (entCells ((upto (wf l p false) (k + 1)).map (·.1))) := by
              rw [upto_succ, List.map_append, List.map_singleton, entCells_snoc]
              have e : (wf l p false k).1 = x := by simp [wf, List.getD_eq_getElem?_getD, HX.out]
              rw [e]; exact hown4
            have HO5 := Lib.hid hown5
            have HR4 := Lib.hid hr4
            clear hown4 hown5 hgrow hm hq hf d0 d1 d2 d3
            
            have hm := hr4
            simp only [Mem, VE, List.cons_append, List.nil_append, and_true] at hm
            clear hr4
            go_wp2_with fail
            have hr5 := HR4.out.off (w.heap.size + 1) 0 (.int .i64 ((p : Int) + (k : Int) + 1)) (by intro q hq; simp at hq; rcases hq with rfl | rfl | rfl <;> simp <;> omega)
            go_roundg (N - (k + 1))
            case rel =>
              refine ⟨k + 1, by omega, by go_num, own_set HO5.out _ (by simp only; omega) _, hr5, ?_, ?_, hb4.setCell _ (by simp) _, by simp; omega, rfl⟩
              · rw [show (p : Int) + ((k + 1 : Nat) : Int) = (p : Int) + (k : Int) + 1 by omega]; exact smc _ _ _ _ _ hq4
              · rw [frozen_set]; exact hf4
            case measure => rw [G.out]; omega
          · obtain rfl : k = N := by omega
            have hx : (k : Int) < (M : Int) → (l.length : Int) ≤ (p : Int) + (k : Int) := fun z => by have := H5.out (by omega); omega
            by_cases hkM : (k : Int) < (M : Int)
            · have hy := hx hkM
              clear hx
              have ho := HW.out
              obtain ⟨a9, c9, e9, hc1, hc2, -⟩ := own_form ho
              subst e9
              have HW := Lib.hid ho
              clear ho hc1 hc2
              go_wp2_with fail
              go_loop [10, 12] (fun v i => v = .slice a9 k c9 ∧ i = .int .i64 0) (fun _ _ => 0)
              case atStart => exact ⟨rfl, rfl⟩
              obtain ⟨rfl, rfl⟩ := hrel
              go_wp2_with fail
              go_region
              all_goals
                go_wp2_with fail
                have ht := tcur_upto l p false k
                simp only [Bool.false_eq_true, if_false, if_true] at ht
                obtain ⟨a8, c8, e8, hE, hc1, hc2⟩ := own_ents (w := (wr.setCell ⟨w.heap.size + 1 + 1, 0, none⟩ (.int .i64 ((p : Int) + k))).drew) (l := (upto (wf l p false) k).map (·.1)) (by rw [List.length_map, upto_length]; exact own_set HW.out _ (by simp only; omega) _) (upto_ents (show p ≤ l.length by omega) (by simp [wN]; omega) HO.out.ents.ok)
                rw [List.length_map, upto_length] at e8 hc1
                injection e8 with e8 _ e9
                subst e8 e9
                
                refine bodyPost_ret (v := .tuple #[.slice a9 k c9, .agg #[.int .i64 ((p : Int) + k)], .int .i64 0]) (by simp [results, Try.results17, go_sem, *]) rfl ?_
                exact RM.mk ⟨a9, c9, by rw [List.length_map, upto_length, ht], hE, by rw [List.length_map, upto_length]; exact hc1, hc2⟩ ((hb.setCell _ (by simp only; omega) _).drew)
            · clear hx
              have ho := HW.out
              obtain ⟨a9, c9, e9, hc1, hc2, -⟩ := own_form ho
              subst e9
              have HW := Lib.hid ho
              clear ho hc1 hc2
              go_wp2_with fail
              go_loop [10, 12] (fun v i => v = .slice a9 k c9 ∧ i = .int .i64 0) (fun _ _ => 0)
              case atStart => exact ⟨rfl, rfl⟩
              obtain ⟨rfl, rfl⟩ := hrel
              go_wp2_with fail
              go_region
              all_goals
                go_wp2_with fail
                have ht := tcur_upto l p false k
                simp only [Bool.false_eq_true, if_false, if_true] at ht
                obtain ⟨a8, c8, e8, hE, hc1, hc2⟩ := own_ents (w := (wr.setCell ⟨w.heap.size + 1 + 1, 0, none⟩ (.int .i64 ((p : Int) + k))).drew) (l := (upto (wf l p false) k).map (·.1)) (by rw [List.length_map, upto_length]; exact own_set HW.out _ (by simp only; omega) _) (upto_ents (show p ≤ l.length by omega) (by simp [wN]; omega) HO.out.ents.ok)
                rw [List.length_map, upto_length] at e8 hc1
                injection e8 with e8 _ e9
                subst e8 e9
                
                refine bodyPost_ret (v := .tuple #[.slice a9 k c9, .agg #[.int .i64 ((p : Int) + k)], .int .i64 0]) (by simp [results, Try.results17, go_sem, *]) rfl ?_
                exact RM.mk ⟨a9, c9, by rw [List.length_map, upto_length, ht], hE, by rw [List.length_map, upto_length]; exact hc1, hc2⟩ ((hb.setCell _ (by simp only; omega) _).drew)
  · rw [if_pos e]
    have e' : (wchk r n != 0) = true := by simp [e]
    have e2 : (wchk r n == 0) = false := by simp [e]
    generalize wchk r n = q at *
    clear e
    have HC := Lib.hid hC
    have HO := Lib.hid h
    obtain ⟨id, l⟩ := r
    unfold Rn.v
    simp only at *
    clear hC h
    go_enter Try.func17, Try.ntmps17
    go_wp2_with fail
    refine (HC.out _ (HO.out.bl (by repeat (first | assumption | exact Bl.refl _ | apply Bl.drewN | apply Bl.drew | apply Bl.alloc | (refine Bl.dr ?_ (by assumption)) | (refine Bl.trans ?_ (by assumption)))))).mono ?_; rintro e w1 ⟨rfl, hb1⟩
    have hr : Mem w1 [(⟨w.heap.size, 0, none⟩, .int .i64 id), (⟨w.heap.size, 1, none⟩, .slice a l.length c), (⟨w.heap.size + 1, 0, none⟩, .int .i64 (n)), (⟨w.heap.size + 1 + 1, 0, none⟩, .int .i64 0)] := by
      refine Mem.bl ?_ hb1
      simp [Mem, go_sem]
    have hb : Bl w w1 := (by repeat (first | assumption | exact Bl.refl _ | apply Bl.drewN | apply Bl.drew | apply Bl.alloc | (refine Bl.dr ?_ (by assumption)) | (refine Bl.trans ?_ (by assumption))))
    have hs1 : w.heap.size + 3 ≤ w1.heap.size := by have := hb1.size; simp at this; omega
    clear hb1
    have HR := Lib.hid hr
    
    have hm := hr
    simp only [Mem, VE, List.cons_append, List.nil_append, and_true] at hm
    clear hr
    go_wp2_with fail
    
    refine bodyPost_ret (v := .tuple #[.slice none 0 0, .agg #[.int .i64 0], .int .i64 q]) (by simp [results, Try.results17, go_sem, *]) rfl ?_
    exact RM.mk ⟨none, 0, rfl, ents_nil _, Nat.le_refl _, by unfold maxLen; omega⟩ (by repeat (first | assumption | exact Bl.refl _ | apply Bl.drewN | apply Bl.drew | apply Bl.alloc | (refine Bl.setCell ?_ _ (by first | (simp; done) | (simp; omega)) _) | (refine Bl.dr ?_ (by assumption)) | (refine Bl.trans ?_ (by assumption))))
end Go.Proofs.Ytinbdppekhcekaa

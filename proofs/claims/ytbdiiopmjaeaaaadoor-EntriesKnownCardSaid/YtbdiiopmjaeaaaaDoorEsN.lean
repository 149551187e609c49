
/-
  The reference's Compare and Wins; Same; the law's examples.
-/
import Derived.Test.YtbdiiopmjaeaaaaDoorEsM
namespace Go.Proofs.YtbdiiopmjaeaaaaDoor
open Go.RowKit Go.Sort
set_option linter.unusedSimpArgs false
set_option linter.unusedVariables false
set_option maxRecDepth 100000

theorem e2_is (x y : Ent) : e2 x y = if echk x ≠ 0 then echk x else echk y := by
  unfold e2 eall eall eall
  split
  · rfl
  · by_cases h : echk y = 0
    · rw [if_neg (by simp [h]), h]
    · rw [if_pos h]
set_option maxHeartbeats 2000000 in
theorem refTwoE (x y : Ent) (w : World) (hx : x.ok) (hy : y.ok) : Calls Tryd.prog 38 #[x.v, y.v] w (RB w (.int .i64 (e2 x y))) := by
  rw [e2_is]
  have hA := fun w => refEntCheck x w hx
  have hB := fun w => refEntCheck y w hy
  generalize echk x = p at hA ⊢
  generalize echk y = q at hB ⊢
  unfold Ent.v at *
  have HA := Lib.hid hA
  have HB := Lib.hid hB
  clear hA hB hx hy
  by_cases h : p = 0
  · subst h
    rw [if_neg (by simp)]
    go_enter Tryd.func38, Tryd.ntmps38
    go_wp2_with fail
    refine (HA.out _).mono ?_; rintro e w1 ⟨rfl, hb1⟩
    
    have c0 : World.cell? w1 ⟨w.heap.size, 0, none⟩ = some (.string x.key) := hb1.cell (by simp [go_sem])
    have c1 : World.cell? w1 ⟨w.heap.size, 1, none⟩ = some (.string x.val) := hb1.cell (by simp [go_sem])
    have c2 : World.cell? w1 ⟨w.heap.size, 2, none⟩ = some (.bool x.dead) := hb1.cell (by simp [go_sem])
    have c3 : World.cell? w1 ⟨w.heap.size, 3, none⟩ = some (.int .i64 x.seq) := hb1.cell (by simp [go_sem])
    have d0 : World.cell? w1 ⟨w.heap.size + 1, 0, none⟩ = some (.string y.key) := hb1.cell (by simp [go_sem])
    have d1 : World.cell? w1 ⟨w.heap.size + 1, 1, none⟩ = some (.string y.val) := hb1.cell (by simp [go_sem])
    have d2 : World.cell? w1 ⟨w.heap.size + 1, 2, none⟩ = some (.bool y.dead) := hb1.cell (by simp [go_sem])
    have d3 : World.cell? w1 ⟨w.heap.size + 1, 3, none⟩ = some (.int .i64 y.seq) := hb1.cell (by simp [go_sem])
    have hb : Bl w w1 := (by repeat (first | assumption | exact Bl.refl _ | apply Bl.drewN | apply Bl.drew | apply Bl.alloc | (refine Bl.dr ?_ (by assumption)) | (refine Bl.trans ?_ (by assumption))))
    clear hb1
    go_wp2_with fail
    refine (HB.out _).mono ?_; rintro e w2 ⟨rfl, hb2⟩
    go_wp2_with fail
    go_ret
    exact RB.mk rfl (hb.trans hb2)
  · have h1 : (p == 0) = false := by rw [beq_eq_false_iff_ne]; exact h
    rw [if_pos h]
    clear h
    go_enter Tryd.func38, Tryd.ntmps38
    go_wp2_with fail
    refine (HA.out _).mono ?_; rintro e w1 ⟨rfl, hb1⟩
    go_wp2_with fail
    go_ret
    exact RB.mk rfl (by repeat (first | assumption | exact Bl.refl _ | apply Bl.drewN | apply Bl.drew | apply Bl.alloc | (refine Bl.dr ?_ (by assumption)) | (refine Bl.trans ?_ (by assumption))))
set_option maxHeartbeats 2000000 in
theorem refOrderE (x y : Ent) (w : World) (hx : x.ok) (hy : y.ok) : Calls Tryd.prog 39 #[x.v, y.v] w (RB w (.int .i64 (ocmp x y))) := by
  have hO := fun w => (refOrder x.key y.key w hx.1 hy.1).mono fun _ _ (h : RD _ _ _ _) => h.rb
  have HO := Lib.hid hO
  unfold ocmp
  generalize cmpS x.key y.key = o at HO ⊢
  unfold Ent.v
  clear hO hx hy
  by_cases h : o = 0
  · subst h
    rw [if_neg (by simp)]
    by_cases h1 : y.seq < x.seq
    · rw [if_pos h1]
      go_enter Tryd.func39, Tryd.ntmps39
      go_wp2_with fail
      refine (HO.out _).mono ?_; rintro e w1 ⟨rfl, hb1⟩
      
      have c0 : World.cell? w1 ⟨w.heap.size, 0, none⟩ = some (.string x.key) := hb1.cell (by simp [go_sem])
      have c1 : World.cell? w1 ⟨w.heap.size, 1, none⟩ = some (.string x.val) := hb1.cell (by simp [go_sem])
      have c2 : World.cell? w1 ⟨w.heap.size, 2, none⟩ = some (.bool x.dead) := hb1.cell (by simp [go_sem])
      have c3 : World.cell? w1 ⟨w.heap.size, 3, none⟩ = some (.int .i64 x.seq) := hb1.cell (by simp [go_sem])
      have d0 : World.cell? w1 ⟨w.heap.size + 1, 0, none⟩ = some (.string y.key) := hb1.cell (by simp [go_sem])
      have d1 : World.cell? w1 ⟨w.heap.size + 1, 1, none⟩ = some (.string y.val) := hb1.cell (by simp [go_sem])
      have d2 : World.cell? w1 ⟨w.heap.size + 1, 2, none⟩ = some (.bool y.dead) := hb1.cell (by simp [go_sem])
      have d3 : World.cell? w1 ⟨w.heap.size + 1, 3, none⟩ = some (.int .i64 y.seq) := hb1.cell (by simp [go_sem])
      have hb : Bl w w1 := (by repeat (first | assumption | exact Bl.refl _ | apply Bl.drewN | apply Bl.drew | apply Bl.alloc | (refine Bl.dr ?_ (by assumption)) | (refine Bl.trans ?_ (by assumption))))
      clear hb1
      go_wp2_with fail
      go_ret
      exact RB.mk rfl hb
    · rw [if_neg h1]
      by_cases h2 : x.seq < y.seq
      · rw [if_pos h2]
        go_enter Tryd.func39, Tryd.ntmps39
        go_wp2_with fail
        refine (HO.out _).mono ?_; rintro e w1 ⟨rfl, hb1⟩
        
        have c0 : World.cell? w1 ⟨w.heap.size, 0, none⟩ = some (.string x.key) := hb1.cell (by simp [go_sem])
        have c1 : World.cell? w1 ⟨w.heap.size, 1, none⟩ = some (.string x.val) := hb1.cell (by simp [go_sem])
        have c2 : World.cell? w1 ⟨w.heap.size, 2, none⟩ = some (.bool x.dead) := hb1.cell (by simp [go_sem])
        have c3 : World.cell? w1 ⟨w.heap.size, 3, none⟩ = some (.int .i64 x.seq) := hb1.cell (by simp [go_sem])
        have d0 : World.cell? w1 ⟨w.heap.size + 1, 0, none⟩ = some (.string y.key) := hb1.cell (by simp [go_sem])
        have d1 : World.cell? w1 ⟨w.heap.size + 1, 1, none⟩ = some (.string y.val) := hb1.cell (by simp [go_sem])
        have d2 : World.cell? w1 ⟨w.heap.size + 1, 2, none⟩ = some (.bool y.dead) := hb1.cell (by simp [go_sem])
        have d3 : World.cell? w1 ⟨w.heap.size + 1, 3, none⟩ = some (.int .i64 y.seq) := hb1.cell (by simp [go_sem])
        have hb : Bl w w1 := (by repeat (first | assumption | exact Bl.refl _ | apply Bl.drewN | apply Bl.drew | apply Bl.alloc | (refine Bl.dr ?_ (by assumption)) | (refine Bl.trans ?_ (by assumption))))
        clear hb1
        go_wp2_with fail
        go_ret
        exact RB.mk rfl hb
      · rw [if_neg h2]
        go_enter Tryd.func39, Tryd.ntmps39
        go_wp2_with fail
        refine (HO.out _).mono ?_; rintro e w1 ⟨rfl, hb1⟩
        
        have c0 : World.cell? w1 ⟨w.heap.size, 0, none⟩ = some (.string x.key) := hb1.cell (by simp [go_sem])
        have c1 : World.cell? w1 ⟨w.heap.size, 1, none⟩ = some (.string x.val) := hb1.cell (by simp [go_sem])
        have c2 : World.cell? w1 ⟨w.heap.size, 2, none⟩ = some (.bool x.dead) := hb1.cell (by simp [go_sem])
        have c3 : World.cell? w1 ⟨w.heap.size, 3, none⟩ = some (.int .i64 x.seq) := hb1.cell (by simp [go_sem])
        have d0 : World.cell? w1 ⟨w.heap.size + 1, 0, none⟩ = some (.string y.key) := hb1.cell (by simp [go_sem])
        have d1 : World.cell? w1 ⟨w.heap.size + 1, 1, none⟩ = some (.string y.val) := hb1.cell (by simp [go_sem])
        have d2 : World.cell? w1 ⟨w.heap.size + 1, 2, none⟩ = some (.bool y.dead) := hb1.cell (by simp [go_sem])
        have d3 : World.cell? w1 ⟨w.heap.size + 1, 3, none⟩ = some (.int .i64 y.seq) := hb1.cell (by simp [go_sem])
        have hb : Bl w w1 := (by repeat (first | assumption | exact Bl.refl _ | apply Bl.drewN | apply Bl.drew | apply Bl.alloc | (refine Bl.dr ?_ (by assumption)) | (refine Bl.trans ?_ (by assumption))))
        clear hb1
        go_wp2_with fail
        go_ret
        exact RB.mk rfl hb
  · have h1 : (o != 0) = true := by rw [bne_iff_ne]; exact h
    rw [if_pos h]
    clear h
    go_enter Tryd.func39, Tryd.ntmps39
    go_wp2_with fail
    refine (HO.out _).mono ?_; rintro e w1 ⟨rfl, hb1⟩
    
    have c0 : World.cell? w1 ⟨w.heap.size, 0, none⟩ = some (.string x.key) := hb1.cell (by simp [go_sem])
    have c1 : World.cell? w1 ⟨w.heap.size, 1, none⟩ = some (.string x.val) := hb1.cell (by simp [go_sem])
    have c2 : World.cell? w1 ⟨w.heap.size, 2, none⟩ = some (.bool x.dead) := hb1.cell (by simp [go_sem])
    have c3 : World.cell? w1 ⟨w.heap.size, 3, none⟩ = some (.int .i64 x.seq) := hb1.cell (by simp [go_sem])
    have d0 : World.cell? w1 ⟨w.heap.size + 1, 0, none⟩ = some (.string y.key) := hb1.cell (by simp [go_sem])
    have d1 : World.cell? w1 ⟨w.heap.size + 1, 1, none⟩ = some (.string y.val) := hb1.cell (by simp [go_sem])
    have d2 : World.cell? w1 ⟨w.heap.size + 1, 2, none⟩ = some (.bool y.dead) := hb1.cell (by simp [go_sem])
    have d3 : World.cell? w1 ⟨w.heap.size + 1, 3, none⟩ = some (.int .i64 y.seq) := hb1.cell (by simp [go_sem])
    have hb : Bl w w1 := (by repeat (first | assumption | exact Bl.refl _ | apply Bl.drewN | apply Bl.drew | apply Bl.alloc | (refine Bl.dr ?_ (by assumption)) | (refine Bl.trans ?_ (by assumption))))
    clear hb1
    go_wp2_with fail
    go_ret
    exact RB.mk rfl hb
set_option maxHeartbeats 2000000 in
theorem refCompareE (x y : Ent) (w : World) (hx : x.ok) (hy : y.ok) : Calls Tryd.prog 13 #[x.v, y.v] w (RB w (.tuple #[.int .i64 (ecmp x y).1, .int .i64 (ecmp x y).2])) := by
  have HT := Lib.hid (fun w => refTwoE x y w hx hy)
  have HO := Lib.hid (fun w => refOrderE x y w hx hy)
  unfold ecmp
  generalize e2 x y = q at HT ⊢
  generalize ocmp x y = o at HO ⊢
  unfold Ent.v at *
  clear hx hy
  by_cases h : q = 0
  · subst h
    rw [if_neg (by simp)]
    go_enter Tryd.func13, Tryd.ntmps13
    go_wp2_with fail
    refine (HT.out _).mono ?_; rintro e w1 ⟨rfl, hb1⟩
    
    have c0 : World.cell? w1 ⟨w.heap.size, 0, none⟩ = some (.string x.key) := hb1.cell (by simp [go_sem])
    have c1 : World.cell? w1 ⟨w.heap.size, 1, none⟩ = some (.string x.val) := hb1.cell (by simp [go_sem])
    have c2 : World.cell? w1 ⟨w.heap.size, 2, none⟩ = some (.bool x.dead) := hb1.cell (by simp [go_sem])
    have c3 : World.cell? w1 ⟨w.heap.size, 3, none⟩ = some (.int .i64 x.seq) := hb1.cell (by simp [go_sem])
    have d0 : World.cell? w1 ⟨w.heap.size + 1, 0, none⟩ = some (.string y.key) := hb1.cell (by simp [go_sem])
    have d1 : World.cell? w1 ⟨w.heap.size + 1, 1, none⟩ = some (.string y.val) := hb1.cell (by simp [go_sem])
    have d2 : World.cell? w1 ⟨w.heap.size + 1, 2, none⟩ = some (.bool y.dead) := hb1.cell (by simp [go_sem])
    have d3 : World.cell? w1 ⟨w.heap.size + 1, 3, none⟩ = some (.int .i64 y.seq) := hb1.cell (by simp [go_sem])
    have hb : Bl w w1 := (by repeat (first | assumption | exact Bl.refl _ | apply Bl.drewN | apply Bl.drew | apply Bl.alloc | (refine Bl.dr ?_ (by assumption)) | (refine Bl.trans ?_ (by assumption))))
    clear hb1
    go_wp2_with fail
    refine (HO.out _).mono ?_; rintro e w2 ⟨rfl, hb2⟩
    go_wp2_with fail
    go_ret2
    exact rb_tuple rfl rfl (hb.trans hb2)
  · have h1 : (q != 0) = true := by rw [bne_iff_ne]; exact h
    rw [if_pos h]
    clear h
    go_enter Tryd.func13, Tryd.ntmps13
    go_wp2_with fail
    refine (HT.out _).mono ?_; rintro e w1 ⟨rfl, hb1⟩
    go_wp2_with fail
    go_ret2
    exact rb_tuple rfl rfl (by repeat (first | assumption | exact Bl.refl _ | apply Bl.drewN | apply Bl.drew | apply Bl.alloc | (refine Bl.dr ?_ (by assumption)) | (refine Bl.trans ?_ (by assumption))))
set_option maxHeartbeats 4000000 in
theorem refWinsE (x y : Ent) (w : World) (hx : x.ok) (hy : y.ok) : Calls Tryd.prog 15 #[x.v, y.v] w (RB w (.tuple #[(ewins x y).1.v, .int .i64 (ewins x y).2])) := by
  have HT := Lib.hid (fun w => refTwoE x y w hx hy)
  unfold ewins
  generalize e2 x y = q at HT ⊢
  clear hx hy
  by_cases h : q = 0
  · subst h
    rw [if_neg (by simp)]
    by_cases hk : x.key = y.key
    · rw [if_neg (by simp [hk])]
      have hk1 : (x.key.toList == y.key.toList) = true := beq_key hk
      have hk2 : (x.key.toList != y.key.toList) = false := by rw [bne, hk1]; rfl
      clear hk
      by_cases hs : x.seq < y.seq
      · rw [if_pos hs]
        unfold Ent.v at *
        simp only
        go_enter Tryd.func15, Tryd.ntmps15
        go_wp2_with fail
        refine (HT.out _).mono ?_; rintro e w1 ⟨rfl, hb1⟩
        
        have c0 : World.cell? w1 ⟨w.heap.size, 0, none⟩ = some (.string x.key) := hb1.cell (by simp [go_sem])
        have c1 : World.cell? w1 ⟨w.heap.size, 1, none⟩ = some (.string x.val) := hb1.cell (by simp [go_sem])
        have c2 : World.cell? w1 ⟨w.heap.size, 2, none⟩ = some (.bool x.dead) := hb1.cell (by simp [go_sem])
        have c3 : World.cell? w1 ⟨w.heap.size, 3, none⟩ = some (.int .i64 x.seq) := hb1.cell (by simp [go_sem])
        have d0 : World.cell? w1 ⟨w.heap.size + 1, 0, none⟩ = some (.string y.key) := hb1.cell (by simp [go_sem])
        have d1 : World.cell? w1 ⟨w.heap.size + 1, 1, none⟩ = some (.string y.val) := hb1.cell (by simp [go_sem])
        have d2 : World.cell? w1 ⟨w.heap.size + 1, 2, none⟩ = some (.bool y.dead) := hb1.cell (by simp [go_sem])
        have d3 : World.cell? w1 ⟨w.heap.size + 1, 3, none⟩ = some (.int .i64 y.seq) := hb1.cell (by simp [go_sem])
        have r0 : World.cell? w1 ⟨w.heap.size + 1 + 1, 0, none⟩ = some (.string ⟨#[]⟩) := hb1.cell (by simp [go_sem])
        have r1 : World.cell? w1 ⟨w.heap.size + 1 + 1, 1, none⟩ = some (.string ⟨#[]⟩) := hb1.cell (by simp [go_sem])
        have r2 : World.cell? w1 ⟨w.heap.size + 1 + 1, 2, none⟩ = some (.bool false) := hb1.cell (by simp [go_sem])
        have r3 : World.cell? w1 ⟨w.heap.size + 1 + 1, 3, none⟩ = some (.int .i64 0) := hb1.cell (by simp [go_sem])
        have t0 : World.frozen? w1 ⟨w.heap.size + 1 + 1, 0, none⟩ = false := hb1.frozen (by simp [go_sem]; rfl) (by simp [go_sem])
        have t1 : World.frozen? w1 ⟨w.heap.size + 1 + 1, 1, none⟩ = false := hb1.frozen (by simp [go_sem]; rfl) (by simp [go_sem])
        have t2 : World.frozen? w1 ⟨w.heap.size + 1 + 1, 2, none⟩ = false := hb1.frozen (by simp [go_sem]; rfl) (by simp [go_sem])
        have t3 : World.frozen? w1 ⟨w.heap.size + 1 + 1, 3, none⟩ = false := hb1.frozen (by simp [go_sem]; rfl) (by simp [go_sem])
        have hb : Bl w w1 := (by repeat (first | assumption | exact Bl.refl _ | apply Bl.drewN | apply Bl.drew | apply Bl.alloc | (refine Bl.dr ?_ (by assumption)) | (refine Bl.trans ?_ (by assumption))))
        clear hb1
        go_wp2_with fail
        
        refine bodyPost_ret (v := .tuple #[.agg #[.string y.key, .string y.val, .bool y.dead, .int .i64 y.seq], .int .i64 0]) (by simp [results, Tryd.results15, go_sem, *]) rfl ?_
        exact ⟨rfl, (by repeat (first | assumption | exact Bl.refl _ | apply Bl.drewN | apply Bl.drew | apply Bl.alloc | (refine Bl.setCell ?_ _ (by first | (simp; done) | (simp; omega)) _) | (refine Bl.dr ?_ (by assumption)) | (refine Bl.trans ?_ (by assumption))))⟩
      · rw [if_neg hs]
        unfold Ent.v at *
        simp only
        go_enter Tryd.func15, Tryd.ntmps15
        go_wp2_with fail
        refine (HT.out _).mono ?_; rintro e w1 ⟨rfl, hb1⟩
        
        have c0 : World.cell? w1 ⟨w.heap.size, 0, none⟩ = some (.string x.key) := hb1.cell (by simp [go_sem])
        have c1 : World.cell? w1 ⟨w.heap.size, 1, none⟩ = some (.string x.val) := hb1.cell (by simp [go_sem])
        have c2 : World.cell? w1 ⟨w.heap.size, 2, none⟩ = some (.bool x.dead) := hb1.cell (by simp [go_sem])
        have c3 : World.cell? w1 ⟨w.heap.size, 3, none⟩ = some (.int .i64 x.seq) := hb1.cell (by simp [go_sem])
        have d0 : World.cell? w1 ⟨w.heap.size + 1, 0, none⟩ = some (.string y.key) := hb1.cell (by simp [go_sem])
        have d1 : World.cell? w1 ⟨w.heap.size + 1, 1, none⟩ = some (.string y.val) := hb1.cell (by simp [go_sem])
        have d2 : World.cell? w1 ⟨w.heap.size + 1, 2, none⟩ = some (.bool y.dead) := hb1.cell (by simp [go_sem])
        have d3 : World.cell? w1 ⟨w.heap.size + 1, 3, none⟩ = some (.int .i64 y.seq) := hb1.cell (by simp [go_sem])
        have r0 : World.cell? w1 ⟨w.heap.size + 1 + 1, 0, none⟩ = some (.string ⟨#[]⟩) := hb1.cell (by simp [go_sem])
        have r1 : World.cell? w1 ⟨w.heap.size + 1 + 1, 1, none⟩ = some (.string ⟨#[]⟩) := hb1.cell (by simp [go_sem])
        have r2 : World.cell? w1 ⟨w.heap.size + 1 + 1, 2, none⟩ = some (.bool false) := hb1.cell (by simp [go_sem])
        have r3 : World.cell? w1 ⟨w.heap.size + 1 + 1, 3, none⟩ = some (.int .i64 0) := hb1.cell (by simp [go_sem])
        have t0 : World.frozen? w1 ⟨w.heap.size + 1 + 1, 0, none⟩ = false := hb1.frozen (by simp [go_sem]; rfl) (by simp [go_sem])
        have t1 : World.frozen? w1 ⟨w.heap.size + 1 + 1, 1, none⟩ = false := hb1.frozen (by simp [go_sem]; rfl) (by simp [go_sem])
        have t2 : World.frozen? w1 ⟨w.heap.size + 1 + 1, 2, none⟩ = false := hb1.frozen (by simp [go_sem]; rfl) (by simp [go_sem])
        have t3 : World.frozen? w1 ⟨w.heap.size + 1 + 1, 3, none⟩ = false := hb1.frozen (by simp [go_sem]; rfl) (by simp [go_sem])
        have hb : Bl w w1 := (by repeat (first | assumption | exact Bl.refl _ | apply Bl.drewN | apply Bl.drew | apply Bl.alloc | (refine Bl.dr ?_ (by assumption)) | (refine Bl.trans ?_ (by assumption))))
        clear hb1
        go_wp2_with fail
        
        refine bodyPost_ret (v := .tuple #[.agg #[.string x.key, .string x.val, .bool x.dead, .int .i64 x.seq], .int .i64 0]) (by simp [results, Tryd.results15, go_sem, *]) rfl ?_
        exact ⟨rfl, (by repeat (first | assumption | exact Bl.refl _ | apply Bl.drewN | apply Bl.drew | apply Bl.alloc | (refine Bl.setCell ?_ _ (by first | (simp; done) | (simp; omega)) _) | (refine Bl.dr ?_ (by assumption)) | (refine Bl.trans ?_ (by assumption))))⟩
    · rw [if_pos hk]
      have hk1 : (x.key.toList == y.key.toList) = false := bne_key hk
      have hk2 : (x.key.toList != y.key.toList) = true := by rw [bne, hk1]; rfl
      clear hk
      unfold Ent.v eNil at *
      simp only
      go_enter Tryd.func15, Tryd.ntmps15
      go_wp2_with fail
      refine (HT.out _).mono ?_; rintro e w1 ⟨rfl, hb1⟩
      
      have c0 : World.cell? w1 ⟨w.heap.size, 0, none⟩ = some (.string x.key) := hb1.cell (by simp [go_sem])
      have c1 : World.cell? w1 ⟨w.heap.size, 1, none⟩ = some (.string x.val) := hb1.cell (by simp [go_sem])
      have c2 : World.cell? w1 ⟨w.heap.size, 2, none⟩ = some (.bool x.dead) := hb1.cell (by simp [go_sem])
      have c3 : World.cell? w1 ⟨w.heap.size, 3, none⟩ = some (.int .i64 x.seq) := hb1.cell (by simp [go_sem])
      have d0 : World.cell? w1 ⟨w.heap.size + 1, 0, none⟩ = some (.string y.key) := hb1.cell (by simp [go_sem])
      have d1 : World.cell? w1 ⟨w.heap.size + 1, 1, none⟩ = some (.string y.val) := hb1.cell (by simp [go_sem])
      have d2 : World.cell? w1 ⟨w.heap.size + 1, 2, none⟩ = some (.bool y.dead) := hb1.cell (by simp [go_sem])
      have d3 : World.cell? w1 ⟨w.heap.size + 1, 3, none⟩ = some (.int .i64 y.seq) := hb1.cell (by simp [go_sem])
      have r0 : World.cell? w1 ⟨w.heap.size + 1 + 1, 0, none⟩ = some (.string ⟨#[]⟩) := hb1.cell (by simp [go_sem])
      have r1 : World.cell? w1 ⟨w.heap.size + 1 + 1, 1, none⟩ = some (.string ⟨#[]⟩) := hb1.cell (by simp [go_sem])
      have r2 : World.cell? w1 ⟨w.heap.size + 1 + 1, 2, none⟩ = some (.bool false) := hb1.cell (by simp [go_sem])
      have r3 : World.cell? w1 ⟨w.heap.size + 1 + 1, 3, none⟩ = some (.int .i64 0) := hb1.cell (by simp [go_sem])
      have t0 : World.frozen? w1 ⟨w.heap.size + 1 + 1, 0, none⟩ = false := hb1.frozen (by simp [go_sem]; rfl) (by simp [go_sem])
      have t1 : World.frozen? w1 ⟨w.heap.size + 1 + 1, 1, none⟩ = false := hb1.frozen (by simp [go_sem]; rfl) (by simp [go_sem])
      have t2 : World.frozen? w1 ⟨w.heap.size + 1 + 1, 2, none⟩ = false := hb1.frozen (by simp [go_sem]; rfl) (by simp [go_sem])
      have t3 : World.frozen? w1 ⟨w.heap.size + 1 + 1, 3, none⟩ = false := hb1.frozen (by simp [go_sem]; rfl) (by simp [go_sem])
      have hb : Bl w w1 := (by repeat (first | assumption | exact Bl.refl _ | apply Bl.drewN | apply Bl.drew | apply Bl.alloc | (refine Bl.dr ?_ (by assumption)) | (refine Bl.trans ?_ (by assumption))))
      clear hb1
      go_wp2_with fail
      
      refine bodyPost_ret (v := .tuple #[.agg #[.string ⟨#[]⟩, .string ⟨#[]⟩, .bool false, .int .i64 0], .int .i64 6]) (by simp [results, Tryd.results15, go_sem, *]) rfl ?_
      exact ⟨rfl, (by repeat (first | assumption | exact Bl.refl _ | apply Bl.drewN | apply Bl.drew | apply Bl.alloc | (refine Bl.setCell ?_ _ (by first | (simp; done) | (simp; omega)) _) | (refine Bl.dr ?_ (by assumption)) | (refine Bl.trans ?_ (by assumption))))⟩
  · have h1 : (q == 0) = false := by rw [beq_eq_false_iff_ne]; exact h
    have h2 : (q != 0) = true := by rw [bne_iff_ne]; exact h
    rw [if_pos h]
    clear h
    unfold Ent.v eNil at *
    simp only
    go_enter Tryd.func15, Tryd.ntmps15
    go_wp2_with fail
    refine (HT.out _).mono ?_; rintro e w1 ⟨rfl, hb1⟩
    
    have c0 : World.cell? w1 ⟨w.heap.size, 0, none⟩ = some (.string x.key) := hb1.cell (by simp [go_sem])
    have c1 : World.cell? w1 ⟨w.heap.size, 1, none⟩ = some (.string x.val) := hb1.cell (by simp [go_sem])
    have c2 : World.cell? w1 ⟨w.heap.size, 2, none⟩ = some (.bool x.dead) := hb1.cell (by simp [go_sem])
    have c3 : World.cell? w1 ⟨w.heap.size, 3, none⟩ = some (.int .i64 x.seq) := hb1.cell (by simp [go_sem])
    have d0 : World.cell? w1 ⟨w.heap.size + 1, 0, none⟩ = some (.string y.key) := hb1.cell (by simp [go_sem])
    have d1 : World.cell? w1 ⟨w.heap.size + 1, 1, none⟩ = some (.string y.val) := hb1.cell (by simp [go_sem])
    have d2 : World.cell? w1 ⟨w.heap.size + 1, 2, none⟩ = some (.bool y.dead) := hb1.cell (by simp [go_sem])
    have d3 : World.cell? w1 ⟨w.heap.size + 1, 3, none⟩ = some (.int .i64 y.seq) := hb1.cell (by simp [go_sem])
    have r0 : World.cell? w1 ⟨w.heap.size + 1 + 1, 0, none⟩ = some (.string ⟨#[]⟩) := hb1.cell (by simp [go_sem])
    have r1 : World.cell? w1 ⟨w.heap.size + 1 + 1, 1, none⟩ = some (.string ⟨#[]⟩) := hb1.cell (by simp [go_sem])
    have r2 : World.cell? w1 ⟨w.heap.size + 1 + 1, 2, none⟩ = some (.bool false) := hb1.cell (by simp [go_sem])
    have r3 : World.cell? w1 ⟨w.heap.size + 1 + 1, 3, none⟩ = some (.int .i64 0) := hb1.cell (by simp [go_sem])
    have t0 : World.frozen? w1 ⟨w.heap.size + 1 + 1, 0, none⟩ = false := hb1.frozen (by simp [go_sem]; rfl) (by simp [go_sem])
    have t1 : World.frozen? w1 ⟨w.heap.size + 1 + 1, 1, none⟩ = false := hb1.frozen (by simp [go_sem]; rfl) (by simp [go_sem])
    have t2 : World.frozen? w1 ⟨w.heap.size + 1 + 1, 2, none⟩ = false := hb1.frozen (by simp [go_sem]; rfl) (by simp [go_sem])
    have t3 : World.frozen? w1 ⟨w.heap.size + 1 + 1, 3, none⟩ = false := hb1.frozen (by simp [go_sem]; rfl) (by simp [go_sem])
    have hb : Bl w w1 := (by repeat (first | assumption | exact Bl.refl _ | apply Bl.drewN | apply Bl.drew | apply Bl.alloc | (refine Bl.dr ?_ (by assumption)) | (refine Bl.trans ?_ (by assumption))))
    clear hb1
    go_wp2_with fail
    
    refine bodyPost_ret (v := .tuple #[.agg #[.string ⟨#[]⟩, .string ⟨#[]⟩, .bool false, .int .i64 0], .int .i64 q]) (by simp [results, Tryd.results15, go_sem, *]) rfl ?_
    exact ⟨rfl, (by repeat (first | assumption | exact Bl.refl _ | apply Bl.drewN | apply Bl.drew | apply Bl.alloc | (refine Bl.setCell ?_ _ (by first | (simp; done) | (simp; omega)) _) | (refine Bl.dr ?_ (by assumption)) | (refine Bl.trans ?_ (by assumption))))⟩
/-! ### Same -/
instance : DecidableEq Ent := fun x y =>
  if h : x.key = y.key ∧ x.val = y.val ∧ x.dead = y.dead ∧ x.seq = y.seq then isTrue (by cases x; cases y; simp_all) else isFalse (by intro e; subst e; exact h ⟨rfl, rfl, rfl, rfl⟩)
theorem drop_cmp {l m : List Ent} {k : Nat} {x y : Ent} (hx : l[k]? = some x) (hy : m[k]? = some y) : (l.drop k = m.drop k) ↔ (x = y ∧ l.drop (k + 1) = m.drop (k + 1)) := by
  obtain ⟨h1, rfl⟩ := List.getElem?_eq_some_iff.1 hx
  obtain ⟨h2, rfl⟩ := List.getElem?_eq_some_iff.1 hy
  rw [List.drop_eq_getElem_cons h1, List.drop_eq_getElem_cons h2]
  exact List.cons_eq_cons
theorem ent_parts {x y : Ent} (h : x ≠ y) : (x.key.toList == y.key.toList) = false ∨ ((x.key.toList == y.key.toList) = true ∧ (x.val.toList == y.val.toList) = false) ∨ ((x.key.toList == y.key.toList) = true ∧ (x.val.toList == y.val.toList) = true ∧ (x.dead == y.dead) = false) ∨ ((x.key.toList == y.key.toList) = true ∧ (x.val.toList == y.val.toList) = true ∧ (x.dead == y.dead) = true ∧ (x.seq == y.seq) = false) := by
  by_cases h1 : x.key = y.key
  · by_cases h2 : x.val = y.val
    · by_cases h3 : x.dead = y.dead
      · refine .inr (.inr (.inr ⟨beq_key h1, beq_key h2, by simp [h3], ?_⟩))
        rw [beq_eq_false_iff_ne]
        intro h4
        apply h
        cases x; cases y; simp_all
      · exact .inr (.inr (.inl ⟨beq_key h1, beq_key h2, by simp [h3]⟩))
    · exact .inr (.inl ⟨beq_key h1, bne_key h2⟩)
  · exact .inl (bne_key h1)
set_option maxHeartbeats 4000000 in
theorem refSameE (a b : Option Addr) (c d : Nat) (l m : List Ent) (w : World) (hl : Ents w a l) (hm : Ents w b m) (hn : l.length ≤ maxLen) (hn2 : m.length ≤ maxLen) :
    Calls Tryd.prog 21 #[.slice a l.length c, .slice b m.length d] w (RB w (.bool (decide (l = m)))) := by
  unfold maxLen at hn hn2
  by_cases hlen : l.length = m.length
  · have i0 : ((l.length : Int) != (m.length : Int)) = false := by rw [bne_eq_false_iff_eq]; omega
    have HL := Lib.hid hl
    have HM := Lib.hid hm
    have HLen := Lib.hid hlen
    clear hl hm hlen
    go_enter Tryd.func21, Tryd.ntmps21
    go_wp2_with fail
    go_loopg [5] l.length (fun g i wr => ∃ k : Nat, i = .int .i64 k ∧ Hid ((l = m → l.drop k = m.drop k) ∧ (l.drop k = m.drop k → l = m) ∧ k ≤ l.length ∧ g = l.length - k) ∧ Bl w wr)
    case atStart => exact ⟨0, rfl, Lib.hid ⟨fun h => by rw [h], fun h => by simpa using h, by omega, rfl⟩, Bl.refl _⟩
    case round =>
      obtain ⟨k, rfl, H, hb⟩ := hrel
      by_cases hk : k < l.length
      · have hlen := HLen.out
        obtain ⟨g1, o1, rfl, hat1⟩ := HL.out.get hk
        obtain ⟨g2, o2, rfl, hat2⟩ := HM.out.get (k := k) (by omega)
        obtain ⟨x, hx⟩ : ∃ x, l[k]? = some x := ⟨_, List.getElem?_eq_getElem hk⟩
        obtain ⟨y, hy⟩ : ∃ y, m[k]? = some y := ⟨_, List.getElem?_eq_getElem (by omega)⟩
        obtain ⟨x0, x1, x2, x3⟩ := (hat1 k x hx).bl hb
        obtain ⟨y0, y1, y2, y3⟩ := (hat2 k y hy).bl hb
        have hk2 : k < m.length := by omega
        have HX := Lib.hid hx
        have HY := Lib.hid hy
        have HG := Lib.hid (show l.length - (k + 1) < gk by have := H.out.2.2.2; omega)
        clear hat1 hat2 hx hy hlen
        by_cases he : x = y
        · subst he
          go_wp2_with fail
          go_quiet (fail)
          go_wp2_with fail
          go_roundg (l.length - (k + 1))
          case rel =>
            have hdr := drop_cmp HX.out HY.out
            refine ⟨k + 1, by go_num, Lib.hid ⟨fun h => (hdr.1 (H.out.1 h)).2, fun h => H.out.2.1 (hdr.2 ⟨rfl, h⟩), by omega, rfl⟩, (by repeat (first | assumption | exact Bl.refl _ | apply Bl.drewN | apply Bl.drew | apply Bl.alloc | (refine Bl.dr ?_ (by assumption)) | (refine Bl.trans ?_ (by assumption))))⟩
          case measure => exact HG.out
        · have HNe := Lib.hid he
          rcases ent_parts he with p0 | ⟨p0, p1⟩ | ⟨p0, p1, p2⟩ | ⟨p0, p1, p2, p3⟩
          · clear he
            go_wp2_with fail
            go_quiet (fail)
            go_wp2_with fail
            go_ret
            exact RB.mk (bval (decide_eq_false fun e => HNe.out ((drop_cmp HX.out HY.out).1 (H.out.1 e)).1).symm) (by repeat (first | assumption | exact Bl.refl _ | apply Bl.drewN | apply Bl.drew | apply Bl.alloc | (refine Bl.dr ?_ (by assumption)) | (refine Bl.trans ?_ (by assumption))))
          · clear he
            go_wp2_with fail
            go_quiet (fail)
            go_wp2_with fail
            go_ret
            exact RB.mk (bval (decide_eq_false fun e => HNe.out ((drop_cmp HX.out HY.out).1 (H.out.1 e)).1).symm) (by repeat (first | assumption | exact Bl.refl _ | apply Bl.drewN | apply Bl.drew | apply Bl.alloc | (refine Bl.dr ?_ (by assumption)) | (refine Bl.trans ?_ (by assumption))))
          · clear he
            go_wp2_with fail
            go_quiet (fail)
            go_wp2_with fail
            go_ret
            exact RB.mk (bval (decide_eq_false fun e => HNe.out ((drop_cmp HX.out HY.out).1 (H.out.1 e)).1).symm) (by repeat (first | assumption | exact Bl.refl _ | apply Bl.drewN | apply Bl.drew | apply Bl.alloc | (refine Bl.dr ?_ (by assumption)) | (refine Bl.trans ?_ (by assumption))))
          · clear he
            go_wp2_with fail
            go_quiet (fail)
            go_wp2_with fail
            go_ret
            exact RB.mk (bval (decide_eq_false fun e => HNe.out ((drop_cmp HX.out HY.out).1 (H.out.1 e)).1).symm) (by repeat (first | assumption | exact Bl.refl _ | apply Bl.drewN | apply Bl.drew | apply Bl.alloc | (refine Bl.dr ?_ (by assumption)) | (refine Bl.trans ?_ (by assumption))))
      · have hd : l.drop k = m.drop k := by
          rw [List.drop_of_length_le (by omega), List.drop_of_length_le (by have := HLen.out; omega)]
        have he := H.out.2.1 hd
        have HE := Lib.hid he
        have hk' : ¬ (k : Int) < (l.length : Int) := by omega
        clear he hd H
        go_wp2_with fail
        go_ret
        exact RB.mk (bval (decide_eq_true HE.out).symm) hb
  · have i0 : ((l.length : Int) != (m.length : Int)) = true := by rw [bne_iff_ne]; omega
    have HLen := Lib.hid hlen
    clear hl hm hlen
    go_enter Tryd.func21, Tryd.ntmps21
    go_wp2_with fail
    go_ret
    exact RB.mk (bval (decide_eq_false fun e => HLen.out (by rw [e])).symm) (by repeat (first | assumption | exact Bl.refl _ | apply Bl.drewN | apply Bl.drew | apply Bl.alloc | (refine Bl.dr ?_ (by assumption)) | (refine Bl.trans ?_ (by assumption))))
/-! ### The examples -/
def xA : Ent := ⟨⟨#[97]⟩, ⟨#[49]⟩, false, 5⟩
def xB : Ent := ⟨⟨#[97]⟩, ⟨#[]⟩, true, 7⟩
def xC : Ent := ⟨⟨#[98]⟩, ⟨#[50]⟩, false, 6⟩
theorem lawA (w : World) : Calls Tryd.prog 32 #[] w (RB w xA.v) := by
  unfold xA Ent.v
  go_enter Tryd.func32, Tryd.ntmps32
  go_wp2_with fail
  
  refine bodyPost_ret (v := .agg #[.string ⟨#[97]⟩, .string ⟨#[49]⟩, .bool false, .int .i64 5]) (by simp [results, Tryd.results32, go_sem, *]) rfl ?_
  exact ⟨rfl, (by repeat (first | assumption | exact Bl.refl _ | apply Bl.drewN | apply Bl.drew | apply Bl.alloc | (refine Bl.setCell ?_ _ (by first | (simp; done) | (simp; omega)) _) | (refine Bl.dr ?_ (by assumption)) | (refine Bl.trans ?_ (by assumption))))⟩
theorem lawB (w : World) : Calls Tryd.prog 34 #[] w (RB w xB.v) := by
  unfold xB Ent.v
  go_enter Tryd.func34, Tryd.ntmps34
  go_wp2_with fail
  
  refine bodyPost_ret (v := .agg #[.string ⟨#[97]⟩, .string ⟨#[]⟩, .bool true, .int .i64 7]) (by simp [results, Tryd.results34, go_sem, *]) rfl ?_
  exact ⟨rfl, (by repeat (first | assumption | exact Bl.refl _ | apply Bl.drewN | apply Bl.drew | apply Bl.alloc | (refine Bl.setCell ?_ _ (by first | (simp; done) | (simp; omega)) _) | (refine Bl.dr ?_ (by assumption)) | (refine Bl.trans ?_ (by assumption))))⟩
theorem lawC (w : World) : Calls Tryd.prog 33 #[] w (RB w xC.v) := by
  unfold xC Ent.v
  go_enter Tryd.func33, Tryd.ntmps33
  go_wp2_with fail
  
  refine bodyPost_ret (v := .agg #[.string ⟨#[98]⟩, .string ⟨#[50]⟩, .bool false, .int .i64 6]) (by simp [results, Tryd.results33, go_sem, *]) rfl ?_
  exact ⟨rfl, (by repeat (first | assumption | exact Bl.refl _ | apply Bl.drewN | apply Bl.drew | apply Bl.alloc | (refine Bl.setCell ?_ _ (by first | (simp; done) | (simp; omega)) _) | (refine Bl.dr ?_ (by assumption)) | (refine Bl.trans ?_ (by assumption))))⟩
end Go.Proofs.YtbdiiopmjaeaaaaDoor

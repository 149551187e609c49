
/-
  Compare, Wins, Same; the law's examples.
-/
import Derived.Test.YtcgpkcaaojkpcaaGreatDoorEsL
namespace Go.Proofs.YtcgpkcaaojkpcaaGreatDoor
open Go.RowKit Go.Sort
set_option linter.unusedSimpArgs false
set_option linter.unusedVariables false
set_option maxRecDepth 100000

def e2 (x y : Ent) : Int := eall [x, y]
def ecmp (x y : Ent) : Int × Int := if e2 x y ≠ 0 then (0, e2 x y) else (ocmp x y, 0)
def eNil : Ent := ⟨⟨#[]⟩, ⟨#[]⟩, false, 0⟩
def ewins (x y : Ent) : Ent × Int := if e2 x y ≠ 0 then (eNil, e2 x y) else if x.key ≠ y.key then (eNil, 6) else if x.seq < y.seq then (y, 0) else (x, 0)
theorem ents2 (W : World) (n : Nat) (hn : W.heap.size = n) (x y : Ent) (hx : x.ok) (hy : y.ok) : Ents (W.alloc (.cells #[.string x.key, .string x.val, .bool x.dead, .int .i64 x.seq, .string y.key, .string y.val, .bool y.dead, .int .i64 y.seq] 34)) (some ⟨n, 0, none⟩) [x, y] := by
  subst hn
  refine ⟨by intro z hz; simp at hz; rcases hz with rfl | rfl <;> assumption, fun _ => ⟨_, 0, rfl, fun i z hz => ?_⟩⟩
  match i, hz with
  | 0, hz => simp at hz; subst hz; constructor <;> simp [go_sem]
  | 1, hz => simp at hz; subst hz; constructor <;> simp [go_sem]
set_option maxHeartbeats 2000000 in
theorem entCompare (x y : Ent) (w : World) (hx : x.ok) (hy : y.ok) : Calls Tryz.prog 12 #[x.v, y.v] w (RB w (.tuple #[.int .i64 (ecmp x y).1, .int .i64 (ecmp x y).2])) := by
  have HE := Lib.hid (fun W n hn => ents2 W n hn x y hx hy)
  have hA := fun a w h => entAll a 2 [x, y] w h (by unfold maxLen; simp)
  have HB := Lib.hid (fun w => entBy x y w)
  unfold ecmp e2
  obtain ⟨q, hq⟩ : ∃ q, eall [x, y] = q := ⟨_, rfl⟩
  rw [hq] at hA ⊢
  have HA := Lib.hid hA
  unfold Ent.v at HB ⊢
  clear hA hq hx hy
  by_cases h : q = 0
  · subst h
    rw [if_neg (by simp)]
    generalize ocmp x y = o at HB ⊢
    go_enter Tryz.func12, Tryz.ntmps12
    go_wp2_with fail
    refine (HA.out _ _ (HE.out _ _ (by simp))).mono ?_; rintro e w1 ⟨rfl, hb1⟩
    have c0 : World.cell? w1 ⟨w.heap.size, 0, none⟩ = some (.string x.key) := hb1.cell (by simp [go_sem])
    have c1 : World.cell? w1 ⟨w.heap.size, 1, none⟩ = some (.string x.val) := hb1.cell (by simp [go_sem])
    have c2 : World.cell? w1 ⟨w.heap.size, 2, none⟩ = some (.bool x.dead) := hb1.cell (by simp [go_sem])
    have c3 : World.cell? w1 ⟨w.heap.size, 3, none⟩ = some (.int .i64 x.seq) := hb1.cell (by simp [go_sem])
    have d0 : World.cell? w1 ⟨w.heap.size + 1, 0, none⟩ = some (.string y.key) := hb1.cell (by simp [go_sem])
    have d1 : World.cell? w1 ⟨w.heap.size + 1, 1, none⟩ = some (.string y.val) := hb1.cell (by simp [go_sem])
    have d2 : World.cell? w1 ⟨w.heap.size + 1, 2, none⟩ = some (.bool y.dead) := hb1.cell (by simp [go_sem])
    have d3 : World.cell? w1 ⟨w.heap.size + 1, 3, none⟩ = some (.int .i64 y.seq) := hb1.cell (by simp [go_sem])
    have hb : Bl w w1 := (by repeat (first | assumption | exact Bl.refl _ | apply Bl.drewN | apply Bl.drew | apply Bl.alloc | (refine Bl.dr ?_ (by assumption)) | (refine Bl.trans ?_ (by assumption))))
    clear hb1
    go_wp2_with fail
    refine (HB.out _).mono ?_; rintro e w2 ⟨rfl, hb2⟩
    go_wp2_with fail
    go_ret2
    exact rb_tuple rfl rfl (hb.trans hb2)
  · have h1 : (q != 0) = true := by rw [bne_iff_ne]; exact h
    rw [if_pos h]
    clear h
    go_enter Tryz.func12, Tryz.ntmps12
    go_wp2_with fail
    refine (HA.out _ _ (HE.out _ _ (by simp))).mono ?_; rintro e w1 ⟨rfl, hb1⟩
    go_wp2_with fail
    go_ret2
    exact rb_tuple rfl rfl (by repeat (first | assumption | exact Bl.refl _ | apply Bl.drewN | apply Bl.drew | apply Bl.alloc | (refine Bl.dr ?_ (by assumption)) | (refine Bl.trans ?_ (by assumption))))
set_option maxHeartbeats 4000000 in
theorem entWins (x y : Ent) (w : World) (hx : x.ok) (hy : y.ok) : Calls Tryz.prog 15 #[x.v, y.v] w (RB w (.tuple #[(ewins x y).1.v, .int .i64 (ewins x y).2])) := by
  have HE := Lib.hid (fun W n hn => ents2 W n hn x y hx hy)
  have hA := fun a w h => entAll a 2 [x, y] w h (by unfold maxLen; simp)
  unfold ewins e2
  obtain ⟨q, hq⟩ : ∃ q, eall [x, y] = q := ⟨_, rfl⟩
  rw [hq] at hA ⊢
  have HA := Lib.hid hA
  clear hA hq hx hy
  by_cases h : q = 0
  · subst h
    rw [if_neg (by simp)]
    by_cases hk : x.key = y.key
    · rw [if_neg (by simp [hk])]
      have hk1 : (x.key.toList == y.key.toList) = true := beq_key hk
      have hk2 : (x.key.toList != y.key.toList) = false := by rw [bne, hk1]; rfl
      clear hk
      by_cases hs : x.seq < y.seq
      · rw [if_pos hs]
        unfold Ent.v
        simp only
        go_enter Tryz.func15, Tryz.ntmps15
        go_wp2_with fail
        refine (HA.out _ _ (HE.out _ _ (by simp))).mono ?_; rintro e w1 ⟨rfl, hb1⟩
        have c0 : World.cell? w1 ⟨w.heap.size, 0, none⟩ = some (.string x.key) := hb1.cell (by simp [go_sem])
        have c1 : World.cell? w1 ⟨w.heap.size, 1, none⟩ = some (.string x.val) := hb1.cell (by simp [go_sem])
        have c2 : World.cell? w1 ⟨w.heap.size, 2, none⟩ = some (.bool x.dead) := hb1.cell (by simp [go_sem])
        have c3 : World.cell? w1 ⟨w.heap.size, 3, none⟩ = some (.int .i64 x.seq) := hb1.cell (by simp [go_sem])
        have d0 : World.cell? w1 ⟨w.heap.size + 1, 0, none⟩ = some (.string y.key) := hb1.cell (by simp [go_sem])
        have d1 : World.cell? w1 ⟨w.heap.size + 1, 1, none⟩ = some (.string y.val) := hb1.cell (by simp [go_sem])
        have d2 : World.cell? w1 ⟨w.heap.size + 1, 2, none⟩ = some (.bool y.dead) := hb1.cell (by simp [go_sem])
        have d3 : World.cell? w1 ⟨w.heap.size + 1, 3, none⟩ = some (.int .i64 y.seq) := hb1.cell (by simp [go_sem])
        have r0 : World.cell? w1 ⟨w.heap.size + 1 + 1, 0, none⟩ = some (.string ⟨#[]⟩) := hb1.cell (by simp [go_sem])
        have r1 : World.cell? w1 ⟨w.heap.size + 1 + 1, 1, none⟩ = some (.string ⟨#[]⟩) := hb1.cell (by simp [go_sem])
        have r2 : World.cell? w1 ⟨w.heap.size + 1 + 1, 2, none⟩ = some (.bool false) := hb1.cell (by simp [go_sem])
        have r3 : World.cell? w1 ⟨w.heap.size + 1 + 1, 3, none⟩ = some (.int .i64 0) := hb1.cell (by simp [go_sem])
        have t0 : World.frozen? w1 ⟨w.heap.size + 1 + 1, 0, none⟩ = false := hb1.frozen (by simp [go_sem]; rfl) (by simp [go_sem])
        have t1 : World.frozen? w1 ⟨w.heap.size + 1 + 1, 1, none⟩ = false := hb1.frozen (by simp [go_sem]; rfl) (by simp [go_sem])
        have t2 : World.frozen? w1 ⟨w.heap.size + 1 + 1, 2, none⟩ = false := hb1.frozen (by simp [go_sem]; rfl) (by simp [go_sem])
        have t3 : World.frozen? w1 ⟨w.heap.size + 1 + 1, 3, none⟩ = false := hb1.frozen (by simp [go_sem]; rfl) (by simp [go_sem])
        have hb : Bl w w1 := (by repeat (first | assumption | exact Bl.refl _ | apply Bl.drewN | apply Bl.drew | apply Bl.alloc | (refine Bl.dr ?_ (by assumption)) | (refine Bl.trans ?_ (by assumption))))
        clear hb1
        go_wp2_with fail
        
        refine bodyPost_ret (v := .tuple #[.agg #[.string y.key, .string y.val, .bool y.dead, .int .i64 y.seq], .int .i64 0]) (by simp [results, Tryz.results15, go_sem, *]) rfl ?_
        exact ⟨rfl, (by repeat (first | assumption | exact Bl.refl _ | apply Bl.drewN | apply Bl.drew | apply Bl.alloc | (refine Bl.setCell ?_ _ (by first | (simp; done) | (simp; omega)) _) | (refine Bl.dr ?_ (by assumption)) | (refine Bl.trans ?_ (by assumption))))⟩
      · rw [if_neg hs]
        unfold Ent.v
        simp only
        go_enter Tryz.func15, Tryz.ntmps15
        go_wp2_with fail
        refine (HA.out _ _ (HE.out _ _ (by simp))).mono ?_; rintro e w1 ⟨rfl, hb1⟩
        have c0 : World.cell? w1 ⟨w.heap.size, 0, none⟩ = some (.string x.key) := hb1.cell (by simp [go_sem])
        have c1 : World.cell? w1 ⟨w.heap.size, 1, none⟩ = some (.string x.val) := hb1.cell (by simp [go_sem])
        have c2 : World.cell? w1 ⟨w.heap.size, 2, none⟩ = some (.bool x.dead) := hb1.cell (by simp [go_sem])
        have c3 : World.cell? w1 ⟨w.heap.size, 3, none⟩ = some (.int .i64 x.seq) := hb1.cell (by simp [go_sem])
        have d0 : World.cell? w1 ⟨w.heap.size + 1, 0, none⟩ = some (.string y.key) := hb1.cell (by simp [go_sem])
        have d1 : World.cell? w1 ⟨w.heap.size + 1, 1, none⟩ = some (.string y.val) := hb1.cell (by simp [go_sem])
        have d2 : World.cell? w1 ⟨w.heap.size + 1, 2, none⟩ = some (.bool y.dead) := hb1.cell (by simp [go_sem])
        have d3 : World.cell? w1 ⟨w.heap.size + 1, 3, none⟩ = some (.int .i64 y.seq) := hb1.cell (by simp [go_sem])
        have r0 : World.cell? w1 ⟨w.heap.size + 1 + 1, 0, none⟩ = some (.string ⟨#[]⟩) := hb1.cell (by simp [go_sem])
        have r1 : World.cell? w1 ⟨w.heap.size + 1 + 1, 1, none⟩ = some (.string ⟨#[]⟩) := hb1.cell (by simp [go_sem])
        have r2 : World.cell? w1 ⟨w.heap.size + 1 + 1, 2, none⟩ = some (.bool false) := hb1.cell (by simp [go_sem])
        have r3 : World.cell? w1 ⟨w.heap.size + 1 + 1, 3, none⟩ = some (.int .i64 0) := hb1.cell (by simp [go_sem])
        have t0 : World.frozen? w1 ⟨w.heap.size + 1 + 1, 0, none⟩ = false := hb1.frozen (by simp [go_sem]; rfl) (by simp [go_sem])
        have t1 : World.frozen? w1 ⟨w.heap.size + 1 + 1, 1, none⟩ = false := hb1.frozen (by simp [go_sem]; rfl) (by simp [go_sem])
        have t2 : World.frozen? w1 ⟨w.heap.size + 1 + 1, 2, none⟩ = false := hb1.frozen (by simp [go_sem]; rfl) (by simp [go_sem])
        have t3 : World.frozen? w1 ⟨w.heap.size + 1 + 1, 3, none⟩ = false := hb1.frozen (by simp [go_sem]; rfl) (by simp [go_sem])
        have hb : Bl w w1 := (by repeat (first | assumption | exact Bl.refl _ | apply Bl.drewN | apply Bl.drew | apply Bl.alloc | (refine Bl.dr ?_ (by assumption)) | (refine Bl.trans ?_ (by assumption))))
        clear hb1
        go_wp2_with fail
        
        refine bodyPost_ret (v := .tuple #[.agg #[.string x.key, .string x.val, .bool x.dead, .int .i64 x.seq], .int .i64 0]) (by simp [results, Tryz.results15, go_sem, *]) rfl ?_
        exact ⟨rfl, (by repeat (first | assumption | exact Bl.refl _ | apply Bl.drewN | apply Bl.drew | apply Bl.alloc | (refine Bl.setCell ?_ _ (by first | (simp; done) | (simp; omega)) _) | (refine Bl.dr ?_ (by assumption)) | (refine Bl.trans ?_ (by assumption))))⟩
    · rw [if_pos hk]
      have hk1 : (x.key.toList == y.key.toList) = false := bne_key hk
      have hk2 : (x.key.toList != y.key.toList) = true := by rw [bne, hk1]; rfl
      clear hk
      unfold Ent.v eNil
      simp only
      go_enter Tryz.func15, Tryz.ntmps15
      go_wp2_with fail
      refine (HA.out _ _ (HE.out _ _ (by simp))).mono ?_; rintro e w1 ⟨rfl, hb1⟩
      have c0 : World.cell? w1 ⟨w.heap.size, 0, none⟩ = some (.string x.key) := hb1.cell (by simp [go_sem])
      have c1 : World.cell? w1 ⟨w.heap.size, 1, none⟩ = some (.string x.val) := hb1.cell (by simp [go_sem])
      have c2 : World.cell? w1 ⟨w.heap.size, 2, none⟩ = some (.bool x.dead) := hb1.cell (by simp [go_sem])
      have c3 : World.cell? w1 ⟨w.heap.size, 3, none⟩ = some (.int .i64 x.seq) := hb1.cell (by simp [go_sem])
      have d0 : World.cell? w1 ⟨w.heap.size + 1, 0, none⟩ = some (.string y.key) := hb1.cell (by simp [go_sem])
      have d1 : World.cell? w1 ⟨w.heap.size + 1, 1, none⟩ = some (.string y.val) := hb1.cell (by simp [go_sem])
      have d2 : World.cell? w1 ⟨w.heap.size + 1, 2, none⟩ = some (.bool y.dead) := hb1.cell (by simp [go_sem])
      have d3 : World.cell? w1 ⟨w.heap.size + 1, 3, none⟩ = some (.int .i64 y.seq) := hb1.cell (by simp [go_sem])
      have r0 : World.cell? w1 ⟨w.heap.size + 1 + 1, 0, none⟩ = some (.string ⟨#[]⟩) := hb1.cell (by simp [go_sem])
      have r1 : World.cell? w1 ⟨w.heap.size + 1 + 1, 1, none⟩ = some (.string ⟨#[]⟩) := hb1.cell (by simp [go_sem])
      have r2 : World.cell? w1 ⟨w.heap.size + 1 + 1, 2, none⟩ = some (.bool false) := hb1.cell (by simp [go_sem])
      have r3 : World.cell? w1 ⟨w.heap.size + 1 + 1, 3, none⟩ = some (.int .i64 0) := hb1.cell (by simp [go_sem])
      have t0 : World.frozen? w1 ⟨w.heap.size + 1 + 1, 0, none⟩ = false := hb1.frozen (by simp [go_sem]; rfl) (by simp [go_sem])
      have t1 : World.frozen? w1 ⟨w.heap.size + 1 + 1, 1, none⟩ = false := hb1.frozen (by simp [go_sem]; rfl) (by simp [go_sem])
      have t2 : World.frozen? w1 ⟨w.heap.size + 1 + 1, 2, none⟩ = false := hb1.frozen (by simp [go_sem]; rfl) (by simp [go_sem])
      have t3 : World.frozen? w1 ⟨w.heap.size + 1 + 1, 3, none⟩ = false := hb1.frozen (by simp [go_sem]; rfl) (by simp [go_sem])
      have hb : Bl w w1 := (by repeat (first | assumption | exact Bl.refl _ | apply Bl.drewN | apply Bl.drew | apply Bl.alloc | (refine Bl.dr ?_ (by assumption)) | (refine Bl.trans ?_ (by assumption))))
      clear hb1
      go_wp2_with fail
      
      refine bodyPost_ret (v := .tuple #[.agg #[.string ⟨#[]⟩, .string ⟨#[]⟩, .bool false, .int .i64 0], .int .i64 6]) (by simp [results, Tryz.results15, go_sem, *]) rfl ?_
      exact ⟨rfl, (by repeat (first | assumption | exact Bl.refl _ | apply Bl.drewN | apply Bl.drew | apply Bl.alloc | (refine Bl.setCell ?_ _ (by first | (simp; done) | (simp; omega)) _) | (refine Bl.dr ?_ (by assumption)) | (refine Bl.trans ?_ (by assumption))))⟩
  · have h1 : (q != 0) = true := by rw [bne_iff_ne]; exact h
    rw [if_pos h]
    clear h
    unfold Ent.v eNil
    simp only
    go_enter Tryz.func15, Tryz.ntmps15
    go_wp2_with fail
    refine (HA.out _ _ (HE.out _ _ (by simp))).mono ?_; rintro e w1 ⟨rfl, hb1⟩
    have c0 : World.cell? w1 ⟨w.heap.size, 0, none⟩ = some (.string x.key) := hb1.cell (by simp [go_sem])
    have c1 : World.cell? w1 ⟨w.heap.size, 1, none⟩ = some (.string x.val) := hb1.cell (by simp [go_sem])
    have c2 : World.cell? w1 ⟨w.heap.size, 2, none⟩ = some (.bool x.dead) := hb1.cell (by simp [go_sem])
    have c3 : World.cell? w1 ⟨w.heap.size, 3, none⟩ = some (.int .i64 x.seq) := hb1.cell (by simp [go_sem])
    have d0 : World.cell? w1 ⟨w.heap.size + 1, 0, none⟩ = some (.string y.key) := hb1.cell (by simp [go_sem])
    have d1 : World.cell? w1 ⟨w.heap.size + 1, 1, none⟩ = some (.string y.val) := hb1.cell (by simp [go_sem])
    have d2 : World.cell? w1 ⟨w.heap.size + 1, 2, none⟩ = some (.bool y.dead) := hb1.cell (by simp [go_sem])
    have d3 : World.cell? w1 ⟨w.heap.size + 1, 3, none⟩ = some (.int .i64 y.seq) := hb1.cell (by simp [go_sem])
    have r0 : World.cell? w1 ⟨w.heap.size + 1 + 1, 0, none⟩ = some (.string ⟨#[]⟩) := hb1.cell (by simp [go_sem])
    have r1 : World.cell? w1 ⟨w.heap.size + 1 + 1, 1, none⟩ = some (.string ⟨#[]⟩) := hb1.cell (by simp [go_sem])
    have r2 : World.cell? w1 ⟨w.heap.size + 1 + 1, 2, none⟩ = some (.bool false) := hb1.cell (by simp [go_sem])
    have r3 : World.cell? w1 ⟨w.heap.size + 1 + 1, 3, none⟩ = some (.int .i64 0) := hb1.cell (by simp [go_sem])
    have t0 : World.frozen? w1 ⟨w.heap.size + 1 + 1, 0, none⟩ = false := hb1.frozen (by simp [go_sem]; rfl) (by simp [go_sem])
    have t1 : World.frozen? w1 ⟨w.heap.size + 1 + 1, 1, none⟩ = false := hb1.frozen (by simp [go_sem]; rfl) (by simp [go_sem])
    have t2 : World.frozen? w1 ⟨w.heap.size + 1 + 1, 2, none⟩ = false := hb1.frozen (by simp [go_sem]; rfl) (by simp [go_sem])
    have t3 : World.frozen? w1 ⟨w.heap.size + 1 + 1, 3, none⟩ = false := hb1.frozen (by simp [go_sem]; rfl) (by simp [go_sem])
    have hb : Bl w w1 := (by repeat (first | assumption | exact Bl.refl _ | apply Bl.drewN | apply Bl.drew | apply Bl.alloc | (refine Bl.dr ?_ (by assumption)) | (refine Bl.trans ?_ (by assumption))))
    clear hb1
    go_wp2_with fail
    
    refine bodyPost_ret (v := .tuple #[.agg #[.string ⟨#[]⟩, .string ⟨#[]⟩, .bool false, .int .i64 0], .int .i64 q]) (by simp [results, Tryz.results15, go_sem, *]) rfl ?_
    exact ⟨rfl, (by repeat (first | assumption | exact Bl.refl _ | apply Bl.drewN | apply Bl.drew | apply Bl.alloc | (refine Bl.setCell ?_ _ (by first | (simp; done) | (simp; omega)) _) | (refine Bl.dr ?_ (by assumption)) | (refine Bl.trans ?_ (by assumption))))⟩
end Go.Proofs.YtcgpkcaaojkpcaaGreatDoor


/-
  Insertion sort of a part of a row of entries.
-/
import Derived.Test.YtcgpkcaaojkpcaaGreatDoorEsC
import Derived.Deep.DeepCutAuto
namespace Go.Proofs.YtcgpkcaaojkpcaaGreatDoor
open Go.RowKit Go.Sort
set_option linter.unusedSimpArgs false
set_option linter.unusedVariables false
set_option maxRecDepth 100000

theorem wrapNat (n : Nat) (h : n ≤ 1000000000) : wrap64 (n : Int) = (n : Int) := wrapId _ (by omega) (by omega)
/-- The order, of entries with their places. -/
def dcmp (x y : Ent × Nat) : Int := ocmp x.1 y.1
/-- The order as a value. -/
def byV : Value := .func (.func 31) #[.agg #[]] #[]
theorem rw_swap {w0 W : World} {blk off : Nat} {d : Array (Ent × Nat)} (h : RW w0 blk off d W) (i j : Nat) (x y : Ent × Nat) (hi : i < d.size) (hj : j < d.size) (hx : d[i]! = x) (hy : d[j]! = y) :
    RW w0 blk off (swp d i j) (set4o (set4o W blk (off + i * 4) y.1) blk (off + j * 4) x.1).drew := h.sw (sw_swap h.start' h.rowK i j x y hi hj hx hy) (size_swp _ _ _)
theorem isort_take {B : List (Ent × Nat)} {t : Nat} {x : Ent × Nat} (h : B[t]? = some x) : isort dcmp (B.take (t + 1)) = insb dcmp (isort dcmp (B.take t)) x := by
  obtain ⟨ht, rfl⟩ := List.getElem?_eq_some_iff.1 h
  rw [List.take_succ_eq_append_getElem ht, isort, List.foldl_append]; rfl
theorem insb_stop0 {A : List (Ent × Nat)} {x : Ent × Nat} {s : Nat} (hs : s = 0) : insb dcmp (A.take s) x ++ A.drop s = A.take s ++ x :: A.drop s := by subst hs; simp [insb_nil]
theorem insb_stop1 {A : List (Ent × Nat)} {x z : Ent × Nat} {s : Nat} (hz : A[s]? = some z) (h : ¬ dcmp x z < 0) : insb dcmp (A.take (s + 1)) x ++ A.drop (s + 1) = A.take (s + 1) ++ x :: A.drop (s + 1) := by
  obtain ⟨ht, rfl⟩ := List.getElem?_eq_some_iff.1 hz
  rw [List.take_succ_eq_append_getElem ht, insb_snoc_ge _ _ _ h]
  simp only [List.append_assoc, List.cons_append, List.nil_append]
theorem insb_go {A : List (Ent × Nat)} {x z : Ent × Nat} {s : Nat} (hz : A[s]? = some z) (h : dcmp x z < 0) : insb dcmp (A.take (s + 1)) x ++ A.drop (s + 1) = insb dcmp (A.take s) x ++ A.drop s := by
  obtain ⟨ht, rfl⟩ := List.getElem?_eq_some_iff.1 hz
  rw [List.take_succ_eq_append_getElem ht, insb_snoc_lt _ _ _ h, List.drop_eq_getElem_cons ht]; simp
set_option maxHeartbeats 4000000 in
theorem slInsertion (w0 : World) (blk off cap n : Nat) (X B Y : List (Ent × Nat)) (a b : Nat) (ha : a = X.length) (hb : b = a + B.length) (hn : n = b + Y.length) (hm : n ≤ 1000000) (w : World) (S : RW w0 blk off (X ++ B ++ Y).toArray w) :
    Calls Tryz.prog 94 #[.slice (some ⟨blk, off, none⟩) n cap, .int .i64 a, .int .i64 b, byV] w fun e w' => e = .returned (.tuple #[]) ∧ RW w0 blk off (X ++ isort dcmp B ++ Y).toArray w' := by
  unfold byV
  have HB := Lib.hid (fun x y w => entBy x y w)
  have HS := Lib.hid S
  have HQ := Lib.hid (And.intro ha (And.intro hb hn))
  have ham : a ≤ 1000000 := by omega
  have hbm : b ≤ n := by omega
  clear S ha hb hn
  go_enter Tryz.func94, Tryz.ntmps94
  go_wp2_with fail
  go_loopg [8] (B.length) (fun g s wr => ∃ i t : Nat, s = .int .i64 i ∧ Hid (i = a + t ∧ 1 ≤ t ∧ B.length - t ≤ g ∧ RW w0 blk off (X ++ isort dcmp (B.take t) ++ B.drop t ++ Y).toArray wr))
  case atStart =>
    obtain ⟨ha, hb, hn⟩ := HQ.out
    refine ⟨a + 1, 1, by go_num, Lib.hid ⟨rfl, by omega, by omega, ?_⟩⟩
    have e : isort dcmp (B.take 1) ++ B.drop 1 = B := by
      cases B with
      | nil => rfl
      | cons z B => simp [isort, insb_nil]
    have := HS.out
    rw [show X ++ isort dcmp (B.take 1) ++ B.drop 1 ++ Y = X ++ B ++ Y by rw [List.append_assoc X, e]]
    exact this
  case round =>
    clear HS
    obtain ⟨i, t, rfl, H⟩ := hrel
    by_cases h1 : i < b
    · obtain ⟨ha, hb, hn⟩ := HQ.out
      obtain ⟨hi, ht1, hg, hS⟩ := H.out
      have htl : t < B.length := by omega
      obtain ⟨x, hx⟩ : ∃ x, B[t]? = some x := ⟨_, List.getElem?_eq_getElem htl⟩
      obtain ⟨A, hA⟩ : ∃ A, isort dcmp (B.take t) = A := ⟨_, rfl⟩
      have hAl : A.length = t := by rw [← hA, isort_len]; simp; omega
      obtain ⟨Z, hZ⟩ : ∃ Z, B.drop (t + 1) ++ Y = Z := ⟨_, rfl⟩
      have hZl : Z.length = n - (i + 1) := by rw [← hZ]; simp; omega
      have hS' : RW w0 blk off (X ++ A.take t ++ x :: A.drop t ++ Z).toArray wr := by
        have e : B.drop t = x :: B.drop (t + 1) := by
          rw [List.drop_eq_getElem_cons htl]; rw [List.getElem?_eq_getElem htl] at hx; injection hx with hx; rw [hx]
        rw [hA, e] at hS
        rw [List.take_of_length_le (by omega), List.drop_of_length_le (by omega), ← hZ]
        simp only [List.append_assoc, List.cons_append, List.nil_append] at hS ⊢
        exact hS
      have HX := Lib.hid (And.intro hx (And.intro hA (And.intro hAl (And.intro hZ (And.intro hZl (And.intro hi htl))))))
      have HS1 := Lib.hid hS'
      have him : i ≤ 1000000 := by omega
      have HMo := Lib.hid (show B.length - (t + 1) < gk by omega)
      clear ha hb hn hi ht1 hg hS hS' htl hx hA hAl hZ hZl H
      go_wp2_with fail
      go_loopg [9] t (fun g2 vj wr => ∃ j s : Nat, vj = .int .i64 j ∧ Hid (j = a + s ∧ s ≤ t ∧ g2 = s ∧ insb dcmp (A.take s) x ++ A.drop s = insb dcmp A x ∧ RW w0 blk off (X ++ A.take s ++ x :: A.drop s ++ Z).toArray wr))
      case atStart =>
        obtain ⟨hx, hA, hAl, hZ, hZl, hi, htl⟩ := HX.out
        refine ⟨i, t, rfl, Lib.hid ⟨hi, Nat.le_refl _, rfl, ?_, HS1.out⟩⟩
        rw [List.take_of_length_le (by omega), List.drop_of_length_le (by omega), List.append_nil]
      case round =>
        clear HS1
        obtain ⟨j, s, rfl, H⟩ := hrel
        -- the inner loop is at its end
        have hend : ∀ wq, Bl wr wq → insb dcmp (A.take s) x ++ A.drop s = A.take s ++ x :: A.drop s → Hid (i + 1 = a + (t + 1) ∧ 1 ≤ t + 1 ∧ B.length - (t + 1) ≤ B.length - (t + 1) ∧ RW w0 blk off (X ++ isort dcmp (B.take (t + 1)) ++ B.drop (t + 1) ++ Y).toArray wq) := by
          intro wq hbq hst
          obtain ⟨hx, hA, hAl, hZ, hZl, hi, htl⟩ := HX.out
          obtain ⟨hj, hst2, hg2, hins, hS⟩ := H.out
          refine ⟨by omega, by omega, Nat.le_refl _, ?_⟩
          have := hS.bl hbq
          rw [isort_take hx, hA, ← hins, hst]
          simp only [List.append_assoc, List.cons_append, List.nil_append] at this ⊢
          rw [hZ]; exact this
        have HEnd := Lib.hid hend
        clear hend
        by_cases hs0 : s = 0
        · have hja : j = a := by have := H.out; omega
          have d1 : decide (a < j) = false := by rw [decide_eq_false_iff_not]; omega
          have HS0 := Lib.hid hs0
          clear hja hs0
          go_wp2_with fail
          go_quiet (fail)
          go_wp2_with fail
          go_roundg (B.length - (t + 1))
          case rel => exact ⟨i + 1, t + 1, by go_num, HEnd.out _ (by repeat (first | assumption | exact Bl.refl _ | apply Bl.drewN | apply Bl.drew | apply Bl.alloc | (refine Bl.dr ?_ (by assumption)) | (refine Bl.trans ?_ (by assumption)))) (insb_stop0 HS0.out)⟩
          case measure => exact HMo.out
        · obtain ⟨sp, rfl⟩ : ∃ sp, s = sp + 1 := ⟨s - 1, by omega⟩
          obtain ⟨jp, rfl⟩ : ∃ jp, j = jp + 1 := ⟨j - 1, by have := H.out; omega⟩
          obtain ⟨hx, hA, hAl, hZ, hZl, hi, htl⟩ := HX.out
          obtain ⟨hj, hst2, hg2, hins, hS⟩ := H.out
          have ha := HQ.out.1
          obtain ⟨z, hz⟩ : ∃ z, A[sp]? = some z := ⟨_, List.getElem?_eq_getElem (by omega)⟩
          have hd1 : (X ++ A.take (sp + 1) ++ x :: A.drop (sp + 1) ++ Z).toArray[jp + 1]! = x := by
            rw [List.append_assoc]
            exact get_list (X ++ A.take (sp + 1)) _ x _ (by simp; omega)
          have hd0 : (X ++ A.take (sp + 1) ++ x :: A.drop (sp + 1) ++ Z).toArray[jp]! = z := by
            rw [List.append_assoc]
            exact get_at X (A.take (sp + 1)) _ jp sp z (by omega) (by rw [List.getElem?_take_of_lt (by omega)]; exact hz)
          have hsz : (X ++ A.take (sp + 1) ++ x :: A.drop (sp + 1) ++ Z).toArray.size = n := by simp; omega
          have HW := Lib.hid (And.intro hz (And.intro hd1 (And.intro hd0 hsz)))
          obtain ⟨⟨x0, x1, x2, x3⟩, -⟩ := hS.ent (jp + 1) x (by omega) hd1
          obtain ⟨⟨y0, y1, y2, y3⟩, -⟩ := hS.ent jp z (by omega) hd0
          have p0 : (0 : Int) ≤ (jp : Int) + 1 := by omega
          have p1 : (jp : Int) + 1 < (n : Int) := by omega
          have p2 : (jp : Int) < (n : Int) := by omega
          have p3 : ((jp : Int) + 1).toNat = jp + 1 := by omega
          have d1 : decide ((a : Int) < (jp : Int) + 1) = true := by rw [decide_eq_true_eq]; omega
          have p4 : wrap64 (jp : Int) = (jp : Int) := wrapNat _ (by omega)
          have HS3 := Lib.hid hS
          have HH := Lib.hid (And.intro hj (And.intro hst2 (And.intro hg2 (And.intro hins (And.intro ha hAl)))))
          clear ha hx hA hAl hZ hZl hi htl hj hst2 hg2 hins hS hz hd1 hd0 hsz
          by_cases hlt : dcmp x z < 0
          · have c0 : ocmp x.1 z.1 < 0 := hlt
            have hb := fun w => HB.out x.1 z.1 w
            obtain ⟨q, hq⟩ : ∃ q, ocmp x.1 z.1 = q := ⟨_, rfl⟩
            unfold Ent.v at hb
            rw [hq] at hb c0
            have HBy := Lib.hid hb
            have HNo := Lib.hid hlt
            have c1 : decide (q < 0) = true := by rw [decide_eq_true_eq]; exact c0
            have x0' := @BW.cell wr _ _ x0
            have x1' := @BW.cell wr _ _ x1
            have x2' := @BW.cell wr _ _ x2
            have x3' := @BW.cell wr _ _ x3
            have y0' := @BW.cell wr _ _ y0
            have y1' := @BW.cell wr _ _ y1
            have y2' := @BW.cell wr _ _ y2
            have y3' := @BW.cell wr _ _ y3
            clear hb hq hlt c0
            go_wp2_with fail
            
            refine wp_region_quiet_bw wr (by kernel_rfl) (by kernel_rfl) (Bl.refl wr) ?_
            repeat (go_big_quiet_step ((go_at_call 31; exact quietB (HBy.out _))))
            refine wpQuiet_nil ?_
            intro wq hw'
            have hwq : Bl wr wq := by obtain ⟨x, hx⟩ := hw'; rw [hx]; exact x.h
            clear hw'
            go_wp2_with fail
            have hS := HS3.out.bl hwq
            obtain ⟨hz, hd1, hd0, hsz⟩ := HW.out
            obtain ⟨hj, hst2, hg2, hins, ha, hAl⟩ := HH.out
            obtain ⟨⟨u0, u1, u2, u3⟩, f0, f1, f2, f3⟩ := hS.ent (jp + 1) x (by omega) hd1
            obtain ⟨⟨v0, v1, v2, v3⟩, g0, g1, g2, g3⟩ := hS.ent jp z (by omega) hd0
            obtain ⟨⟨z0, z1, z2, z3⟩, k0, k1, k2, k3⟩ := ent_set4o (o := off + (jp + 1) * 4) (x := z.1) ⟨v0, v1, v2, v3⟩ g0 g1 g2 g3 (by omega)
            have hS2 := rw_swap hS (jp + 1) jp x z (by omega) (by omega) hd1 hd0
            rw [wdn_step X A Z x sp jp (by omega) (by omega)] at hS2
            unfold set4o at z0 z1 z2 z3 k0 k1 k2 k3 hS2
            have HS2 := Lib.hid hS2
            clear hS2 hS hz hd1 hd0 hsz hj hst2 hg2 hins ha hAl x0' x1' x2' x3' y0' y1' y2' y3' x0 x1 x2 x3 y0 y1 y2 y3
            go_region
            go_wp2_with fail
            go_roundg sp
            case rel =>
              obtain ⟨hz, hd1, hd0, hsz⟩ := HW.out
              obtain ⟨hj, hst2, hg2, hins, ha, hAl⟩ := HH.out
              exact ⟨jp, sp, by go_num, Lib.hid ⟨by omega, by omega, rfl, (insb_go hz HNo.out).symm.trans hins, HS2.out⟩⟩
            case measure => have := HH.out.2.2.1; omega
          · have c0 : ¬ ocmp x.1 z.1 < 0 := hlt
            have hb := fun w => HB.out x.1 z.1 w
            obtain ⟨q, hq⟩ : ∃ q, ocmp x.1 z.1 = q := ⟨_, rfl⟩
            unfold Ent.v at hb
            rw [hq] at hb c0
            have HBy := Lib.hid hb
            have HNo := Lib.hid hlt
            have c1 : decide (q < 0) = false := by rw [decide_eq_false_iff_not]; exact c0
            have x0' := @BW.cell wr _ _ x0
            have x1' := @BW.cell wr _ _ x1
            have x2' := @BW.cell wr _ _ x2
            have x3' := @BW.cell wr _ _ x3
            have y0' := @BW.cell wr _ _ y0
            have y1' := @BW.cell wr _ _ y1
            have y2' := @BW.cell wr _ _ y2
            have y3' := @BW.cell wr _ _ y3
            clear hb hq hlt c0
            go_wp2_with fail
            
            refine wp_region_quiet_bw wr (by kernel_rfl) (by kernel_rfl) (Bl.refl wr) ?_
            repeat (go_big_quiet_step ((go_at_call 31; exact quietB (HBy.out _))))
            refine wpQuiet_nil ?_
            intro wq hw'
            have hwq : Bl wr wq := by obtain ⟨x, hx⟩ := hw'; rw [hx]; exact x.h
            clear hw'
            go_wp2_with fail
            go_roundg (B.length - (t + 1))
            case rel => exact ⟨i + 1, t + 1, by go_num, HEnd.out _ (by repeat (first | assumption | exact Bl.refl _ | apply Bl.drewN | apply Bl.drew | apply Bl.alloc | (refine Bl.dr ?_ (by assumption)) | (refine Bl.trans ?_ (by assumption)))) (insb_stop1 HW.out.1 (by have := HNo.out; omega))⟩
            case measure => exact HMo.out
    · have hge : ¬ (i : Int) < (b : Int) := by omega
      go_wp2_with fail
      go_end0
      refine ⟨rfl, ?_⟩
      obtain ⟨ha, hb, hn⟩ := HQ.out
      obtain ⟨hi, ht1, hg, hS⟩ := H.out
      rw [List.take_of_length_le (by omega), List.drop_of_length_le (by omega), List.append_nil] at hS
      simpa only [List.append_assoc] using hS
end Go.Proofs.YtcgpkcaaojkpcaaGreatDoor

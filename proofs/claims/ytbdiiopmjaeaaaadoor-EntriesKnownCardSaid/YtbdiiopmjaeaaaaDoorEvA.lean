
/-
  Live of entries: IndexFunc and DeleteFunc by the mark.
-/
import Derived.Test.YtbdiiopmjaeaaaaDoorEsL
namespace Go.Proofs.YtbdiiopmjaeaaaaDoor
open Go.RowKit Go.Sort
set_option linter.unusedSimpArgs false
set_option linter.unusedVariables false
set_option maxRecDepth 100000

/-! ### Plain: those that live -/
def liveD (l : List DE) : List DE := l.filter (fun x => !x.1.dead)
theorem liveD_step {L : List DE} {k : Nat} {x : DE} (hx : L[k]? = some x) : liveD (L.take (k + 1)) = liveD (L.take k) ++ (if x.1.dead = true then [] else [x]) := by
  obtain ⟨h1, rfl⟩ := List.getElem?_eq_some_iff.1 hx
  rw [List.take_succ_eq_append_getElem h1]
  unfold liveD
  rw [List.filter_append]
  cases h : (L[k]).1.dead <;> simp [h]
theorem liveD_fst (l : List DE) : (liveD l).map Prod.fst = (l.map Prod.fst).filter (fun x => !x.dead) := by
  unfold liveD; rw [List.filter_map]; rfl
theorem liveD_len (l : List DE) : (liveD l).length ≤ l.length := List.length_filter_le _ _
/-! ### The test of the mark -/
set_option maxHeartbeats 1000000 in
theorem deadIs (x : Ent) (w : World) : Calls Tryd.prog 54 #[x.v] w (RB w (.bool x.dead)) := by
  unfold Ent.v
  go_enter Tryd.func54, Tryd.ntmps54
  go_wp2_with fail
  go_ret
  exact RB.mk rfl (by repeat (first | assumption | exact Bl.refl _ | apply Bl.drewN | apply Bl.drew | apply Bl.alloc | (refine Bl.dr ?_ (by assumption)) | (refine Bl.trans ?_ (by assumption))))
/-! ### IndexFunc -/
set_option maxHeartbeats 4000000 in
theorem slIndexDead (g c : Nat) (L : List DE) (w : World) (hm : L.length ≤ 400000) (S : RW w g 0 L.toArray w) :
    Calls Tryd.prog 67 #[.slice (some ⟨g, 0, none⟩) L.length c, .func (.func 54) #[] #[]] w fun e w' => Bl w w' ∧
      ((e = .returned (.int .i64 (-1)) ∧ liveD L = L) ∨ ∃ (i : Nat) (x : DE), e = .returned (.int .i64 i) ∧ L[i]? = some x ∧ x.1.dead = true ∧ liveD (L.take i) = L.take i) := by
  have HB := Lib.hid (fun x w => deadIs x w)
  have HS := Lib.hid S
  clear S
  go_enter Tryd.func67, Tryd.ntmps67
  go_wp2_with fail
  go_loopg [8] L.length (fun gh v1 wr => ∃ k : Nat, v1 = .int .i64 k ∧ Hid (k ≤ L.length ∧ gh = L.length - k ∧ liveD (L.take k) = L.take k) ∧ Bl w wr)
  case atStart => exact ⟨0, rfl, Lib.hid ⟨by omega, rfl, by simp [liveD]⟩, Bl.refl _⟩
  case round =>
    obtain ⟨k, rfl, H, hb⟩ := hrel
    by_cases hlt : k < L.length
    · obtain ⟨x, hx⟩ : ∃ x, L[k]? = some x := ⟨_, List.getElem?_eq_getElem hlt⟩
      have hd1 := get_row [] [] (k := 0) rfl (Nat.zero_le _) hx
      rw [List.nil_append, List.drop_zero] at hd1
      obtain ⟨⟨x0, x1, x2, x3⟩, -⟩ := (HS.out.bl hb).ent k x (by simpa using hlt) hd1
      rw [Nat.zero_add] at x0 x1 x2 x3
      have hst := liveD_step hx
      have HX := Lib.hid (And.intro hx hst)
      have HMs := Lib.hid (show L.length - (k + 1) < gk by have := H.out; omega)
      obtain ⟨q, hq⟩ : ∃ q, x.1.dead = q := ⟨_, rfl⟩
      have hB := fun w => HB.out x.1 w
      unfold Ent.v at hB
      rw [hq] at hB x2 hst
      have HB2 := Lib.hid hB
      have HQ := Lib.hid hq
      clear hB hq hx hst hd1
      cases q with
      | true =>
        go_wp2_with fail
        refine (HB2.out _).mono ?_; rintro e w1 ⟨rfl, hb1⟩
        go_wp2_with fail
        go_ret
        exact ⟨hb.trans hb1, .inr ⟨k, x, rfl, HX.out.1, HQ.out, H.out.2.2⟩⟩
      | false =>
        go_wp2_with fail
        refine (HB2.out _).mono ?_; rintro e w1 ⟨rfl, hb1⟩
        go_wp2_with fail
        go_roundg (L.length - (k + 1))
        case rel =>
          refine ⟨k + 1, by go_num, Lib.hid ⟨by omega, rfl, ?_⟩, hb.trans hb1⟩
          have h2 := HX.out.2
          rw [HQ.out, if_neg (by simp), H.out.2.2] at h2
          rw [h2, List.take_succ_eq_append_getElem hlt]
          obtain ⟨_, e⟩ := List.getElem?_eq_some_iff.1 HX.out.1
          rw [e]
        case measure => exact HMs.out
    · have hk : k = L.length := by have := H.out.1; omega
      subst hk
      have hlt' : ¬ (L.length : Int) < (L.length : Int) := by omega
      have HL := Lib.hid (show liveD L = L by have := H.out.2.2; rwa [List.take_length] at this)
      clear hlt H
      go_wp2_with fail
      go_ret
      exact ⟨hb, .inl ⟨rfl, HL.out⟩⟩
/-! ### DeleteFunc -/
set_option maxHeartbeats 8000000 in
theorem slDeleteB (g c : Nat) (L : List DE) (hc : L.length ≤ c) (hcm : c ≤ maxLen) (hm : L.length ≤ 400000) (w : World) (S : RW w g 0 L.toArray w) :
    Calls Tryd.prog 53 #[.slice (some ⟨g, 0, none⟩) L.length c, .func (.func 54) #[] #[]] w fun e w' => ∃ n, e = .returned (.slice (some ⟨g, 0, none⟩) n c) ∧ n = (liveD L).length ∧ HoldsK enc4 4 w' g 0 (liveD L).toArray ∧ g < w'.heap.size ∧ w'.os = w.os ∧ w'.tape = w.tape ∧ w'.output = w.output ∧ w.heap.size ≤ w'.heap.size ∧ ∀ k, k < w.heap.size → k ≠ g → w'.heap[k]? = w.heap[k]? := by
  have HB := Lib.hid (fun x w => deadIs x w)
  have HI := Lib.hid (slIndexDead g c L w hm S)
  have HS := Lib.hid S
  have HM := Lib.hid hcm
  clear S hcm
  go_enter Tryd.func53, Tryd.ntmps53
  go_wp2_with fail
  refine HI.out.mono ?_
  rintro e w1 ⟨hb1, (⟨rfl, hall⟩ | ⟨k0, x0, rfl, hx0, hd0, hpre⟩)⟩
  · have HF := Lib.hid (And.intro hall (HS.out.bl hb1))
    clear hall hb1
    go_wp2_with fail
    go_ret
    obtain ⟨a, S⟩ := HF.out
    rw [a]
    exact ⟨L.length, rfl, rfl, S.row, S.lt, S.os, S.tape, S.output, S.size, S.block⟩
  · have hk0 := (List.getElem?_eq_some_iff.1 hx0).1
    have hst := liveD_step hx0
    rw [if_pos hd0, List.append_nil, hpre] at hst
    have HS1 := Lib.hid (And.intro (HS.out.bl hb1) (And.intro hst hk0))
    have i1 : ((k0 : Int) == -1) = false := by rw [beq_eq_false_iff_ne]; omega
    have hk9 : k0 ≤ 1000000 := by omega
    clear hx0 hd0 hpre hst hk0 hb1
    go_wp2_with fail
    go_loopg [5, 6] L.length (fun gh v1 v2 wr => ∃ k j : Nat, v1 = .int .i64 k ∧ v2 = .int .i64 j ∧ Hid (k < j ∧ j ≤ L.length ∧ L.length - j ≤ gh ∧ (liveD (L.take j)).length = k ∧ RW w g 0 (liveD (L.take j) ++ L.drop k).toArray wr))
    case atStart =>
      obtain ⟨s1, s2, s3⟩ := HS1.out
      refine ⟨k0, k0 + 1, rfl, by go_num, Lib.hid ⟨by omega, by omega, by omega, ?_, ?_⟩⟩
      · rw [s2, List.length_take]; omega
      · rw [s2, List.take_append_drop]; exact s1
    case round =>
      clear HS1 HI
      obtain ⟨k, j, rfl, rfl, H⟩ := hrel
      obtain ⟨hkj, hjL, hg, hk, hS⟩ := H.out
      have hk9 : k ≤ 1000000 := by omega
      have hj9 : j ≤ 1000000 := by omega
      by_cases hlt : j < L.length
      · obtain ⟨x, hx⟩ : ∃ x, L[j]? = some x := ⟨_, List.getElem?_eq_getElem hlt⟩
        have hd1 := get_row (liveD (L.take j)) [] hk (by omega : k ≤ j) hx
        have hsz : (liveD (L.take j) ++ L.drop k).toArray.size = L.length := by simp; omega
        obtain ⟨⟨x0, x1, x2, x3⟩, -⟩ := hS.ent j x (by omega) hd1
        rw [Nat.zero_add] at x0 x1 x2 x3
        have hst := liveD_step hx
        have p5 : k < L.length := by omega
        have HH := Lib.hid (And.intro hst (And.intro hsz (And.intro hx hk)))
        have HMs := Lib.hid (show L.length - (j + 1) < gk by omega)
        obtain ⟨q, hq⟩ : ∃ q, x.1.dead = q := ⟨_, rfl⟩
        have hB := fun w => HB.out x.1 w
        unfold Ent.v at hB
        rw [hq] at hB x2
        have HB2 := Lib.hid hB
        have HQ := Lib.hid hq
        have HS2 := Lib.hid hS
        clear hB hx hst hd1 hsz hkj hjL hg hk hS
        cases q with
        | true =>
          clear hq
          go_wp2_with fail
          refine (HB2.out _).mono ?_; rintro e w2 ⟨rfl, hb2⟩
          have hb3 := ((Bl.refl wr).alloc _).trans hb2
          have HB3 := Lib.hid hb3
          clear hb2 hb3
          go_wp2_with fail
          go_roundg (L.length - (j + 1))
          case rel =>
            obtain ⟨hkj, hjL, hg, hk, hS⟩ := H.out
            have h2 := HH.out.1
            rw [HQ.out, if_pos rfl, List.append_nil] at h2
            refine ⟨k, j + 1, rfl, by go_num, Lib.hid ⟨by omega, by omega, Nat.le_refl _, ?_, ?_⟩⟩
            · rw [h2]; exact hk
            · rw [h2]; exact hS.bl HB3.out
          case measure => exact HMs.out
        | false =>
          go_wp2_with fail
          refine (HB2.out _).mono ?_; rintro e w2 ⟨rfl, hb2⟩
          have z0 : w2.cell? ⟨wr.heap.size, 0, none⟩ = some (.string x.1.key) := hb2.cell (by simp [go_sem])
          have z1 : w2.cell? ⟨wr.heap.size, 1, none⟩ = some (.string x.1.val) := hb2.cell (by simp [go_sem])
          have z2 : w2.cell? ⟨wr.heap.size, 2, none⟩ = some (.bool false) := hb2.cell (by simp [go_sem])
          have z3 : w2.cell? ⟨wr.heap.size, 3, none⟩ = some (.int .i64 x.1.seq) := hb2.cell (by simp [go_sem])
          have hb3 := ((Bl.refl wr).alloc (.cells #[.string x.1.key, .string x.1.val, .bool false, .int .i64 x.1.seq] 23)).trans hb2
          have hS3 := HS2.out.bl hb3
          have hk := HH.out.2.2.2
          obtain ⟨z, hz⟩ : ∃ z, L[k]? = some z := ⟨_, List.getElem?_eq_getElem p5⟩
          have hdz := get_row (liveD (L.take j)) [] hk (Nat.le_refl k) hz
          obtain ⟨⟨a0, a1, a2, a3⟩, f0, f1, f2, f3⟩ := hS3.ent k z (by rw [HH.out.2.1]; exact p5) hdz
          rw [Nat.zero_add] at a0 a1 a2 a3 f0 f1 f2 f3
          have hnew := rw_set (x := x) (y := z) (B := L.drop (k + 1)) hk.symm (by
            have e : L.drop k = z :: L.drop (k + 1) := by
              rw [List.drop_eq_getElem_cons p5]
              obtain ⟨_, e⟩ := List.getElem?_eq_some_iff.1 hz
              rw [e]
            rw [← e]; exact hS3)
          unfold set4o at hnew
          rw [hq] at hnew
          have HNew := Lib.hid hnew
          clear hnew hS3 hk hz hdz hb2 hb3 x0 x1 x2 x3 hq
          go_wp2_with fail
          go_roundg (L.length - (j + 1))
          case rel =>
            obtain ⟨hkj, hjL, hg, hk, hS⟩ := H.out
            have h2 := HH.out.1
            rw [HQ.out, if_neg (by simp)] at h2
            refine ⟨k + 1, j + 1, by go_num, by go_num, Lib.hid ⟨by omega, by omega, Nat.le_refl _, ?_, ?_⟩⟩
            · rw [h2, List.length_append, hk]; rfl
            · rw [h2]
              have := HNew.out
              simp only [List.append_assoc, List.cons_append, List.nil_append] at this ⊢
              exact this
          case measure => exact HMs.out
      · have hje : j = L.length := by omega
        subst hje
        rw [List.take_length] at hk hS
        have p1 : ¬ (L.length : Int) < (L.length : Int) := by omega
        have hkl : k < L.length := by omega
        obtain ⟨zs, hzs⟩ := run_clear4 wr g (k * 4) (L.length - k) (c - k) (by omega)
          (fun i hi => by
            have := (hS.row (k * 4 + i) (by rw [size_flatK]; simp; omega)).1
            rw [Nat.zero_add] at this; rw [this]; rfl)
          (fun i hi => by
            have := (hS.row (k * 4 + i) (by rw [size_flatK]; simp; omega)).2
            rw [Nat.zero_add] at this; exact this)
        have hcut := holdsK_cut hk.symm hS.row zs
        obtain ⟨s1, s2, s3, s4⟩ := setCells_same g zs (k * 4) wr
        have hfin : k = (liveD L).length ∧ HoldsK enc4 4 (wr.setCells g (k * 4) zs) g 0 (liveD L).toArray ∧ g < (wr.setCells g (k * 4) zs).heap.size ∧ (wr.setCells g (k * 4) zs).os = w.os ∧ (wr.setCells g (k * 4) zs).tape = w.tape ∧ (wr.setCells g (k * 4) zs).output = w.output ∧ w.heap.size ≤ (wr.setCells g (k * 4) zs).heap.size ∧ ∀ i, i < w.heap.size → i ≠ g → (wr.setCells g (k * 4) zs).heap[i]? = w.heap[i]? :=
          ⟨hk.symm, hcut, by rw [s4]; exact hS.lt, s1.trans hS.os, s2.trans hS.tape, s3.trans hS.output, by rw [s4]; exact hS.size, fun i hi hne => (setCells_block g zs _ _ i hne).trans (hS.block i hi hne)⟩
        have HF := Lib.hid hfin
        clear hkj hjL hg hk hS hcut s1 s2 s3 s4 hfin hlt H
        go_wp2_with fail
        go_ret
        exact ⟨k, rfl, HF.out⟩
end Go.Proofs.YtbdiiopmjaeaaaaDoor


/-
  The symmetric merge where one of both parts is one entry.
-/
import Derived.Test.YtcgpkcaaojkpcaaGreatDoorEsD
namespace Go.Proofs.YtcgpkcaaojkpcaaGreatDoor
open Go.RowKit Go.Sort
set_option linter.unusedSimpArgs false
set_option linter.unusedVariables false
set_option maxRecDepth 100000

abbrev DE := Ent × Nat
theorem last_take {l : List DE} {p : Nat} {y : DE} (hp : p ≤ l.length) (h : (l.take p).getLast? = some y) : 0 < p ∧ l[p - 1]? = some y := by
  rcases Nat.eq_zero_or_pos p with rfl | h0
  · simp at h
  · refine ⟨h0, ?_⟩
    rw [List.getLast?_eq_getElem?, List.length_take, Nat.min_eq_left hp, List.getElem?_take_of_lt (by omega)] at h
    exact h
theorem head_drop {l : List DE} {p : Nat} {y : DE} (h : (l.drop p).head? = some y) : l[p]? = some y := by
  rw [List.head?_eq_getElem?, List.getElem?_drop] at h
  simpa using h
theorem put_mid {l : List DE} {p : Nat} {x : DE} (hp : p ≤ l.length) (hl : Srt ocmp l) (h1 : ∀ y, 0 < p → l[p - 1]? = some y → lt2 ocmp y x) (h2 : ∀ y, l[p]? = some y → lt2 ocmp x y) : Srt ocmp (l.take p ++ x :: l.drop p) :=
  ins_mid ocmp_pre (by rw [List.take_append_drop]; exact hl) (fun y hy => have h := last_take hp hy; h1 y h.1 h.2) (fun y hy => h2 y (head_drop hy))
theorem perm_mid (l : List DE) (p : Nat) (x : DE) : (l.take p ++ x :: l.drop p).Perm (x :: l) := by
  refine List.perm_middle.trans ?_
  rw [List.take_append_drop]
set_option maxHeartbeats 8000000 in
theorem symA (w0 : World) (blk off cap n : Nat) (X R Y : List DE) (x : DE) (a m b : Nat) (ha : a = X.length) (hma : m = a + 1) (hb : b = m + R.length) (hn : n = b + Y.length) (hm : n ≤ 1000000)
    (hR : Srt ocmp R) (hx : ∀ y ∈ R, x.2 < y.2) (w : World) (S : RW w0 blk off (X ++ x :: R ++ Y).toArray w) :
    Calls Tryz.prog 95 #[.slice (some ⟨blk, off, none⟩) n cap, .int .i64 a, .int .i64 m, .int .i64 b, byV] w fun e w' => e = .returned (.tuple #[]) ∧ ∃ S, S.Perm (x :: R) ∧ Srt ocmp S ∧ RW w0 blk off (X ++ S ++ Y).toArray w' := by
  unfold byV
  have HB := Lib.hid (fun x y w => entBy x y w)
  have HS := Lib.hid S
  have HQ := Lib.hid (And.intro ha (And.intro hma (And.intro hb (And.intro hn (And.intro hR hx)))))
  have ham : a ≤ 1000000 := by omega
  have hmm : m ≤ 1000000 := by omega
  have hbm : b ≤ 1000000 := by omega
  have han : a < n := by omega
  have t1 : ((m : Int) - (a : Int) == 1) = true := by rw [beq_iff_eq]; omega
  clear S ha hma hb hn hR hx
  go_enter Tryz.func95, Tryz.ntmps95
  go_wp2_with fail
  go_loopg [10, 11] (R.length) (fun g s t wr => ∃ i j p q : Nat, s = .int .i64 i ∧ t = .int .i64 j ∧ Hid (i = m + p ∧ j = m + q ∧ p ≤ q ∧ q ≤ R.length ∧ g = q - p ∧ (∀ y, 0 < p → R[p - 1]? = some y → lt2 ocmp y x) ∧ (∀ y, R[q]? = some y → lt2 ocmp x y) ∧ RW w0 blk off (X ++ x :: R ++ Y).toArray wr))
  case atStart =>
    obtain ⟨ha, hma, hb, hn, hR, hx⟩ := HQ.out
    exact ⟨m, b, 0, R.length, rfl, rfl, Lib.hid ⟨rfl, hb, by omega, Nat.le_refl _, rfl, fun y h => by omega, fun y h => (by rw [List.getElem?_eq_none (by omega)] at h; cases h), HS.out⟩⟩
  case round =>
    clear HS
    obtain ⟨i, j, p, q, rfl, rfl, H⟩ := hrel
    obtain ⟨ha, hma, hb, hn, hR, hx⟩ := HQ.out
    obtain ⟨hi, hj, hpq, hqR, hg, hlo, hhi, hS⟩ := H.out
    by_cases hlt : i < j
    · obtain ⟨r, hr⟩ : ∃ r, r = (i + j) / 2 - m := ⟨_, rfl⟩
      have hr1 : p ≤ r := by omega
      have hr2 : r < q := by omega
      obtain ⟨h, hh⟩ : ∃ h : Nat, h = m + r := ⟨_, rfl⟩
      have hh1 : ((i : Int) + (j : Int)) / 2 = (h : Int) := by omega
      obtain ⟨y, hy⟩ : ∃ y, R[r]? = some y := ⟨_, List.getElem?_eq_getElem (by omega)⟩
      have hd1 : (X ++ x :: R ++ Y).toArray[h]! = y := by
        have := get_at (X ++ [x]) R Y h r y (by simp; omega) hy
        simpa using this
      have hd0 : (X ++ x :: R ++ Y).toArray[a]! = x := by
        rw [List.append_assoc]
        exact get_list X _ x _ ha
      have hsz : (X ++ x :: R ++ Y).toArray.size = n := by simp; omega
      obtain ⟨⟨x0, x1, x2, x3⟩, -⟩ := hS.ent h y (by omega) hd1
      obtain ⟨⟨y0, y1, y2, y3⟩, -⟩ := hS.ent a x (by omega) hd0
      have hxy : x.2 < y.2 := hx y (List.mem_of_getElem? hy)
      have hi2 : i ≤ 1000000 := by omega
      have hj2 : j ≤ 1000000 := by omega
      have hhn : h < n := by omega
      have hh2 : h ≤ 1000000 := by omega
      have HH := Lib.hid (And.intro hr1 (And.intro hr2 (And.intro hh (And.intro hy hxy))))
      have hms : q - (r + 1) < gk ∧ r - p < gk := by omega
      have HMs := Lib.hid hms
      clear hms ha hma hb hn hR hx hi hj hpq hqR hg hlo hhi hS hr hr1 hr2 hh hy hd1 hd0 hsz hxy
      by_cases hc : ocmp y.1 x.1 < 0
      · have c0 := hc
        have HC := Lib.hid hc
        clear hc
        have hb := fun w => HB.out (y).1 (x).1 w
        obtain ⟨qv, hq⟩ : ∃ q, ocmp (y).1 (x).1 = q := ⟨_, rfl⟩
        unfold Ent.v at hb
        rw [hq] at hb c0
        have HBy := Lib.hid hb
        have c1 : decide (qv < 0) = true := by rw [decide_eq_true_eq]; exact c0
        have x0' := @BW.cell wr _ _ x0
        have x1' := @BW.cell wr _ _ x1
        have x2' := @BW.cell wr _ _ x2
        have x3' := @BW.cell wr _ _ x3
        have y0' := @BW.cell wr _ _ y0
        have y1' := @BW.cell wr _ _ y1
        have y2' := @BW.cell wr _ _ y2
        have y3' := @BW.cell wr _ _ y3
        clear hb hq c0
        go_wp2_with fail
        
        refine wp_region_quiet_bw wr (by kernel_rfl) (by kernel_rfl) (Bl.refl wr) ?_
        repeat (go_big_quiet_step ((go_at_call 31; exact quietB (HBy.out _))))
        refine wpQuiet_nil ?_
        intro wq hw'
        have hwq : Bl wr wq := by obtain ⟨x, hx⟩ := hw'; rw [hx]; exact x.h
        clear hw'
        go_wp2_with fail
        go_roundg (q - (r + 1))
        case rel =>
          obtain ⟨hi, hj, hpq, hqR, hg, hlo, hhi, hS⟩ := H.out
          obtain ⟨hr1, hr2, hh, hy, hxy⟩ := HH.out
          exact ⟨h + 1, j, r + 1, q, by go_num, rfl, Lib.hid ⟨by omega, hj, by omega, hqR, rfl, fun y' _ hy' => (by rw [Nat.add_sub_cancel, hy] at hy'; injection hy' with e; rw [← e]; exact lt2_yes HC.out), hhi, hS.bl hwq⟩⟩
        case measure => exact HMs.out.1
      · have c0 := hc
        have HC := Lib.hid hc
        clear hc
        have hb := fun w => HB.out (y).1 (x).1 w
        obtain ⟨qv, hq⟩ : ∃ q, ocmp (y).1 (x).1 = q := ⟨_, rfl⟩
        unfold Ent.v at hb
        rw [hq] at hb c0
        have HBy := Lib.hid hb
        have c1 : decide (qv < 0) = false := by rw [decide_eq_false_iff_not]; exact c0
        have x0' := @BW.cell wr _ _ x0
        have x1' := @BW.cell wr _ _ x1
        have x2' := @BW.cell wr _ _ x2
        have x3' := @BW.cell wr _ _ x3
        have y0' := @BW.cell wr _ _ y0
        have y1' := @BW.cell wr _ _ y1
        have y2' := @BW.cell wr _ _ y2
        have y3' := @BW.cell wr _ _ y3
        clear hb hq c0
        go_wp2_with fail
        
        refine wp_region_quiet_bw wr (by kernel_rfl) (by kernel_rfl) (Bl.refl wr) ?_
        repeat (go_big_quiet_step ((go_at_call 31; exact quietB (HBy.out _))))
        refine wpQuiet_nil ?_
        intro wq hw'
        have hwq : Bl wr wq := by obtain ⟨x, hx⟩ := hw'; rw [hx]; exact x.h
        clear hw'
        go_wp2_with fail
        go_roundg (r - p)
        case rel =>
          obtain ⟨hi, hj, hpq, hqR, hg, hlo, hhi, hS⟩ := H.out
          obtain ⟨hr1, hr2, hh, hy, hxy⟩ := HH.out
          exact ⟨i, h, p, r, rfl, rfl, Lib.hid ⟨hi, hh, hr1, by omega, rfl, hlo, fun y' hy' => (by rw [hy] at hy'; injection hy' with e; rw [← e]; exact lt2_no ocmp_pre hxy (by have := HC.out; omega)), hS.bl hwq⟩⟩
        case measure => exact HMs.out.2
    · have hpq' : p = q := by omega
      subst hpq'
      have hij : ¬ (i : Int) < (j : Int) := by omega
      have hi2 : i ≤ 1000000 := by omega
      have HP := Lib.hid (And.intro hi (And.intro hqR (And.intro hlo hhi)))
      have HS1 := Lib.hid hS
      have hi0 : 0 < i := by omega
      clear ha hma hb hn hR hx hi hj hpq hqR hg hlo hhi hS H
      go_wp2_with fail
      go_loopg [13] p (fun g s wr => ∃ k t : Nat, s = .int .i64 k ∧ Hid (k = a + t ∧ t ≤ p ∧ g = p - t ∧ RW w0 blk off (X ++ R.take t ++ x :: R.drop t ++ Y).toArray wr))
      case atStart =>
        exact ⟨a, 0, rfl, Lib.hid ⟨rfl, by omega, rfl, by simpa using HS1.out⟩⟩
      case round =>
        clear HS1
        obtain ⟨k, t, rfl, H⟩ := hrel
        obtain ⟨ha, hma, hb, hn, hR, hx⟩ := HQ.out
        obtain ⟨hi, hpR, hlo, hhi⟩ := HP.out
        obtain ⟨hk, htp, hg, hS⟩ := H.out
        by_cases hlt : t < p
        · obtain ⟨y, hy⟩ : ∃ y, R[t]? = some y := ⟨_, List.getElem?_eq_getElem (by omega)⟩
          have hd0 : (X ++ R.take t ++ x :: R.drop t ++ Y).toArray[k]! = x := by
            rw [List.append_assoc]
            exact get_list (X ++ R.take t) _ x _ (by simp; omega)
          have hd1 : (X ++ R.take t ++ x :: R.drop t ++ Y).toArray[k + 1]! = y := by
            have := get_at (X ++ R.take t ++ [x]) (R.drop t) Y (k + 1) 0 y (by simp; omega) (by simpa using hy)
            simpa using this
          have hsz : (X ++ R.take t ++ x :: R.drop t ++ Y).toArray.size = n := by simp; omega
          obtain ⟨⟨u0, u1, u2, u3⟩, f0, f1, f2, f3⟩ := hS.ent k x (by omega) hd0
          obtain ⟨⟨v0, v1, v2, v3⟩, g0, g1, g2, g3⟩ := hS.ent (k + 1) y (by omega) hd1
          obtain ⟨⟨z0, z1, z2, z3⟩, k0, k1, k2, k3⟩ := ent_set4o (o := off + k * 4) (x := y.1) ⟨v0, v1, v2, v3⟩ g0 g1 g2 g3 (by omega)
          have hS2 := rw_swap hS k (k + 1) x y (by omega) (by omega) hd0 hd1
          rw [wup_step X R Y x t k (by omega) (by omega)] at hS2
          unfold set4o at z0 z1 z2 z3 k0 k1 k2 k3 hS2
          have HS2 := Lib.hid hS2
          have q0 : (0 : Int) ≤ (k : Int) + 1 := by omega
          have q1 : (k : Int) + 1 < (n : Int) := by omega
          have q2 : (k : Int) < (n : Int) := by omega
          have q3 : ((k : Int) + 1).toNat = k + 1 := by omega
          have q4 : (k : Int) < (i : Int) - 1 := by omega
          have hk2 : k ≤ 1000000 := by omega
          have HMs := Lib.hid (And.intro hlt (show p - (t + 1) < gk by omega))
          clear hS2 hS hy hd0 hd1 hsz ha hma hb hn hR hx hi hpR hlo hhi hk htp hg hlt
          go_wp2_with fail
          go_region
          go_wp2_with fail
          go_roundg (p - (t + 1))
          case rel =>
            obtain ⟨hk, htp, hg, hS⟩ := H.out
            have := HMs.out.1
            exact ⟨k + 1, t + 1, by go_num, Lib.hid ⟨by omega, by omega, rfl, HS2.out⟩⟩
          case measure => exact HMs.out.2
        · have htp' : t = p := by omega
          subst htp'
          have q4 : ¬ (k : Int) < (i : Int) - 1 := by omega
          have HR := Lib.hid (And.intro hpR (And.intro hR (And.intro hlo hhi)))
          have HS2 := Lib.hid hS
          have hk2 : k ≤ 1000000 := by omega
          clear ha hma hb hn hR hx hi hpR hlo hhi hk htp hg hlt hS H
          go_wp2_with fail
          refine bodyPost_ret (results_none rfl _ _ _) rfl ?_
          obtain ⟨hpR, hR, hlo, hhi⟩ := HR.out
          refine ⟨rfl, R.take t ++ x :: R.drop t, perm_mid R t x, put_mid hpR hR hlo hhi, ?_⟩
          have := HS2.out
          simp only [List.append_assoc, List.cons_append] at this ⊢
          exact this
end Go.Proofs.YtcgpkcaaojkpcaaGreatDoor

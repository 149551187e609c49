
/-
  The symmetric merge where the second part is one entry.
-/
import Derived.Test.YtcgpkcaaojkpcaaGreatDoorEsE
namespace Go.Proofs.YtcgpkcaaojkpcaaGreatDoor
open Go.RowKit Go.Sort
set_option linter.unusedSimpArgs false
set_option linter.unusedVariables false
set_option maxRecDepth 100000

set_option maxHeartbeats 8000000 in
theorem symB (w0 : World) (blk off cap n : Nat) (X L Y : List DE) (y : DE) (a m b : Nat) (ha : a = X.length) (hma : m = a + L.length) (hL2 : 2 ≤ L.length) (hb : b = m + 1) (hn : n = b + Y.length) (hm : n ≤ 1000000)
    (hL : Srt ocmp L) (hx : ∀ x ∈ L, x.2 < y.2) (w : World) (S : RW w0 blk off (X ++ L ++ y :: Y).toArray w) :
    Calls Tryz.prog 95 #[.slice (some ⟨blk, off, none⟩) n cap, .int .i64 a, .int .i64 m, .int .i64 b, byV] w fun e w' => e = .returned (.tuple #[]) ∧ ∃ S, S.Perm (y :: L) ∧ Srt ocmp S ∧ RW w0 blk off (X ++ S ++ Y).toArray w' := by
  unfold byV
  have HB := Lib.hid (fun x y w => entBy x y w)
  have HS := Lib.hid S
  have HQ := Lib.hid (And.intro ha (And.intro hma (And.intro hb (And.intro hn (And.intro hL hx)))))
  have ham : a ≤ 1000000 := by omega
  have hmm : m ≤ 1000000 := by omega
  have hbm : b ≤ 1000000 := by omega
  have hmn : m < n := by omega
  have t1 : ((m : Int) - (a : Int) == 1) = false := by rw [beq_eq_false_iff_ne]; omega
  have t2 : ((b : Int) - (m : Int) == 1) = true := by rw [beq_iff_eq]; omega
  clear S ha hma hb hn hL hx hL2
  go_enter Tryz.func95, Tryz.ntmps95
  go_wp2_with fail
  go_loopg [14, 15] (L.length) (fun g s t wr => ∃ i j p q : Nat, s = .int .i64 i ∧ t = .int .i64 j ∧ Hid (i = a + p ∧ j = a + q ∧ p ≤ q ∧ q ≤ L.length ∧ g = q - p ∧ (∀ z, 0 < p → L[p - 1]? = some z → lt2 ocmp z y) ∧ (∀ z, L[q]? = some z → lt2 ocmp y z) ∧ RW w0 blk off (X ++ L ++ y :: Y).toArray wr))
  case atStart =>
    obtain ⟨ha, hma, hb, hn, hL, hx⟩ := HQ.out
    exact ⟨a, m, 0, L.length, rfl, rfl, Lib.hid ⟨rfl, hma, by omega, Nat.le_refl _, rfl, fun z h => by omega, fun z h => (by rw [List.getElem?_eq_none (by omega)] at h; cases h), HS.out⟩⟩
  case round =>
    clear HS
    obtain ⟨i, j, p, q, rfl, rfl, H⟩ := hrel
    obtain ⟨ha, hma, hb, hn, hL, hx⟩ := HQ.out
    obtain ⟨hi, hj, hpq, hqL, hg, hlo, hhi, hS⟩ := H.out
    by_cases hlt : i < j
    · obtain ⟨r, hr⟩ : ∃ r, r = (i + j) / 2 - a := ⟨_, rfl⟩
      have hr1 : p ≤ r := by omega
      have hr2 : r < q := by omega
      obtain ⟨h, hh⟩ : ∃ h : Nat, h = a + r := ⟨_, rfl⟩
      have hh1 : ((i : Int) + (j : Int)) / 2 = (h : Int) := by omega
      obtain ⟨z, hz⟩ : ∃ z, L[r]? = some z := ⟨_, List.getElem?_eq_getElem (by omega)⟩
      have hd1 : (X ++ L ++ y :: Y).toArray[h]! = z := get_at X L (y :: Y) h r z (by omega) hz
      have hd0 : (X ++ L ++ y :: Y).toArray[m]! = y := get_list (X ++ L) _ y _ (by simp; omega)
      have hsz : (X ++ L ++ y :: Y).toArray.size = n := by simp; omega
      obtain ⟨⟨x0, x1, x2, x3⟩, -⟩ := hS.ent m y (by omega) hd0
      obtain ⟨⟨y0, y1, y2, y3⟩, -⟩ := hS.ent h z (by omega) hd1
      have hxy : z.2 < y.2 := hx z (List.mem_of_getElem? hz)
      have hi2 : i ≤ 1000000 := by omega
      have hj2 : j ≤ 1000000 := by omega
      have hhn : h < n := by omega
      have hh2 : h ≤ 1000000 := by omega
      have HH := Lib.hid (And.intro hr1 (And.intro hr2 (And.intro hh (And.intro hz hxy))))
      have hms : q - (r + 1) < gk ∧ r - p < gk := by omega
      have HMs := Lib.hid hms
      clear hms ha hma hb hn hL hx hi hj hpq hqL hg hlo hhi hS hr hr1 hr2 hh hz hd1 hd0 hsz hxy
      by_cases hc : ocmp y.1 z.1 < 0
      · have c0 := hc
        have HC := Lib.hid hc
        clear hc
        
        have hb := fun w => HB.out (y).1 (z).1 w
        obtain ⟨qv, hq⟩ : ∃ q, ocmp (y).1 (z).1 = q := ⟨_, rfl⟩
        unfold Ent.v at hb
        rw [hq] at hb c0
        have HBy := Lib.hid hb
        have c1 : decide (qv < 0) = true := by rw [decide_eq_true_eq]; exact c0
        have x0' := @BW.cell wr _ _ x0
        have x1' := @BW.cell wr _ _ x1
        have x2' := @BW.cell wr _ _ x2
        have x3' := @BW.cell wr _ _ x3
        have y0' := @BW.cell wr _ _ y0
        have y1' := @BW.cell wr _ _ y1
        have y2' := @BW.cell wr _ _ y2
        have y3' := @BW.cell wr _ _ y3
        clear hb hq c0
        go_wp2_with fail
        
        refine wp_region_quiet_bw wr (by kernel_rfl) (by kernel_rfl) (Bl.refl wr) ?_
        repeat (go_big_quiet_step ((go_at_call 31; exact quietB (HBy.out _))))
        refine wpQuiet_nil ?_
        intro wq hw'
        have hwq : Bl wr wq := by obtain ⟨x, hx⟩ := hw'; rw [hx]; exact x.h
        clear hw'
        go_wp2_with fail
        go_roundg (r - p)
        case rel =>
          obtain ⟨hi, hj, hpq, hqL, hg, hlo, hhi, hS⟩ := H.out
          obtain ⟨hr1, hr2, hh, hz, hxy⟩ := HH.out
          exact ⟨i, h, p, r, rfl, rfl, Lib.hid ⟨hi, hh, hr1, by omega, rfl, hlo, fun y' hy' => (by rw [hz] at hy'; injection hy' with e; rw [← e]; exact lt2_yes HC.out), hS.bl hwq⟩⟩
        case measure => exact HMs.out.2
      · have c0 := hc
        have HC := Lib.hid hc
        clear hc
        
        have hb := fun w => HB.out (y).1 (z).1 w
        obtain ⟨qv, hq⟩ : ∃ q, ocmp (y).1 (z).1 = q := ⟨_, rfl⟩
        unfold Ent.v at hb
        rw [hq] at hb c0
        have HBy := Lib.hid hb
        have c1 : decide (qv < 0) = false := by rw [decide_eq_false_iff_not]; exact c0
        have x0' := @BW.cell wr _ _ x0
        have x1' := @BW.cell wr _ _ x1
        have x2' := @BW.cell wr _ _ x2
        have x3' := @BW.cell wr _ _ x3
        have y0' := @BW.cell wr _ _ y0
        have y1' := @BW.cell wr _ _ y1
        have y2' := @BW.cell wr _ _ y2
        have y3' := @BW.cell wr _ _ y3
        clear hb hq c0
        go_wp2_with fail
        
        refine wp_region_quiet_bw wr (by kernel_rfl) (by kernel_rfl) (Bl.refl wr) ?_
        repeat (go_big_quiet_step ((go_at_call 31; exact quietB (HBy.out _))))
        refine wpQuiet_nil ?_
        intro wq hw'
        have hwq : Bl wr wq := by obtain ⟨x, hx⟩ := hw'; rw [hx]; exact x.h
        clear hw'
        go_wp2_with fail
        go_roundg (q - (r + 1))
        case rel =>
          obtain ⟨hi, hj, hpq, hqL, hg, hlo, hhi, hS⟩ := H.out
          obtain ⟨hr1, hr2, hh, hz, hxy⟩ := HH.out
          exact ⟨h + 1, j, r + 1, q, by go_num, rfl, Lib.hid ⟨by omega, hj, by omega, hqL, rfl, fun y' _ hy' => (by rw [Nat.add_sub_cancel, hz] at hy'; injection hy' with e; rw [← e]; exact lt2_no ocmp_pre hxy (by have := HC.out; omega)), hhi, hS.bl hwq⟩⟩
        case measure => exact HMs.out.1
    · have hpq' : p = q := by omega
      subst hpq'
      have hij : ¬ (i : Int) < (j : Int) := by omega
      have hi2 : i ≤ 1000000 := by omega
      have HP := Lib.hid (And.intro hi (And.intro hqL (And.intro hlo hhi)))
      have HS1 := Lib.hid hS
      clear ha hma hb hn hL hx hi hj hpq hqL hg hlo hhi hS H
      go_wp2_with fail
      go_loopg [17] (L.length - p) (fun g s wr => ∃ k t : Nat, s = .int .i64 k ∧ Hid (k = a + t ∧ p ≤ t ∧ t ≤ L.length ∧ g = t - p ∧ RW w0 blk off (X ++ L.take t ++ y :: L.drop t ++ Y).toArray wr))
      case atStart =>
        obtain ⟨ha, hma, hb, hn, hL, hx⟩ := HQ.out
        obtain ⟨hi, hpL, hlo, hhi⟩ := HP.out
        exact ⟨m, L.length, rfl, Lib.hid ⟨hma, hpL, Nat.le_refl _, rfl, by simpa using HS1.out⟩⟩
      case round =>
        clear HS1
        obtain ⟨k, t, rfl, H⟩ := hrel
        obtain ⟨ha, hma, hb, hn, hL, hx⟩ := HQ.out
        obtain ⟨hi, hpL, hlo, hhi⟩ := HP.out
        obtain ⟨hk, hpt, htL, hg, hS⟩ := H.out
        by_cases hlt : p < t
        · obtain ⟨tp, rfl⟩ : ∃ tp, t = tp + 1 := ⟨t - 1, by omega⟩
          obtain ⟨kp, rfl⟩ : ∃ kp, k = kp + 1 := ⟨k - 1, by omega⟩
          obtain ⟨z, hz⟩ : ∃ z, L[tp]? = some z := ⟨_, List.getElem?_eq_getElem (by omega)⟩
          have hd0 : (X ++ L.take (tp + 1) ++ y :: L.drop (tp + 1) ++ Y).toArray[kp + 1]! = y := by
            rw [List.append_assoc]
            exact get_list (X ++ L.take (tp + 1)) _ y _ (by simp; omega)
          have hd1 : (X ++ L.take (tp + 1) ++ y :: L.drop (tp + 1) ++ Y).toArray[kp]! = z := by
            rw [List.append_assoc]
            exact get_at X (L.take (tp + 1)) _ kp tp z (by omega) (by rw [List.getElem?_take_of_lt (by omega)]; exact hz)
          have hsz : (X ++ L.take (tp + 1) ++ y :: L.drop (tp + 1) ++ Y).toArray.size = n := by simp; omega
          obtain ⟨⟨u0, u1, u2, u3⟩, f0, f1, f2, f3⟩ := hS.ent (kp + 1) y (by omega) hd0
          obtain ⟨⟨v0, v1, v2, v3⟩, g0, g1, g2, g3⟩ := hS.ent kp z (by omega) hd1
          obtain ⟨⟨z0, z1, z2, z3⟩, k0, k1, k2, k3⟩ := ent_set4o (o := off + (kp + 1) * 4) (x := z.1) ⟨v0, v1, v2, v3⟩ g0 g1 g2 g3 (by omega)
          have hS2 := rw_swap hS (kp + 1) kp y z (by omega) (by omega) hd0 hd1
          rw [wdn_step X L Y y tp kp (by omega) (by omega)] at hS2
          unfold set4o at z0 z1 z2 z3 k0 k1 k2 k3 hS2
          have HS2 := Lib.hid hS2
          have q0 : (0 : Int) ≤ (kp : Int) + 1 := by omega
          have q1 : (kp : Int) + 1 < (n : Int) := by omega
          have q2 : (kp : Int) < (n : Int) := by omega
          have q3 : ((kp : Int) + 1).toNat = kp + 1 := by omega
          have q4 : (i : Int) < (kp : Int) + 1 := by omega
          have hk2 : kp ≤ 1000000 := by omega
          have HMs := Lib.hid (And.intro hlt (show tp - p < gk by omega))
          have q5 : wrap64 (kp : Int) = (kp : Int) := wrapNat _ (by omega)
          clear hS2 hS hz hd0 hd1 hsz ha hma hb hn hL hx hi hpL hlo hhi hk hpt htL hg hlt
          go_wp2_with fail
          go_region
          go_wp2_with fail
          go_roundg (tp - p)
          case rel =>
            obtain ⟨hk, hpt, htL, hg, hS⟩ := H.out
            have := HMs.out.1
            exact ⟨kp, tp, by go_num, Lib.hid ⟨by omega, by omega, by omega, rfl, HS2.out⟩⟩
          case measure => exact HMs.out.2
        · have htp' : t = p := by omega
          subst htp'
          have q4 : ¬ (i : Int) < (k : Int) := by omega
          have HR := Lib.hid (And.intro hpL (And.intro hL (And.intro hlo hhi)))
          have HS2 := Lib.hid hS
          have hk2 : k ≤ 1000000 := by omega
          clear ha hma hb hn hL hx hi hpL hlo hhi hk hpt htL hg hlt hS H
          go_wp2_with fail
          refine bodyPost_ret (results_none rfl _ _ _) rfl ?_
          obtain ⟨hpL, hL, hlo, hhi⟩ := HR.out
          refine ⟨rfl, L.take t ++ y :: L.drop t, perm_mid L t y, put_mid hpL hL hlo hhi, ?_⟩
          have := HS2.out
          simp only [List.append_assoc, List.cons_append] at this ⊢
          exact this
end Go.Proofs.YtcgpkcaaojkpcaaGreatDoor

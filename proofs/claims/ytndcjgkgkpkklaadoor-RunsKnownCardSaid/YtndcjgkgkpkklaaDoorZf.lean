/-
  Own texts laid together: FnN.
-/
import Derived.Test.YtndcjgkgkpkklaaDoorZe
/-
  Contract of fence.Make.
-/
namespace Go.Proofs.YtndcjgkgkpkklaaDoor
open Go.RowKit
set_option linter.unusedSimpArgs false
set_option linter.unusedVariables false
set_option maxRecDepth 100000

theorem fenceBlocksE0 (a : Option Addr) (c : Nat) (s : Nat) (w : World) (hs1 : 1 ≤ s) (hs2 : s ≤ 64) :
    Calls Tryd.prog 34 #[.slice a 0 c, .int .i64 (s : Int)] w (RD w (.slice none 0 0)) := by
  have h1 : ¬ (s : Int) < 0 := by omega
  go_enter Tryd.func34, Tryd.ntmps34
  go_wp2_with fail
  go_loopg [0, 4] 1 (fun g l out wr => l = .slice a 0 c ∧ out = .slice none 0 0 ∧ Dr w wr ∧ g = 1)
  case atStart => exact ⟨rfl, rfl, Dr.refl _, rfl⟩
  case round =>
    obtain ⟨rfl, rfl, hd, -⟩ := hrel
    go_wp2_with fail
    go_ret
    exact RD.mk rfl hd
theorem fenceBlocksG (a : Option Addr) (b off c n s : Nat) (w : World) (ha : 0 < n → a = some ⟨b, off, none⟩) (hs1 : 1 ≤ s) (hs2 : s ≤ 64) (hn : n ≤ 5000) (hcap : n ≤ c) (hcap2 : c ≤ maxLen) :
    Calls Tryd.prog 34 #[.slice a n c, .int .i64 (s : Int)] w (RM w (BlkOut w.heap.size b off s n c ((n + s - 1) / s))) := by
  rcases Nat.eq_zero_or_pos n with h | h
  · subst h
    refine (fenceBlocksE0 a c s w hs1 hs2).mono ?_
    rintro e w' ⟨rfl, hd⟩
    have hq : (0 + s - 1) / s = 0 := Nat.div_eq_of_lt (by omega)
    exact RM.mk ⟨none, 0, by rw [hq], by rw [hq]; omega, fun h => by rw [hq] at h; omega⟩ (.of_dr hd)
  · rw [ha h]
    exact fenceBlocksE b off c n s w hs1 hs2 hn h hcap hcap2
def lastK (l : List Ent) (s k : Nat) : ByteArray := if k = 0 then mt else match l[min (k * s) l.length - 1]? with
  | some x => x.key
  | none => mt

set_option maxRecDepth 100000 in
set_option maxHeartbeats 4000000 in
theorem fenceMake (a : Option Addr) (c : Nat) (l : List Ent) (s : Int) (w : World) (hl : Ents w a l) (hn : l.length ≤ c) (hc : c ≤ maxLen) (hlo : -9223372036854775808 ≤ s) (hhi : s ≤ 9223372036854775807) :
    Calls Tryd.prog 25 #[.slice a l.length c, .int .i64 s] w (RM w (FOut (fmake l s).1 (fmake l s).2)) := by
  have hL := fun w h => entCheckList a c l w h (Nat.le_trans hn hc)
  have hlok := clchk_ok (l := l)
  unfold fmake
  generalize (clchk l).1 = q0 at *
  generalize (clchk l).2 = q1 at *
  have HL := Lib.hid hL
  have HE := Lib.hid hl
  clear hL hl
  by_cases e1 : q1 = 0
  · obtain ⟨l1, l2, l3⟩ := hlok e1
    have e1' : (q1 != 0) = false := by simp [e1]
    rw [if_neg (by simp [e1])]
    have L2 := Lib.hid l2
    have L3 := Lib.hid l3
    clear hlok l2 l3
    by_cases e2 : s < 1 ∨ 64 < s
    · rw [if_pos e2]
      have hlo' := hlo
      clear e1
      rcases e2 with e2 | e2
      · go_enter Tryd.func25, Tryd.ntmps25
        go_wp2_with fail
        
        refine (HL.out _ (HE.out.bl (by repeat (first | assumption | exact Bl.refl _ | apply Bl.drewN | apply Bl.drew | apply Bl.alloc | (refine Bl.dr ?_ (by assumption)) | (refine Bl.trans ?_ (by assumption)))))).mono ?_; rintro e w1 ⟨rfl, hb1⟩
        have r0 : w1.cell? ⟨w.heap.size, 0, none⟩ = some (.int .i64 0) := hb1.cell (by simp [go_sem])
        have r1 : w1.cell? ⟨w.heap.size, 1, none⟩ = some (.slice none 0 0) := hb1.cell (by simp [go_sem])
        have t0 : w1.frozen? ⟨w.heap.size, 0, none⟩ = false := hb1.frozen (by simp [go_sem]; rfl) (by simp [go_sem])
        have t1 : w1.frozen? ⟨w.heap.size, 1, none⟩ = false := hb1.frozen (by simp [go_sem]; rfl) (by simp [go_sem])
        have hb : Bl w w1 := (by repeat (first | assumption | exact Bl.refl _ | apply Bl.drewN | apply Bl.drew | apply Bl.alloc | (refine Bl.dr ?_ (by assumption)) | (refine Bl.trans ?_ (by assumption))))
        go_wp2_with fail
        refine bodyPost_ret (v := .tuple #[.agg #[.int .i64 0, .slice none 0 0], .int .i64 7]) (by simp [results, Tryd.results25, go_sem, *]) rfl ?_
        exact RM.mk ⟨none, 0, rfl, ⟨by simp, fun h => absurd rfl h⟩, by simp, by unfold maxLen; omega⟩ ((hb.setCell _ (by simp) _).setCell _ (by simp) _)
      · have e2' : ¬ s < 1 := by omega
        go_enter Tryd.func25, Tryd.ntmps25
        go_wp2_with fail
        
        refine (HL.out _ (HE.out.bl (by repeat (first | assumption | exact Bl.refl _ | apply Bl.drewN | apply Bl.drew | apply Bl.alloc | (refine Bl.dr ?_ (by assumption)) | (refine Bl.trans ?_ (by assumption)))))).mono ?_; rintro e w1 ⟨rfl, hb1⟩
        have r0 : w1.cell? ⟨w.heap.size, 0, none⟩ = some (.int .i64 0) := hb1.cell (by simp [go_sem])
        have r1 : w1.cell? ⟨w.heap.size, 1, none⟩ = some (.slice none 0 0) := hb1.cell (by simp [go_sem])
        have t0 : w1.frozen? ⟨w.heap.size, 0, none⟩ = false := hb1.frozen (by simp [go_sem]; rfl) (by simp [go_sem])
        have t1 : w1.frozen? ⟨w.heap.size, 1, none⟩ = false := hb1.frozen (by simp [go_sem]; rfl) (by simp [go_sem])
        have hb : Bl w w1 := (by repeat (first | assumption | exact Bl.refl _ | apply Bl.drewN | apply Bl.drew | apply Bl.alloc | (refine Bl.dr ?_ (by assumption)) | (refine Bl.trans ?_ (by assumption))))
        go_wp2_with fail
        refine bodyPost_ret (v := .tuple #[.agg #[.int .i64 0, .slice none 0 0], .int .i64 7]) (by simp [results, Tryd.results25, go_sem, *]) rfl ?_
        exact RM.mk ⟨none, 0, rfl, ⟨by simp, fun h => absurd rfl h⟩, by simp, by unfold maxLen; omega⟩ ((hb.setCell _ (by simp) _).setCell _ (by simp) _)
    · rw [if_neg e2]
      have s1 : ¬ s < 1 := by omega
      have s2 : ¬ 64 < s := by omega
      clear e2 e1
      obtain ⟨s, rfl⟩ := Int.eq_ofNat_of_zero_le (show 0 ≤ s by omega)
      rw [Int.toNat_natCast]
      obtain ⟨b, off, hadr, hat⟩ : ∃ b off, (0 < l.length → a = some ⟨b, off, none⟩) ∧ ∀ i x, l[i]? = some x → EntAt w b (off + i * 4) x := by
        by_cases hne : l = []
        · subst hne; exact ⟨0, 0, by simp, by simp⟩
        · obtain ⟨b, off, h1, h2⟩ := HE.out.at_ hne; exact ⟨b, off, fun _ => h1, h2⟩
      have hG := fun w => fenceBlocksG a b off c l.length s w hadr (by omega) (by omega) l1 hn hc
      have hq := ceil_facts l.length s (by omega)
      have hcq : cnt l.length s = (l.length + s - 1) / s - 1 := rfl
      rw [hcq]
      generalize (l.length + s - 1) / s = q at *
      obtain ⟨hq1, hq2, hq3⟩ := hq
      have HG := Lib.hid hG
      have HQ1 := Lib.hid hq1
      have HQ2 := Lib.hid hq2
      clear hG hcq hadr hq1 hq2
      obtain ⟨i0, hi, hz0, hz1, hz2⟩ := info_parts inf_string
      go_enter Tryd.func25, Tryd.ntmps25
      go_wp2_with fail
      refine (HL.out _ (HE.out.bl (by repeat (first | assumption | exact Bl.refl _ | apply Bl.drewN | apply Bl.drew | apply Bl.alloc | (refine Bl.dr ?_ (by assumption)) | (refine Bl.trans ?_ (by assumption)))))).mono ?_; rintro e w1 ⟨rfl, hb1⟩
      have r0 : w1.cell? ⟨w.heap.size, 0, none⟩ = some (.int .i64 0) := hb1.cell (by simp [go_sem])
      have r1 : w1.cell? ⟨w.heap.size, 1, none⟩ = some (.slice none 0 0) := hb1.cell (by simp [go_sem])
      have t0 : w1.frozen? ⟨w.heap.size, 0, none⟩ = false := hb1.frozen (by simp [go_sem]; rfl) (by simp [go_sem])
      have t1 : w1.frozen? ⟨w.heap.size, 1, none⟩ = false := hb1.frozen (by simp [go_sem]; rfl) (by simp [go_sem])
      have hb : Bl w w1 := (by repeat (first | assumption | exact Bl.refl _ | apply Bl.drewN | apply Bl.drew | apply Bl.alloc | (refine Bl.dr ?_ (by assumption)) | (refine Bl.trans ?_ (by assumption))))
      have hsz : w.heap.size < w1.heap.size := lt_of_cell r0
      clear hb1
      go_wp2_with fail
      refine (HG.out _).mono ?_; rintro e w2 ⟨bv, rfl, hbv, hb2⟩
      obtain ⟨ba, bc, rfl, hbc, hbcell⟩ := hbv
      have hb12 : Bl w1 w2 := ((Bl.refl w1).alloc _).trans hb2
      have g0 : w2.cell? ⟨w1.heap.size, 0, none⟩ = some (.int .i64 (s : Int)) := hb2.cell (by simp [go_sem])
      have g1 : w2.cell? ⟨w1.heap.size, 1, none⟩ = some (.slice none 0 0) := hb2.cell (by simp [go_sem])
      have gf : w2.frozen? ⟨w1.heap.size, 1, none⟩ = false := hb2.frozen (by simp [go_sem]; rfl) (by simp [go_sem])
      have hgs : w1.heap.size < w2.heap.size := lt_of_cell g0
      have hbw2 : Bl w w2 := hb.trans hb12
      have HBC := Lib.hid hbcell
      have HAT := Lib.hid hat
      clear hb2 hbcell hat
      go_wp2_with fail
      go_loopg [9, 36] q (fun g la i wr => ∃ (k : Nat) (v : Value), k ≤ q ∧ i = .int .i64 (k : Int) ∧ la = .string (lastK l s k) ∧ wr.cell? ⟨w1.heap.size, 1, none⟩ = some v ∧ wr.ownsRow w2.heap.size 9 1 v (k - 1) ((mkMs l s (k - 1)).map Value.string) ∧ Kp w2 ⟨w1.heap.size, 1, none⟩ wr ∧ Bl w wr ∧ g = q - k)
      case atStart => exact ⟨0, _, by omega, rfl, rfl, g1, by simpa [mkMs] using own_nil _ _ _ _, Kp.refl _ _, (by repeat (first | assumption | exact Bl.refl _ | apply Bl.drewN | apply Bl.drew | apply Bl.alloc | (refine Bl.dr ?_ (by assumption)) | (refine Bl.trans ?_ (by assumption)))), rfl⟩
      case round =>
        obtain ⟨k, v, hkc, rfl, rfl, hcv, hown, hkp, hbw, hg⟩ := hrel
        have G := Lib.hid hg
        have HO := Lib.hid hown
        have HK := Lib.hid hkp
        have b0 : wr.cell? ⟨w1.heap.size, 0, none⟩ = some (.int .i64 (s : Int)) := hkp.cell g0 (by simp)
        have f1 : wr.frozen? ⟨w1.heap.size, 1, none⟩ = false := hkp.2.1 _ _ g1 gf
        by_cases h2 : k < q
        · have hkn := HQ2.out k h2
          have hkk : k ≤ k * s := Nat.le_mul_of_pos_right k (by omega)
          have hks : (k + 1) * s = k * s + s := by rw [Nat.add_mul]; omega
          obtain ⟨gb, rfl, hgb, hbcell⟩ := HBC.out (by omega)
          simp at hgb
          have cb := hkp.cell (hbcell k h2) (by intro h; injection h with h; omega)
          unfold blkV at cb
          obtain ⟨y, hy⟩ : ∃ y, l[k * s]? = some y := ⟨_, List.getElem?_eq_getElem hkn⟩
          obtain ⟨z, hz⟩ : ∃ z, l[k * s + (min s (l.length - k * s) - 1)]? = some z := ⟨_, List.getElem?_eq_getElem (by omega)⟩
          have cy := hbw.cell (HAT.out _ y hy).key
          have cz := (HAT.out _ z hz).key
          rw [show off + (k * s + (min s (l.length - k * s) - 1)) * 4 = off + k * s * 4 + (min s (l.length - k * s) - 1) * 4 by omega] at cz
          have hlz : lastK l s (k + 1) = z.key := by
            unfold lastK; rw [if_neg (by omega), hks, show min (k * s + s) l.length - 1 = k * s + (min s (l.length - k * s) - 1) by omega, hz]
          have hyk := (echk_key (L2.out y (List.mem_of_getElem? hy))).1
          have hmn : 1 ≤ min s (l.length - k * s) := by omega
          have hmn2 : k * s + min s (l.length - k * s) ≤ l.length := by omega
          have HLZ := Lib.hid hlz
          have hkl : k ≤ 5000 := by omega
          by_cases hk0 : 0 < k
          · obtain ⟨x, hx⟩ : ∃ x, l[k * s - 1]? = some x := ⟨_, List.getElem?_eq_getElem (by omega)⟩
            have hls : lastK l s k = x.key := by
              unfold lastK; rw [if_neg (by omega), Nat.min_eq_left (by omega), hx]
            have hxk := (echk_key (L2.out x (List.mem_of_getElem? hx))).1
            have hlt := ascE_lt L3.out hx hy (by have : 1 * s ≤ k * s := Nat.mul_le_mul_right s hk0; omega)
            have hB := fun w => keysBetween x.key y.key w (by unfold maxLen; omega) (by unfold maxLen; omega)
            rw [betw_ok hxk hyk hlt] at hB
            have hm : mkM l s (k - 1) = betS x.key y.key := by simp [mkM, show k - 1 + 1 = k by omega, hx, hy]
            have hsz2 := betS_size x.key y.key hxk
            rw [hls]
            generalize betS x.key y.key = mk at *
            have HB := Lib.hid hB
            have HM := Lib.hid hm
            have hk5 : k ≤ 5000 := by omega
            have HKK := Lib.hid hks
            clear hB hm hlt hx hy hz hkp hown hg hks hls hlz hbcell hkk
            generalize (if (k + 1) * s < l.length then s else c - k * s) = cp at *
            generalize hgm : min s (l.length - k * s) = mm at *
            generalize hgt : k * s = t at *
            clear hgm hgt
            go_wp2_with fail
            refine (HB.out _).mono ?_; rintro e w3 ⟨rfl, hb3⟩
            have d1 := hb3.cell hcv
            have f3 := hb3.frozen hcv f1
            have HO3 := Lib.hid (own_bl HO.out hb3)
            have HK3 := Lib.hid (HK.out.bl hb3 ⟨_, hcv⟩)
            have hbw3 : Bl w w3 := hbw.trans hb3
            clear hb3
            go_wp2_with (at_builtin; refine wpList_append_own _ rfl _ _ 59 rfl w2.heap.size 9 i0 (.string ⟨#[]⟩) 1 16 Tryd.underlying59 hi hz0 hz1 hz2 rfl (by decide) _ _ _ rfl (HO3.out.alloc _) ⟨w3.heap.size, 0, none⟩ 1 1 [.string mk] rfl rfl ?c1 ?c2 ?c3 ?c4 ?c5 ?_)
            case c1 => exact one_new _ _ _
            case c2 => intro u hu; simp at hu; subst hu; rfl
            case c3 => unfold maxLen; omega
            case c4 => omega
            case c5 => have h5 := HK3.out.2.2; simp; omega
            intro v' w4 hown4 hgrow _
            have hown5 : w4.ownsRow w2.heap.size 9 1 v' (k - 1 + 1) ((mkMs l s (k - 1 + 1)).map Value.string) := by
              rw [mkMs_succ, List.map_append, HM.out]; exact hown4
            have hal : Bl w3 (w3.alloc (Obj.cells #[Value.string mk] 9)) := (Bl.refl _).alloc _
            have e1 : w4.cell? ⟨w1.heap.size, 1, none⟩ = some v := grown_cell (HO3.out.alloc _) hgrow (hal.cell d1) (by simp; omega)
            have f4 : w4.frozen? ⟨w1.heap.size, 1, none⟩ = false := grown_frozen (HO3.out.alloc _) hgrow (hal.cell d1) (hal.frozen d1 f3) (by simp; omega)
            have hkp4 := (HK3.out.bl hal ⟨_, d1⟩).grown (HO3.out.alloc _) hgrow (Nat.le_refl _) ⟨_, hal.cell d1⟩
            have hbw4 : Bl w w4 := grown_bl (hbw3.alloc _) (HO3.out.alloc _) hgrow (show w.heap.size ≤ w2.heap.size by omega)
            obtain ⟨av, cv, rfl, hcv5, hcv6, -⟩ := own_form hown5
            have hbw5 : Bl w (w4.setCell ⟨w1.heap.size, 1, none⟩ (.slice av (k - 1 + 1) cv)) := hbw4.setCell _ (by simp; omega) _
            have cz5 := hbw5.cell cz
            have hown6 := own_set hown5 ⟨w1.heap.size, 1, none⟩ (by simp; omega) (.slice av (k - 1 + 1) cv)
            have hcell6 := cell_set _ _ (.slice av (k - 1 + 1) cv) _ e1 rfl
            rw [show k - 1 + 1 = k by omega] at hown6 hcell6 cz5 hbw5
            have HO6 := Lib.hid hown6
            have HK6 := Lib.hid (hkp4.set (.slice av k cv))
            have HC6 := Lib.hid hcell6
            have hk1 : k - 1 + 1 = k := by omega
            rw [hk1] at hcv5 ⊢
            clear hown4 hown5 hgrow hkp4 hal hown6 hcell6 hk1
            have hm1 : IntKind.i64.wrap ((mm : Int) - 1) = (mm : Int) - 1 := IntWalk.i64_in _ (by omega)
            go_wp2_with fail
            go_roundg (q - (k + 1))
            case rel =>
              refine ⟨k + 1, .slice av k cv, by omega, by go_num, by rw [HLZ.out], HC6.out, ?_, HK6.out, hbw5, rfl⟩
              rw [show k + 1 - 1 = k by omega]; exact HO6.out
            case measure => rw [G.out]; omega
          · have hk00 : k = 0 := by omega
            subst hk00
            have hcz := hbw.cell cz
            have hlast : lastK l s 0 = mt := rfl
            clear hkp hown hg hks hlz hbcell hkk hz hy
            rw [hlast]
            generalize (if (0 + 1) * s < l.length then s else c - 0 * s) = cp at *
            generalize hgm : min s (l.length - 0 * s) = mm at *
            generalize hgt : 0 * s = t at *
            clear hgm hgt
            have hm1 : IntKind.i64.wrap ((mm : Int) - 1) = (mm : Int) - 1 := IntWalk.i64_in _ (by omega)
            go_wp2_with fail
            go_roundg (q - 1)
            case rel => exact ⟨1, v, by omega, rfl, by rw [HLZ.out], hcv, HO.out, HK.out, hbw, rfl⟩
            case measure => rw [G.out]; omega
        · obtain rfl : k = q := by omega
          have z0 := hkp.cell (hb12.cell r0) (by simp)
          have z1 := hkp.cell (hb12.cell r1) (by intro h; injection h with h; omega)
          have y0 : wr.frozen? ⟨w.heap.size, 0, none⟩ = false := hkp.2.1 _ _ (hb12.cell r0) (hb12.frozen r0 t0)
          have y1 : wr.frozen? ⟨w.heap.size, 1, none⟩ = false := hkp.2.1 _ _ (hb12.cell r1) (hb12.frozen r1 t1)
          obtain ⟨av, cv, rfl, hcv5, hcv6, -⟩ := own_form hown
          clear hkp hown hg
          go_wp2_with fail
          refine bodyPost_ret (v := .tuple #[.agg #[.int .i64 (s : Int), .slice av (k - 1) cv], .int .i64 0]) (by simp [results, Tryd.results25, go_sem, *]) rfl ?_
          refine RM.mk ?_ ((hbw.setCell _ (by simp) _).setCell _ (by simp) _)
          have hlm : (mkMs l s (k - 1)).length = k - 1 := mkMs_len _ _ _
          have hown9 := own_set (own_set HO.out ⟨w.heap.size, 0, none⟩ (by simp; omega) (.int .i64 (s : Int))) ⟨w.heap.size, 1, none⟩ (by simp; omega) (.slice av (k - 1) cv)
          obtain ⟨a', c', e, hst, h1, h2⟩ := own_strs (l := mkMs l s (k - 1)) (by rw [hlm]; exact own_base hown9 (Nat.zero_le _)) (fun x hx => by have := mkMs_size L2.out s (k - 1) x hx; unfold maxLen; omega)
          rw [hlm] at e h1
          injection e with e3 e4 e5
          subst e3 e5
          exact ⟨av, cv, by simp only [Fnc.v]; rw [hlm], hst, by simp only; rw [hlm]; exact h1, h2⟩
  · rw [if_pos e1]
    have e1' : (q1 == 0) = false := by simp [e1]
    have e1'' : (q1 != 0) = true := by simp [e1]
    clear e1 hlok
    go_enter Tryd.func25, Tryd.ntmps25
    go_wp2_with fail
    
    refine (HL.out _ (HE.out.bl (by repeat (first | assumption | exact Bl.refl _ | apply Bl.drewN | apply Bl.drew | apply Bl.alloc | (refine Bl.dr ?_ (by assumption)) | (refine Bl.trans ?_ (by assumption)))))).mono ?_; rintro e w1 ⟨rfl, hb1⟩
    have r0 : w1.cell? ⟨w.heap.size, 0, none⟩ = some (.int .i64 0) := hb1.cell (by simp [go_sem])
    have r1 : w1.cell? ⟨w.heap.size, 1, none⟩ = some (.slice none 0 0) := hb1.cell (by simp [go_sem])
    have t0 : w1.frozen? ⟨w.heap.size, 0, none⟩ = false := hb1.frozen (by simp [go_sem]; rfl) (by simp [go_sem])
    have t1 : w1.frozen? ⟨w.heap.size, 1, none⟩ = false := hb1.frozen (by simp [go_sem]; rfl) (by simp [go_sem])
    have hb : Bl w w1 := (by repeat (first | assumption | exact Bl.refl _ | apply Bl.drewN | apply Bl.drew | apply Bl.alloc | (refine Bl.dr ?_ (by assumption)) | (refine Bl.trans ?_ (by assumption))))
    go_wp2_with fail
    refine bodyPost_ret (v := .tuple #[.agg #[.int .i64 0, .slice none 0 0], .int .i64 q1]) (by simp [results, Tryd.results25, go_sem, *]) rfl ?_
    exact RM.mk ⟨none, 0, rfl, ⟨by simp, fun h => absurd rfl h⟩, by simp, by unfold maxLen; omega⟩ ((hb.setCell _ (by simp) _).setCell _ (by simp) _)
end Go.Proofs.YtndcjgkgkpkklaaDoor

/-
  Contracts of fence.Make and of the reference's Make.
-/
import Derived.Test.YteafcbpogomioaaFnL
namespace Go.Proofs.Yteafcbpogomioaa
open Go.RowKit
set_option linter.unusedSimpArgs false
set_option linter.unusedVariables false

def mkM (l : List Ent) (s i : Nat) : ByteArray := match l[(i + 1) * s - 1]?, l[(i + 1) * s]? with
  | some x, some y => betS x.key y.key
  | _, _ => mt
def mkMs (l : List Ent) (s n : Nat) : List ByteArray := (List.range n).map (mkM l s)
def fmake (l : List Ent) (s : Int) : Fnc × Int := if (clchk l).2 ≠ 0 then (⟨0, []⟩, (clchk l).2) else if s < 1 ∨ 64 < s then (⟨0, []⟩, 7) else (⟨s, mkMs l s.toNat (cnt l.length s.toNat)⟩, 0)
theorem echk_key {x : Ent} (h : echk x = 0) : x.key.size ≤ 32 ∧ x.val.size ≤ 64 := by
  unfold echk at h
  split at h
  · simp at h
  · omega
theorem betS_size (s t : ByteArray) (hs : s.size ≤ 32) : (betS s t).size ≤ 33 := by
  have hle := (cmn_le s.data.toList t.data.toList).1
  simp only [Array.length_toList, ByteArray.size_data] at hle
  unfold betS
  rw [ByteArray.size_append, ByteArray.size_extract, show (⟨#[endB s (cmn s.data.toList t.data.toList)]⟩ : ByteArray).size = 1 from rfl]; omega
theorem betw_ok {s t : ByteArray} (hs : s.size ≤ 32) (ht : t.size ≤ 32) (h : slt s t = true) : betw s t = (betS s t, 0) := by
  unfold betw; rw [if_neg (by simp [ktwo]; omega), if_pos h]
def FOut (f : Fnc) (e : Int) (w : World) (v : Value) : Prop := ∃ a c, v = .tuple #[f.v a c, .int .i64 e] ∧ Strs w a f.marks ∧ f.marks.length ≤ c ∧ c ≤ maxLen
theorem mkMs_size {l : List Ent} (h : ∀ m, m ∈ l → echk m = 0) (s n : Nat) : ∀ x, x ∈ mkMs l s n → x.size ≤ 33 := by
  intro x hx
  obtain ⟨i, _, rfl⟩ := List.mem_map.1 hx
  unfold mkM
  split
  · rename_i x y h1 h2
    exact betS_size _ _ (echk_key (h _ (List.mem_of_getElem? h1))).1
  · show (0 : Nat) ≤ 33; omega
theorem mkMs_len (l : List Ent) (s n : Nat) : (mkMs l s n).length = n := by simp [mkMs]
theorem mkMs_succ (l : List Ent) (s n : Nat) : mkMs l s (n + 1) = mkMs l s n ++ [mkM l s n] := by simp [mkMs, List.range_succ]

theorem cnt_lt {n s k : Nat} (hs : 1 ≤ s) (h : (k + 1) * s < n) : k < cnt n s := by
  have h1 := (ceil_facts n s hs).1
  unfold cnt
  rcases Nat.lt_or_ge k ((n + s - 1) / s - 1) with h2 | h2
  · exact h2
  · have := Nat.mul_le_mul_right s (show (n + s - 1) / s ≤ k + 1 by omega); omega

set_option maxRecDepth 100000 in
set_option maxHeartbeats 4000000 in
theorem refMake (a : Option Addr) (c : Nat) (l : List Ent) (s : Int) (w : World) (hl : Ents w a l) (hn : l.length ≤ maxLen) (hlo : -9223372036854775808 ≤ s) (hhi : s ≤ 9223372036854775807) :
    Calls Try.prog 14 #[.slice a l.length c, .int .i64 s] w (RM w (FOut (fmake l s).1 (fmake l s).2)) := by
  have hL := fun w h => refCheckList a c l w h hn
  have hlok := clchk_ok (l := l)
  unfold fmake
  generalize (clchk l).1 = q0 at *
  generalize (clchk l).2 = q1 at *
  have HL := Lib.hid hL
  have HE := Lib.hid hl
  clear hL hl
  by_cases e1 : q1 = 0
  · obtain ⟨l1, l2, l3⟩ := hlok e1
    have e1' : (q1 == 0) = true := by simp [e1]
    rw [if_neg (by simp [e1])]
    have L2 := Lib.hid l2
    have L3 := Lib.hid l3
    have E1 := Lib.hid e1
    clear hlok l2 l3
    by_cases e2 : s < 1 ∨ 64 < s
    · rw [if_pos e2]
      have hlo' := hlo
      clear e1
      rcases e2 with e2 | e2
      · go_enter Try.func14, Try.ntmps14
        go_wp2_with fail
        
        refine (HL.out _ (HE.out.bl (by repeat (first | assumption | exact Bl.refl _ | apply Bl.drewN | apply Bl.drew | apply Bl.alloc | (refine Bl.dr ?_ (by assumption)) | (refine Bl.trans ?_ (by assumption)))))).mono ?_; rintro e w1 ⟨rfl, hb1⟩
        have r0 : w1.cell? ⟨w.heap.size, 0, none⟩ = some (.int .i64 0) := hb1.cell (by simp [go_sem])
        have r1 : w1.cell? ⟨w.heap.size, 1, none⟩ = some (.slice none 0 0) := hb1.cell (by simp [go_sem])
        have t0 : w1.frozen? ⟨w.heap.size, 0, none⟩ = false := hb1.frozen (by simp [go_sem]; rfl) (by simp [go_sem])
        have t1 : w1.frozen? ⟨w.heap.size, 1, none⟩ = false := hb1.frozen (by simp [go_sem]; rfl) (by simp [go_sem])
        have hb : Bl w w1 := (by repeat (first | assumption | exact Bl.refl _ | apply Bl.drewN | apply Bl.drew | apply Bl.alloc | (refine Bl.dr ?_ (by assumption)) | (refine Bl.trans ?_ (by assumption))))
        go_wp2_with fail
        refine bodyPost_ret (v := .tuple #[.agg #[.int .i64 0, .slice none 0 0], .int .i64 7]) (by simp [results, Try.results14, go_sem, *]) rfl ?_
        exact RM.mk ⟨none, 0, rfl, ⟨by simp, fun h => absurd rfl h⟩, by simp, by unfold maxLen; omega⟩ ((hb.setCell _ (by simp) _).setCell _ (by simp) _)
      · have e2' : ¬ s < 1 := by omega
        go_enter Try.func14, Try.ntmps14
        go_wp2_with fail
        
        refine (HL.out _ (HE.out.bl (by repeat (first | assumption | exact Bl.refl _ | apply Bl.drewN | apply Bl.drew | apply Bl.alloc | (refine Bl.dr ?_ (by assumption)) | (refine Bl.trans ?_ (by assumption)))))).mono ?_; rintro e w1 ⟨rfl, hb1⟩
        have r0 : w1.cell? ⟨w.heap.size, 0, none⟩ = some (.int .i64 0) := hb1.cell (by simp [go_sem])
        have r1 : w1.cell? ⟨w.heap.size, 1, none⟩ = some (.slice none 0 0) := hb1.cell (by simp [go_sem])
        have t0 : w1.frozen? ⟨w.heap.size, 0, none⟩ = false := hb1.frozen (by simp [go_sem]; rfl) (by simp [go_sem])
        have t1 : w1.frozen? ⟨w.heap.size, 1, none⟩ = false := hb1.frozen (by simp [go_sem]; rfl) (by simp [go_sem])
        have hb : Bl w w1 := (by repeat (first | assumption | exact Bl.refl _ | apply Bl.drewN | apply Bl.drew | apply Bl.alloc | (refine Bl.dr ?_ (by assumption)) | (refine Bl.trans ?_ (by assumption))))
        go_wp2_with fail
        refine bodyPost_ret (v := .tuple #[.agg #[.int .i64 0, .slice none 0 0], .int .i64 7]) (by simp [results, Try.results14, go_sem, *]) rfl ?_
        exact RM.mk ⟨none, 0, rfl, ⟨by simp, fun h => absurd rfl h⟩, by simp, by unfold maxLen; omega⟩ ((hb.setCell _ (by simp) _).setCell _ (by simp) _)
    · rw [if_neg e2]
      have s1 : ¬ s < 1 := by omega
      have s2 : ¬ 64 < s := by omega
      have e1'' : (q1 != 0) = false := by simp [e1]
      clear e2 e1
      obtain ⟨s, rfl⟩ := Int.eq_ofNat_of_zero_le (show 0 ≤ s by omega)
      rw [Int.toNat_natCast]
      go_enter Try.func14, Try.ntmps14
      go_wp2_with fail
      refine (HL.out _ (HE.out.bl (by repeat (first | assumption | exact Bl.refl _ | apply Bl.drewN | apply Bl.drew | apply Bl.alloc | (refine Bl.dr ?_ (by assumption)) | (refine Bl.trans ?_ (by assumption)))))).mono ?_; rintro e w1 ⟨rfl, hb1⟩
      have r0 : w1.cell? ⟨w.heap.size, 0, none⟩ = some (.int .i64 0) := hb1.cell (by simp [go_sem])
      have r1 : w1.cell? ⟨w.heap.size, 1, none⟩ = some (.slice none 0 0) := hb1.cell (by simp [go_sem])
      have t0 : w1.frozen? ⟨w.heap.size, 0, none⟩ = false := hb1.frozen (by simp [go_sem]; rfl) (by simp [go_sem])
      have t1 : w1.frozen? ⟨w.heap.size, 1, none⟩ = false := hb1.frozen (by simp [go_sem]; rfl) (by simp [go_sem])
      have hb : Bl w w1 := (by repeat (first | assumption | exact Bl.refl _ | apply Bl.drewN | apply Bl.drew | apply Bl.alloc | (refine Bl.dr ?_ (by assumption)) | (refine Bl.trans ?_ (by assumption))))
      have hsz : w.heap.size < w1.heap.size := lt_of_cell r0
      clear hb1
      go_wp2_with fail
      obtain ⟨W0, hW0⟩ : ∃ W0, W0 = w1.alloc (Obj.cells #[Value.int IntKind.i64 s, Value.slice none 0 0] 25) := ⟨_, rfl⟩
      have g0 : W0.cell? ⟨w1.heap.size, 0, none⟩ = some (.int .i64 (s : Int)) := by rw [hW0]; simp [go_sem]
      have g1 : W0.cell? ⟨w1.heap.size, 1, none⟩ = some (.slice none 0 0) := by rw [hW0]; simp [go_sem]
      have gf : W0.frozen? ⟨w1.heap.size, 1, none⟩ = false := by rw [hW0]; simp [go_sem]
      have hb0 : Bl w1 W0 := by rw [hW0]; exact (Bl.refl _).alloc _
      have hW0s : W0.heap.size = w1.heap.size + 1 := by rw [hW0]; simp
      rw [← hW0]
      have HW0 := Lib.hid hW0
      have HW0s := Lib.hid hW0s
      clear hW0 hW0s
      obtain ⟨i0, hi, hz0, hz1, hz2⟩ := info_parts inf_string
      go_loopg [9] l.length (fun g i wr => ∃ (k : Nat) (v : Value), k ≤ cnt l.length s ∧ i = .int .i64 (((k + 1) * s : Nat) : Int) ∧ wr.cell? ⟨w1.heap.size, 1, none⟩ = some v ∧ wr.ownsRow (w1.heap.size + 1) 9 1 v k ((mkMs l s k).map Value.string) ∧ Kp W0 ⟨w1.heap.size, 1, none⟩ wr ∧ Bl w wr ∧ g = l.length - k)
      case atStart => exact ⟨0, _, by omega, by simp, g1, by simpa [mkMs] using own_nil _ _ _ _, Kp.refl _ _, (by repeat (first | assumption | exact Bl.refl _ | apply Bl.drewN | apply Bl.drew | apply Bl.alloc | (refine Bl.dr ?_ (by assumption)) | (refine Bl.trans ?_ (by assumption)))), rfl⟩
      case round =>
        obtain ⟨k, v, hkc, rfl, hcv, hown, hkp, hbw, hg⟩ := hrel
        have G := Lib.hid hg
        have HO := Lib.hid hown
        have HK := Lib.hid hkp
        have b0 : wr.cell? ⟨w1.heap.size, 0, none⟩ = some (.int .i64 (s : Int)) := hkp.cell g0 (by simp)
        have f1 : wr.frozen? ⟨w1.heap.size, 1, none⟩ = false := hkp.2.1 _ _ g1 gf
        have hge : 1 ≤ (k + 1) * s := Nat.le_trans (show 1 ≤ s by omega) (Nat.le_mul_of_pos_left s (by omega))
        have hks : (k + 1 + 1) * s = (k + 1) * s + s := by rw [Nat.add_mul (k + 1)]; omega
        have hkk : k ≤ k * s := Nat.le_mul_of_pos_right k (by omega)
        have hkk2 : (k + 1) * s = k * s + s := by rw [Nat.add_mul]; omega
        by_cases h2 : (k + 1) * s < l.length
        · have hkc2 := cnt_lt (by omega) h2
          have hne : l ≠ [] := by rintro rfl; simp at h2
          obtain ⟨b, off, rfl, hat⟩ := HE.out.at_ hne
          obtain ⟨x, hx⟩ : ∃ x, l[(k + 1) * s - 1]? = some x := ⟨_, List.getElem?_eq_getElem (by omega)⟩
          obtain ⟨y, hy⟩ : ∃ y, l[(k + 1) * s]? = some y := ⟨_, List.getElem?_eq_getElem h2⟩
          have c0 := hbw.cell (hat _ x hx).key
          have c1 := hbw.cell (hat _ y hy).key
          have hm : mkM l s k = betS x.key y.key := by simp [mkM, hx, hy]
          have hxk := (echk_key (L2.out x (List.mem_of_getElem? hx))).1
          have hyk := (echk_key (L2.out y (List.mem_of_getElem? hy))).1
          have hlt := ascE_lt L3.out hx hy (by omega)
          have hB := fun w => refBetween x.key y.key w (by unfold maxLen; omega) (by unfold maxLen; omega)
          rw [betw_ok hxk hyk hlt] at hB
          have hsz2 := betS_size x.key y.key hxk
          generalize betS x.key y.key = mk at *
          have HB := Lib.hid hB
          have HM := Lib.hid hm
          clear hB hm hlt hx hy hat hne hkp hown hg hkk2
          have hkl2 : k < l.length := by have : cnt l.length s ≤ l.length := (by unfold cnt; have := (ceil_facts l.length s (by omega)).2.2; omega); omega
          have hkl : k ≤ 5000 := by have : cnt l.length s ≤ l.length := (by unfold cnt; have := (ceil_facts l.length s (by omega)).2.2; omega); omega
          have HKS := Lib.hid hks
          clear hks hkk
          have hl5 : l.length ≤ 5000 := l1
          generalize (k + 1) * s = t at *
          have hw1 : IntKind.i64.wrap ((t : Int) - 1) = (t : Int) - 1 := IntWalk.i64_in _ (by omega)
          have hw2 : 0 ≤ (t : Int) - 1 := by omega
          have hw3 : (t : Int) - 1 < (l.length : Int) := by omega
          have hw4 : ((t : Int) - 1).toNat = t - 1 := by omega
          have hw5 : (1 : Int) ≤ (t : Int) := by omega
          go_wp2_with fail
          have c0' : ∀ z : BW wr, z.w.cell? ⟨b, off + (t - 1) * 4, none⟩ = some (.string x.key) := BW.cell c0
          have c1' : ∀ z : BW wr, z.w.cell? ⟨b, off + t * 4, none⟩ = some (.string y.key) := BW.cell c1
          
          refine wp_region_quiet_bw wr (by kernel_rfl) (by kernel_rfl) (Bl.refl wr) ?_
          repeat (go_big_quiet_step ((go_at_call 39; exact quietB (HB.out _))))
          refine wpQuiet_nil ?_
          intro wq hw'
          have hwq : Bl wr wq := by obtain ⟨x, hx⟩ := hw'; rw [hx]; exact x.h
          clear hw'
          clear hw1 hw2 hw3 hw4 hw5 c0' c1'
          have d1 := hwq.cell hcv
          have d0 := hwq.cell b0
          have f3 := hwq.frozen hcv f1
          have hown3 := own_bl HO.out hwq
          have hkp3 := HK.out.bl hwq ⟨_, hcv⟩
          have hbw3 : Bl w wq := hbw.trans hwq
          have HO3 := Lib.hid hown3
          have HK3 := Lib.hid hkp3
          clear hown3 hkp3 hwq
          go_wp2_with (at_builtin; refine wpList_append_own _ rfl _ _ 23 rfl (w1.heap.size + 1) 9 i0 (.string ⟨#[]⟩) 1 16 Try.underlying23 hi hz0 hz1 hz2 rfl (by decide) _ _ _ rfl (HO3.out.alloc _) ⟨wq.heap.size, 0, none⟩ 1 1 [.string mk] rfl rfl ?c1 ?c2 ?c3 ?c4 ?c5 ?_)
          case c1 => exact one_new _ _ _
          case c2 => intro u hu; simp at hu; subst hu; rfl
          case c3 => unfold maxLen; omega
          case c4 => omega
          case c5 => have h5 := lt_of_cell d1; simp at h5 ⊢; omega
          intro v' w4 hown4 hgrow _
          have hown5 : w4.ownsRow (w1.heap.size + 1) 9 1 v' (k + 1) ((mkMs l s (k + 1)).map Value.string) := by
            rw [mkMs_succ, List.map_append, HM.out]; exact hown4
          have hal : Bl wq (wq.alloc (Obj.cells #[Value.string mk] 9)) := (Bl.refl _).alloc _
          have e1 : w4.cell? ⟨w1.heap.size, 1, none⟩ = some v := grown_cell (HO3.out.alloc _) hgrow (hal.cell d1) (by simp)
          have f4 : w4.frozen? ⟨w1.heap.size, 1, none⟩ = false := grown_frozen (HO3.out.alloc _) hgrow (hal.cell d1) (hal.frozen d1 f3) (by simp)
          have hkp4 := (HK3.out.bl hal ⟨_, d1⟩).grown (HO3.out.alloc _) hgrow (by rw [HW0s.out]; omega) ⟨_, hal.cell d1⟩
          have hbw4 : Bl w w4 := grown_bl (hbw3.alloc _) (HO3.out.alloc _) hgrow (show w.heap.size ≤ w1.heap.size + 1 by omega)
          obtain ⟨av, cv, rfl, hcv5, hcv6, -⟩ := own_form hown5
          have HO5 := Lib.hid hown5
          have HK4 := Lib.hid hkp4
          clear hown4 hown5 hgrow hkp4 hal
          go_wp2_with fail
          go_roundg (l.length - (k + 1))
          case rel =>
            refine ⟨k + 1, _, by omega, ival ?_, cell_set _ _ _ _ e1 rfl, own_set HO5.out _ (by simp) _, HK4.out.set _, hbw4.setCell _ (by simp; omega) _, rfl⟩
            rw [HKS.out]; simp
          case measure => rw [G.out]; omega
        · have hkq : k = cnt l.length s := by
            rcases Nat.lt_or_ge k (cnt l.length s) with h | h
            · exact absurd (cnt_at (by omega) h) h2
            · omega
          have z0 := hkp.cell (hb0.cell r0) (by simp)
          have z1 := hkp.cell (hb0.cell r1) (by intro h; injection h with h; omega)
          have y0 : wr.frozen? ⟨w.heap.size, 0, none⟩ = false := hkp.2.1 _ _ (hb0.cell r0) (hb0.frozen r0 t0)
          have y1 : wr.frozen? ⟨w.heap.size, 1, none⟩ = false := hkp.2.1 _ _ (hb0.cell r1) (hb0.frozen r1 t1)
          obtain ⟨av, cv, rfl, hcv5, hcv6, -⟩ := own_form hown
          have HQ := Lib.hid hkq
          clear hkp hown hg hkq hks hkk hkk2
          generalize (k + 1) * s = t at *
          go_wp2_with fail
          refine bodyPost_ret (v := .tuple #[.agg #[.int .i64 (s : Int), .slice av k cv], .int .i64 0]) (by simp [results, Try.results14, go_sem, *]) rfl ?_
          refine RM.mk ?_ ((hbw.setCell _ (by simp) _).setCell _ (by simp) _)
          have hlm : (mkMs l s k).length = k := mkMs_len _ _ _
          have hown9 := own_set (own_set HO.out ⟨w.heap.size, 0, none⟩ (by simp; omega) (.int .i64 (s : Int))) ⟨w.heap.size, 1, none⟩ (by simp; omega) (.slice av k cv)
          obtain ⟨a', c', e, hst, h1, h2⟩ := own_strs (l := mkMs l s k) (by rw [hlm]; exact hown9) (fun x hx => by have := mkMs_size L2.out s k x hx; unfold maxLen; omega)
          rw [hlm] at e h1
          injection e with e3 e4 e5
          subst e3 e5
          refine ⟨av, cv, ?_, ?_, ?_, h2⟩
          · simp only [Fnc.v]; rw [← HQ.out, hlm]
          · simp only; rw [← HQ.out]; exact hst
          · simp only; rw [← HQ.out, hlm]; exact h1
  · rw [if_pos e1]
    have e1' : (q1 == 0) = false := by simp [e1]
    have e1'' : (q1 != 0) = true := by simp [e1]
    clear e1 hlok
    go_enter Try.func14, Try.ntmps14
    go_wp2_with fail
    
    refine (HL.out _ (HE.out.bl (by repeat (first | assumption | exact Bl.refl _ | apply Bl.drewN | apply Bl.drew | apply Bl.alloc | (refine Bl.dr ?_ (by assumption)) | (refine Bl.trans ?_ (by assumption)))))).mono ?_; rintro e w1 ⟨rfl, hb1⟩
    have r0 : w1.cell? ⟨w.heap.size, 0, none⟩ = some (.int .i64 0) := hb1.cell (by simp [go_sem])
    have r1 : w1.cell? ⟨w.heap.size, 1, none⟩ = some (.slice none 0 0) := hb1.cell (by simp [go_sem])
    have t0 : w1.frozen? ⟨w.heap.size, 0, none⟩ = false := hb1.frozen (by simp [go_sem]; rfl) (by simp [go_sem])
    have t1 : w1.frozen? ⟨w.heap.size, 1, none⟩ = false := hb1.frozen (by simp [go_sem]; rfl) (by simp [go_sem])
    have hb : Bl w w1 := (by repeat (first | assumption | exact Bl.refl _ | apply Bl.drewN | apply Bl.drew | apply Bl.alloc | (refine Bl.dr ?_ (by assumption)) | (refine Bl.trans ?_ (by assumption))))
    go_wp2_with fail
    refine bodyPost_ret (v := .tuple #[.agg #[.int .i64 0, .slice none 0 0], .int .i64 q1]) (by simp [results, Try.results14, go_sem, *]) rfl ?_
    exact RM.mk ⟨none, 0, rfl, ⟨by simp, fun h => absurd rfl h⟩, by simp, by unfold maxLen; omega⟩ ((hb.setCell _ (by simp) _).setCell _ (by simp) _)
end Go.Proofs.Yteafcbpogomioaa

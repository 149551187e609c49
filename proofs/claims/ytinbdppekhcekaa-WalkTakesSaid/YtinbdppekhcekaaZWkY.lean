/-
  Own texts laid together: WkY.
-/
import Derived.Test.YtinbdppekhcekaaZs
import Derived.Test.YtinbdppekhcekaaZPlWb
import Derived.IntWalk
import Derived.RegionTactic
import Derived.ChangeAlike
import Derived.Deep.DeepCutAuto
/-
  The reference's Skip.
-/
namespace Go.Proofs.Ytinbdppekhcekaa
open Go.RowKit
set_option linter.unusedSimpArgs false
set_option linter.unusedVariables false
set_option maxRecDepth 100000

/-! ### Skip -/
def tcz (p : Nat) (back : Bool) (k : Nat) : Int := if back then (p : Int) - (k : Int) else (p : Int) + (k : Int)
def nx (r : Rn) (back : Bool) (n : Int) : Ent × Int × Int := if back then wprev r n else wnext r n
theorem nx_hit {r : Rn} {p k : Nat} {back : Bool} (h : (rck r).2 = 0) (hp : p ≤ r.es.length) (hk : k < wN r.es p back) : ∃ x, wf r.es p back k = (x, tcz p back (k + 1)) ∧ nx r back (tcz p back k) = (x, tcz p back (k + 1), 0) := by
  cases back
  · simp only [wN, Bool.false_eq_true, if_false] at hk
    obtain ⟨x, hx⟩ : ∃ x, r.es[p + k]? = some x := ⟨_, List.getElem?_eq_getElem (by omega)⟩
    refine ⟨x, ?_, ?_⟩
    · simp [wf, tcz, List.getD_eq_getElem?_getD, hx]; omega
    · have := wnext_at h hx
      simp only [nx, tcz, Bool.false_eq_true, if_false]
      rw [show (p : Int) + (k : Int) = ((p + k : Nat) : Int) by omega, this]
      simp; omega
  · simp only [wN, if_true] at hk
    obtain ⟨x, hx⟩ : ∃ x, r.es[p - k - 1]? = some x := ⟨_, List.getElem?_eq_getElem (by omega)⟩
    refine ⟨x, ?_, ?_⟩
    · simp [wf, tcz, List.getD_eq_getElem?_getD, hx]; omega
    · have := wprev_at h hx
      simp only [nx, tcz, if_true]
      rw [show (p : Int) - (k : Int) = ((p - k - 1 : Nat) : Int) + 1 by omega, this]
      simp; omega
theorem nx_miss {r : Rn} {p : Nat} {back : Bool} (h : (rck r).2 = 0) (hp : p ≤ r.es.length) : ∃ q, nx r back (tcz p back (wN r.es p back)) = (ent0, q, 12) := by
  cases back
  · simp only [nx, tcz, wN, Bool.false_eq_true, if_false]
    rw [show (p : Int) + ((r.es.length - p : Nat) : Int) = (r.es.length : Int) by omega, wnext_end h]
    exact ⟨_, rfl⟩
  · simp only [nx, tcz, wN, if_true]
    rw [show (p : Int) - (p : Int) = 0 by omega, wprev_end h]
    exact ⟨_, rfl⟩
/-- The results: an entry and a cursor, stored. -/
theorem resM {W : World} {g : Nat} {x0 : Ent} {m0 : Int} (h : Mem W (VE g x0)) (hc : Mem W [(⟨g + 1, 0, none⟩, .int .i64 m0)]) (x : Ent) (m : Int) :
    Mem ((set4 W g x).setCell ⟨g + 1, 0, none⟩ (.int .i64 m)) (VE g x ++ [(⟨g + 1, 0, none⟩, .int .i64 m)]) := by
  have h1 := h.set4 x
  have h2 := hc.off4 g x (by intro q hq; simp at hq; subst hq; simp)
  refine (h1.off (g + 1) 0 _ (by intro q hq; simp [VE] at hq; rcases hq with rfl | rfl | rfl | rfl <;> simp)).app ?_
  obtain ⟨c, f, -⟩ := h2
  exact ⟨smc _ _ _ _ _ c, (frozen_set _ _ _ _).trans f, trivial⟩
set_option maxHeartbeats 4000000 in
theorem refWalkSkip (a : Option Addr) (c : Nat) (r : Rn) (n : Int) (d bk : Bool) (w : World) (h : ROk w a c r) : Calls Try.prog 19 #[r.v a c, cur n, .bool d, .bool bk] w (RB w (wv (wstep r n bk (fun x => x.dead == d)))) := by
  have hC := fun w h => refWalkCheck a c r n w h
  unfold wstep
  by_cases e : wchk r n = 0
  · rw [if_neg (by simp [e])]
    obtain ⟨e1, e2, e3⟩ := wchk_ok e
    obtain ⟨p, rfl⟩ := Int.eq_ofNat_of_zero_le e2
    have e3' : p ≤ r.es.length := by omega
    have o4 := (rck_ok e1).2.2.2.1
    rw [e] at hC
    rw [Int.toNat_natCast]
    clear e
    cases bk
    · obtain ⟨f, hf⟩ : ∃ f, wf r.es p false = f := ⟨_, rfl⟩
      obtain ⟨N, hN⟩ : ∃ N, wN r.es p false = N := ⟨_, rfl⟩
      obtain ⟨R, hR⟩ : ∃ R, wres r.es p false (fun x => x.dead == d) = R := ⟨_, rfl⟩
      have k1 : ∀ k, k < N → ∃ x, f k = (x, tcz p false (k + 1)) ∧ nx r false (tcz p false k) = (x, tcz p false (k + 1), 0) := fun k hk => by rw [← hf]; exact nx_hit e1 e3' (by rw [hN]; exact hk)
      have k2 : ∃ q, nx r false (tcz p false N) = (ent0, q, 12) := by rw [← hN]; exact nx_miss e1 e3'
      have k3 : ∀ k x, k < N → (∀ y ∈ upto f k, (y.1.dead == d) = false) → f k = x → (x.1.dead == d) = true → R = (x.1, x.2, 0) := by
        intro k x hk hy hx ht
        subst hf hx
        rw [← hR]
        exact wres_hit (k := k + 1) (by omega) (upto_succ _ _) hy ht
      have k4 : (∀ y ∈ upto f N, (y.1.dead == d) = false) → R = (ent0, (p : Int), 12) := by
        intro hy
        subst hf
        rw [← hR]
        exact wres_miss (by rw [hN]; exact hy)
      rw [hR]
      have k5 : ∀ q w, ROk w a c r → Calls Try.prog 28 #[r.v a c, cur q] w (RB w (.tuple #[(wnext r q).1.v, cur (wnext r q).2.1, .int .i64 (wnext r q).2.2])) := fun q w h => refWalkNext a c r q w h
      have k6 : ∀ q w, ROk w a c r → Calls Try.prog 30 #[r.v a c, cur q] w (RB w (.tuple #[(wprev r q).1.v, cur (wprev r q).2.1, .int .i64 (wprev r q).2.2])) := fun q w h => refWalkPrev a c r q w h
      have hNl : p ≤ r.es.length ∧ (false = true → N ≤ p) ∧ (false = false → p + N ≤ r.es.length) := by
        subst hN; refine ⟨e3', ?_, ?_⟩ <;> intro z <;> simp [wN] at z ⊢; try omega
      obtain ⟨-, hn1, hn2⟩ := hNl
      clear hR hf hN
      have K1 := Lib.hid k1
      have K2 := Lib.hid k2
      have K3 := Lib.hid k3
      have K4 := Lib.hid k4
      have K5 := Lib.hid k5
      have K6 := Lib.hid k6
      clear k1 k2 k3 k4 k5 k6
      have hn : p + N ≤ r.es.length := hn2 rfl
      clear hn1 hn2
      have HC := Lib.hid hC
      have HO := Lib.hid h
      obtain ⟨id, l⟩ := r
      unfold Rn.v
      simp only at *
      clear hC h
      go_enter Try.func19, Try.ntmps19
      go_wp2_with fail
      refine (HC.out _ (HO.out.bl (by repeat (first | assumption | exact Bl.refl _ | apply Bl.drewN | apply Bl.drew | apply Bl.alloc | (refine Bl.dr ?_ (by assumption)) | (refine Bl.trans ?_ (by assumption)))))).mono ?_; rintro e w1 ⟨rfl, hb1⟩
      have hr : Mem w1 ([(⟨w.heap.size, 0, none⟩, .int .i64 id), (⟨w.heap.size, 1, none⟩, .slice a l.length c), (⟨w.heap.size + 1, 0, none⟩, .int .i64 ((p : Int)))] ++ VE (w.heap.size + 1 + 1) ent0 ++ [(⟨w.heap.size + 1 + 1 + 1, 0, none⟩, .int .i64 0)]) := by
        refine Mem.bl ?_ hb1
        simp [Mem, VE, ent0, mt, go_sem]
      have hb : Bl w w1 := (by repeat (first | assumption | exact Bl.refl _ | apply Bl.drewN | apply Bl.drew | apply Bl.alloc | (refine Bl.dr ?_ (by assumption)) | (refine Bl.trans ?_ (by assumption))))
      clear hb1
      have HR := Lib.hid hr
      
      have hm := hr
      simp only [Mem, VE, List.cons_append, List.nil_append, and_true] at hm
      clear hr
      go_wp2_with fail
      have hA : w.heap.size + 3 < w1.heap.size := by have := lt_of_cell hm.2.2.2.2.2.2.2.2.2.2.2.2.2.2.1; simpa using this
      have hW : Bl w1 (w1.alloc (Obj.cells #[.int .i64 (p : Int)] 28)) := (Bl.refl _).alloc _
      have hr := HR.out.bl hW
      have hbn := hb.trans hW
      have hq : (w1.alloc (Obj.cells #[.int .i64 (p : Int)] 28)).cell? ⟨w1.heap.size, 0, none⟩ = some (.int .i64 (p : Int)) := by simp [go_sem]
      have hf : (w1.alloc (Obj.cells #[.int .i64 (p : Int)] 28)).frozen? ⟨w1.heap.size, 0, none⟩ = false := by simp [go_sem]
      have hs : w1.heap.size < (w1.alloc (Obj.cells #[.int .i64 (p : Int)] 28)).heap.size := by simp
      generalize w1.alloc (Obj.cells #[.int .i64 (p : Int)] 28) = W1 at *
      clear hm HR hb hW
      generalize w1.heap.size = A at *
      go_loopg [] N (fun g wr => ∃ k : Nat, k ≤ N ∧ Mem wr ([(⟨w.heap.size, 0, none⟩, .int .i64 id), (⟨w.heap.size, 1, none⟩, .slice a l.length c), (⟨w.heap.size + 1, 0, none⟩, .int .i64 p)] ++ VE (w.heap.size + 1 + 1) ent0 ++ [(⟨w.heap.size + 1 + 1 + 1, 0, none⟩, .int .i64 0)]) ∧ wr.cell? ⟨A, 0, none⟩ = some (.int .i64 ((p : Int) + k)) ∧ wr.frozen? ⟨A, 0, none⟩ = false ∧ Bl w wr ∧ A < wr.heap.size ∧ (∀ y ∈ upto f k, (y.1.dead == d) = false) ∧ g = N - k)
      case atStart => exact ⟨0, by omega, hr, by simpa using hq, hf, hbn, hs, by simp [upto], by omega⟩
      case round =>
        clear hr hbn hq hf hs
        obtain ⟨k, hk, hr, hq, hf, hb, hs, hy, hg⟩ := hrel
        have G := Lib.hid hg
        have HY := Lib.hid hy
        have HR := Lib.hid hr
        clear hg hy
        
        have hm := hr
        simp only [Mem, VE, List.cons_append, List.nil_append, and_true] at hm
        clear hr
        by_cases hkN : k < N
        · obtain ⟨x, hx1, hx2⟩ := K1.out k hkN
          simp only [nx, tcz, Bool.false_eq_true, if_false, if_true] at hx2
          have h5 := K5.out ((p : Int) + k)
          try rw [hx2] at h5
          have h6 := K6.out ((p : Int) + k)
          try rw [hx2] at h6
          unfold Rn.v Ent.v at h5 h6
          simp only at h5 h6
          have H5 := Lib.hid h5
          have H6 := Lib.hid h6
          have HX := Lib.hid hx1
          clear h5 h6 hx1 hx2
          go_wp2_with fail
          refine (H5.out _ (HO.out.bl hb)).mono ?_; rintro e w5 ⟨rfl, hb1⟩
          have hal := hb1.trans (((Bl.refl w5).alloc (Obj.cells #[.string (x).key, .string (x).val, .bool (x).dead, .int .i64 (x).seq] 36)).alloc (Obj.cells #[.int .i64 ((p : Int) + ((k : Int) + 1))] 28))
          have hp : Mem ((w5.alloc (Obj.cells #[.string (x).key, .string (x).val, .bool (x).dead, .int .i64 (x).seq] 36)).alloc (Obj.cells #[.int .i64 ((p : Int) + ((k : Int) + 1))] 28)) (VE w5.heap.size x ++ [(⟨w5.heap.size + 1, 0, none⟩, .int .i64 ((p : Int) + ((k : Int) + 1)))]) := by simp [Mem, VE, go_sem]
          have hr := (HR.out.bl hal).app hp
          have hf5 := hal.frozen hq hf
          have hq5 := hal.cell hq
          have hb5 := hb.trans hal
          have hs5 := Nat.lt_of_lt_of_le hs hal.size
          have hs4 := Nat.lt_of_lt_of_le hs hb1.size
          clear HR hm hq hf hb hb1 hal hp
          have HR := Lib.hid hr
          
          have hm := hr
          simp only [Mem, VE, List.cons_append, List.nil_append, and_true] at hm
          clear hr
          go_upto_region 8 with fail
          generalize ((w5.alloc (Obj.cells #[.string (x).key, .string (x).val, .bool (x).dead, .int .i64 (x).seq] 36)).alloc (Obj.cells #[.int .i64 ((p : Int) + ((k : Int) + 1))] 28)) = WV at *
          by_cases ht : (x.dead == d) = true
          · have hR := K3.out k _ hkN HY.out HX.out ht
            try simp only at hR
            subst hR
            go_wp2_with fail
            go_region
            all_goals
              go_wp2_with fail
              have hv := HR.out.left.left.right
              have hc := HR.out.left.right
              have hres := resM (W := WV) hv hc (⟨x.key, x.val, x.dead, x.seq⟩ : Ent) ((p : Int) + ((k : Int) + 1))
              have hbl := (((hb5).set4 (w.heap.size + 1 + 1) (⟨x.key, x.val, x.dead, x.seq⟩ : Ent) (by omega)).setCell ⟨w.heap.size + 1 + 1 + 1, 0, none⟩ (by simp only; omega) (.int .i64 ((p : Int) + ((k : Int) + 1))))
              unfold set4 at hres hbl
              simp only [Mem, VE, List.cons_append, List.nil_append, and_true] at hres hbl
              clear hm
              clear HR
              generalize ((((((WV).setCell ⟨w.heap.size + 1 + 1, 0, none⟩ (.string (x.key))).setCell ⟨w.heap.size + 1 + 1, 1, none⟩ (.string (x.val))).setCell ⟨w.heap.size + 1 + 1, 2, none⟩ (.bool (x.dead))).setCell ⟨w.heap.size + 1 + 1, 3, none⟩ (.int .i64 (x.seq))).setCell ⟨w.heap.size + 1 + 1 + 1, 0, none⟩ (.int .i64 ((p : Int) + ((k : Int) + 1)))) = WW at *
              refine bodyPost_ret (v := .tuple #[.agg #[.string (x.key), .string (x.val), .bool (x.dead), .int .i64 (x.seq)], .agg #[.int .i64 ((p : Int) + ((k : Int) + 1))], .int .i64 (0)]) (by simp [results, Try.results19, go_sem, hres]) rfl ?_
              exact RB.mk rfl hbl.drew
          · have ht : (x.dead == d) = false := by simpa using ht
            go_wp2_with fail
            have hr6 := (HR.out.left).off A 0 (.int .i64 ((p : Int) + ((k : Int) + 1))) (by intro q hq; simp [VE] at hq; rcases hq with rfl | rfl | rfl | rfl | rfl | rfl | rfl | rfl <;> simp <;> omega)
            go_roundg (N - (k + 1))
            case rel =>
              refine ⟨k + 1, by omega, hr6, ?_, ?_, hb5.setCell _ (by simp only; omega) _, by simpa using hs5, ?_, rfl⟩
              · rw [show ((k + 1 : Nat) : Int) = (k : Int) + 1 by omega]; exact smc _ _ _ _ _ hq5
              · rw [frozen_set]; exact hf5
              · intro y hy
                rw [upto_succ] at hy
                rcases List.mem_append.1 hy with hy | hy
                · exact HY.out y hy
                · simp at hy; rw [hy, HX.out]; exact ht
            case measure => rw [G.out]; omega
        · obtain rfl : k = N := by omega
          obtain ⟨q', hx2⟩ := K2.out
          simp only [nx, tcz, Bool.false_eq_true, if_false, if_true] at hx2
          have h5 := K5.out ((p : Int) + k)
          try rw [hx2] at h5
          have h6 := K6.out ((p : Int) + k)
          try rw [hx2] at h6
          unfold Rn.v Ent.v at h5 h6
          simp only at h5 h6
          have H5 := Lib.hid h5
          have H6 := Lib.hid h6
          have hR := K4.out HY.out
          try simp only at hR
          subst hR
          clear h5 h6 hx2
          go_wp2_with fail
          refine (H5.out _ (HO.out.bl hb)).mono ?_; rintro e w5 ⟨rfl, hb1⟩
          have hal := hb1.trans (((Bl.refl w5).alloc (Obj.cells #[.string (ent0).key, .string (ent0).val, .bool (ent0).dead, .int .i64 (ent0).seq] 36)).alloc (Obj.cells #[.int .i64 (q')] 28))
          have hp : Mem ((w5.alloc (Obj.cells #[.string (ent0).key, .string (ent0).val, .bool (ent0).dead, .int .i64 (ent0).seq] 36)).alloc (Obj.cells #[.int .i64 (q')] 28)) (VE w5.heap.size ent0 ++ [(⟨w5.heap.size + 1, 0, none⟩, .int .i64 (q'))]) := by simp [Mem, VE, go_sem]
          have hr := (HR.out.bl hal).app hp
          have hf5 := hal.frozen hq hf
          have hq5 := hal.cell hq
          have hb5 := hb.trans hal
          have hs5 := Nat.lt_of_lt_of_le hs hal.size
          have hs4 := Nat.lt_of_lt_of_le hs hb1.size
          clear HR hm hq hf hb hb1 hal hp
          have HR := Lib.hid hr
          
          have hm := hr
          simp only [Mem, VE, List.cons_append, List.nil_append, and_true] at hm
          clear hr
          go_upto_region 8 with fail
          generalize ((w5.alloc (Obj.cells #[.string (ent0).key, .string (ent0).val, .bool (ent0).dead, .int .i64 (ent0).seq] 36)).alloc (Obj.cells #[.int .i64 (q')] 28)) = WV at *
          go_wp2_with fail
          go_region
          all_goals
            go_wp2_with fail
            have hv := HR.out.left.left.right
            have hc := HR.out.left.right
            have hres := resM (W := WV) hv hc (⟨⟨#[]⟩, ⟨#[]⟩, false, 0⟩ : Ent) (p)
            have hbl := (((hb5).set4 (w.heap.size + 1 + 1) (⟨⟨#[]⟩, ⟨#[]⟩, false, 0⟩ : Ent) (by omega)).setCell ⟨w.heap.size + 1 + 1 + 1, 0, none⟩ (by simp only; omega) (.int .i64 (p)))
            unfold set4 at hres hbl
            simp only [Mem, VE, List.cons_append, List.nil_append, and_true] at hres hbl
            clear hm
            clear HR
            generalize ((((((WV).setCell ⟨w.heap.size + 1 + 1, 0, none⟩ (.string (⟨#[]⟩))).setCell ⟨w.heap.size + 1 + 1, 1, none⟩ (.string (⟨#[]⟩))).setCell ⟨w.heap.size + 1 + 1, 2, none⟩ (.bool (false))).setCell ⟨w.heap.size + 1 + 1, 3, none⟩ (.int .i64 (0))).setCell ⟨w.heap.size + 1 + 1 + 1, 0, none⟩ (.int .i64 (p))) = WW at *
            refine bodyPost_ret (v := .tuple #[.agg #[.string (⟨#[]⟩), .string (⟨#[]⟩), .bool (false), .int .i64 (0)], .agg #[.int .i64 (p)], .int .i64 (12)]) (by simp [results, Try.results19, go_sem, hres]) rfl ?_
            exact RB.mk rfl hbl.drew
    · obtain ⟨f, hf⟩ : ∃ f, wf r.es p true = f := ⟨_, rfl⟩
      obtain ⟨N, hN⟩ : ∃ N, wN r.es p true = N := ⟨_, rfl⟩
      obtain ⟨R, hR⟩ : ∃ R, wres r.es p true (fun x => x.dead == d) = R := ⟨_, rfl⟩
      have k1 : ∀ k, k < N → ∃ x, f k = (x, tcz p true (k + 1)) ∧ nx r true (tcz p true k) = (x, tcz p true (k + 1), 0) := fun k hk => by rw [← hf]; exact nx_hit e1 e3' (by rw [hN]; exact hk)
      have k2 : ∃ q, nx r true (tcz p true N) = (ent0, q, 12) := by rw [← hN]; exact nx_miss e1 e3'
      have k3 : ∀ k x, k < N → (∀ y ∈ upto f k, (y.1.dead == d) = false) → f k = x → (x.1.dead == d) = true → R = (x.1, x.2, 0) := by
        intro k x hk hy hx ht
        subst hf hx
        rw [← hR]
        exact wres_hit (k := k + 1) (by omega) (upto_succ _ _) hy ht
      have k4 : (∀ y ∈ upto f N, (y.1.dead == d) = false) → R = (ent0, (p : Int), 12) := by
        intro hy
        subst hf
        rw [← hR]
        exact wres_miss (by rw [hN]; exact hy)
      rw [hR]
      have k5 : ∀ q w, ROk w a c r → Calls Try.prog 28 #[r.v a c, cur q] w (RB w (.tuple #[(wnext r q).1.v, cur (wnext r q).2.1, .int .i64 (wnext r q).2.2])) := fun q w h => refWalkNext a c r q w h
      have k6 : ∀ q w, ROk w a c r → Calls Try.prog 30 #[r.v a c, cur q] w (RB w (.tuple #[(wprev r q).1.v, cur (wprev r q).2.1, .int .i64 (wprev r q).2.2])) := fun q w h => refWalkPrev a c r q w h
      have hNl : p ≤ r.es.length ∧ (true = true → N ≤ p) ∧ (true = false → p + N ≤ r.es.length) := by
        subst hN; refine ⟨e3', ?_, ?_⟩ <;> intro z <;> simp [wN] at z ⊢; try omega
      obtain ⟨-, hn1, hn2⟩ := hNl
      clear hR hf hN
      have K1 := Lib.hid k1
      have K2 := Lib.hid k2
      have K3 := Lib.hid k3
      have K4 := Lib.hid k4
      have K5 := Lib.hid k5
      have K6 := Lib.hid k6
      clear k1 k2 k3 k4 k5 k6
      have hn : N ≤ p := hn1 rfl
      clear hn1 hn2
      have HC := Lib.hid hC
      have HO := Lib.hid h
      obtain ⟨id, l⟩ := r
      unfold Rn.v
      simp only at *
      clear hC h
      go_enter Try.func19, Try.ntmps19
      go_wp2_with fail
      refine (HC.out _ (HO.out.bl (by repeat (first | assumption | exact Bl.refl _ | apply Bl.drewN | apply Bl.drew | apply Bl.alloc | (refine Bl.dr ?_ (by assumption)) | (refine Bl.trans ?_ (by assumption)))))).mono ?_; rintro e w1 ⟨rfl, hb1⟩
      have hr : Mem w1 ([(⟨w.heap.size, 0, none⟩, .int .i64 id), (⟨w.heap.size, 1, none⟩, .slice a l.length c), (⟨w.heap.size + 1, 0, none⟩, .int .i64 ((p : Int)))] ++ VE (w.heap.size + 1 + 1) ent0 ++ [(⟨w.heap.size + 1 + 1 + 1, 0, none⟩, .int .i64 0)]) := by
        refine Mem.bl ?_ hb1
        simp [Mem, VE, ent0, mt, go_sem]
      have hb : Bl w w1 := (by repeat (first | assumption | exact Bl.refl _ | apply Bl.drewN | apply Bl.drew | apply Bl.alloc | (refine Bl.dr ?_ (by assumption)) | (refine Bl.trans ?_ (by assumption))))
      clear hb1
      have HR := Lib.hid hr
      
      have hm := hr
      simp only [Mem, VE, List.cons_append, List.nil_append, and_true] at hm
      clear hr
      go_wp2_with fail
      have hA : w.heap.size + 3 < w1.heap.size := by have := lt_of_cell hm.2.2.2.2.2.2.2.2.2.2.2.2.2.2.1; simpa using this
      have hW : Bl w1 (w1.alloc (Obj.cells #[.int .i64 (p : Int)] 28)) := (Bl.refl _).alloc _
      have hr := HR.out.bl hW
      have hbn := hb.trans hW
      have hq : (w1.alloc (Obj.cells #[.int .i64 (p : Int)] 28)).cell? ⟨w1.heap.size, 0, none⟩ = some (.int .i64 (p : Int)) := by simp [go_sem]
      have hf : (w1.alloc (Obj.cells #[.int .i64 (p : Int)] 28)).frozen? ⟨w1.heap.size, 0, none⟩ = false := by simp [go_sem]
      have hs : w1.heap.size < (w1.alloc (Obj.cells #[.int .i64 (p : Int)] 28)).heap.size := by simp
      generalize w1.alloc (Obj.cells #[.int .i64 (p : Int)] 28) = W1 at *
      clear hm HR hb hW
      generalize w1.heap.size = A at *
      go_loopg [] N (fun g wr => ∃ k : Nat, k ≤ N ∧ Mem wr ([(⟨w.heap.size, 0, none⟩, .int .i64 id), (⟨w.heap.size, 1, none⟩, .slice a l.length c), (⟨w.heap.size + 1, 0, none⟩, .int .i64 p)] ++ VE (w.heap.size + 1 + 1) ent0 ++ [(⟨w.heap.size + 1 + 1 + 1, 0, none⟩, .int .i64 0)]) ∧ wr.cell? ⟨A, 0, none⟩ = some (.int .i64 ((p : Int) - k)) ∧ wr.frozen? ⟨A, 0, none⟩ = false ∧ Bl w wr ∧ A < wr.heap.size ∧ (∀ y ∈ upto f k, (y.1.dead == d) = false) ∧ g = N - k)
      case atStart => exact ⟨0, by omega, hr, by simpa using hq, hf, hbn, hs, by simp [upto], by omega⟩
      case round =>
        clear hr hbn hq hf hs
        obtain ⟨k, hk, hr, hq, hf, hb, hs, hy, hg⟩ := hrel
        have G := Lib.hid hg
        have HY := Lib.hid hy
        have HR := Lib.hid hr
        clear hg hy
        
        have hm := hr
        simp only [Mem, VE, List.cons_append, List.nil_append, and_true] at hm
        clear hr
        by_cases hkN : k < N
        · obtain ⟨x, hx1, hx2⟩ := K1.out k hkN
          simp only [nx, tcz, Bool.false_eq_true, if_false, if_true] at hx2
          have h5 := K5.out ((p : Int) - k)
          try rw [hx2] at h5
          have h6 := K6.out ((p : Int) - k)
          try rw [hx2] at h6
          unfold Rn.v Ent.v at h5 h6
          simp only at h5 h6
          have H5 := Lib.hid h5
          have H6 := Lib.hid h6
          have HX := Lib.hid hx1
          clear h5 h6 hx1 hx2
          obtain ⟨Z, hZ⟩ : ∃ Z, wnext ⟨id, l⟩ ((p : Int) - k) = Z := ⟨_, rfl⟩
          rw [hZ] at H5
          clear hZ
          go_wp2_with fail
          refine (H5.out _ (HO.out.bl hb)).mono ?_; rintro e w5 ⟨rfl, hb1⟩
          have hal := hb1.trans (((Bl.refl w5).alloc (Obj.cells #[.string (Z.1).key, .string (Z.1).val, .bool (Z.1).dead, .int .i64 (Z.1).seq] 36)).alloc (Obj.cells #[.int .i64 (Z.2.1)] 28))
          have hp : Mem ((w5.alloc (Obj.cells #[.string (Z.1).key, .string (Z.1).val, .bool (Z.1).dead, .int .i64 (Z.1).seq] 36)).alloc (Obj.cells #[.int .i64 (Z.2.1)] 28)) (VE w5.heap.size (Z.1) ++ [(⟨w5.heap.size + 1, 0, none⟩, .int .i64 (Z.2.1))]) := by simp [Mem, VE, go_sem]
          have hr := (HR.out.bl hal).app hp
          have hf5 := hal.frozen hq hf
          have hq5 := hal.cell hq
          have hb5 := hb.trans hal
          have hs5' := Nat.lt_of_lt_of_le hs hb1.size
          clear HR hm hq hf hb hb1 hal hp
          have HR := Lib.hid hr
          
          have hm := hr
          simp only [Mem, VE, List.cons_append, List.nil_append, and_true] at hm
          clear hr
          go_wp2_with fail
          refine (H6.out _ (HO.out.bl hb5)).mono ?_; rintro e w6 ⟨rfl, hb6⟩
          have hr := HR.out.bl hb6
          have hq6 := hb6.cell hq5
          have hf6 := hb6.frozen hq5 hf5
          have hb7 := hb5.trans hb6
          have hs6 := hb6.size
          simp at hs6
          clear HR hm hq5 hf5 hb5 hb6
          have hR1 := hr.left
          have hv := hr.right.left
          have hc := hr.right.right
          have n1 := (hR1.off4 w5.heap.size x (by intro q hq; simp [VE] at hq; rcases hq with rfl | rfl | rfl | rfl | rfl | rfl | rfl | rfl <;> simp <;> omega)).off (w5.heap.size + 1) 0 (.int .i64 ((p : Int) - ((k : Int) + 1))) (by intro q hq; simp [VE] at hq; rcases hq with rfl | rfl | rfl | rfl | rfl | rfl | rfl | rfl <;> simp <;> omega)
          have n2 := resM hv hc x ((p : Int) - ((k : Int) + 1))
          have hb5 := (hb7.set4 w5.heap.size x (by omega)).setCell ⟨w5.heap.size + 1, 0, none⟩ (by simp only; omega) (.int .i64 ((p : Int) - ((k : Int) + 1)))
          have m1 : Mem w6 [(⟨A, 0, none⟩, .int .i64 ((p : Int) - k))] := ⟨hq6, hf6, trivial⟩
          have m2 := (m1.off4 w5.heap.size x (by intro q hq; simp at hq; subst hq; simp only; omega)).off (w5.heap.size + 1) 0 (.int .i64 ((p : Int) - ((k : Int) + 1))) (by intro q hq; simp at hq; subst hq; simp only; omega)
          have hs5 : A < (World.setCell (set4 w6 w5.heap.size x) ⟨w5.heap.size + 1, 0, none⟩ (.int .i64 ((p : Int) - ((k : Int) + 1)))).heap.size := by unfold set4; simp; omega
          have hr2 := n1.app n2
          clear hv hc n1 n2 hR1 hb7 hq6 hf6 m1
          have HR6 := Lib.hid hr2
          have HB6 := Lib.hid hb5
          have HM6 := Lib.hid m2
          have HS6 := Lib.hid hs5
          have HR := Lib.hid hr
          clear hr2 hb5 m2 hs5
          
          have hm := hr
          simp only [Mem, VE, List.cons_append, List.nil_append, and_true] at hm
          clear hr
          go_upto_region 8 with fail
          have hr2 := HR6.out
          have hb5 := HB6.out
          have m2 := HM6.out
          have hs5 := HS6.out
          clear HR6 HB6 HM6 HS6 HR hm
          unfold set4 at hr2 hb5 m2 hs5
          generalize (((((w6).setCell ⟨w5.heap.size, 0, none⟩ (.string (x).key)).setCell ⟨w5.heap.size, 1, none⟩ (.string (x).val)).setCell ⟨w5.heap.size, 2, none⟩ (.bool (x).dead)).setCell ⟨w5.heap.size, 3, none⟩ (.int .i64 (x).seq)).setCell ⟨w5.heap.size + 1, 0, none⟩ (.int .i64 ((p : Int) - ((k : Int) + 1))) = WV at *
          obtain ⟨hq5, hf5, -⟩ := m2
          have hs4 := hs5'
          have HR := Lib.hid hr2
          
          have hm := hr2
          simp only [Mem, VE, List.cons_append, List.nil_append, and_true] at hm
          clear hr2
          by_cases ht : (x.dead == d) = true
          · have hR := K3.out k _ hkN HY.out HX.out ht
            try simp only at hR
            subst hR
            go_wp2_with fail
            go_region
            all_goals
              go_wp2_with fail
              have hv := HR.out.left.left.right
              have hc := HR.out.left.right
              have hres := resM (W := WV) hv hc (⟨x.key, x.val, x.dead, x.seq⟩ : Ent) ((p : Int) - ((k : Int) + 1))
              have hbl := (((hb5).set4 (w.heap.size + 1 + 1) (⟨x.key, x.val, x.dead, x.seq⟩ : Ent) (by omega)).setCell ⟨w.heap.size + 1 + 1 + 1, 0, none⟩ (by simp only; omega) (.int .i64 ((p : Int) - ((k : Int) + 1))))
              unfold set4 at hres hbl
              simp only [Mem, VE, List.cons_append, List.nil_append, and_true] at hres hbl
              clear hm
              clear HR
              generalize ((((((WV).setCell ⟨w.heap.size + 1 + 1, 0, none⟩ (.string (x.key))).setCell ⟨w.heap.size + 1 + 1, 1, none⟩ (.string (x.val))).setCell ⟨w.heap.size + 1 + 1, 2, none⟩ (.bool (x.dead))).setCell ⟨w.heap.size + 1 + 1, 3, none⟩ (.int .i64 (x.seq))).setCell ⟨w.heap.size + 1 + 1 + 1, 0, none⟩ (.int .i64 ((p : Int) - ((k : Int) + 1)))) = WW at *
              refine bodyPost_ret (v := .tuple #[.agg #[.string (x.key), .string (x.val), .bool (x.dead), .int .i64 (x.seq)], .agg #[.int .i64 ((p : Int) - ((k : Int) + 1))], .int .i64 (0)]) (by simp [results, Try.results19, go_sem, hres]) rfl ?_
              exact RB.mk rfl hbl.drew
          · have ht : (x.dead == d) = false := by simpa using ht
            go_wp2_with fail
            have hr6 := (HR.out.left).off A 0 (.int .i64 ((p : Int) - ((k : Int) + 1))) (by intro q hq; simp [VE] at hq; rcases hq with rfl | rfl | rfl | rfl | rfl | rfl | rfl | rfl <;> simp <;> omega)
            go_roundg (N - (k + 1))
            case rel =>
              refine ⟨k + 1, by omega, hr6, ?_, ?_, hb5.setCell _ (by simp only; omega) _, by simpa using hs5, ?_, rfl⟩
              · rw [show ((k + 1 : Nat) : Int) = (k : Int) + 1 by omega]; exact smc _ _ _ _ _ hq5
              · rw [frozen_set]; exact hf5
              · intro y hy
                rw [upto_succ] at hy
                rcases List.mem_append.1 hy with hy | hy
                · exact HY.out y hy
                · simp at hy; rw [hy, HX.out]; exact ht
            case measure => rw [G.out]; omega
        · obtain rfl : k = N := by omega
          obtain ⟨q', hx2⟩ := K2.out
          simp only [nx, tcz, Bool.false_eq_true, if_false, if_true] at hx2
          have h5 := K5.out ((p : Int) - k)
          try rw [hx2] at h5
          have h6 := K6.out ((p : Int) - k)
          try rw [hx2] at h6
          unfold Rn.v Ent.v at h5 h6
          simp only at h5 h6
          have H5 := Lib.hid h5
          have H6 := Lib.hid h6
          have hR := K4.out HY.out
          try simp only at hR
          subst hR
          clear h5 h6 hx2
          obtain ⟨Z, hZ⟩ : ∃ Z, wnext ⟨id, l⟩ ((p : Int) - k) = Z := ⟨_, rfl⟩
          rw [hZ] at H5
          clear hZ
          go_wp2_with fail
          refine (H5.out _ (HO.out.bl hb)).mono ?_; rintro e w5 ⟨rfl, hb1⟩
          have hal := hb1.trans (((Bl.refl w5).alloc (Obj.cells #[.string (Z.1).key, .string (Z.1).val, .bool (Z.1).dead, .int .i64 (Z.1).seq] 36)).alloc (Obj.cells #[.int .i64 (Z.2.1)] 28))
          have hp : Mem ((w5.alloc (Obj.cells #[.string (Z.1).key, .string (Z.1).val, .bool (Z.1).dead, .int .i64 (Z.1).seq] 36)).alloc (Obj.cells #[.int .i64 (Z.2.1)] 28)) (VE w5.heap.size (Z.1) ++ [(⟨w5.heap.size + 1, 0, none⟩, .int .i64 (Z.2.1))]) := by simp [Mem, VE, go_sem]
          have hr := (HR.out.bl hal).app hp
          have hf5 := hal.frozen hq hf
          have hq5 := hal.cell hq
          have hb5 := hb.trans hal
          have hs5' := Nat.lt_of_lt_of_le hs hb1.size
          clear HR hm hq hf hb hb1 hal hp
          have HR := Lib.hid hr
          
          have hm := hr
          simp only [Mem, VE, List.cons_append, List.nil_append, and_true] at hm
          clear hr
          go_wp2_with fail
          refine (H6.out _ (HO.out.bl hb5)).mono ?_; rintro e w6 ⟨rfl, hb6⟩
          have hr := HR.out.bl hb6
          have hq6 := hb6.cell hq5
          have hf6 := hb6.frozen hq5 hf5
          have hb7 := hb5.trans hb6
          have hs6 := hb6.size
          simp at hs6
          clear HR hm hq5 hf5 hb5 hb6
          have hR1 := hr.left
          have hv := hr.right.left
          have hc := hr.right.right
          have n1 := (hR1.off4 w5.heap.size ent0 (by intro q hq; simp [VE] at hq; rcases hq with rfl | rfl | rfl | rfl | rfl | rfl | rfl | rfl <;> simp <;> omega)).off (w5.heap.size + 1) 0 (.int .i64 (q')) (by intro q hq; simp [VE] at hq; rcases hq with rfl | rfl | rfl | rfl | rfl | rfl | rfl | rfl <;> simp <;> omega)
          have n2 := resM hv hc ent0 (q')
          have hb5 := (hb7.set4 w5.heap.size ent0 (by omega)).setCell ⟨w5.heap.size + 1, 0, none⟩ (by simp only; omega) (.int .i64 (q'))
          have m1 : Mem w6 [(⟨A, 0, none⟩, .int .i64 ((p : Int) - k))] := ⟨hq6, hf6, trivial⟩
          have m2 := (m1.off4 w5.heap.size ent0 (by intro q hq; simp at hq; subst hq; simp only; omega)).off (w5.heap.size + 1) 0 (.int .i64 (q')) (by intro q hq; simp at hq; subst hq; simp only; omega)
          have hs5 : A < (World.setCell (set4 w6 w5.heap.size ent0) ⟨w5.heap.size + 1, 0, none⟩ (.int .i64 (q'))).heap.size := by unfold set4; simp; omega
          have hr2 := n1.app n2
          clear hv hc n1 n2 hR1 hb7 hq6 hf6 m1
          have HR6 := Lib.hid hr2
          have HB6 := Lib.hid hb5
          have HM6 := Lib.hid m2
          have HS6 := Lib.hid hs5
          have HR := Lib.hid hr
          clear hr2 hb5 m2 hs5
          
          have hm := hr
          simp only [Mem, VE, List.cons_append, List.nil_append, and_true] at hm
          clear hr
          go_upto_region 8 with fail
          have hr2 := HR6.out
          have hb5 := HB6.out
          have m2 := HM6.out
          have hs5 := HS6.out
          clear HR6 HB6 HM6 HS6 HR hm
          unfold set4 at hr2 hb5 m2 hs5
          generalize (((((w6).setCell ⟨w5.heap.size, 0, none⟩ (.string (ent0).key)).setCell ⟨w5.heap.size, 1, none⟩ (.string (ent0).val)).setCell ⟨w5.heap.size, 2, none⟩ (.bool (ent0).dead)).setCell ⟨w5.heap.size, 3, none⟩ (.int .i64 (ent0).seq)).setCell ⟨w5.heap.size + 1, 0, none⟩ (.int .i64 (q')) = WV at *
          obtain ⟨hq5, hf5, -⟩ := m2
          have hs4 := hs5'
          have HR := Lib.hid hr2
          
          have hm := hr2
          simp only [Mem, VE, List.cons_append, List.nil_append, and_true] at hm
          clear hr2
          go_wp2_with fail
          go_region
          all_goals
            go_wp2_with fail
            have hv := HR.out.left.left.right
            have hc := HR.out.left.right
            have hres := resM (W := WV) hv hc (⟨⟨#[]⟩, ⟨#[]⟩, false, 0⟩ : Ent) (p)
            have hbl := (((hb5).set4 (w.heap.size + 1 + 1) (⟨⟨#[]⟩, ⟨#[]⟩, false, 0⟩ : Ent) (by omega)).setCell ⟨w.heap.size + 1 + 1 + 1, 0, none⟩ (by simp only; omega) (.int .i64 (p)))
            unfold set4 at hres hbl
            simp only [Mem, VE, List.cons_append, List.nil_append, and_true] at hres hbl
            clear hm
            clear HR
            generalize ((((((WV).setCell ⟨w.heap.size + 1 + 1, 0, none⟩ (.string (⟨#[]⟩))).setCell ⟨w.heap.size + 1 + 1, 1, none⟩ (.string (⟨#[]⟩))).setCell ⟨w.heap.size + 1 + 1, 2, none⟩ (.bool (false))).setCell ⟨w.heap.size + 1 + 1, 3, none⟩ (.int .i64 (0))).setCell ⟨w.heap.size + 1 + 1 + 1, 0, none⟩ (.int .i64 (p))) = WW at *
            refine bodyPost_ret (v := .tuple #[.agg #[.string (⟨#[]⟩), .string (⟨#[]⟩), .bool (false), .int .i64 (0)], .agg #[.int .i64 (p)], .int .i64 (12)]) (by simp [results, Try.results19, go_sem, hres]) rfl ?_
            exact RB.mk rfl hbl.drew
  · rw [if_pos e]
    have e' : (wchk r n != 0) = true := by simp [e]
    have e2 : (wchk r n == 0) = false := by simp [e]
    generalize wchk r n = q at *
    clear e
    unfold wv ent0 mt Ent.v
    have HC := Lib.hid hC
    have HO := Lib.hid h
    obtain ⟨id, l⟩ := r
    unfold Rn.v
    simp only at *
    clear hC h
    go_enter Try.func19, Try.ntmps19
    go_wp2_with fail
    refine (HC.out _ (HO.out.bl (by repeat (first | assumption | exact Bl.refl _ | apply Bl.drewN | apply Bl.drew | apply Bl.alloc | (refine Bl.dr ?_ (by assumption)) | (refine Bl.trans ?_ (by assumption)))))).mono ?_; rintro e w1 ⟨rfl, hb1⟩
    have hr : Mem w1 ([(⟨w.heap.size, 0, none⟩, .int .i64 id), (⟨w.heap.size, 1, none⟩, .slice a l.length c), (⟨w.heap.size + 1, 0, none⟩, .int .i64 (n))] ++ VE (w.heap.size + 1 + 1) ent0 ++ [(⟨w.heap.size + 1 + 1 + 1, 0, none⟩, .int .i64 0)]) := by
      refine Mem.bl ?_ hb1
      simp [Mem, VE, ent0, mt, go_sem]
    have hb : Bl w w1 := (by repeat (first | assumption | exact Bl.refl _ | apply Bl.drewN | apply Bl.drew | apply Bl.alloc | (refine Bl.dr ?_ (by assumption)) | (refine Bl.trans ?_ (by assumption))))
    clear hb1
    have HR := Lib.hid hr
    
    have hm := hr
    simp only [Mem, VE, List.cons_append, List.nil_append, and_true] at hm
    clear hr
    go_wp2_with fail
    have hv := HR.out.left.right
    have hc := HR.out.right
    have hres := resM (W := w1) hv hc (⟨⟨#[]⟩, ⟨#[]⟩, false, 0⟩ : Ent) (0)
    have hbl := (((hb).set4 (w.heap.size + 1 + 1) (⟨⟨#[]⟩, ⟨#[]⟩, false, 0⟩ : Ent) (by omega)).setCell ⟨w.heap.size + 1 + 1 + 1, 0, none⟩ (by simp only; omega) (.int .i64 (0)))
    unfold set4 at hres hbl
    simp only [Mem, VE, List.cons_append, List.nil_append, and_true] at hres hbl
    clear hm
    clear HR
    generalize ((((((w1).setCell ⟨w.heap.size + 1 + 1, 0, none⟩ (.string (⟨#[]⟩))).setCell ⟨w.heap.size + 1 + 1, 1, none⟩ (.string (⟨#[]⟩))).setCell ⟨w.heap.size + 1 + 1, 2, none⟩ (.bool (false))).setCell ⟨w.heap.size + 1 + 1, 3, none⟩ (.int .i64 (0))).setCell ⟨w.heap.size + 1 + 1 + 1, 0, none⟩ (.int .i64 (0))) = WW at *
    refine bodyPost_ret (v := .tuple #[.agg #[.string (⟨#[]⟩), .string (⟨#[]⟩), .bool (false), .int .i64 (0)], .agg #[.int .i64 (0)], .int .i64 (q)]) (by simp [results, Try.results19, go_sem, hres]) rfl ?_
    exact RB.mk rfl hbl
end Go.Proofs.Ytinbdppekhcekaa

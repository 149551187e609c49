/-
  Own texts laid together: WkC WkO Open WkZ.
-/
import Derived.Test.YtinbdppekhcekaaZp
import Derived.Test.YtinbdppekhcekaaZt
import Derived.Test.YtinbdppekhcekaaZs
import Derived.Deep.RegionHeld3
import Derived.Test.YtinbdppekhcekaaZa
import Derived.ProofKit
import Derived.OpenShut
import Derived.ShutString
import Derived.ChangeOld
import Derived.Deep.Slices
import Derived.Deep.Fields
import Derived.Lib.SmallJoins
import Derived.SliceStrings
/-
  Contracts of walk's Seek, of both.
-/
namespace Go.Proofs.Ytinbdppekhcekaa
open Go.RowKit
set_option linter.unusedSimpArgs false
set_option linter.unusedVariables false
set_option maxRecDepth 100000

theorem flN_not (l : List Ent) (k : ByteArray) (p : Bool) : flN l k (!p) = ceN l k p := by cases p <;> simp [flN, ceN]

set_option maxHeartbeats 4000000 in
theorem walkSeek (a : Option Addr) (c : Nat) (r : Rn) (k : ByteArray) (p : Bool) (w : World) (h : ROk w a c r) (hk : k.size ≤ maxLen) :
    Calls Try.prog 13 #[r.v a c, .string k, .bool p] w (RB w (.tuple #[cur (wseek r k p).1, .int .i64 (wseek r k p).2])) := by
  have hC := fun w h => runCheck a c r w h
  have hK := fun w => keysCheck k w hk
  have hP := fun w h => runPart a c r ⟨mt, k, true⟩ w h ⟨Nat.zero_le _, hk⟩
  unfold wseek
  generalize (rck r).1 = p1 at *
  by_cases e : (rck r).2 = 0
  · rw [if_neg (by simp [e])]
    rw [e] at hC
    have o4 := (rck_ok e).2.2.2.1
    have o5 := (rck_ok e).2.2.2.2.2
    by_cases f : kchk k = 0
    · rw [if_neg (by simp [f])]
      rw [f] at hK
      have hpr : rpart r ⟨mt, k, true⟩ = (0, (cntLtE r.es k : Int), 0) := by
        rw [part_res e, if_neg (by simp; exact rchk_zero.2 ⟨Nat.zero_le _, kchk_zero.1 f, fun h => by cases h⟩)]
        simp only [cnt_mt]
        unfold pTo
        simp only [cnt_mt, if_true, Nat.max_zero]; rfl
      rw [hpr] at hP
      have hcn : ceN r.es k p = if (hasK r.es k && p) = true then cntLtE r.es k + 1 else cntLtE r.es k := rfl
      rw [hcn]
      have hq := cntLtE_le r.es k
      have hhk := fun x (hx : r.es[cntLtE r.es k]? = some x) => key_eq o5 (k := k) hx
      have hhl := @hasK_lt r.es k
      simp only [decide_true, Bool.true_and] at hhk
      generalize cntLtE r.es k = q at *
      generalize hasK r.es k = is at *
      clear e f hpr hcn o5
      have HC := Lib.hid hC
      have HK := Lib.hid hK
      have HP := Lib.hid hP
      have HO := Lib.hid h
      obtain ⟨id, l⟩ := r
      unfold Rn.v
      simp only [Rng.v] at *
      clear hC h hP hK
      cases p
      · rw [if_neg (by simp)]
        clear hhk hhl
        go_enter Try.func13, Try.ntmps13
        go_wp2_with fail
        refine (HC.out _ (HO.out.bl (by repeat (first | assumption | exact Bl.refl _ | apply Bl.drewN | apply Bl.drew | apply Bl.alloc | (refine Bl.dr ?_ (by assumption)) | (refine Bl.trans ?_ (by assumption)))))).mono ?_; rintro e w1 ⟨rfl, hb1⟩
        have c0 : World.cell? w1 ⟨w.heap.size, 0, none⟩ = some (.int .i64 id) := hb1.cell (by simp [go_sem])
        have c1 : World.cell? w1 ⟨w.heap.size, 1, none⟩ = some (.slice (a) l.length c) := hb1.cell (by simp [go_sem])
        have z0 : World.cell? w1 ⟨w.heap.size + 1, 0, none⟩ = some (.int .i64 0) := hb1.cell (by simp [go_sem])
        have y0 : World.frozen? w1 ⟨w.heap.size + 1, 0, none⟩ = false := hb1.frozen (by simp [go_sem]; rfl) (by simp [go_sem])
        have hb : Bl w w1 := (by repeat (first | assumption | exact Bl.refl _ | apply Bl.drewN | apply Bl.drew | apply Bl.alloc | (refine Bl.dr ?_ (by assumption)) | (refine Bl.trans ?_ (by assumption))))
        clear hb1
        go_wp2_with fail
        refine (HK.out _).mono ?_; rintro e w2 ⟨rfl, hdr⟩
        have y0 := Bl.frozen (Bl.of_dr hdr) z0 y0
        have c0 := Bl.cell (Bl.of_dr hdr) c0
        have c1 := Bl.cell (Bl.of_dr hdr) c1
        have z0 := Bl.cell (Bl.of_dr hdr) z0
        have hb := Bl.trans hb (Bl.of_dr hdr)
        go_wp2_with fail
        refine (HP.out _ (HO.out.bl hb)).mono ?_; rintro e w3 ⟨rfl, hb3⟩
        have y0 := Bl.frozen hb3 z0 y0
        have c0 := Bl.cell hb3 c0
        have c1 := Bl.cell hb3 c1
        have z0 := Bl.cell hb3 z0
        have hb := Bl.trans hb hb3
        first
        | (have d0 := hb.cell dd)
        | skip
        go_wp2_with fail
        
        refine bodyPost_ret (v := .tuple #[.agg #[.int .i64 ((q : Int))], .int .i64 0]) (by simp [results, Try.results13, go_sem, *]) rfl ?_
        exact RB.mk rfl (by repeat (first | assumption | exact Bl.refl _ | apply Bl.drewN | apply Bl.drew | apply Bl.alloc | (refine Bl.setCell ?_ _ (by first | (simp; done) | (simp; omega)) _) | (refine Bl.dr ?_ (by assumption)) | (refine Bl.trans ?_ (by assumption))))
      · by_cases hql : q < l.length
        · obtain ⟨b, off, rfl, hat⟩ := HO.out.ents.get hql
          obtain ⟨x, hx⟩ : ∃ x, l[q]? = some x := ⟨_, List.getElem?_eq_getElem hql⟩
          have dd := (hat q x hx).key
          have he := hhk x hx
          have hql' : (q : Int) < (l.length : Int) := by omega
          have hq0 : (0 : Int) ≤ (q : Int) := by omega
          clear hat hx hhk hhl
          cases is
          · rw [if_neg (by simp)]
            go_enter Try.func13, Try.ntmps13
            go_wp2_with fail
            refine (HC.out _ (HO.out.bl (by repeat (first | assumption | exact Bl.refl _ | apply Bl.drewN | apply Bl.drew | apply Bl.alloc | (refine Bl.dr ?_ (by assumption)) | (refine Bl.trans ?_ (by assumption)))))).mono ?_; rintro e w1 ⟨rfl, hb1⟩
            have c0 : World.cell? w1 ⟨w.heap.size, 0, none⟩ = some (.int .i64 id) := hb1.cell (by simp [go_sem])
            have c1 : World.cell? w1 ⟨w.heap.size, 1, none⟩ = some (.slice (some ⟨b, off, none⟩) l.length c) := hb1.cell (by simp [go_sem])
            have z0 : World.cell? w1 ⟨w.heap.size + 1, 0, none⟩ = some (.int .i64 0) := hb1.cell (by simp [go_sem])
            have y0 : World.frozen? w1 ⟨w.heap.size + 1, 0, none⟩ = false := hb1.frozen (by simp [go_sem]; rfl) (by simp [go_sem])
            have hb : Bl w w1 := (by repeat (first | assumption | exact Bl.refl _ | apply Bl.drewN | apply Bl.drew | apply Bl.alloc | (refine Bl.dr ?_ (by assumption)) | (refine Bl.trans ?_ (by assumption))))
            clear hb1
            go_wp2_with fail
            refine (HK.out _).mono ?_; rintro e w2 ⟨rfl, hdr⟩
            have y0 := Bl.frozen (Bl.of_dr hdr) z0 y0
            have c0 := Bl.cell (Bl.of_dr hdr) c0
            have c1 := Bl.cell (Bl.of_dr hdr) c1
            have z0 := Bl.cell (Bl.of_dr hdr) z0
            have hb := Bl.trans hb (Bl.of_dr hdr)
            go_wp2_with fail
            refine (HP.out _ (HO.out.bl hb)).mono ?_; rintro e w3 ⟨rfl, hb3⟩
            have y0 := Bl.frozen hb3 z0 y0
            have c0 := Bl.cell hb3 c0
            have c1 := Bl.cell hb3 c1
            have z0 := Bl.cell hb3 z0
            have hb := Bl.trans hb hb3
            first
            | (have d0 := hb.cell dd)
            | skip
            go_wp2_with fail
            
            refine bodyPost_ret (v := .tuple #[.agg #[.int .i64 ((q : Int))], .int .i64 0]) (by simp [results, Try.results13, go_sem, *]) rfl ?_
            exact RB.mk rfl (by repeat (first | assumption | exact Bl.refl _ | apply Bl.drewN | apply Bl.drew | apply Bl.alloc | (refine Bl.setCell ?_ _ (by first | (simp; done) | (simp; omega)) _) | (refine Bl.dr ?_ (by assumption)) | (refine Bl.trans ?_ (by assumption))))
          · rw [if_pos (by simp)]
            rw [show ((q + 1 : Nat) : Int) = (q : Int) + 1 by omega]
            go_enter Try.func13, Try.ntmps13
            go_wp2_with fail
            refine (HC.out _ (HO.out.bl (by repeat (first | assumption | exact Bl.refl _ | apply Bl.drewN | apply Bl.drew | apply Bl.alloc | (refine Bl.dr ?_ (by assumption)) | (refine Bl.trans ?_ (by assumption)))))).mono ?_; rintro e w1 ⟨rfl, hb1⟩
            have c0 : World.cell? w1 ⟨w.heap.size, 0, none⟩ = some (.int .i64 id) := hb1.cell (by simp [go_sem])
            have c1 : World.cell? w1 ⟨w.heap.size, 1, none⟩ = some (.slice (some ⟨b, off, none⟩) l.length c) := hb1.cell (by simp [go_sem])
            have z0 : World.cell? w1 ⟨w.heap.size + 1, 0, none⟩ = some (.int .i64 0) := hb1.cell (by simp [go_sem])
            have y0 : World.frozen? w1 ⟨w.heap.size + 1, 0, none⟩ = false := hb1.frozen (by simp [go_sem]; rfl) (by simp [go_sem])
            have hb : Bl w w1 := (by repeat (first | assumption | exact Bl.refl _ | apply Bl.drewN | apply Bl.drew | apply Bl.alloc | (refine Bl.dr ?_ (by assumption)) | (refine Bl.trans ?_ (by assumption))))
            clear hb1
            go_wp2_with fail
            refine (HK.out _).mono ?_; rintro e w2 ⟨rfl, hdr⟩
            have y0 := Bl.frozen (Bl.of_dr hdr) z0 y0
            have c0 := Bl.cell (Bl.of_dr hdr) c0
            have c1 := Bl.cell (Bl.of_dr hdr) c1
            have z0 := Bl.cell (Bl.of_dr hdr) z0
            have hb := Bl.trans hb (Bl.of_dr hdr)
            go_wp2_with fail
            refine (HP.out _ (HO.out.bl hb)).mono ?_; rintro e w3 ⟨rfl, hb3⟩
            have y0 := Bl.frozen hb3 z0 y0
            have c0 := Bl.cell hb3 c0
            have c1 := Bl.cell hb3 c1
            have z0 := Bl.cell hb3 z0
            have hb := Bl.trans hb hb3
            first
            | (have d0 := hb.cell dd)
            | skip
            go_wp2_with fail
            
            refine bodyPost_ret (v := .tuple #[.agg #[.int .i64 ((q : Int) + 1)], .int .i64 0]) (by simp [results, Try.results13, go_sem, *]) rfl ?_
            exact RB.mk rfl (by repeat (first | assumption | exact Bl.refl _ | apply Bl.drewN | apply Bl.drew | apply Bl.alloc | (refine Bl.setCell ?_ _ (by first | (simp; done) | (simp; omega)) _) | (refine Bl.dr ?_ (by assumption)) | (refine Bl.trans ?_ (by assumption))))
        · have his : is = false := by
            cases is
            · rfl
            · exact absurd (hhl rfl) hql
          subst his
          rw [if_neg (by simp)]
          have hql' : ¬ (q : Int) < (l.length : Int) := by omega
          clear hhk hhl
          go_enter Try.func13, Try.ntmps13
          go_wp2_with fail
          refine (HC.out _ (HO.out.bl (by repeat (first | assumption | exact Bl.refl _ | apply Bl.drewN | apply Bl.drew | apply Bl.alloc | (refine Bl.dr ?_ (by assumption)) | (refine Bl.trans ?_ (by assumption)))))).mono ?_; rintro e w1 ⟨rfl, hb1⟩
          have c0 : World.cell? w1 ⟨w.heap.size, 0, none⟩ = some (.int .i64 id) := hb1.cell (by simp [go_sem])
          have c1 : World.cell? w1 ⟨w.heap.size, 1, none⟩ = some (.slice (a) l.length c) := hb1.cell (by simp [go_sem])
          have z0 : World.cell? w1 ⟨w.heap.size + 1, 0, none⟩ = some (.int .i64 0) := hb1.cell (by simp [go_sem])
          have y0 : World.frozen? w1 ⟨w.heap.size + 1, 0, none⟩ = false := hb1.frozen (by simp [go_sem]; rfl) (by simp [go_sem])
          have hb : Bl w w1 := (by repeat (first | assumption | exact Bl.refl _ | apply Bl.drewN | apply Bl.drew | apply Bl.alloc | (refine Bl.dr ?_ (by assumption)) | (refine Bl.trans ?_ (by assumption))))
          clear hb1
          go_wp2_with fail
          refine (HK.out _).mono ?_; rintro e w2 ⟨rfl, hdr⟩
          have y0 := Bl.frozen (Bl.of_dr hdr) z0 y0
          have c0 := Bl.cell (Bl.of_dr hdr) c0
          have c1 := Bl.cell (Bl.of_dr hdr) c1
          have z0 := Bl.cell (Bl.of_dr hdr) z0
          have hb := Bl.trans hb (Bl.of_dr hdr)
          go_wp2_with fail
          refine (HP.out _ (HO.out.bl hb)).mono ?_; rintro e w3 ⟨rfl, hb3⟩
          have y0 := Bl.frozen hb3 z0 y0
          have c0 := Bl.cell hb3 c0
          have c1 := Bl.cell hb3 c1
          have z0 := Bl.cell hb3 z0
          have hb := Bl.trans hb hb3
          first
          | (have d0 := hb.cell dd)
          | skip
          go_wp2_with fail
          
          refine bodyPost_ret (v := .tuple #[.agg #[.int .i64 ((q : Int))], .int .i64 0]) (by simp [results, Try.results13, go_sem, *]) rfl ?_
          exact RB.mk rfl (by repeat (first | assumption | exact Bl.refl _ | apply Bl.drewN | apply Bl.drew | apply Bl.alloc | (refine Bl.setCell ?_ _ (by first | (simp; done) | (simp; omega)) _) | (refine Bl.dr ?_ (by assumption)) | (refine Bl.trans ?_ (by assumption))))
    · rw [if_pos f]
      have f' : (kchk k != 0) = true := by simp [f]
      generalize kchk k = q at *
      clear e f o5
      have HC := Lib.hid hC
      have HK := Lib.hid hK
      have HP := Lib.hid hP
      have HO := Lib.hid h
      obtain ⟨id, l⟩ := r
      unfold Rn.v
      simp only [Rng.v] at *
      clear hC h hP hK
      go_enter Try.func13, Try.ntmps13
      go_wp2_with fail
      refine (HC.out _ (HO.out.bl (by repeat (first | assumption | exact Bl.refl _ | apply Bl.drewN | apply Bl.drew | apply Bl.alloc | (refine Bl.dr ?_ (by assumption)) | (refine Bl.trans ?_ (by assumption)))))).mono ?_; rintro e w1 ⟨rfl, hb1⟩
      have c0 : World.cell? w1 ⟨w.heap.size, 0, none⟩ = some (.int .i64 id) := hb1.cell (by simp [go_sem])
      have c1 : World.cell? w1 ⟨w.heap.size, 1, none⟩ = some (.slice (a) l.length c) := hb1.cell (by simp [go_sem])
      have z0 : World.cell? w1 ⟨w.heap.size + 1, 0, none⟩ = some (.int .i64 0) := hb1.cell (by simp [go_sem])
      have y0 : World.frozen? w1 ⟨w.heap.size + 1, 0, none⟩ = false := hb1.frozen (by simp [go_sem]; rfl) (by simp [go_sem])
      have hb : Bl w w1 := (by repeat (first | assumption | exact Bl.refl _ | apply Bl.drewN | apply Bl.drew | apply Bl.alloc | (refine Bl.dr ?_ (by assumption)) | (refine Bl.trans ?_ (by assumption))))
      clear hb1
      go_wp2_with fail
      refine (HK.out _).mono ?_; rintro e w2 ⟨rfl, hdr⟩
      have y0 := Bl.frozen (Bl.of_dr hdr) z0 y0
      have c0 := Bl.cell (Bl.of_dr hdr) c0
      have c1 := Bl.cell (Bl.of_dr hdr) c1
      have z0 := Bl.cell (Bl.of_dr hdr) z0
      have hb := Bl.trans hb (Bl.of_dr hdr)
      go_wp2_with fail
      
      refine bodyPost_ret (v := .tuple #[.agg #[.int .i64 (0)], .int .i64 q]) (by simp [results, Try.results13, go_sem, *]) rfl ?_
      exact RB.mk rfl (by repeat (first | assumption | exact Bl.refl _ | apply Bl.drewN | apply Bl.drew | apply Bl.alloc | (refine Bl.setCell ?_ _ (by first | (simp; done) | (simp; omega)) _) | (refine Bl.dr ?_ (by assumption)) | (refine Bl.trans ?_ (by assumption))))
  · rw [if_pos e]
    have e' : ((rck r).2 != 0) = true := by simp [e]
    generalize (rck r).2 = q at *
    clear e
    have HC := Lib.hid hC
    have HK := Lib.hid hK
    have HP := Lib.hid hP
    have HO := Lib.hid h
    obtain ⟨id, l⟩ := r
    unfold Rn.v
    simp only [Rng.v] at *
    clear hC h hP hK
    go_enter Try.func13, Try.ntmps13
    go_wp2_with fail
    refine (HC.out _ (HO.out.bl (by repeat (first | assumption | exact Bl.refl _ | apply Bl.drewN | apply Bl.drew | apply Bl.alloc | (refine Bl.dr ?_ (by assumption)) | (refine Bl.trans ?_ (by assumption)))))).mono ?_; rintro e w1 ⟨rfl, hb1⟩
    have c0 : World.cell? w1 ⟨w.heap.size, 0, none⟩ = some (.int .i64 id) := hb1.cell (by simp [go_sem])
    have c1 : World.cell? w1 ⟨w.heap.size, 1, none⟩ = some (.slice (a) l.length c) := hb1.cell (by simp [go_sem])
    have z0 : World.cell? w1 ⟨w.heap.size + 1, 0, none⟩ = some (.int .i64 0) := hb1.cell (by simp [go_sem])
    have y0 : World.frozen? w1 ⟨w.heap.size + 1, 0, none⟩ = false := hb1.frozen (by simp [go_sem]; rfl) (by simp [go_sem])
    have hb : Bl w w1 := (by repeat (first | assumption | exact Bl.refl _ | apply Bl.drewN | apply Bl.drew | apply Bl.alloc | (refine Bl.dr ?_ (by assumption)) | (refine Bl.trans ?_ (by assumption))))
    clear hb1
    go_wp2_with fail
    
    refine bodyPost_ret (v := .tuple #[.agg #[.int .i64 (0)], .int .i64 q]) (by simp [results, Try.results13, go_sem, *]) rfl ?_
    exact RB.mk rfl (by repeat (first | assumption | exact Bl.refl _ | apply Bl.drewN | apply Bl.drew | apply Bl.alloc | (refine Bl.setCell ?_ _ (by first | (simp; done) | (simp; omega)) _) | (refine Bl.dr ?_ (by assumption)) | (refine Bl.trans ?_ (by assumption))))

theorem min_lt {n q : Nat} (k : n < q) : min n q + 1 = min (n + 1) q := by omega
theorem min_ge {n q : Nat} (k : ¬ n < q) : min n q = min (n + 1) q := by omega
set_option maxHeartbeats 4000000 in
theorem refWalkSeek (a : Option Addr) (c : Nat) (r : Rn) (k : ByteArray) (p : Bool) (w : World) (h : ROk w a c r) (hk : k.size ≤ maxLen) :
    Calls Try.prog 31 #[r.v a c, .string k, .bool p] w (RB w (.tuple #[cur (wseek r k p).1, .int .i64 (wseek r k p).2])) := by
  have hC := fun w h => refRunCheck a c r w h
  have hK := fun w => refCheck k w hk
  have hP := fun (t : ByteArray) w (ht : t.size ≤ maxLen) => refOrder t k w ht hk
  unfold wseek
  generalize (rck r).1 = p1 at *
  by_cases e : (rck r).2 = 0
  · rw [if_neg (by simp [e])]
    rw [e] at hC
    have o4 := (rck_ok e).2.2.2.1
    have o5 := (rck_ok e).2.2.2.2.2
    by_cases f : kchk k = 0
    · rw [if_neg (by simp [f])]
      rw [f] at hK
      have hcd := fun (j : Nat) x (hx : r.es[j]? = some x) => fl_cond o5 (!p) hx (k := k)
      rw [flN_not] at hcd
      have hq := ceN_le r.es k p
      generalize ceN r.es k p = q at *
      have HCD := Lib.hid hcd
      clear e f hcd o5
      have HC := Lib.hid hC
      have HK := Lib.hid hK
      have HP := Lib.hid hP
      have HO := Lib.hid h
      obtain ⟨id, l⟩ := r
      unfold Rn.v
      simp only [Rng.v] at *
      clear hC h hP hK
      go_enter Try.func31, Try.ntmps31
      go_wp2_with fail
      refine (HC.out _ (HO.out.bl (by repeat (first | assumption | exact Bl.refl _ | apply Bl.drewN | apply Bl.drew | apply Bl.alloc | (refine Bl.dr ?_ (by assumption)) | (refine Bl.trans ?_ (by assumption)))))).mono ?_; rintro e w1 ⟨rfl, hb1⟩
      have c0 : World.cell? w1 ⟨w.heap.size, 0, none⟩ = some (.int .i64 id) := hb1.cell (by simp [go_sem])
      have c1 : World.cell? w1 ⟨w.heap.size, 1, none⟩ = some (.slice (a) l.length c) := hb1.cell (by simp [go_sem])
      have z0 : World.cell? w1 ⟨w.heap.size + 1, 0, none⟩ = some (.int .i64 0) := hb1.cell (by simp [go_sem])
      have y0 : World.frozen? w1 ⟨w.heap.size + 1, 0, none⟩ = false := hb1.frozen (by simp [go_sem]; rfl) (by simp [go_sem])
      have hb : Bl w w1 := (by repeat (first | assumption | exact Bl.refl _ | apply Bl.drewN | apply Bl.drew | apply Bl.alloc | (refine Bl.dr ?_ (by assumption)) | (refine Bl.trans ?_ (by assumption))))
      clear hb1
      go_wp2_with fail
      refine (HK.out _).mono ?_; rintro e w2 ⟨rfl, hdr⟩
      have y0 := Bl.frozen (Bl.of_dr hdr) z0 y0
      have c0 := Bl.cell (Bl.of_dr hdr) c0
      have c1 := Bl.cell (Bl.of_dr hdr) c1
      have z0 := Bl.cell (Bl.of_dr hdr) z0
      have hb := Bl.trans hb (Bl.of_dr hdr)
      go_wp2_with fail
      go_loopg [10, 11, 12] l.length (fun g m i o wr => ∃ n : Nat, n ≤ l.length ∧ i = .int .i64 n ∧ m = .int .i64 ((min n q : Nat) : Int) ∧ Bl w2 wr ∧ g = l.length - n)
      case atStart => exact ⟨0, by omega, rfl, by simp, Bl.refl _, rfl⟩
      case round =>
        obtain ⟨n, hn1, rfl, rfl, hbw, hg⟩ := hrel
        have G := Lib.hid hg
        clear hg
        have y0 := Bl.frozen hbw z0 y0
        have c0 := Bl.cell hbw c0
        have c1 := Bl.cell hbw c1
        have z0 := Bl.cell hbw z0
        have hb := Bl.trans hb hbw
        obtain ⟨mm, hmm⟩ : ∃ mm, min n q = mm := ⟨_, rfl⟩
        rw [hmm]
        have hb1 : mm ≤ n := by omega
        have HM := Lib.hid hmm
        clear hmm
        by_cases h1 : n < l.length
        · obtain ⟨b, off, rfl, hat⟩ := HO.out.ents.get h1
          obtain ⟨x, hx⟩ : ∃ x, l[n]? = some x := ⟨_, List.getElem?_eq_getElem h1⟩
          have d0 := ((hat n x hx).bl hb).key
          have hxk := (HO.out.ents.ok x (List.mem_of_getElem? hx)).1
          have hs := HCD.out n x hx
          have hO := fun w => HP.out x.key w hxk
          clear hat hx hxk
          have fin : ∀ (m' : Nat) (W : World), Bl wr W → m' = min (n + 1) q → ∃ n' : Nat, n' ≤ l.length ∧ Value.int .i64 ((n : Int) + 1) = .int .i64 n' ∧ Value.int .i64 (m' : Int) = .int .i64 ((min n' q : Nat) : Int) ∧ Bl w2 W ∧ l.length - (n + 1) = l.length - n' :=
            fun m' W hW hm => ⟨n + 1, by omega, by go_num, by rw [hm], hbw.trans hW, rfl⟩
          have FIN := Lib.hid fin
          clear fin
          rcases cmp3 x.key k with ⟨e1, e2, e3, e4⟩ | ⟨e1, e2, e3, e4⟩ | ⟨e1, e2, e3, e4⟩
          all_goals
            rw [e1] at hO
            rw [e3, e2] at hs
            have HO2 := Lib.hid hO
            clear e1 e2 e3 e4 hO
          · have hn2 : n < q := by simpa using hs
            clear hs
            go_wp2_with fail
            refine (HO2.out _).mono ?_; rintro e w' ⟨rfl, n1, rfl⟩
            go_wp2_with fail
            go_roundg (l.length - (n + 1))
            case rel => exact FIN.out _ _ (Bl.of_dr ⟨n1, rfl⟩) (by rw [← HM.out]; exact min_lt hn2)
            case measure => rw [G.out]; omega
          · cases p
            · have hn2 : ¬ n < q := by simpa using hs
              clear hs
              go_wp2_with fail
              refine (HO2.out _).mono ?_; rintro e w' ⟨rfl, n1, rfl⟩
              go_wp2_with fail
              go_roundg (l.length - (n + 1))
              case rel => exact FIN.out _ _ (Bl.of_dr ⟨n1, rfl⟩) (by rw [← HM.out]; exact min_ge hn2)
              case measure => rw [G.out]; omega
            · have hn2 : n < q := by simpa using hs
              clear hs
              go_wp2_with fail
              refine (HO2.out _).mono ?_; rintro e w' ⟨rfl, n1, rfl⟩
              go_wp2_with fail
              go_roundg (l.length - (n + 1))
              case rel => exact FIN.out _ _ (Bl.of_dr ⟨n1, rfl⟩) (by rw [← HM.out]; exact min_lt hn2)
              case measure => rw [G.out]; omega
          · have hn2 : ¬ n < q := by simpa using hs
            clear hs
            go_wp2_with fail
            refine (HO2.out _).mono ?_; rintro e w' ⟨rfl, n1, rfl⟩
            go_wp2_with fail
            go_roundg (l.length - (n + 1))
            case rel => exact FIN.out _ _ (Bl.of_dr ⟨n1, rfl⟩) (by rw [← HM.out]; exact min_ge hn2)
            case measure => rw [G.out]; omega
        · have hmq : mm = q := by have := HM.out; omega
          subst hmq
          go_wp2_with fail
          
          refine bodyPost_ret (v := .tuple #[.agg #[.int .i64 ((mm : Int))], .int .i64 0]) (by simp [results, Try.results31, go_sem, *]) rfl ?_
          exact RB.mk rfl (by repeat (first | assumption | exact Bl.refl _ | apply Bl.drewN | apply Bl.drew | apply Bl.alloc | (refine Bl.setCell ?_ _ (by first | (simp; done) | (simp; omega)) _) | (refine Bl.dr ?_ (by assumption)) | (refine Bl.trans ?_ (by assumption))))
    · rw [if_pos f]
      have f' : (kchk k != 0) = true := by simp [f]
      generalize kchk k = q at *
      clear e f o5
      have HC := Lib.hid hC
      have HK := Lib.hid hK
      have HP := Lib.hid hP
      have HO := Lib.hid h
      obtain ⟨id, l⟩ := r
      unfold Rn.v
      simp only [Rng.v] at *
      clear hC h hP hK
      go_enter Try.func31, Try.ntmps31
      go_wp2_with fail
      refine (HC.out _ (HO.out.bl (by repeat (first | assumption | exact Bl.refl _ | apply Bl.drewN | apply Bl.drew | apply Bl.alloc | (refine Bl.dr ?_ (by assumption)) | (refine Bl.trans ?_ (by assumption)))))).mono ?_; rintro e w1 ⟨rfl, hb1⟩
      have c0 : World.cell? w1 ⟨w.heap.size, 0, none⟩ = some (.int .i64 id) := hb1.cell (by simp [go_sem])
      have c1 : World.cell? w1 ⟨w.heap.size, 1, none⟩ = some (.slice (a) l.length c) := hb1.cell (by simp [go_sem])
      have z0 : World.cell? w1 ⟨w.heap.size + 1, 0, none⟩ = some (.int .i64 0) := hb1.cell (by simp [go_sem])
      have y0 : World.frozen? w1 ⟨w.heap.size + 1, 0, none⟩ = false := hb1.frozen (by simp [go_sem]; rfl) (by simp [go_sem])
      have hb : Bl w w1 := (by repeat (first | assumption | exact Bl.refl _ | apply Bl.drewN | apply Bl.drew | apply Bl.alloc | (refine Bl.dr ?_ (by assumption)) | (refine Bl.trans ?_ (by assumption))))
      clear hb1
      go_wp2_with fail
      refine (HK.out _).mono ?_; rintro e w2 ⟨rfl, hdr⟩
      have y0 := Bl.frozen (Bl.of_dr hdr) z0 y0
      have c0 := Bl.cell (Bl.of_dr hdr) c0
      have c1 := Bl.cell (Bl.of_dr hdr) c1
      have z0 := Bl.cell (Bl.of_dr hdr) z0
      have hb := Bl.trans hb (Bl.of_dr hdr)
      go_wp2_with fail
      
      refine bodyPost_ret (v := .tuple #[.agg #[.int .i64 (0)], .int .i64 q]) (by simp [results, Try.results31, go_sem, *]) rfl ?_
      exact RB.mk rfl (by repeat (first | assumption | exact Bl.refl _ | apply Bl.drewN | apply Bl.drew | apply Bl.alloc | (refine Bl.setCell ?_ _ (by first | (simp; done) | (simp; omega)) _) | (refine Bl.dr ?_ (by assumption)) | (refine Bl.trans ?_ (by assumption))))
  · rw [if_pos e]
    have e' : ((rck r).2 != 0) = true := by simp [e]
    have e2 : ((rck r).2 == 0) = false := by simp [e]
    generalize (rck r).2 = q at *
    clear e
    have HC := Lib.hid hC
    have HK := Lib.hid hK
    have HP := Lib.hid hP
    have HO := Lib.hid h
    obtain ⟨id, l⟩ := r
    unfold Rn.v
    simp only [Rng.v] at *
    clear hC h hP hK
    go_enter Try.func31, Try.ntmps31
    go_wp2_with fail
    refine (HC.out _ (HO.out.bl (by repeat (first | assumption | exact Bl.refl _ | apply Bl.drewN | apply Bl.drew | apply Bl.alloc | (refine Bl.dr ?_ (by assumption)) | (refine Bl.trans ?_ (by assumption)))))).mono ?_; rintro e w1 ⟨rfl, hb1⟩
    have c0 : World.cell? w1 ⟨w.heap.size, 0, none⟩ = some (.int .i64 id) := hb1.cell (by simp [go_sem])
    have c1 : World.cell? w1 ⟨w.heap.size, 1, none⟩ = some (.slice (a) l.length c) := hb1.cell (by simp [go_sem])
    have z0 : World.cell? w1 ⟨w.heap.size + 1, 0, none⟩ = some (.int .i64 0) := hb1.cell (by simp [go_sem])
    have y0 : World.frozen? w1 ⟨w.heap.size + 1, 0, none⟩ = false := hb1.frozen (by simp [go_sem]; rfl) (by simp [go_sem])
    have hb : Bl w w1 := (by repeat (first | assumption | exact Bl.refl _ | apply Bl.drewN | apply Bl.drew | apply Bl.alloc | (refine Bl.dr ?_ (by assumption)) | (refine Bl.trans ?_ (by assumption))))
    clear hb1
    go_wp2_with fail
    
    refine bodyPost_ret (v := .tuple #[.agg #[.int .i64 (0)], .int .i64 q]) (by simp [results, Try.results31, go_sem, *]) rfl ?_
    exact RB.mk rfl (by repeat (first | assumption | exact Bl.refl _ | apply Bl.drewN | apply Bl.drew | apply Bl.alloc | (refine Bl.setCell ?_ _ (by first | (simp; done) | (simp; omega)) _) | (refine Bl.dr ?_ (by assumption)) | (refine Bl.trans ?_ (by assumption))))
end Go.Proofs.Ytinbdppekhcekaa
/-
  The law's awake.
-/
namespace Go.Proofs.Ytinbdppekhcekaa
open Go.RowKit Go.Shelf
set_option linter.unusedSimpArgs false
set_option linter.unusedVariables false
set_option maxRecDepth 100000

theorem ev_seek : wseek exR ⟨#[99]⟩ true = (2, 0) := by kernel_rfl
theorem ev_next1 : wnext exR 1 = (exE2, 2, 0) := by kernel_rfl
theorem ev_prev0 : wprev exR 0 = (ent0, 0, 12) := by kernel_rfl
theorem ev_take : wtake exR 3 (-2) = ([exE3, exE2], 1, 0) := by kernel_rfl
theorem same32 (a6 : Option Addr) (c6 g : Nat) (w : World) (hE : Ents w a6 [exE3, exE2]) (hg : Ents w (some ⟨g, 0, none⟩) [exE3, exE2]) :
    Calls Try.prog 16 #[.slice a6 2 c6, .slice (some ⟨g, 0, none⟩) 2 2] w (RB w (.bool true)) :=
  refSameE a6 c6 (some ⟨g, 0, none⟩) 2 [exE3, exE2] w hE hg (by unfold maxLen; simp)
theorem ents32 (w : World) (g : Nat) (h0 : w.cell? ⟨g, 0, none⟩ = some (.string ⟨#[101]⟩)) (h1 : w.cell? ⟨g, 1, none⟩ = some (.string ⟨#[50]⟩)) (h2 : w.cell? ⟨g, 2, none⟩ = some (.bool false)) (h3 : w.cell? ⟨g, 3, none⟩ = some (.int .i64 3))
    (h4 : w.cell? ⟨g, 4, none⟩ = some (.string ⟨#[99]⟩)) (h5 : w.cell? ⟨g, 5, none⟩ = some (.string ⟨#[]⟩)) (h6 : w.cell? ⟨g, 6, none⟩ = some (.bool true)) (h7 : w.cell? ⟨g, 7, none⟩ = some (.int .i64 2)) : Ents w (some ⟨g, 0, none⟩) [exE3, exE2] := by
  refine ents_new w _ g (fun x hx => exR_ok x (by simp [exR] at hx ⊢; rcases hx with rfl | rfl <;> simp)) ?_
  intro i v hi
  rw [show entCells [exE3, exE2] = [.string ⟨#[101]⟩, .string ⟨#[50]⟩, .bool false, .int .i64 3, .string ⟨#[99]⟩, .string ⟨#[]⟩, .bool true, .int .i64 2] from rfl] at hi
  have hlt := (List.getElem?_eq_some_iff.1 hi).1
  simp at hlt
  rcases (show i = 0 ∨ i = 1 ∨ i = 2 ∨ i = 3 ∨ i = 4 ∨ i = 5 ∨ i = 6 ∨ i = 7 by omega) with rfl | rfl | rfl | rfl | rfl | rfl | rfl | rfl <;> (simp at hi; subst hi; assumption)

set_option maxHeartbeats 8000000 in
theorem lawWalkAwake (w : World) : Calls Try.prog 12 #[] w (RB w (.bool true)) := by
  have hS := fun a c w h => walkSeek a c exR ⟨#[99]⟩ true w h (small_str (n := 3) _ (by decide) (by omega))
  rw [ev_seek] at hS
  have hN := fun a c w h => walkNext a c exR 1 w h
  rw [ev_next1] at hN
  have hP := fun a c w h => walkPrev a c exR 0 w h
  rw [ev_prev0] at hP
  have hT := fun a c w h => walkTake a c exR 3 (-2) w h
  rw [ev_take] at hT
  unfold wv Ent.v at hN hP
  simp only [exE1, exE2, exE3, ent0, mt] at hN hP
  have HX := Lib.hid (fun w => lawWalkExample w)
  have HS := Lib.hid hS
  have HN := Lib.hid hN
  have HP := Lib.hid hP
  have HT := Lib.hid hT
  clear hS hN hP hT
  go_enter Try.func12, Try.ntmps12
  go_wp2_with fail
  refine (HX.out _).mono ?_; rintro e w1 ⟨v, rfl, ⟨a, c, rfl, ho⟩, hb1⟩
  unfold Rn.v exR
  simp only
  obtain ⟨b, off, rfl, hat⟩ := ho.ents.get (k := 0) (by decide)
  have p1 := (hat 0 exE1 rfl)
  have p2 := (hat 1 exE2 rfl)
  have p3 := (hat 2 exE3 rfl)
  have P := Lib.hid (And.intro p1 (And.intro p2 p3))
  clear p1 p2 p3 hat ho
  have hb : Bl w w1 := (by repeat (first | assumption | exact Bl.refl _ | apply Bl.drewN | apply Bl.drew | apply Bl.alloc | (refine Bl.dr ?_ (by assumption)) | (refine Bl.trans ?_ (by assumption))))
  clear hb1
  have hfl := fun v w => fld_es (.int .i64 7) v w
  go_wp2_with fail
  clear hfl
  refine (HX.out _).mono ?_; rintro e w2 ⟨v, rfl, ⟨a2, c2, rfl, ho⟩, hb1⟩
  have hb12 : Bl w1 w2 := (by repeat (first | assumption | exact Bl.refl _ | apply Bl.drewN | apply Bl.drew | apply Bl.alloc | (refine Bl.dr ?_ (by assumption)) | (refine Bl.trans ?_ (by assumption))))
  clear hb1
  go_wp2_with fail
  refine (HS.out _ _ _ ho).mono ?_; rintro e w3 ⟨rfl, hb1⟩
  have hb13 : Bl w1 w3 := (by repeat (first | assumption | exact Bl.refl _ | apply Bl.drewN | apply Bl.drew | apply Bl.alloc | (refine Bl.dr ?_ (by assumption)) | (refine Bl.trans ?_ (by assumption))))
  clear hb1 hb12 ho
  go_wp2_with fail
  refine (HX.out _).mono ?_; rintro e w4 ⟨v, rfl, ⟨a3, c3, rfl, ho⟩, hb1⟩
  have s0 : w4.cell? ⟨w3.heap.size, 0, none⟩ = some (.int .i64 2) := hb1.cell (by simp [go_sem])
  have hb14 : Bl w1 w4 := (by repeat (first | assumption | exact Bl.refl _ | apply Bl.drewN | apply Bl.drew | apply Bl.alloc | (refine Bl.dr ?_ (by assumption)) | (refine Bl.trans ?_ (by assumption))))
  clear hb1 hb13
  go_wp2_with fail
  refine (lawAt _ _).mono ?_; rintro e w5 ⟨rfl, hb1⟩
  have ho := ho.bl hb1
  have s0 := hb1.cell s0
  have hb15 : Bl w1 w5 := (by repeat (first | assumption | exact Bl.refl _ | apply Bl.drewN | apply Bl.drew | apply Bl.alloc | (refine Bl.dr ?_ (by assumption)) | (refine Bl.trans ?_ (by assumption))))
  clear hb1 hb14
  go_wp2_with fail
  refine (HN.out _ _ _ ho).mono ?_; rintro e w6 ⟨rfl, hb1⟩
  have s0 := hb1.cell s0
  have hb16 : Bl w1 w6 := (by repeat (first | assumption | exact Bl.refl _ | apply Bl.drewN | apply Bl.drew | apply Bl.alloc | (refine Bl.dr ?_ (by assumption)) | (refine Bl.trans ?_ (by assumption))))
  clear hb1 hb15 ho
  go_wp2_with fail
  refine (HX.out _).mono ?_; rintro e w7 ⟨v, rfl, ⟨a4, c4, rfl, ho⟩, hb1⟩
  have s0 := hb1.cell ((((Bl.refl w6).alloc _).alloc _).cell s0)
  have x0 : w7.cell? ⟨w6.heap.size, 0, none⟩ = some (.string ⟨#[99]⟩) := hb1.cell (by simp [go_sem])
  have x1 : w7.cell? ⟨w6.heap.size, 1, none⟩ = some (.string ⟨#[]⟩) := hb1.cell (by simp [go_sem])
  have x2 : w7.cell? ⟨w6.heap.size, 2, none⟩ = some (.bool true) := hb1.cell (by simp [go_sem])
  have x3 : w7.cell? ⟨w6.heap.size, 3, none⟩ = some (.int .i64 2) := hb1.cell (by simp [go_sem])
  have v0 : w7.cell? ⟨w6.heap.size + 1, 0, none⟩ = some (.int .i64 2) := hb1.cell (by simp [go_sem])
  have C := Lib.hid (And.intro s0 (And.intro x0 (And.intro x1 (And.intro x2 (And.intro x3 v0)))))
  have hb17 : Bl w1 w7 := (by repeat (first | assumption | exact Bl.refl _ | apply Bl.drewN | apply Bl.drew | apply Bl.alloc | (refine Bl.dr ?_ (by assumption)) | (refine Bl.trans ?_ (by assumption))))
  clear hb1 hb16 s0 x0 x1 x2 x3 v0
  go_wp2_with fail
  refine (lawAt _ _).mono ?_; rintro e w8 ⟨rfl, hb1⟩
  have ho := ho.bl hb1
  have hb78 : Bl w7 w8 := (by repeat (first | assumption | exact Bl.refl _ | apply Bl.drewN | apply Bl.drew | apply Bl.alloc | (refine Bl.dr ?_ (by assumption)) | (refine Bl.trans ?_ (by assumption))))
  clear hb1
  go_wp2_with fail
  refine (HP.out _ _ _ ho).mono ?_; rintro e w9 ⟨rfl, hb1⟩
  have hb79 : Bl w7 w9 := (by repeat (first | assumption | exact Bl.refl _ | apply Bl.drewN | apply Bl.drew | apply Bl.alloc | (refine Bl.dr ?_ (by assumption)) | (refine Bl.trans ?_ (by assumption))))
  clear hb1 hb78 ho
  go_wp2_with fail
  refine (HX.out _).mono ?_; rintro e w10 ⟨v, rfl, ⟨a5, c5, rfl, ho⟩, hb1⟩
  have u0 : w10.cell? ⟨w9.heap.size + 1, 0, none⟩ = some (.int .i64 0) := hb1.cell (by simp [go_sem])
  have hb710 : Bl w7 w10 := (by repeat (first | assumption | exact Bl.refl _ | apply Bl.drewN | apply Bl.drew | apply Bl.alloc | (refine Bl.dr ?_ (by assumption)) | (refine Bl.trans ?_ (by assumption))))
  clear hb1 hb79
  go_wp2_with fail
  refine (lawAt _ _).mono ?_; rintro e w11 ⟨rfl, hb1⟩
  have ho := ho.bl hb1
  have u0 := hb1.cell u0
  have hb711 : Bl w7 w11 := (by repeat (first | assumption | exact Bl.refl _ | apply Bl.drewN | apply Bl.drew | apply Bl.alloc | (refine Bl.dr ?_ (by assumption)) | (refine Bl.trans ?_ (by assumption))))
  clear hb1 hb710
  go_wp2_with fail
  refine (HT.out _ _ _ ho).mono ?_; rintro e w12 ⟨v, rfl, ⟨a6, c6, rfl, hE, hc1, hc2⟩, hb1⟩
  have u0 := hb1.cell u0
  have hb712 : Bl w7 w12 := (by repeat (first | assumption | exact Bl.refl _ | apply Bl.drewN | apply Bl.drew | apply Bl.alloc | (refine Bl.dr ?_ (by assumption)) | (refine Bl.trans ?_ (by assumption))))
  clear hb1 hb711 ho
  simp only [List.length_cons, List.length_nil, Nat.zero_add, Nat.reduceAdd] at hE ⊢
  go_wp2_with fail
  have hb1Z : Bl w1 (w12.alloc (Obj.cells #[Value.int IntKind.i64 1] 28)) := (by repeat (first | assumption | exact Bl.refl _ | apply Bl.drewN | apply Bl.drew | apply Bl.alloc | (refine Bl.dr ?_ (by assumption)) | (refine Bl.trans ?_ (by assumption))))
  have hb7Z : Bl w7 (w12.alloc (Obj.cells #[Value.int IntKind.i64 1] 28)) := (by repeat (first | assumption | exact Bl.refl _ | apply Bl.drewN | apply Bl.drew | apply Bl.alloc | (refine Bl.dr ?_ (by assumption)) | (refine Bl.trans ?_ (by assumption))))
  have hb12Z : Bl w12 (w12.alloc (Obj.cells #[Value.int IntKind.i64 1] 28)) := (by repeat (first | assumption | exact Bl.refl _ | apply Bl.drewN | apply Bl.drew | apply Bl.alloc | (refine Bl.dr ?_ (by assumption)) | (refine Bl.trans ?_ (by assumption))))
  have t0 : (w12.alloc (Obj.cells #[Value.int IntKind.i64 1] 28)).cell? ⟨w12.heap.size, 0, none⟩ = some (.int .i64 1) := by simp [go_sem]
  have hbZ : Bl w (w12.alloc (Obj.cells #[Value.int IntKind.i64 1] 28)) := (by repeat (first | assumption | exact Bl.refl _ | apply Bl.drewN | apply Bl.drew | apply Bl.alloc | (refine Bl.dr ?_ (by assumption)) | (refine Bl.trans ?_ (by assumption))))
  generalize hZ : w12.alloc (Obj.cells #[Value.int IntKind.i64 1] 28) = wZ at *
  generalize w12.heap.size = g12 at *
  obtain ⟨s0, x0, x1, x2, x3, v0⟩ := C.out
  have s0 := hb7Z.cell s0
  have x0 := hb7Z.cell x0
  have x1 := hb7Z.cell x1
  have x2 := hb7Z.cell x2
  have x3 := hb7Z.cell x3
  have v0 := hb7Z.cell v0
  have u0 := hb12Z.cell u0
  obtain ⟨p1, p2, p3⟩ := P.out
  obtain ⟨e0, e1, e2, e3⟩ := p2.bl hb1Z
  obtain ⟨f0, f1, f2, f3⟩ := p3.bl hb1Z
  clear p1 p2 p3
  simp only [exE1, exE2, exE3, Nat.zero_mul, Nat.add_zero, Nat.one_mul, Nat.reduceMul] at e0 e1 e2 e3 f0 f1 f2 f3
  have hEZ := hE.bl hb12Z
  have HK : Hid (∀ w', Bl wZ w' → (Bl wZ w' ∧ w'.cell? ⟨w3.heap.size, 0, none⟩ = some (.int .i64 2) ∧ w'.cell? ⟨w6.heap.size, 0, none⟩ = some (.string ⟨#[99]⟩) ∧ w'.cell? ⟨w6.heap.size, 1, none⟩ = some (.string ⟨#[]⟩) ∧ w'.cell? ⟨w6.heap.size, 2, none⟩ = some (.bool true) ∧ w'.cell? ⟨w6.heap.size, 3, none⟩ = some (.int .i64 2) ∧ w'.cell? ⟨w6.heap.size + 1, 0, none⟩ = some (.int .i64 2) ∧ w'.cell? ⟨w9.heap.size + 1, 0, none⟩ = some (.int .i64 0) ∧ w'.cell? ⟨g12, 0, none⟩ = some (.int .i64 1) ∧
      w'.cell? ⟨b, off + 4, none⟩ = some (.string ⟨#[99]⟩) ∧ w'.cell? ⟨b, off + 4 + 1, none⟩ = some (.string ⟨#[]⟩) ∧ w'.cell? ⟨b, off + 4 + 2, none⟩ = some (.bool true) ∧ w'.cell? ⟨b, off + 4 + 3, none⟩ = some (.int .i64 2) ∧
      w'.cell? ⟨b, off + 8, none⟩ = some (.string ⟨#[101]⟩) ∧ w'.cell? ⟨b, off + 8 + 1, none⟩ = some (.string ⟨#[50]⟩) ∧ w'.cell? ⟨b, off + 8 + 2, none⟩ = some (.bool false) ∧ w'.cell? ⟨b, off + 8 + 3, none⟩ = some (.int .i64 3))) :=
    Lib.hid (fun w' k => ⟨k, k.cell s0, k.cell x0, k.cell x1, k.cell x2, k.cell x3, k.cell v0, k.cell u0, k.cell t0, k.cell e0, k.cell e1, k.cell e2, k.cell e3, k.cell f0, k.cell f1, k.cell f2, k.cell f3⟩)
  clear s0 x0 x1 x2 x3 v0 u0 t0 e0 e1 e2 e3 f0 f1 f2 f3 hb1Z hb7Z hb12Z hE C P
  have hb00 : Bl wZ wZ := Bl.refl _
  go_region_held3 (fun w' => (Bl wZ w' ∧ w'.cell? ⟨w3.heap.size, 0, none⟩ = some (.int .i64 2) ∧ w'.cell? ⟨w6.heap.size, 0, none⟩ = some (.string ⟨#[99]⟩) ∧ w'.cell? ⟨w6.heap.size, 1, none⟩ = some (.string ⟨#[]⟩) ∧ w'.cell? ⟨w6.heap.size, 2, none⟩ = some (.bool true) ∧ w'.cell? ⟨w6.heap.size, 3, none⟩ = some (.int .i64 2) ∧ w'.cell? ⟨w6.heap.size + 1, 0, none⟩ = some (.int .i64 2) ∧ w'.cell? ⟨w9.heap.size + 1, 0, none⟩ = some (.int .i64 0) ∧ w'.cell? ⟨g12, 0, none⟩ = some (.int .i64 1) ∧
      w'.cell? ⟨b, off + 4, none⟩ = some (.string ⟨#[99]⟩) ∧ w'.cell? ⟨b, off + 4 + 1, none⟩ = some (.string ⟨#[]⟩) ∧ w'.cell? ⟨b, off + 4 + 2, none⟩ = some (.bool true) ∧ w'.cell? ⟨b, off + 4 + 3, none⟩ = some (.int .i64 2) ∧
      w'.cell? ⟨b, off + 8, none⟩ = some (.string ⟨#[101]⟩) ∧ w'.cell? ⟨b, off + 8 + 1, none⟩ = some (.string ⟨#[50]⟩) ∧ w'.cell? ⟨b, off + 8 + 2, none⟩ = some (.bool false) ∧ w'.cell? ⟨b, off + 8 + 3, none⟩ = some (.int .i64 3))) (exact HK.out _ (by repeat (first | assumption | exact Bl.refl _ | apply Bl.drewN | apply Bl.drew | apply Bl.alloc | (refine Bl.dr ?_ (by assumption)) | (refine Bl.trans ?_ (by assumption))))) (first | (go_at_call 20; refine (lawAt _ _).mono ?_; rintro e w8 ⟨rfl, hb8⟩) | (go_at_call 16; refine (same32 _ _ _ _ (hEZ.bl (by repeat (first | assumption | exact Bl.refl _ | apply Bl.drewN | apply Bl.drew | apply Bl.alloc | (refine Bl.dr ?_ (by assumption)) | (refine Bl.trans ?_ (by assumption))))) (ents32 _ _ (by simp [go_sem]) (by simp [go_sem]) (by simp [go_sem]) (by simp [go_sem]) (by simp [go_sem]) (by simp [go_sem]) (by simp [go_sem]) (by simp [go_sem]))).mono ?_; rintro e w8 ⟨rfl, hb8⟩))
  go_wp2_with fail
  go_ret
  exact RB.mk rfl (by repeat (first | assumption | exact Bl.refl _ | apply Bl.drewN | apply Bl.drew | apply Bl.alloc | (refine Bl.dr ?_ (by assumption)) | (refine Bl.trans ?_ (by assumption))))
end Go.Proofs.Ytinbdppekhcekaa
/-
  Arguments opened: a list of entries, a list of strings, a fence, a range.
-/
namespace Go.Proofs.Ytinbdppekhcekaa
open Go.RowKit Go.ChangeShapes Go.WideShapes Go.Deep Go.Joins
set_option linter.unusedSimpArgs false
set_option linter.unusedVariables false
set_option maxRecDepth 100000

theorem list_of {α : Type} (Q : Nat → α → Prop) : ∀ (n : Nat), (∀ i, i < n → ∃ x, Q i x) → ∃ l : List α, l.length = n ∧ ∀ i x, l[i]? = some x → Q i x
  | 0, _ => ⟨[], rfl, by simp⟩
  | n + 1, h => by
    obtain ⟨l, hl, hq⟩ := list_of Q n (fun i hi => h i (by omega))
    obtain ⟨x, hx⟩ := h n (by omega)
    refine ⟨l ++ [x], by simp [hl], fun i y hy => ?_⟩
    rcases Nat.lt_or_ge i n with hi | hi
    · rw [List.getElem?_append_left (by omega)] at hy; exact hq i y hy
    · have : i = n := by
        have := (List.getElem?_eq_some_iff.1 hy).1; simp at this; omega
      subst this
      rw [List.getElem?_append_right (by omega)] at hy
      simp [hl] at hy; subst hy; exact hx
theorem addr_add (b off i : Nat) : ({ block := b, off := off, spot := none } : Addr).add i = ⟨b, off + i, none⟩ := by
  unfold Addr.add; split <;> simp_all

section
variable {H : Type} {enc : TypeId × Value → H} {w : World}
theorem ent_fields : ∃ f0 f1 f2 f3 : Field, Try.prog.underlying 36 = some (.struct #[f0, f1, f2, f3]) ∧ oneCellFields Try.prog #[f0, f1, f2, f3] = true ∧ f0.type = 9 ∧ f1.type = 9 ∧ f2.type = 4 ∧ f3.type = 2 :=
  ⟨_, _, _, _, Try.underlying36, by kernel_rfl, rfl, rfl, rfl, rfl⟩
/-- A list of entries that came in. -/
theorem open_ents {fuel : Nat} {cs : List Value} {x : DataW H × List MemPlace} (h : DataW.trod enc Try.prog w 0 (fun _ => true) true fuel 22 cs = some x) :
    ∃ a c l, cs = [.slice a l.length c] ∧ Ents w a l ∧ l.length ≤ c ∧ c ≤ maxLen := by
  rcases open_slice Try.underlying22 h with ⟨rfl, _⟩ | ⟨a, len, cap, m, n, D, Pl, rfl, _, hl, hm, hmm, _, hi⟩
  · exact ⟨none, 0, [], rfl, ⟨by simp, fun h => absurd rfl h⟩, Nat.le_refl _, by unfold maxLen; omega⟩
  · have hm' : m = cap := by simpa using hmm
    rw [show Try.prog.cellsOf 36 = 4 by kernel_rfl] at hi
    have each : ∀ i, i < len → ∃ y : Ent, y.ok ∧ w.cell? (a.add (i * 4)) = some (.string y.key) ∧ w.cell? (a.add (i * 4 + 1)) = some (.string y.val) ∧ w.cell? (a.add (i * 4 + 2)) = some (.bool y.dead) ∧ w.cell? (a.add (i * 4 + 3)) = some (.int .i64 y.seq) := by
      intro i hlt
      obtain ⟨cs', hc, ht⟩ := hi i (by omega)
      obtain ⟨_, hcl, hat⟩ := World.cells?_some hc
      obtain ⟨F0, F1, F2, F3, hund, hone, t0, t1, t2, t3⟩ := ent_fields
      obtain ⟨ys, n', _, _, _, hyl, hf⟩ := DataW.trod_struct hund ht
      match cs', hcl with
      | [v0, v1, v2, v3], _ =>
        match ys, hyl with
        | [y0, y1, y2, y3], _ =>
          have f0 := hf 0 F0 rfl
          have f1 := hf 1 F1 rfl
          have f2 := hf 2 F2 rfl
          have f3 := hf 3 F3 rfl
          have hone := hone_of hone
          obtain ⟨o0, k0⟩ := hone 0 F0 rfl
          obtain ⟨o1, k1⟩ := hone 1 F1 rfl
          obtain ⟨o2, k2⟩ := hone 2 F2 rfl
          obtain ⟨o3, k3⟩ := hone 3 F3 rfl
          rw [o0, k0, t0] at f0
          rw [o1, k1, t1] at f1
          rw [o2, k2, t2] at f2
          rw [o3, k3, t3] at f3
          obtain ⟨s0, e0, _, h0⟩ := DataW.trod_string Try.underlying9 f0
          obtain ⟨s1, e1, _, h1⟩ := DataW.trod_string Try.underlying9 f1
          obtain ⟨s2, e2, _⟩ := DataW.trod_bool Try.underlying4 f2
          obtain ⟨s3, e3, _, h3⟩ := DataW.trod_int Try.underlying2 f3
          simp at e0 e1 e2 e3
          subst e0 e1 e2 e3
          simp [Lit.wf, IntKind.min, IntKind.max, IntKind.signed, IntKind.bits] at h3
          have g0 := hat 0 (by omega)
          have g1 := hat 1 (by omega)
          have g2 := hat 2 (by omega)
          have g3 := hat 3 (by omega)
          rw [Go.Deep.add_add] at g0 g1 g2 g3
          exact ⟨⟨s0, s1, s2, s3⟩, ⟨h0, h1, (show -9223372036854775808 ≤ s3 by omega), (show s3 ≤ 9223372036854775807 by omega)⟩, g0, g1, g2, g3⟩
    rcases Nat.eq_zero_or_pos len with hz | hpos
    · subst hz
      exact ⟨some a, cap, [], rfl, ⟨by simp, fun h => absurd rfl h⟩, by simp, hm⟩
    have hs : a.spot = none := by
      obtain ⟨y, _, g, _⟩ := each 0 hpos
      have := World.cell?_spot g
      simpa [Addr.add] using this
    obtain ⟨b, o, s⟩ := a
    simp only at hs; subst hs
    simp only [addr_add] at each
    obtain ⟨l, hll, hlq⟩ := list_of _ len each
    refine ⟨some ⟨b, o, none⟩, cap, l, by rw [hll], ⟨fun y hy => ?_, fun hn => ?_⟩, by omega, hm⟩
    · obtain ⟨i, hi, rfl⟩ := List.getElem_of_mem hy
      exact (hlq i _ (List.getElem?_eq_getElem hi)).1
    · refine ⟨b, o, rfl, fun i y hy => ?_⟩
      obtain ⟨_, g0, g1, g2, g3⟩ := hlq i y hy
      exact ⟨g0, by rw [Nat.add_assoc]; exact g1, by rw [Nat.add_assoc]; exact g2, by rw [Nat.add_assoc]; exact g3⟩

/-- A list of strings that came in. -/
theorem open_strs' {fuel : Nat} {cs : List Value} {x : DataW H × List MemPlace} (h : DataW.trod enc Try.prog w 0 (fun _ => true) true fuel 86 cs = some x) :
    ∃ a c l, cs = [.slice a l.length c] ∧ Strs w a l ∧ l.length ≤ c ∧ c ≤ maxLen := by
  rcases open_strings Try.underlying86 Try.underlying9 (by kernel_rfl) h with ⟨rfl, _⟩ | ⟨a, len, cap, ss, rfl, _, hl, hm, hss, _, hcell, hws⟩
  · exact ⟨none, 0, [], rfl, ⟨by simp, fun h => absurd rfl h⟩, Nat.le_refl _, by unfold maxLen; omega⟩
  · have hss' : ss.length = cap := by simpa using hss
    rcases Nat.eq_zero_or_pos len with hz | hpos
    · subst hz
      exact ⟨some a, cap, [], rfl, ⟨by simp, fun h => absurd rfl h⟩, by simp, hm⟩
    have hs : a.spot = none := by
      have := World.cell?_spot (hcell 0 (by omega))
      simpa [Addr.add] using this
    obtain ⟨b, o, s⟩ := a
    simp only at hs; subst hs
    simp only [addr_add] at hcell
    refine ⟨some ⟨b, o, none⟩, cap, ss.take len, by rw [List.length_take, Nat.min_eq_left (by omega)], ⟨fun y hy => hws y (List.mem_of_mem_take hy), fun hn => ?_⟩, by simp; omega, hm⟩
    refine ⟨b, o, rfl, fun i y hy => ?_⟩
    have hi : i < len := by have := (List.getElem?_eq_some_iff.1 hy).1; simp at this; omega
    rw [List.getElem?_take_of_lt hi] at hy
    have := hcell i (by omega)
    rw [this]; simp [List.getD, hy]

/-- What a list of entries is behind its opening, as the row gives it. -/
theorem arg_ents {base : Nat} {v : Value} {d : DataW H} {p : List MemPlace} (hv : Value.okWide Try.prog w .any base 22 v) (h : DataW.Trod enc Try.prog w 0 (fun _ => true) true 22 v d p) :
    ∃ a c l, v = .slice a l.length c ∧ Ents w a l ∧ l.length ≤ c ∧ c ≤ maxLen := by
  obtain ⟨a, n, c, rfl⟩ := okWide_slice Try.underlying22 hv
  obtain ⟨fuel, hf⟩ := h
  obtain ⟨a', c', l, h1, h2, h3, h4⟩ := open_ents hf
  simp [Value.cells] at h1
  obtain ⟨rfl, rfl, rfl⟩ := h1
  exact ⟨_, _, l, rfl, h2, h3, h4⟩
/-- A fence. -/
theorem arg_fence {base : Nat} {v : Value} {d : DataW H} {p : List MemPlace} (hv : Value.okWide Try.prog w .any base 88 v) (h : DataW.Trod enc Try.prog w 0 (fun _ => true) true 88 v d p) :
    ∃ a c s, ∃ l : List ByteArray, v = .agg #[.int .i64 s, .slice a l.length c] ∧ -9223372036854775808 ≤ s ∧ s ≤ 9223372036854775807 ∧ Strs w a l ∧ l.length ≤ c ∧ c ≤ maxLen := by
  have ff : ∃ f0 f1 : Field, Try.prog.underlying 88 = some (.struct #[f0, f1]) ∧ oneCellFields Try.prog #[f0, f1] = true ∧ f0.type = 3 ∧ f1.type = 86 := ⟨_, _, Try.underlying88, by kernel_rfl, rfl, rfl⟩
  obtain ⟨F0, F1, hund, hone, t0, t1⟩ := ff
  obtain ⟨v0, v1, y0, y1, n, rfl, _, _, h0, h1⟩ := open_agg2 hund hone (by kernel_rfl) hv h
  rw [t0] at h0; rw [t1] at h1
  obtain ⟨s, e0, _, b⟩ := DataW.trod_int Try.underlying3 h0
  simp at e0; subst e0
  obtain ⟨a, c, l, e1, g⟩ := open_strs' h1
  simp at e1; subst e1
  simp [Lit.wf, IntKind.min, IntKind.max, IntKind.signed, IntKind.bits] at b
  exact ⟨a, c, s, l, rfl, by omega, by omega, g⟩
/-- A run. -/
theorem arg_run {base : Nat} {v : Value} {d : DataW H} {p : List MemPlace} (hv : Value.okWide Try.prog w .any base 24 v) (h : DataW.Trod enc Try.prog w 0 (fun _ => true) true 24 v d p) :
    ∃ a c s, ∃ l : List Ent, v = .agg #[.int .i64 s, .slice a l.length c] ∧ -9223372036854775808 ≤ s ∧ s ≤ 9223372036854775807 ∧ Ents w a l ∧ l.length ≤ c ∧ c ≤ maxLen := by
  have ff : ∃ f0 f1 : Field, Try.prog.underlying 24 = some (.struct #[f0, f1]) ∧ oneCellFields Try.prog #[f0, f1] = true ∧ f0.type = 3 ∧ f1.type = 22 := ⟨_, _, Try.underlying24, by kernel_rfl, rfl, rfl⟩
  obtain ⟨F0, F1, hund, hone, t0, t1⟩ := ff
  obtain ⟨v0, v1, y0, y1, n, rfl, _, _, h0, h1⟩ := open_agg2 hund hone (by kernel_rfl) hv h
  rw [t0] at h0; rw [t1] at h1
  obtain ⟨s, e0, _, b⟩ := DataW.trod_int Try.underlying3 h0
  simp at e0; subst e0
  obtain ⟨a, c, l, e1, g⟩ := open_ents h1
  simp at e1; subst e1
  simp [Lit.wf, IntKind.min, IntKind.max, IntKind.signed, IntKind.bits] at b
  exact ⟨a, c, s, l, rfl, by omega, by omega, g⟩
/-- A range of keys. -/
theorem arg_range {base : Nat} {v : Value} {d : DataW H} {p : List MemPlace} (hv : Value.okWide Try.prog w .any base 53 v) (h : DataW.Trod enc Try.prog w 0 (fun _ => true) true 53 v d p) :
    ∃ lo hi b, v = .agg #[.string lo, .string hi, .bool b] ∧ lo.size ≤ maxLen ∧ hi.size ≤ maxLen := by
  have ff : ∃ f0 f1 f2 : Field, Try.prog.underlying 53 = some (.struct #[f0, f1, f2]) ∧ oneCellFields Try.prog #[f0, f1, f2] = true ∧ f0.type = 9 ∧ f1.type = 9 ∧ f2.type = 4 := ⟨_, _, _, Try.underlying53, by kernel_rfl, rfl, rfl, rfl⟩
  obtain ⟨F0, F1, F2, hund, hone, t0, t1, t2⟩ := ff
  obtain ⟨v0, v1, v2, y0, y1, y2, n, rfl, _, _, h0, h1, h2⟩ := open_agg3 hund hone (by kernel_rfl) hv h
  rw [t0] at h0; rw [t1] at h1; rw [t2] at h2
  obtain ⟨s0, e0, _, b0⟩ := DataW.trod_string Try.underlying9 h0
  obtain ⟨s1, e1, _, b1⟩ := DataW.trod_string Try.underlying9 h1
  obtain ⟨s2, e2, _⟩ := DataW.trod_bool Try.underlying4 h2
  simp at e0 e1 e2; subst e0 e1 e2
  exact ⟨s0, s1, s2, rfl, b0, b1⟩
/-- A string. -/
theorem arg_string {base : Nat} {v : Value} {d : DataW H} {p : List MemPlace} (hv : Value.okWide Try.prog w .any base 9 v) (h : DataW.Trod enc Try.prog w 0 (fun _ => true) true 9 v d p) :
    ∃ s, v = .string s ∧ s.size ≤ maxLen := by
  obtain ⟨s, e, _, _, b⟩ := Go.ChangeMaps.open_string Try.underlying9 hv h
  exact ⟨s, e, b⟩
/-- An int. -/
theorem arg_int {base : Nat} {v : Value} {d : DataW H} {p : List MemPlace} (hv : Value.okWide Try.prog w .any base 3 v) (h : DataW.Trod enc Try.prog w 0 (fun _ => true) true 3 v d p) :
    ∃ s, v = .int .i64 s ∧ -9223372036854775808 ≤ s ∧ s ≤ 9223372036854775807 := by
  obtain ⟨s, e, _, _, b⟩ := open_int Try.underlying3 hv h
  simp [Lit.wf, IntKind.min, IntKind.max, IntKind.signed, IntKind.bits] at b
  exact ⟨s, e, by omega, by omega⟩
/-- A bool. -/
theorem arg_bool {base : Nat} {v : Value} {d : DataW H} {p : List MemPlace} (hv : Value.okWide Try.prog w .any base 4 v) (h : DataW.Trod enc Try.prog w 0 (fun _ => true) true 4 v d p) :
    ∃ b, v = .bool b := by
  obtain ⟨b, e, _⟩ := open_bool Try.underlying4 hv h
  exact ⟨b, e⟩
theorem lt_of_trod {d : DataW H} {t : TypeId} {v : Value} {p : List MemPlace} (h : DataW.Trod enc Try.prog w 0 (fun _ => true) true t v d p) : ∀ x ∈ p, x.block < w.heap.size := by
  obtain ⟨m, hm⟩ := h; exact DataW.trod_lt m _ _ _ hm
theorem own : ownKnob Try.prog.godebug = none := by kernel_rfl
theorem laidOut : laidOutB Try.prog = true := by kernel_rfl
end
end Go.Proofs.Ytinbdppekhcekaa
/-
  Arguments opened: a cursor, a place, two bools, two small numbers.
-/
namespace Go.Proofs.Ytinbdppekhcekaa
open Go.RowKit Go.ChangeShapes Go.WideShapes Go.Deep Go.Joins
set_option linter.unusedSimpArgs false
set_option linter.unusedVariables false
set_option maxRecDepth 100000

theorem array1 {α : Type} {cs : Array α} (h : cs.size = 1) : ∃ c0, cs = #[c0] := by
  obtain ⟨l⟩ := cs
  match l, h with
  | [c0], _ => exact ⟨c0, rfl⟩
theorem array5 {α : Type} {cs : Array α} (h : cs.size = 5) : ∃ c0 c1 c2 c3 c4, cs = #[c0, c1, c2, c3, c4] := by
  obtain ⟨l⟩ := cs
  match l, h with
  | [c0, c1, c2, c3, c4], _ => exact ⟨c0, c1, c2, c3, c4, rfl⟩
theorem len1 {α : Type} {l : List α} (h : l.length = 1) : ∃ y0, l = [y0] := by
  match l, h with
  | [y0], _ => exact ⟨y0, rfl⟩
theorem len2 {α : Type} {l : List α} (h : l.length = 2) : ∃ y0 y1, l = [y0, y1] := by
  match l, h with
  | [y0, y1], _ => exact ⟨y0, y1, rfl⟩
theorem len3 {α : Type} {l : List α} (h : l.length = 3) : ∃ y0 y1 y2, l = [y0, y1, y2] := by
  match l, h with
  | [y0, y1, y2], _ => exact ⟨y0, y1, y2, rfl⟩
theorem okWide_array {P : Program} {w : World} {r : Reach} {base : Nat} {t : TypeId} {v : Value} {n : Nat} {e : TypeId} (ht : P.underlying t = some (.array n e)) (h : Value.okWide P w r base t v) : ∃ cs, v = .agg cs ∧ cs.size = P.cellsOf t := by
  simp only [Value.okWide, ht] at h
  obtain ⟨cs, h1, h2, _⟩ := h
  exact ⟨cs, h1, h2⟩
section
variable {H : Type} {enc : TypeId × Value → H} {w : World}
/-- A cursor. -/
theorem arg_cursor {base : Nat} {v : Value} {d : DataW H} {p : List MemPlace} (hv : Value.okWide Try.prog w .any base 28 v) (h : DataW.Trod enc Try.prog w 0 (fun _ => true) true 28 v d p) :
    ∃ n, v = .agg #[.int .i64 n] ∧ -9223372036854775808 ≤ n ∧ n ≤ 9223372036854775807 := by
  have ff : ∃ f0 : Field, Try.prog.underlying 28 = some (.struct #[f0]) ∧ oneCellFields Try.prog #[f0] = true ∧ f0.type = 3 := ⟨_, Try.underlying28, by kernel_rfl, rfl⟩
  obtain ⟨F0, hund, hone, t0⟩ := ff
  obtain ⟨cs, rfl, hsz⟩ := okWide_struct hund hv
  obtain ⟨c0, rfl⟩ := array1 (hsz.trans (by kernel_rfl))
  obtain ⟨fuel, hf⟩ := h
  obtain ⟨xs, n, _, _, _, hlen, hx⟩ := DataW.trod_struct hund hf
  obtain ⟨y0, rfl⟩ := len1 hlen
  obtain ⟨o0, k0⟩ := hone_of hone 0 F0 rfl
  have h0 : DataW.trod enc Try.prog w 0 (fun _ => true) true n F0.type [c0] = some y0 := by simpa [Value.cells, o0, k0] using hx 0 F0 rfl
  rw [t0] at h0
  obtain ⟨s, e0, _, b⟩ := DataW.trod_int Try.underlying3 h0
  simp at e0; subst e0
  simp [Lit.wf, IntKind.min, IntKind.max, IntKind.signed, IntKind.bits] at b
  exact ⟨s, rfl, by omega, by omega⟩
/-- A place. -/
theorem arg_place {base : Nat} {v : Value} {d : DataW H} {p : List MemPlace} (hv : Value.okWide Try.prog w .any base 55 v) (h : DataW.Trod enc Try.prog w 0 (fun _ => true) true 55 v d p) :
    ∃ k b lo hi c, v = .agg #[.string k, .bool b, .string lo, .string hi, .bool c] ∧ k.size ≤ maxLen ∧ lo.size ≤ maxLen ∧ hi.size ≤ maxLen := by
  have ff : ∃ f0 f1 f2 : Field, Try.prog.underlying 55 = some (.struct #[f0, f1, f2]) ∧ f0.offset = 0 ∧ f1.offset = 1 ∧ f2.offset = 2 ∧ f0.type = 9 ∧ f1.type = 4 ∧ f2.type = 53 := ⟨_, _, _, Try.underlying55, rfl, rfl, rfl, rfl, rfl, rfl⟩
  have gg : ∃ f0 f1 f2 : Field, Try.prog.underlying 53 = some (.struct #[f0, f1, f2]) ∧ oneCellFields Try.prog #[f0, f1, f2] = true ∧ f0.type = 9 ∧ f1.type = 9 ∧ f2.type = 4 := ⟨_, _, _, Try.underlying53, by kernel_rfl, rfl, rfl, rfl⟩
  have ks : Try.prog.cellsOf 9 = 1 := by kernel_rfl
  have kb : Try.prog.cellsOf 4 = 1 := by kernel_rfl
  have kr : Try.prog.cellsOf 53 = 3 := by kernel_rfl
  obtain ⟨F0, F1, F2, hund, o0, o1, o2, t0, t1, t2⟩ := ff
  obtain ⟨G0, G1, G2, gund, gone, u0, u1, u2⟩ := gg
  obtain ⟨cs, rfl, hsz⟩ := okWide_struct hund hv
  obtain ⟨c0, c1, c2, c3, c4, rfl⟩ := array5 (hsz.trans (by kernel_rfl))
  obtain ⟨fuel, hf⟩ := h
  obtain ⟨xs, n, _, _, _, hlen, hx⟩ := DataW.trod_struct hund hf
  obtain ⟨y0, y1, y2, rfl⟩ := len3 hlen
  have h0 := hx 0 F0 rfl
  have h1 := hx 1 F1 rfl
  have h2 := hx 2 F2 rfl
  rw [t0, ks, o0] at h0
  rw [t1, kb, o1] at h1
  rw [t2, kr, o2] at h2
  simp only [Value.cells, List.drop_zero, List.take_succ_cons, List.take_zero, List.drop_succ_cons, List.getElem?_cons_zero, List.getElem?_cons_succ] at h0 h1 h2
  obtain ⟨zs, m, _, _, _, glen, gx⟩ := DataW.trod_struct gund h2
  obtain ⟨x0, x1, x2, rfl⟩ := len3 glen
  obtain ⟨p0, q0⟩ := hone_of gone 0 G0 rfl
  obtain ⟨p1, q1⟩ := hone_of gone 1 G1 rfl
  obtain ⟨p2, q2⟩ := hone_of gone 2 G2 rfl
  have g0 : DataW.trod enc Try.prog w 0 (fun _ => true) true m G0.type [c2] = some x0 := by simpa [p0, q0] using gx 0 G0 rfl
  have g1 : DataW.trod enc Try.prog w 0 (fun _ => true) true m G1.type [c3] = some x1 := by simpa [p1, q1] using gx 1 G1 rfl
  have g2 : DataW.trod enc Try.prog w 0 (fun _ => true) true m G2.type [c4] = some x2 := by simpa [p2, q2] using gx 2 G2 rfl
  rw [u0] at g0; rw [u1] at g1; rw [u2] at g2
  obtain ⟨s0, e0, _, b0⟩ := DataW.trod_string Try.underlying9 h0
  obtain ⟨s1, e1, _⟩ := DataW.trod_bool Try.underlying4 h1
  obtain ⟨s2, e2, _, b2⟩ := DataW.trod_string Try.underlying9 g0
  obtain ⟨s3, e3, _, b3⟩ := DataW.trod_string Try.underlying9 g1
  obtain ⟨s4, e4, _⟩ := DataW.trod_bool Try.underlying4 g2
  simp at e0 e1 e2 e3 e4; subst e0 e1 e2 e3 e4
  exact ⟨s0, s1, s2, s3, s4, rfl, b0, b2, b3⟩
/-- Two bools. -/
theorem arg_bools {base : Nat} {v : Value} {d : DataW H} {p : List MemPlace} (hv : Value.okWide Try.prog w .any base 45 v) (h : DataW.Trod enc Try.prog w 0 (fun _ => true) true 45 v d p) :
    ∃ x y, v = .agg #[.bool x, .bool y] := by
  have kb : Try.prog.cellsOf 4 = 1 := by kernel_rfl
  obtain ⟨cs, rfl, hsz⟩ := okWide_array Try.underlying45 hv
  obtain ⟨c0, c1, rfl⟩ := array2 (hsz.trans (by kernel_rfl))
  obtain ⟨fuel, hf⟩ := h
  obtain ⟨xs, n, _, _, _, hlen, hx⟩ := DataW.trod_array Try.underlying45 hf
  obtain ⟨y0, y1, rfl⟩ := len2 hlen
  have h0 := hx 0 (by omega)
  have h1 := hx 1 (by omega)
  rw [kb] at h0 h1
  simp only [Value.cells, Nat.zero_mul, Nat.one_mul, List.drop_zero, List.take_succ_cons, List.take_zero, List.drop_succ_cons, List.getElem?_cons_zero, List.getElem?_cons_succ] at h0 h1
  obtain ⟨s0, e0, _⟩ := DataW.trod_bool Try.underlying4 h0
  obtain ⟨s1, e1, _⟩ := DataW.trod_bool Try.underlying4 h1
  simp at e0 e1; subst e0 e1
  exact ⟨s0, s1, rfl⟩
/-- Two small numbers. -/
theorem arg_int8s {base : Nat} {v : Value} {d : DataW H} {p : List MemPlace} (hv : Value.okWide Try.prog w .any base 39 v) (h : DataW.Trod enc Try.prog w 0 (fun _ => true) true 39 v d p) :
    ∃ x y, v = .agg #[.int .i8 x, .int .i8 y] ∧ (-128 ≤ x ∧ x ≤ 127) ∧ (-128 ≤ y ∧ y ≤ 127) := by
  have kb : Try.prog.cellsOf 38 = 1 := by kernel_rfl
  obtain ⟨cs, rfl, hsz⟩ := okWide_array Try.underlying39 hv
  obtain ⟨c0, c1, rfl⟩ := array2 (hsz.trans (by kernel_rfl))
  obtain ⟨fuel, hf⟩ := h
  obtain ⟨xs, n, _, _, _, hlen, hx⟩ := DataW.trod_array Try.underlying39 hf
  obtain ⟨y0, y1, rfl⟩ := len2 hlen
  have h0 := hx 0 (by omega)
  have h1 := hx 1 (by omega)
  rw [kb] at h0 h1
  simp only [Value.cells, Nat.zero_mul, Nat.one_mul, List.drop_zero, List.take_succ_cons, List.take_zero, List.drop_succ_cons, List.getElem?_cons_zero, List.getElem?_cons_succ] at h0 h1
  obtain ⟨s0, e0, _, b0⟩ := DataW.trod_int Try.underlying38 h0
  obtain ⟨s1, e1, _, b1⟩ := DataW.trod_int Try.underlying38 h1
  simp at e0 e1; subst e0 e1
  exact ⟨s0, s1, rfl, bounds_i8 b0, bounds_i8 b1⟩
end
end Go.Proofs.Ytinbdppekhcekaa

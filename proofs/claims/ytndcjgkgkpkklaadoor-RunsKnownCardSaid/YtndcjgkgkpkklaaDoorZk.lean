/-
  Own texts laid together: RnJ RnG WdP WoA WoB WoC WdQ.
-/
import Derived.Test.YtndcjgkgkpkklaaDoorZa
import Derived.Test.YtndcjgkgkpkklaaDoorZh
import Derived.Test.YtndcjgkgkpkklaaDoorZj
import Derived.Test.YtndcjgkgkpkklaaDoorZg
import Derived.IntWalk
import Derived.Deep.LoopGhost
import Derived.Lib.ParseIntB
import Derived.Lib.ItoaNum
/-
  Contracts of the laws' own helpers of runs: Far, example, awake.
-/
namespace Go.Proofs.YtndcjgkgkpkklaaDoor
open Go.RowKit
set_option linter.unusedSimpArgs false
set_option linter.unusedVariables false
set_option maxRecDepth 100000

/-! ### The run R -/
def exE1 : Ent := ⟨⟨#[97]⟩, ⟨#[49]⟩, false, 1⟩
def exE2 : Ent := ⟨⟨#[99]⟩, ⟨#[]⟩, true, 2⟩
def exE3 : Ent := ⟨⟨#[101]⟩, ⟨#[50]⟩, false, 3⟩
def exR : Rn := ⟨7, [exE1, exE2, exE3]⟩
def RunOut (r : Rn) (w : World) (v : Value) : Prop := ∃ a c, v = r.v a c ∧ ROk w a c r
theorem small_str {n : Nat} (s : ByteArray) (h : s.size ≤ n) (hn : n ≤ 1000) : s.size ≤ maxLen := Nat.le_trans h (by unfold maxLen; omega)
theorem exR_ok : ∀ x, x ∈ exR.es → x.ok := by
  intro x hx
  simp only [exR, List.mem_cons, List.not_mem_nil, or_false] at hx
  rcases hx with rfl | rfl | rfl <;> exact ⟨small_str (n := 3) _ (by decide) (by omega), small_str (n := 3) _ (by decide) (by omega), by decide, by decide⟩
theorem exR_cells : entCells exR.es = [.string ⟨#[97]⟩, .string ⟨#[49]⟩, .bool false, .int .i64 1, .string ⟨#[99]⟩, .string ⟨#[]⟩, .bool true, .int .i64 2, .string ⟨#[101]⟩, .string ⟨#[50]⟩, .bool false, .int .i64 3] := rfl
/-- Entries in a block of their own. -/
theorem ents_new (w : World) (l : List Ent) (g : Nat) (ho : ∀ x, x ∈ l → x.ok) (hc : ∀ i v, (entCells l)[i]? = some v → w.cell? ⟨g, i, none⟩ = some v) : Ents w (some ⟨g, 0, none⟩) l :=
  ⟨ho, fun _ => ⟨g, 0, rfl, fun i x hx => by
    obtain ⟨h0, h1, h2, h3⟩ := entCells_get l i x hx
    rw [Nat.zero_add]
    exact ⟨hc _ _ h0, hc _ _ h1, hc _ _ h2, hc _ _ h3⟩⟩⟩

set_option maxHeartbeats 2000000 in
theorem lawRunExample (w : World) : Calls Tryd.prog 4 #[] w (RM w (RunOut exR)) := by
  go_enter Tryd.func4, Tryd.ntmps4
  go_wp2_with fail
  
  refine bodyPost_ret (v := .agg #[.int .i64 7, .slice (some ⟨w.heap.size + 1, 0, none⟩) 3 3]) (by simp [results, Tryd.results4, go_sem, *]) rfl ?_
  refine RM.mk ⟨some ⟨w.heap.size + 1, 0, none⟩, 3, rfl, ⟨ents_new _ _ _ exR_ok ?_, by decide, by unfold maxLen; omega, by decide, by decide⟩⟩ (by repeat (first | assumption | exact Bl.refl _ | apply Bl.drewN | apply Bl.drew | apply Bl.alloc | (refine Bl.setCell ?_ _ (by first | (simp; done) | (simp; omega)) _) | (refine Bl.dr ?_ (by assumption)) | (refine Bl.trans ?_ (by assumption))))
  rw [exR_cells]
  intro i v hi
  have hlt := (List.getElem?_eq_some_iff.1 hi).1
  simp at hlt
  rcases (show i = 0 ∨ i = 1 ∨ i = 2 ∨ i = 3 ∨ i = 4 ∨ i = 5 ∨ i = 6 ∨ i = 7 ∨ i = 8 ∨ i = 9 ∨ i = 10 ∨ i = 11 by omega) with rfl | rfl | rfl | rfl | rfl | rfl | rfl | rfl | rfl | rfl | rfl | rfl <;> (simp at hi; subst hi; simp [go_sem])

theorem ev_get : rget exR ⟨#[99]⟩ = (exE2, 0) := by kernel_rfl
theorem ev_flo : rflo exR ⟨#[99]⟩ true = (exE1, 0) := by kernel_rfl
theorem ev_cei : rcei exR ⟨#[100]⟩ false = (exE3, 0) := by kernel_rfl
theorem ev_cnt : rcount exR ⟨mt, mt, false⟩ = (2, 1, 0) := by kernel_rfl

theorem fld_es (x v : Value) (w : World) : (Instr.field 24 (.agg #[x, v]) 1).run Tryd.prog w = .ok v w := by kernel_rfl
set_option maxHeartbeats 4000000 in
theorem lawRunAwake (w : World) : Calls Tryd.prog 12 #[] w (RB w (.bool true)) := by
  have hG := fun a c w h => runGet a c exR ⟨#[99]⟩ w h (small_str (n := 3) _ (by decide) (by omega))
  rw [ev_get] at hG
  have hF := fun a c w h => runFloor a c exR ⟨#[99]⟩ true w h (small_str (n := 3) _ (by decide) (by omega))
  rw [ev_flo] at hF
  have hC := fun a c w h => runCeiling a c exR ⟨#[100]⟩ false w h (small_str (n := 3) _ (by decide) (by omega))
  rw [ev_cei] at hC
  have hN := fun a c w h => runCount a c exR ⟨mt, mt, false⟩ w h ⟨small_str (n := 3) _ (by decide) (by omega), small_str (n := 3) _ (by decide) (by omega)⟩
  rw [ev_cnt] at hN
  simp only [Ent.v, exE1, exE2, exE3] at hG hF hC
  unfold Rng.v at hN
  have HX := Lib.hid (fun w => lawRunExample w)
  have HG := Lib.hid hG
  have HF := Lib.hid hF
  have HC := Lib.hid hC
  have HN := Lib.hid hN
  clear hG hF hC hN
  go_enter Tryd.func12, Tryd.ntmps12
  go_wp2_with fail
  refine (HX.out _).mono ?_; rintro e w1 ⟨v, rfl, ⟨a, c, rfl, ho⟩, hb1⟩
  unfold Rn.v exR
  simp only
  obtain ⟨b, off, rfl, hat⟩ := ho.ents.get (k := 0) (by decide)
  have p1 := (hat 0 exE1 rfl)
  have p2 := (hat 1 exE2 rfl)
  have p3 := (hat 2 exE3 rfl)
  have P := Lib.hid (And.intro p1 (And.intro p2 p3))
  clear p1 p2 p3 hat ho
  have hb : Bl w w1 := (by repeat (first | assumption | exact Bl.refl _ | apply Bl.drewN | apply Bl.drew | apply Bl.alloc | (refine Bl.dr ?_ (by assumption)) | (refine Bl.trans ?_ (by assumption))))
  clear hb1
  have hfl := fun v w => fld_es (.int .i64 7) v w
  go_wp2_with fail
  clear hfl
  refine (HX.out _).mono ?_; rintro e w2 ⟨v, rfl, ⟨a2, c2, rfl, ho⟩, hb1⟩
  have hb12 : Bl w1 w2 := (by repeat (first | assumption | exact Bl.refl _ | apply Bl.drewN | apply Bl.drew | apply Bl.alloc | (refine Bl.dr ?_ (by assumption)) | (refine Bl.trans ?_ (by assumption))))
  clear hb1
  go_wp2_with fail
  refine (HG.out _ _ _ ho).mono ?_; rintro e w3 ⟨rfl, hb1⟩
  have hb13 : Bl w1 w3 := (by repeat (first | assumption | exact Bl.refl _ | apply Bl.drewN | apply Bl.drew | apply Bl.alloc | (refine Bl.dr ?_ (by assumption)) | (refine Bl.trans ?_ (by assumption))))
  clear hb1 hb12 ho
  go_wp2_with fail
  refine (HX.out _).mono ?_; rintro e w4 ⟨v, rfl, ⟨a3, c3, rfl, ho⟩, hb1⟩
  have hm : Mem w4 (VE w3.heap.size ⟨⟨#[99]⟩, ⟨#[]⟩, true, 2⟩) := (Mem.new4 w3 ⟨⟨#[99]⟩, ⟨#[]⟩, true, 2⟩ _).bl hb1
  have hb14 : Bl w1 w4 := (by repeat (first | assumption | exact Bl.refl _ | apply Bl.drewN | apply Bl.drew | apply Bl.alloc | (refine Bl.dr ?_ (by assumption)) | (refine Bl.trans ?_ (by assumption))))
  clear hb1 hb13
  go_wp2_with fail
  refine (HF.out _ _ _ ho).mono ?_; rintro e w5 ⟨rfl, hb1⟩
  have hb15 : Bl w1 w5 := (by repeat (first | assumption | exact Bl.refl _ | apply Bl.drewN | apply Bl.drew | apply Bl.alloc | (refine Bl.dr ?_ (by assumption)) | (refine Bl.trans ?_ (by assumption))))
  have hm := hm.bl hb1
  clear hb1 hb14 ho
  go_wp2_with fail
  refine (HX.out _).mono ?_; rintro e w6 ⟨v, rfl, ⟨a4, c4, rfl, ho⟩, hb1⟩
  have hm := (hm.alloc (Obj.cells #[.string ⟨#[97]⟩, .string ⟨#[49]⟩, .bool false, .int .i64 1] 27)).bl hb1
  have hm2 : Mem w6 (VE w5.heap.size ⟨⟨#[97]⟩, ⟨#[49]⟩, false, 1⟩) := (Mem.new4 w5 ⟨⟨#[97]⟩, ⟨#[49]⟩, false, 1⟩ _).bl hb1
  have hb16 : Bl w1 w6 := (by repeat (first | assumption | exact Bl.refl _ | apply Bl.drewN | apply Bl.drew | apply Bl.alloc | (refine Bl.dr ?_ (by assumption)) | (refine Bl.trans ?_ (by assumption))))
  clear hb1 hb15
  go_wp2_with fail
  refine (HC.out _ _ _ ho).mono ?_; rintro e w7 ⟨rfl, hb1⟩
  have hb17 : Bl w1 w7 := (by repeat (first | assumption | exact Bl.refl _ | apply Bl.drewN | apply Bl.drew | apply Bl.alloc | (refine Bl.dr ?_ (by assumption)) | (refine Bl.trans ?_ (by assumption))))
  have hm := (hm.app hm2).bl hb1
  clear hb1 hb16 ho hm2
  go_wp2_with fail
  refine (HX.out _).mono ?_; rintro e w8 ⟨v, rfl, ⟨a5, c5, rfl, ho⟩, hb1⟩
  have hm := (hm.alloc (Obj.cells #[.string ⟨#[101]⟩, .string ⟨#[50]⟩, .bool false, .int .i64 3] 27)).bl hb1
  have hm2 : Mem w8 (VE w7.heap.size ⟨⟨#[101]⟩, ⟨#[50]⟩, false, 3⟩) := (Mem.new4 w7 ⟨⟨#[101]⟩, ⟨#[50]⟩, false, 3⟩ _).bl hb1
  have hb18 : Bl w1 w8 := (by repeat (first | assumption | exact Bl.refl _ | apply Bl.drewN | apply Bl.drew | apply Bl.alloc | (refine Bl.dr ?_ (by assumption)) | (refine Bl.trans ?_ (by assumption))))
  clear hb1 hb17
  go_wp2_with fail
  refine (HN.out _ _ _ ho).mono ?_; rintro e w9 ⟨rfl, hb1⟩
  have hb19 : Bl w1 w9 := (by repeat (first | assumption | exact Bl.refl _ | apply Bl.drewN | apply Bl.drew | apply Bl.alloc | (refine Bl.dr ?_ (by assumption)) | (refine Bl.trans ?_ (by assumption))))
  have hm := (hm.app hm2).bl hb1
  clear hb1 hb18 ho hm2
  obtain ⟨p1, p2, p3⟩ := P.out
  obtain ⟨d0, d1, d2, d3⟩ := p1.bl hb19
  obtain ⟨e0, e1, e2, e3⟩ := p2.bl hb19
  obtain ⟨f0, f1, f2, f3⟩ := p3.bl hb19
  simp only [Mem, VE, List.cons_append, List.nil_append, and_true] at hm
  simp only [exE1, exE2, exE3, Nat.zero_mul, Nat.add_zero, Nat.one_mul] at d0 d1 d2 d3 e0 e1 e2 e3 f0 f1 f2 f3
  clear p1 p2 p3
  go_wp2_with fail
  go_quiet (fail)
  go_wp2_with fail
  go_ret
  exact RB.mk rfl (by repeat (first | assumption | exact Bl.refl _ | apply Bl.drewN | apply Bl.drew | apply Bl.alloc | (refine Bl.dr ?_ (by assumption)) | (refine Bl.trans ?_ (by assumption))))
end Go.Proofs.YtndcjgkgkpkklaaDoor
/-
  Contracts of Cover and Overlap of runs, of both.
-/
namespace Go.Proofs.YtndcjgkgkpkklaaDoor
open Go.RowKit
set_option linter.unusedSimpArgs false
set_option linter.unusedVariables false
set_option maxRecDepth 100000


set_option maxHeartbeats 4000000 in
theorem runCover (a : Option Addr) (c : Nat) (r : Rn) (w : World) (h : ROk w a c r) :
    Calls Tryd.prog 10 #[r.v a c] w (RB w (.tuple #[(rcov r).1.v, .int .i64 (rcov r).2])) := by
  have hC := fun w h => runCheck a c r w h
  by_cases e : (rck r).2 = 0
  · have o4 : r.es.length ≤ 5000 := (rck_ok e).2.2.2.1
    by_cases f : r.es.length = 0
    · have hres : rcov r = (rng0, 4) := by unfold rcov; rw [if_neg (by simp [e]), if_pos f]
      rw [hres]
      rw [e] at hC
      clear e hres
      generalize (rck r).1 = p1 at *
      have HC := Lib.hid hC
      have HO := Lib.hid h
      obtain ⟨id, l⟩ := r
      unfold Rn.v Rng.v
      simp only at *
      clear hC h
      have f' : ((l.length : Int) == 0) = true := by rw [f]; rfl
      clear f
      go_enter Tryd.func10, Tryd.ntmps10
      go_wp2_with fail
      refine (HC.out _ (HO.out.bl (by repeat (first | assumption | exact Bl.refl _ | apply Bl.drewN | apply Bl.drew | apply Bl.alloc | (refine Bl.dr ?_ (by assumption)) | (refine Bl.trans ?_ (by assumption)))))).mono ?_; rintro e w1 ⟨rfl, hb1⟩
      have c1 : World.cell? w1 ⟨w.heap.size, 1, none⟩ = some (.slice (a) l.length c) := hb1.cell (by simp [go_sem])
      have z0 : World.cell? w1 ⟨w.heap.size + 1, 0, none⟩ = some (.string ⟨#[]⟩) := hb1.cell (by simp [go_sem])
      have z1 : World.cell? w1 ⟨w.heap.size + 1, 1, none⟩ = some (.string ⟨#[]⟩) := hb1.cell (by simp [go_sem])
      have z2 : World.cell? w1 ⟨w.heap.size + 1, 2, none⟩ = some (.bool false) := hb1.cell (by simp [go_sem])
      have y0 : World.frozen? w1 ⟨w.heap.size + 1, 0, none⟩ = false := hb1.frozen (by simp [go_sem]; rfl) (by simp [go_sem])
      have y1 : World.frozen? w1 ⟨w.heap.size + 1, 1, none⟩ = false := hb1.frozen (by simp [go_sem]; rfl) (by simp [go_sem])
      have y2 : World.frozen? w1 ⟨w.heap.size + 1, 2, none⟩ = false := hb1.frozen (by simp [go_sem]; rfl) (by simp [go_sem])
      have hb : Bl w w1 := (by repeat (first | assumption | exact Bl.refl _ | apply Bl.drewN | apply Bl.drew | apply Bl.alloc | (refine Bl.dr ?_ (by assumption)) | (refine Bl.trans ?_ (by assumption))))
      clear hb1
      go_wp2_with fail
      
      refine bodyPost_ret (v := .tuple #[.agg #[.string ⟨#[]⟩, .string ⟨#[]⟩, .bool false], .int .i64 4]) (by simp [results, Tryd.results10, go_sem, *]) rfl ?_
      exact RB.mk rfl (by repeat (first | assumption | exact Bl.refl _ | apply Bl.drewN | apply Bl.drew | apply Bl.alloc | (refine Bl.setCell ?_ _ (by first | (simp; done) | (simp; omega)) _) | (refine Bl.dr ?_ (by assumption)) | (refine Bl.trans ?_ (by assumption))))
    · have hres : rcov r = (⟨(headE r.es).key, (nxt (lastE r.es).key).1, (nxt (lastE r.es).key).2 == 0⟩, 0) := by unfold rcov; rw [if_neg (by simp [e]), if_neg f]
      rw [hres]
      have hl := lastE_get f
      have hh := headE_get f
      have hln := (h.ents.ok _ (List.mem_of_getElem? hl)).1
      have hN := fun w => keysNext (lastE r.es).key w hln
      obtain ⟨b, off, hab, hat⟩ := h.ents.get (k := 0) (Nat.pos_of_ne_zero f)
      have d0 := (hat _ _ hh).key
      have d1 := (hat _ _ hl).key
      have h1 : 0 < r.es.length := Nat.pos_of_ne_zero f
      have hw : IntKind.i64.wrap ((r.es.length : Int) - 1) = (r.es.length : Int) - 1 := IntWalk.i64_in _ (by omega)
      have ht : ((r.es.length : Int) - 1).toNat = r.es.length - 1 := by omega
      have hp : (0 : Int) < (r.es.length : Int) := by omega
      have hp2 : (0 : Int) ≤ (r.es.length : Int) - 1 := by omega
      have hp3 : (1 : Int) ≤ (r.es.length : Int) := by omega
      have f' : ((r.es.length : Int) == 0) = false := by rw [beq_eq_false_iff_ne]; omega
      rw [e] at hC
      generalize (lastE r.es).key = lk at *
      generalize (headE r.es).key = hk at *
      generalize (nxt lk).1 = v1 at *
      generalize (nxt lk).2 = v2 at *
      simp only [Nat.zero_mul, Nat.add_zero] at d0
      have HN := Lib.hid hN
      clear e hres hl hh hln hat hN f
      subst hab
      generalize (rck r).1 = p1 at *
      have HC := Lib.hid hC
      have HO := Lib.hid h
      obtain ⟨id, l⟩ := r
      unfold Rn.v Rng.v
      simp only at *
      clear hC h
      go_enter Tryd.func10, Tryd.ntmps10
      go_wp2_with fail
      refine (HC.out _ (HO.out.bl (by repeat (first | assumption | exact Bl.refl _ | apply Bl.drewN | apply Bl.drew | apply Bl.alloc | (refine Bl.dr ?_ (by assumption)) | (refine Bl.trans ?_ (by assumption)))))).mono ?_; rintro e w1 ⟨rfl, hb1⟩
      have c1 : World.cell? w1 ⟨w.heap.size, 1, none⟩ = some (.slice (some ⟨b, off, none⟩) l.length c) := hb1.cell (by simp [go_sem])
      have z0 : World.cell? w1 ⟨w.heap.size + 1, 0, none⟩ = some (.string ⟨#[]⟩) := hb1.cell (by simp [go_sem])
      have z1 : World.cell? w1 ⟨w.heap.size + 1, 1, none⟩ = some (.string ⟨#[]⟩) := hb1.cell (by simp [go_sem])
      have z2 : World.cell? w1 ⟨w.heap.size + 1, 2, none⟩ = some (.bool false) := hb1.cell (by simp [go_sem])
      have y0 : World.frozen? w1 ⟨w.heap.size + 1, 0, none⟩ = false := hb1.frozen (by simp [go_sem]; rfl) (by simp [go_sem])
      have y1 : World.frozen? w1 ⟨w.heap.size + 1, 1, none⟩ = false := hb1.frozen (by simp [go_sem]; rfl) (by simp [go_sem])
      have y2 : World.frozen? w1 ⟨w.heap.size + 1, 2, none⟩ = false := hb1.frozen (by simp [go_sem]; rfl) (by simp [go_sem])
      have hb : Bl w w1 := (by repeat (first | assumption | exact Bl.refl _ | apply Bl.drewN | apply Bl.drew | apply Bl.alloc | (refine Bl.dr ?_ (by assumption)) | (refine Bl.trans ?_ (by assumption))))
      clear hb1
      have d1' := hb.cell d1
      go_wp2_with fail
      refine (HN.out _).mono ?_; rintro e w2 ⟨rfl, hb2⟩
      have hb := hb.trans hb2
      have y0 := Bl.frozen hb2 z0 y0
      have y1 := Bl.frozen hb2 z1 y1
      have y2 := Bl.frozen hb2 z2 y2
      have c1 := Bl.cell hb2 c1
      have z0 := Bl.cell hb2 z0
      have z1 := Bl.cell hb2 z1
      have z2 := Bl.cell hb2 z2
      have d0' := hb.cell d0
      clear hb2 d1'
      go_wp2_with fail
      
      refine bodyPost_ret (v := .tuple #[.agg #[.string hk, .string v1, .bool (v2 == 0)], .int .i64 0]) (by simp [results, Tryd.results10, go_sem, *]) rfl ?_
      exact RB.mk rfl (by repeat (first | assumption | exact Bl.refl _ | apply Bl.drewN | apply Bl.drew | apply Bl.alloc | (refine Bl.setCell ?_ _ (by first | (simp; done) | (simp; omega)) _) | (refine Bl.dr ?_ (by assumption)) | (refine Bl.trans ?_ (by assumption))))
  · have hres : rcov r = (rng0, (rck r).2) := by unfold rcov; rw [if_pos e]
    rw [hres]
    have e' : ((rck r).2 != 0) = true := by simp [e]
    generalize (rck r).2 = q at *
    clear hres e
    generalize (rck r).1 = p1 at *
    have HC := Lib.hid hC
    have HO := Lib.hid h
    obtain ⟨id, l⟩ := r
    unfold Rn.v Rng.v
    simp only at *
    clear hC h
    go_enter Tryd.func10, Tryd.ntmps10
    go_wp2_with fail
    refine (HC.out _ (HO.out.bl (by repeat (first | assumption | exact Bl.refl _ | apply Bl.drewN | apply Bl.drew | apply Bl.alloc | (refine Bl.dr ?_ (by assumption)) | (refine Bl.trans ?_ (by assumption)))))).mono ?_; rintro e w1 ⟨rfl, hb1⟩
    have c1 : World.cell? w1 ⟨w.heap.size, 1, none⟩ = some (.slice (a) l.length c) := hb1.cell (by simp [go_sem])
    have z0 : World.cell? w1 ⟨w.heap.size + 1, 0, none⟩ = some (.string ⟨#[]⟩) := hb1.cell (by simp [go_sem])
    have z1 : World.cell? w1 ⟨w.heap.size + 1, 1, none⟩ = some (.string ⟨#[]⟩) := hb1.cell (by simp [go_sem])
    have z2 : World.cell? w1 ⟨w.heap.size + 1, 2, none⟩ = some (.bool false) := hb1.cell (by simp [go_sem])
    have y0 : World.frozen? w1 ⟨w.heap.size + 1, 0, none⟩ = false := hb1.frozen (by simp [go_sem]; rfl) (by simp [go_sem])
    have y1 : World.frozen? w1 ⟨w.heap.size + 1, 1, none⟩ = false := hb1.frozen (by simp [go_sem]; rfl) (by simp [go_sem])
    have y2 : World.frozen? w1 ⟨w.heap.size + 1, 2, none⟩ = false := hb1.frozen (by simp [go_sem]; rfl) (by simp [go_sem])
    have hb : Bl w w1 := (by repeat (first | assumption | exact Bl.refl _ | apply Bl.drewN | apply Bl.drew | apply Bl.alloc | (refine Bl.dr ?_ (by assumption)) | (refine Bl.trans ?_ (by assumption))))
    clear hb1
    go_wp2_with fail
    
    refine bodyPost_ret (v := .tuple #[.agg #[.string ⟨#[]⟩, .string ⟨#[]⟩, .bool false], .int .i64 q]) (by simp [results, Tryd.results10, go_sem, *]) rfl ?_
    exact RB.mk rfl (by repeat (first | assumption | exact Bl.refl _ | apply Bl.drewN | apply Bl.drew | apply Bl.alloc | (refine Bl.setCell ?_ _ (by first | (simp; done) | (simp; omega)) _) | (refine Bl.dr ?_ (by assumption)) | (refine Bl.trans ?_ (by assumption))))

end Go.Proofs.YtndcjgkgkpkklaaDoor
/-
  Plain facts of words: quoted forms.
-/
namespace Go.Proofs.YtndcjgkgkpkklaaDoor
set_option linter.unusedSimpArgs false
set_option linter.unusedVariables false

def plainB (c : UInt8) : Bool := decide (32 ≤ c.toNat) && decide (c.toNat ≤ 126) && decide (c ≠ 34) && decide (c ≠ 92)
def letB (c : UInt8) : UInt8 := if c = 34 then 34 else if c = 92 then 92 else if c = 10 then 110 else if c = 13 then 114 else if c = 9 then 116 else 0
def hxd (n : Nat) : UInt8 := if n < 10 then UInt8.ofNat (48 + n) else UInt8.ofNat (87 + n)
def escW (c : UInt8) : List UInt8 := if plainB c then [c] else if letB c ≠ 0 then [92, letB c] else [92, 120, hxd (c.toNat / 16), hxd (c.toNat % 16)]
def quoteW (l : List UInt8) : List UInt8 := 34 :: (l.flatMap escW ++ [34])
/-- The value of a digit of base 16. -/
def unhx (b : UInt8) : Option Nat := if 48 ≤ b.toNat ∧ b.toNat ≤ 57 then some (b.toNat - 48) else if 97 ≤ b.toNat ∧ b.toNat ≤ 102 then some (b.toNat - 87) else none
def unlet (l : UInt8) : Option UInt8 := if l = 34 then some 34 else if l = 92 then some 92 else if l = 110 then some 10 else if l = 114 then some 13 else if l = 116 then some 9 else none
/-- An escape, without its backslash: its byte and its length. -/
def unesc : List UInt8 → Option (UInt8 × Nat)
  | [] => none
  | l :: r => match unlet l with
    | some c => some (c, 1)
    | none => if l = 120 then match r with
        | a :: b :: _ => match unhx a, unhx b with
          | some h, some k => if plainB (UInt8.ofNat (h * 16 + k)) ∨ letB (UInt8.ofNat (h * 16 + k)) ≠ 0 then none else some (UInt8.ofNat (h * 16 + k), 3)
          | _, _ => none
        | _ => none
      else none
/-- The byte whose form stands at the beginning. -/
def dec1 : List UInt8 → Option (UInt8 × Nat)
  | [] => none
  | c :: r => if c = 92 then (unesc r).map fun x => (x.1, x.2 + 1) else if plainB c then some (c, 1) else none
theorem byte_all {P : UInt8 → Prop} [DecidablePred P] (h : ∀ n : Fin 256, P (UInt8.ofFin n)) (c : UInt8) : P c := h c.toFin
theorem unhx_hxd : ∀ c : UInt8, unhx (hxd (c.toNat / 16)) = some (c.toNat / 16) ∧ unhx (hxd (c.toNat % 16)) = some (c.toNat % 16) := byte_all (by decide +kernel)
theorem join_hx : ∀ c : UInt8, UInt8.ofNat (c.toNat / 16 * 16 + c.toNat % 16) = c := byte_all (by decide +kernel)
theorem unlet_let : ∀ c : UInt8, letB c ≠ 0 → unlet (letB c) = some c := byte_all (by decide +kernel)
theorem let_unlet : ∀ l : UInt8, ∀ c, unlet l = some c → letB c = l ∧ l ≠ 0 ∧ plainB c = false ∨ (c = 34 ∨ c = 92 ∨ c = 10 ∨ c = 13 ∨ c = 9) ∧ letB c = l ∧ l ≠ 0 ∧ plainB c = false := by
  intro l c h
  left
  unfold unlet at h
  repeat (split at h; (· rename_i e; injection h with h; subst h e; decide))
  cases h
theorem unlet120 : unlet 120 = none := by decide
theorem plain_ne : ∀ c : UInt8, plainB c = true → c ≠ 92 ∧ c ≠ 34 := byte_all (by decide +kernel)
theorem esc_dec (c : UInt8) (r : List UInt8) : dec1 (escW c ++ r) = some (c, (escW c).length) := by
  unfold escW
  by_cases hp : plainB c = true
  · rw [if_pos hp]
    have := plain_ne c hp
    simp [dec1, this.1, hp]
  · rw [if_neg hp]
    by_cases hl : letB c ≠ 0
    · rw [if_pos hl]
      simp [dec1, unesc, unlet_let c hl]
    · rw [if_neg hl]
      have h1 := unhx_hxd c
      have hp' : plainB c = false := by simpa using hp
      have hl' : letB c = 0 := Decidable.not_not.1 hl
      have h2 := join_hx c
      simp only [dec1, List.cons_append, if_true, unesc, unlet120, h1.1, h1.2, h2, hp', hl']
      simp
theorem hxd_unhx : ∀ b : UInt8, ∀ h, unhx b = some h → hxd h = b ∧ h < 16 := by
  intro b h e
  unfold unhx at e
  split at e
  · injection e with e; subst e
    refine ⟨?_, by omega⟩
    unfold hxd; rw [if_pos (by omega)]
    rw [show 48 + (b.toNat - 48) = b.toNat by omega]; simp
  · split at e
    · injection e with e; subst e
      refine ⟨?_, by omega⟩
      unfold hxd; rw [if_neg (by omega)]
      rw [show 87 + (b.toNat - 87) = b.toNat by omega]; simp
    · cases e
theorem unesc_esc {r : List UInt8} {c : UInt8} {n : Nat} (h : unesc r = some (c, n)) : ∃ s, 92 :: r = escW c ++ s ∧ n + 1 = (escW c).length := by
  match r with
  | [] => simp [unesc] at h
  | l :: r =>
    simp only [unesc] at h
    cases hu : unlet l with
    | some c' =>
      rw [hu] at h
      simp at h
      obtain ⟨rfl, rfl⟩ := h
      rcases let_unlet _ _ hu with ⟨h1, h2, h3⟩ | ⟨_, h1, h2, h3⟩ <;>
      · refine ⟨r, ?_, ?_⟩ <;> simp [escW, h3, h1, h2]
    | none =>
      rw [hu] at h
      simp only at h
      by_cases e : l = 120
      · rw [if_pos e] at h
        subst e
        match r with
        | [] => simp at h
        | [_] => simp at h
        | a :: b :: r =>
          simp only at h
          cases h1 : unhx a with
          | none => rw [h1] at h; simp at h
          | some hh =>
            cases h2 : unhx b with
            | none => rw [h1, h2] at h; simp at h
            | some kk =>
              rw [h1, h2] at h
              simp only at h
              split at h
              · cases h
              · rename_i hno
                injection h with h
                injection h with h0 h3
                subst h0 h3
                obtain ⟨u1, u2⟩ := hxd_unhx _ _ h1
                obtain ⟨v1, v2⟩ := hxd_unhx _ _ h2
                have hn : (UInt8.ofNat (hh * 16 + kk)).toNat = hh * 16 + kk := by simp; omega
                have g1 : plainB (UInt8.ofNat (hh * 16 + kk)) = false := by
                  cases q : plainB (UInt8.ofNat (hh * 16 + kk))
                  · rfl
                  · exact absurd (Or.inl q) hno
                have g2 : letB (UInt8.ofNat (hh * 16 + kk)) = 0 := Decidable.byContradiction fun q => hno (Or.inr q)
                refine ⟨r, ?_, ?_⟩
                · unfold escW
                  rw [g1, g2, hn, show (hh * 16 + kk) / 16 = hh by omega, show (hh * 16 + kk) % 16 = kk by omega, u1, v1]
                  rfl
                · unfold escW; rw [g1, g2]; rfl
      · rw [if_neg e] at h; cases h
theorem dec_esc {t : List UInt8} {c : UInt8} {n : Nat} (h : dec1 t = some (c, n)) : ∃ r, t = escW c ++ r ∧ n = (escW c).length := by
  match t with
  | [] => cases h
  | x :: r =>
    simp only [dec1] at h
    by_cases e : x = 92
    · rw [if_pos e] at h
      subst e
      cases hu : unesc r with
      | none => rw [hu] at h; cases h
      | some p =>
        rw [hu] at h
        obtain ⟨c', n'⟩ := p
        simp at h
        obtain ⟨rfl, rfl⟩ := h
        exact unesc_esc hu
    · rw [if_neg e] at h
      by_cases hp : plainB x = true
      · rw [if_pos hp] at h
        simp at h
        obtain ⟨rfl, rfl⟩ := h
        exact ⟨r, by simp [escW, hp], by simp [escW, hp]⟩
      · rw [if_neg hp] at h; cases h
/-! ### A quoted form, behind its first mark -/
def unqG : Nat → List UInt8 → Option (List UInt8 × Nat)
  | 0, _ => none
  | _ + 1, [] => none
  | f + 1, c :: r => if c = 34 then some ([], 1) else match dec1 (c :: r) with
    | none => none
    | some (x, n) => (unqG f ((c :: r).drop n)).map fun p => (x :: p.1, n + p.2)
def unq (t : List UInt8) : Option (List UInt8 × Nat) := unqG t.length t
theorem escW_pos (c : UInt8) : 1 ≤ (escW c).length := by unfold escW; split <;> (try split) <;> simp
theorem dec_pos {t : List UInt8} {c : UInt8} {n : Nat} (h : dec1 t = some (c, n)) : 1 ≤ n ∧ n ≤ t.length := by
  obtain ⟨r, h1, h2⟩ := dec_esc h
  have := escW_pos c
  rw [h1, h2, List.length_append]; omega
theorem unqG_fuel : ∀ (f : Nat) (t : List UInt8), t.length ≤ f → unqG f t = unqG t.length t := by
  intro f
  induction f using Nat.strongRecOn with
  | ind f ih =>
    intro t ht
    match f, t with
    | 0, [] => rfl
    | 0, c :: r => simp at ht
    | f + 1, [] => rfl
    | f + 1, c :: r =>
      simp only [List.length_cons] at ht ⊢
      simp only [unqG]
      by_cases e : c = 34
      · rw [if_pos e, if_pos e]
      · rw [if_neg e, if_neg e]
        cases hd : dec1 (c :: r) with
        | none => rfl
        | some p =>
          obtain ⟨x, n⟩ := p
          have hp := dec_pos hd
          simp only [List.length_cons] at hp
          have hl : ((c :: r).drop n).length ≤ r.length := by simp; omega
          simp only
          rw [ih f (by omega) _ (by omega), ← ih r.length (by omega) _ hl]
theorem unq_nil : unq [] = none := rfl
theorem unq_end (r : List UInt8) : unq (34 :: r) = some ([], 1) := by simp [unq, unqG]
theorem unq_step {c : UInt8} {r : List UInt8} {x : UInt8} {n : Nat} (h : c ≠ 34) (hd : dec1 (c :: r) = some (x, n)) : unq (c :: r) = (unq ((c :: r).drop n)).map fun p => (x :: p.1, n + p.2) := by
  have hp := dec_pos hd
  simp only [List.length_cons] at hp
  unfold unq
  simp only [List.length_cons, unqG]
  rw [if_neg h, hd]
  simp only
  rw [unqG_fuel r.length _ (by simp; omega)]
theorem unq_bad {c : UInt8} {r : List UInt8} (h : c ≠ 34) (hd : dec1 (c :: r) = none) : unq (c :: r) = none := by
  unfold unq
  simp only [List.length_cons, unqG]
  rw [if_neg h, hd]
theorem escW_head (c : UInt8) (r : List UInt8) : ∃ d s, escW c ++ r = d :: s ∧ d ≠ 34 := by
  unfold escW
  split
  · rename_i hp; exact ⟨c, r, rfl, (plain_ne c hp).2⟩
  · split
    · exact ⟨92, _, rfl, by decide⟩
    · exact ⟨92, _, rfl, by decide⟩
theorem unq_quote (l r : List UInt8) : unq (l.flatMap escW ++ 34 :: r) = some (l, (l.flatMap escW).length + 1) := by
  induction l with
  | nil => simp [unq_end]
  | cons c l ih =>
    rw [List.flatMap_cons, List.append_assoc]
    obtain ⟨d, s, hs, hd⟩ := escW_head c (l.flatMap escW ++ 34 :: r)
    have hx := esc_dec c (l.flatMap escW ++ 34 :: r)
    rw [hs] at hx ⊢
    rw [unq_step hd hx, ← hs, List.drop_left, ih]
    simp; omega
theorem quote_unq : ∀ {k : Nat} {t l : List UInt8} {n : Nat}, t.length ≤ k → unq t = some (l, n) → t = l.flatMap escW ++ 34 :: t.drop n ∧ n = (l.flatMap escW).length + 1
  | 0, [], l, n, _, h => by cases h
  | k + 1, [], l, n, _, h => by cases h
  | 0, _ :: _, l, n, hk, _ => by simp at hk
  | k + 1, c :: r, l, n, hk, h => by
    by_cases e : c = 34
    · subst e
      rw [unq_end] at h
      simp at h
      obtain ⟨rfl, rfl⟩ := h
      simp
    · cases hd : dec1 (c :: r) with
      | none => rw [unq_bad e hd] at h; cases h
      | some p =>
        obtain ⟨x, m⟩ := p
        rw [unq_step e hd] at h
        have hp := dec_pos hd
        obtain ⟨s, hs, hm⟩ := dec_esc hd
        cases hu : unq ((c :: r).drop m) with
        | none => rw [hu] at h; cases h
        | some q =>
          obtain ⟨l', n'⟩ := q
          rw [hu] at h
          simp at h
          obtain ⟨rfl, rfl⟩ := h
          have ih := quote_unq (k := k) (by simp at hk hp ⊢; omega) hu
          have hdrop : (c :: r).drop m = s := by rw [hs, hm, List.drop_left]
          rw [hdrop] at ih
          refine ⟨?_, ?_⟩
          · rw [← List.drop_drop, hdrop, List.flatMap_cons, List.append_assoc, ← ih.1]; exact hs
          · rw [ih.2, List.flatMap_cons, List.length_append, hm]; omega
/-! ### Fields of a line -/
structure Fld where
  s : List UInt8
  q : Bool
def bareW (l : List UInt8) : Bool := !l.isEmpty && l.all (fun c => plainB c && c != 32)
def Fld.txt (f : Fld) : List UInt8 := if f.q then quoteW f.s else f.s
def Fld.val (f : Fld) : Bool := f.q || bareW f.s
def wordOf (t : List UInt8) : List UInt8 := t.takeWhile (fun c => c != 32)
def bare1 (t : List UInt8) : Option (Fld × Nat) := if bareW (wordOf t) then some (⟨wordOf t, false⟩, (wordOf t).length) else none
/-- A quoted form at the beginning. -/
def unq1 : List UInt8 → Option (List UInt8 × Nat)
  | [] => none
  | c :: r => if c = 34 then (unq r).map fun p => (p.1, p.2 + 1) else none
def head1 (t : List UInt8) : Option (Fld × Nat) := match unq1 t with
  | some p => some (⟨p.1, true⟩, p.2)
  | none => bare1 t
def splitG : Nat → List UInt8 → Option (List Fld)
  | 0, _ => none
  | f + 1, t => match head1 t with
    | none => none
    | some x => match t.drop x.2 with
      | [] => some [x.1]
      | c :: r => if c = 32 then (splitG f r).map (x.1 :: ·) else none
def joinW : List Fld → List UInt8
  | [] => []
  | [f] => f.txt
  | f :: g :: l => f.txt ++ 32 :: joinW (g :: l)
theorem bare_pos {l : List UInt8} (h : bareW l = true) : l ≠ [] ∧ ∀ c ∈ l, plainB c = true ∧ c ≠ 32 := by
  unfold bareW at h
  simp at h
  exact ⟨h.1, fun c hc => h.2 c hc⟩
theorem unq1_quote (l r : List UInt8) : unq1 (quoteW l ++ r) = some (l, (quoteW l).length) := by
  unfold quoteW unq1
  simp [unq_quote]
theorem unq1_inv {t l : List UInt8} {n : Nat} (h : unq1 t = some (l, n)) : t = quoteW l ++ t.drop n ∧ n = (quoteW l).length := by
  match t with
  | [] => cases h
  | c :: r =>
    simp only [unq1] at h
    by_cases e : c = 34
    · rw [if_pos e] at h
      subst e
      cases hu : unq r with
      | none => rw [hu] at h; cases h
      | some p =>
        obtain ⟨l', m⟩ := p
        rw [hu] at h
        simp at h
        obtain ⟨rfl, rfl⟩ := h
        obtain ⟨h1, h2⟩ := quote_unq (k := r.length) (Nat.le_refl _) hu
        refine ⟨?_, ?_⟩
        · simp only [List.drop_succ_cons]
          unfold quoteW
          simp only [List.cons_append, List.append_assoc, List.nil_append]
          rw [← h1]
        · unfold quoteW; simp [h2]
    · rw [if_neg e] at h; cases h
theorem word_stop {w r : List UInt8} (h : ∀ c ∈ w, c ≠ 32) (hr : r = [] ∨ ∃ s, r = 32 :: s) : wordOf (w ++ r) = w := by
  unfold wordOf
  induction w with
  | nil =>
    rcases hr with rfl | ⟨s, rfl⟩ <;> simp
  | cons c w ih =>
    have h0 := h c (by simp)
    simp [h0, ih (fun d hd => h d (by simp [hd]))]
theorem word_drop (t : List UInt8) : t = wordOf t ++ t.drop (wordOf t).length ∧ (t.drop (wordOf t).length = [] ∨ ∃ s, t.drop (wordOf t).length = 32 :: s) := by
  unfold wordOf
  induction t with
  | nil => simp
  | cons c t ih =>
    by_cases h : c = 32
    · subst h; simp
    · simp only [List.takeWhile_cons, bne_iff_ne, ne_eq, h, not_false_eq_true, if_true, List.length_cons, List.drop_succ_cons, List.cons_append]
      exact ⟨by rw [← ih.1], ih.2⟩
theorem head1_txt {f : Fld} (hv : f.val = true) {r : List UInt8} (hr : r = [] ∨ ∃ s, r = 32 :: s) : head1 (f.txt ++ r) = some (f, f.txt.length) := by
  obtain ⟨s, q⟩ := f
  unfold head1 Fld.txt
  cases q
  · have hb : bareW s = true := by simpa [Fld.val] using hv
    obtain ⟨h1, h2⟩ := bare_pos hb
    have hw := word_stop (w := s) (fun c hc => (h2 c hc).2) hr
    have hu : unq1 (s ++ r) = none := by
      match s, h1 with
      | c :: s, _ =>
        have := (plain_ne c (h2 c (by simp)).1).2
        simp [unq1, this]
    simp only [Bool.false_eq_true, if_false]
    rw [hu]
    simp only [bare1]
    rw [hw, if_pos hb]
  · simp only [if_true]
    rw [unq1_quote]
theorem head1_inv {t : List UInt8} {f : Fld} {n : Nat} (h : head1 t = some (f, n)) : t = f.txt ++ t.drop n ∧ n = f.txt.length ∧ f.val = true ∧ 1 ≤ n := by
  unfold head1 at h
  cases hu : unq1 t with
  | some p =>
    obtain ⟨l, m⟩ := p
    rw [hu] at h
    simp at h
    obtain ⟨rfl, rfl⟩ := h
    obtain ⟨h1, h2⟩ := unq1_inv hu
    exact ⟨by simpa [Fld.txt] using h1, by simpa [Fld.txt] using h2, rfl, by rw [h2]; simp [quoteW]⟩
  | none =>
    rw [hu] at h
    simp only [bare1] at h
    split at h
    · rename_i hb
      simp at h
      obtain ⟨rfl, rfl⟩ := h
      refine ⟨by simpa [Fld.txt] using (word_drop t).1, by simp [Fld.txt], by simpa [Fld.val] using hb, ?_⟩
      have := (bare_pos hb).1
      exact List.length_pos_iff.2 this
    · cases h
theorem split_join : ∀ (l : List Fld) (f : Nat), l ≠ [] → (∀ x ∈ l, x.val = true) → (joinW l).length < f → splitG f (joinW l) = some l
  | [], _, h, _, _ => absurd rfl h
  | [x], f + 1, _, hv, _ => by
    have := head1_txt (hv x (by simp)) (r := []) (.inl rfl)
    rw [List.append_nil] at this
    simp [joinW, splitG, this]
  | x :: y :: l, f + 1, _, hv, hf => by
    have h1 := head1_txt (hv x (by simp)) (r := 32 :: joinW (y :: l)) (.inr ⟨_, rfl⟩)
    have ih := split_join (y :: l) f (by simp) (fun z hz => hv z (by simp [hz])) (by simp [joinW] at hf ⊢; omega)
    simp only [joinW, splitG, h1, List.drop_left]
    rw [if_pos trivial, ih]; rfl
  | _ :: _, 0, _, _, hf => by omega
theorem join_split : ∀ (f : Nat) (t : List UInt8) (l : List Fld), splitG f t = some l → t = joinW l ∧ l ≠ [] ∧ ∀ x ∈ l, x.val = true
  | 0, _, _, h => by cases h
  | f + 1, t, l, h => by
    simp only [splitG] at h
    cases hh : head1 t with
    | none => rw [hh] at h; cases h
    | some p =>
      obtain ⟨x, n⟩ := p
      rw [hh] at h
      obtain ⟨h1, h2, h3, h4⟩ := head1_inv hh
      simp only at h
      cases hd : t.drop n with
      | nil =>
        rw [hd] at h h1
        simp at h
        subst h
        exact ⟨by simpa [joinW] using h1, by simp, by simpa using h3⟩
      | cons c r =>
        rw [hd] at h h1
        simp only at h
        by_cases e : c = 32
        · rw [if_pos e] at h
          subst e
          cases hs : splitG f r with
          | none => rw [hs] at h; cases h
          | some l' =>
            rw [hs] at h
            simp at h
            subst h
            obtain ⟨k1, k2, k3⟩ := join_split f r l' hs
            match l', k2 with
            | y :: l', _ =>
              refine ⟨by simp only [joinW]; rw [← k1]; exact h1, by simp, ?_⟩
              intro z hz
              rcases List.mem_cons.1 hz with rfl | hz
              · exact h3
              · exact k3 z hz
        · rw [if_neg e] at h; cases h
theorem join_app : ∀ (l m : List Fld), l ≠ [] → m ≠ [] → joinW (l ++ m) = joinW l ++ 32 :: joinW m
  | [], _, h, _ => absurd rfl h
  | _, [], _, h => absurd rfl h
  | [x], y :: m, _, _ => rfl
  | x :: z :: l, y :: m, _, hm => by
    have ih := join_app (z :: l) (y :: m) (by simp) hm
    simp only [List.cons_append, joinW, List.append_assoc] at ih ⊢
    rw [ih]
end Go.Proofs.YtndcjgkgkpkklaaDoor
/-
  Contracts of words: bytes that stand for themselves; small facts of the reference.
-/
namespace Go.Proofs.YtndcjgkgkpkklaaDoor
open Go.RowKit
set_option linter.unusedSimpArgs false
set_option linter.unusedVariables false
set_option maxRecDepth 100000

theorem u8_ne {c d : UInt8} (h : c ≠ d) : ((c.toNat : Int) == (d.toNat : Int)) = false := by
  rw [beq_eq_false_iff_ne]
  intro e
  exact h (UInt8.toNat_inj.1 (by omega))
theorem u8_nn {c d : UInt8} (h : c ≠ d) : ¬ c.toNat = d.toNat := fun e => h (UInt8.toNat_inj.1 e)
theorem u8_bne {c d : UInt8} (h : c ≠ d) : ((c.toNat : Int) != (d.toNat : Int)) = true := by rw [bne, u8_ne h]; rfl
theorem plainB_a {c : UInt8} (h : ¬ 32 ≤ c.toNat) : plainB c = false := by simp [plainB]; intro h1; omega
theorem plainB_b {c : UInt8} (h : ¬ c.toNat ≤ 126) : plainB c = false := by simp [plainB]; intro _ h1; omega
theorem plainB_c {c : UInt8} (h : c = 34) : plainB c = false := by subst h; rfl
theorem plainB_d {c : UInt8} (h : c = 92) : plainB c = false := by subst h; rfl
theorem plainB_e {c : UInt8} (h1 : 32 ≤ c.toNat) (h2 : c.toNat ≤ 126) (h3 : ¬ c = 34) (h4 : ¬ c = 92) : plainB c = true := by simp [plainB, h1, h2, h3, h4]
set_option maxHeartbeats 2000000 in
theorem woPlain (c : UInt8) (w : World) : Calls Tryd.prog 38 #[.int .u8 (c.toNat : Nat)] w (RB w (.bool (plainB c))) := by
  by_cases h1 : 32 ≤ c.toNat
  · by_cases h2 : c.toNat ≤ 126
    · by_cases h3 : c = 34
      · rw [plainB_c h3]
        subst h3
        clear h1 h2
        go_enter Tryd.func38, Tryd.ntmps38
        go_wp2_with fail
        go_ret
        exact RB.mk rfl (by repeat (first | assumption | exact Bl.refl _ | apply Bl.drewN | apply Bl.drew | apply Bl.alloc | (refine Bl.dr ?_ (by assumption)) | (refine Bl.trans ?_ (by assumption))))
      · by_cases h4 : c = 92
        · rw [plainB_d h4]
          subst h4
          clear h1 h2 h3
          go_enter Tryd.func38, Tryd.ntmps38
          go_wp2_with fail
          go_ret
          exact RB.mk rfl (by repeat (first | assumption | exact Bl.refl _ | apply Bl.drewN | apply Bl.drew | apply Bl.alloc | (refine Bl.dr ?_ (by assumption)) | (refine Bl.trans ?_ (by assumption))))
        · rw [plainB_e h1 h2 h3 h4]
          have e3 : ((c.toNat : Int) != 34) = true := u8_bne (d := 34) h3
          have e4 : ((c.toNat : Int) != 92) = true := u8_bne (d := 92) h4
          have p1 : (32 : Int) ≤ (c.toNat : Int) := by omega
          have p2 : (c.toNat : Int) ≤ 126 := by omega
          clear h3 h4
          go_enter Tryd.func38, Tryd.ntmps38
          go_wp2_with fail
          go_ret
          exact RB.mk rfl (by repeat (first | assumption | exact Bl.refl _ | apply Bl.drewN | apply Bl.drew | apply Bl.alloc | (refine Bl.dr ?_ (by assumption)) | (refine Bl.trans ?_ (by assumption))))
    · rw [plainB_b h2]
      have p1 : (32 : Int) ≤ (c.toNat : Int) := by omega
      have p2 : ¬ (c.toNat : Int) ≤ 126 := by omega
      go_enter Tryd.func38, Tryd.ntmps38
      go_wp2_with fail
      go_ret
      exact RB.mk rfl (by repeat (first | assumption | exact Bl.refl _ | apply Bl.drewN | apply Bl.drew | apply Bl.alloc | (refine Bl.dr ?_ (by assumption)) | (refine Bl.trans ?_ (by assumption))))
  · rw [plainB_a h1]
    have p1 : ¬ (32 : Int) ≤ (c.toNat : Int) := by omega
    go_enter Tryd.func38, Tryd.ntmps38
    go_wp2_with fail
    go_ret
    exact RB.mk rfl (by repeat (first | assumption | exact Bl.refl _ | apply Bl.drewN | apply Bl.drew | apply Bl.alloc | (refine Bl.dr ?_ (by assumption)) | (refine Bl.trans ?_ (by assumption))))
end Go.Proofs.YtndcjgkgkpkklaaDoor
/-
  Contracts of words: the letter of an escape.
-/
namespace Go.Proofs.YtndcjgkgkpkklaaDoor
open Go.RowKit
set_option linter.unusedSimpArgs false
set_option linter.unusedVariables false
set_option maxRecDepth 100000

def escL : List Nat := [34, 34, 92, 92, 10, 110, 13, 114, 9, 116]
/-- The variable escapes lies as it was laid. -/
structure EscTab (w : World) : Prop where
  at_ : ∀ i, i < 10 → w.cell? ⟨0, i, none⟩ = some (.int .u8 ((escL.getD i 0 : Nat) : Int))
theorem EscTab.bl {w w' : World} (h : EscTab w) (k : Bl w w') : EscTab w' := ⟨fun i hi => k.cell (h.at_ i hi)⟩
abbrev escV : Value := .agg #[.int .u8 34, .int .u8 34, .int .u8 92, .int .u8 92, .int .u8 10, .int .u8 110, .int .u8 13, .int .u8 114, .int .u8 9, .int .u8 116]
theorem idx0 (w : World) : (Instr.index 94 escV (.int .i64 0)).run Tryd.prog w = .ok (.agg #[.int .u8 34, .int .u8 34]) w := by kernel_rfl
theorem idx1 (w : World) : (Instr.index 94 escV (.int .i64 1)).run Tryd.prog w = .ok (.agg #[.int .u8 92, .int .u8 92]) w := by kernel_rfl
theorem idx2 (w : World) : (Instr.index 94 escV (.int .i64 2)).run Tryd.prog w = .ok (.agg #[.int .u8 10, .int .u8 110]) w := by kernel_rfl
theorem idx3 (w : World) : (Instr.index 94 escV (.int .i64 3)).run Tryd.prog w = .ok (.agg #[.int .u8 13, .int .u8 114]) w := by kernel_rfl
theorem idx4 (w : World) : (Instr.index 94 escV (.int .i64 4)).run Tryd.prog w = .ok (.agg #[.int .u8 9, .int .u8 116]) w := by kernel_rfl
theorem letB_none {c : UInt8} (h : ∀ j, j < 5 → c.toNat ≠ escL.getD (2 * j) 0) : letB c = 0 := by
  have h0 := h 0 (by omega); have h1 := h 1 (by omega); have h2 := h 2 (by omega); have h3 := h 3 (by omega); have h4 := h 4 (by omega)
  simp [escL] at h0 h1 h2 h3 h4
  unfold letB
  rw [if_neg (by rintro rfl; exact h0 rfl), if_neg (by rintro rfl; exact h1 rfl), if_neg (by rintro rfl; exact h2 rfl), if_neg (by rintro rfl; exact h3 rfl), if_neg (by rintro rfl; exact h4 rfl)]
set_option maxHeartbeats 4000000 in
theorem woLetter (c : UInt8) (w : World) (h : EscTab w) : Calls Tryd.prog 37 #[.int .u8 (c.toNat : Nat)] w (RB w (.int .u8 ((letB c).toNat : Nat))) := by
  have d0 := h.at_ 0 (by omega); have d1 := h.at_ 1 (by omega); have d2 := h.at_ 2 (by omega); have d3 := h.at_ 3 (by omega); have d4 := h.at_ 4 (by omega)
  have d5 := h.at_ 5 (by omega); have d6 := h.at_ 6 (by omega); have d7 := h.at_ 7 (by omega); have d8 := h.at_ 8 (by omega); have d9 := h.at_ 9 (by omega)
  simp [escL] at d0 d1 d2 d3 d4 d5 d6 d7 d8 d9
  go_enter Tryd.func37, Tryd.ntmps37
  go_wp2_with fail
  clear d0 d1 d2 d3 d4 d5 d6 d7 d8 d9
  go_loopg [6] 5 (fun g i wr => ∃ k : Nat, k ≤ 5 ∧ i = .int .i64 k ∧ Bl w wr ∧ (∀ j, j < k → c.toNat ≠ escL.getD (2 * j) 0) ∧ g = 5 - k)
  case atStart => exact ⟨0, by omega, rfl, Bl.refl _, by intro j hj; omega, rfl⟩
  case round =>
    obtain ⟨k, hk, rfl, hbw, hno, hg⟩ := hrel
    have G := Lib.hid hg
    have HN := Lib.hid hno
    clear hg hno
    rcases (by omega : k = 0 ∨ k = 1 ∨ k = 2 ∨ k = 3 ∨ k = 4 ∨ k = 5) with rfl | rfl | rfl | rfl | rfl | rfl
    · have ix := idx0 wr
      by_cases hc : c.toNat = 34
      · have e : c = UInt8.ofNat 34 := UInt8.toNat_inj.1 (by rw [hc]; rfl)
        subst e
        clear hc
        go_wp2_with fail
        go_ret
        exact RB.mk rfl (by repeat (first | assumption | exact Bl.refl _ | apply Bl.drewN | apply Bl.drew | apply Bl.alloc | (refine Bl.dr ?_ (by assumption)) | (refine Bl.trans ?_ (by assumption))))
      · have e1 : ((34 : Int) == (c.toNat : Int)) = false := by rw [beq_eq_false_iff_ne]; omega
        go_wp2_with fail
        go_roundg (5 - (0 + 1))
        case rel =>
          refine ⟨0 + 1, by omega, by go_num, (by repeat (first | assumption | exact Bl.refl _ | apply Bl.drewN | apply Bl.drew | apply Bl.alloc | (refine Bl.dr ?_ (by assumption)) | (refine Bl.trans ?_ (by assumption)))), fun j hj => ?_, rfl⟩
          by_cases e : j = 0
          · subst e; simpa [escL] using hc
          · exact HN.out j (by omega)
        case measure => rw [G.out]; omega
    · have ix := idx1 wr
      by_cases hc : c.toNat = 92
      · have e : c = UInt8.ofNat 92 := UInt8.toNat_inj.1 (by rw [hc]; rfl)
        subst e
        clear hc
        go_wp2_with fail
        go_ret
        exact RB.mk rfl (by repeat (first | assumption | exact Bl.refl _ | apply Bl.drewN | apply Bl.drew | apply Bl.alloc | (refine Bl.dr ?_ (by assumption)) | (refine Bl.trans ?_ (by assumption))))
      · have e1 : ((92 : Int) == (c.toNat : Int)) = false := by rw [beq_eq_false_iff_ne]; omega
        go_wp2_with fail
        go_roundg (5 - (1 + 1))
        case rel =>
          refine ⟨1 + 1, by omega, by go_num, (by repeat (first | assumption | exact Bl.refl _ | apply Bl.drewN | apply Bl.drew | apply Bl.alloc | (refine Bl.dr ?_ (by assumption)) | (refine Bl.trans ?_ (by assumption)))), fun j hj => ?_, rfl⟩
          by_cases e : j = 1
          · subst e; simpa [escL] using hc
          · exact HN.out j (by omega)
        case measure => rw [G.out]; omega
    · have ix := idx2 wr
      by_cases hc : c.toNat = 10
      · have e : c = UInt8.ofNat 10 := UInt8.toNat_inj.1 (by rw [hc]; rfl)
        subst e
        clear hc
        go_wp2_with fail
        go_ret
        exact RB.mk rfl (by repeat (first | assumption | exact Bl.refl _ | apply Bl.drewN | apply Bl.drew | apply Bl.alloc | (refine Bl.dr ?_ (by assumption)) | (refine Bl.trans ?_ (by assumption))))
      · have e1 : ((10 : Int) == (c.toNat : Int)) = false := by rw [beq_eq_false_iff_ne]; omega
        go_wp2_with fail
        go_roundg (5 - (2 + 1))
        case rel =>
          refine ⟨2 + 1, by omega, by go_num, (by repeat (first | assumption | exact Bl.refl _ | apply Bl.drewN | apply Bl.drew | apply Bl.alloc | (refine Bl.dr ?_ (by assumption)) | (refine Bl.trans ?_ (by assumption)))), fun j hj => ?_, rfl⟩
          by_cases e : j = 2
          · subst e; simpa [escL] using hc
          · exact HN.out j (by omega)
        case measure => rw [G.out]; omega
    · have ix := idx3 wr
      by_cases hc : c.toNat = 13
      · have e : c = UInt8.ofNat 13 := UInt8.toNat_inj.1 (by rw [hc]; rfl)
        subst e
        clear hc
        go_wp2_with fail
        go_ret
        exact RB.mk rfl (by repeat (first | assumption | exact Bl.refl _ | apply Bl.drewN | apply Bl.drew | apply Bl.alloc | (refine Bl.dr ?_ (by assumption)) | (refine Bl.trans ?_ (by assumption))))
      · have e1 : ((13 : Int) == (c.toNat : Int)) = false := by rw [beq_eq_false_iff_ne]; omega
        go_wp2_with fail
        go_roundg (5 - (3 + 1))
        case rel =>
          refine ⟨3 + 1, by omega, by go_num, (by repeat (first | assumption | exact Bl.refl _ | apply Bl.drewN | apply Bl.drew | apply Bl.alloc | (refine Bl.dr ?_ (by assumption)) | (refine Bl.trans ?_ (by assumption)))), fun j hj => ?_, rfl⟩
          by_cases e : j = 3
          · subst e; simpa [escL] using hc
          · exact HN.out j (by omega)
        case measure => rw [G.out]; omega
    · have ix := idx4 wr
      by_cases hc : c.toNat = 9
      · have e : c = UInt8.ofNat 9 := UInt8.toNat_inj.1 (by rw [hc]; rfl)
        subst e
        clear hc
        go_wp2_with fail
        go_ret
        exact RB.mk rfl (by repeat (first | assumption | exact Bl.refl _ | apply Bl.drewN | apply Bl.drew | apply Bl.alloc | (refine Bl.dr ?_ (by assumption)) | (refine Bl.trans ?_ (by assumption))))
      · have e1 : ((9 : Int) == (c.toNat : Int)) = false := by rw [beq_eq_false_iff_ne]; omega
        go_wp2_with fail
        go_roundg (5 - (4 + 1))
        case rel =>
          refine ⟨4 + 1, by omega, by go_num, (by repeat (first | assumption | exact Bl.refl _ | apply Bl.drewN | apply Bl.drew | apply Bl.alloc | (refine Bl.dr ?_ (by assumption)) | (refine Bl.trans ?_ (by assumption)))), fun j hj => ?_, rfl⟩
          by_cases e : j = 4
          · subst e; simpa [escL] using hc
          · exact HN.out j (by omega)
        case measure => rw [G.out]; omega
    · have hn := letB_none HN.out
      have HL := Lib.hid hn
      clear hn
      go_wp2_with fail
      go_ret
      exact RB.mk (by rw [HL.out]; rfl) (by repeat (first | assumption | exact Bl.refl _ | apply Bl.drewN | apply Bl.drew | apply Bl.alloc | (refine Bl.dr ?_ (by assumption)) | (refine Bl.trans ?_ (by assumption))))
end Go.Proofs.YtndcjgkgkpkklaaDoor
/-
  Contracts of words: bare fields.
-/
namespace Go.Proofs.YtndcjgkgkpkklaaDoor
open Go.RowKit
set_option linter.unusedSimpArgs false
set_option linter.unusedVariables false
set_option maxRecDepth 100000

theorem bare_stop {l : List UInt8} {k : Nat} {c : UInt8} (h : l[k]? = some c) (hc : plainB c = false ∨ c = 32) : bareW l = false := by
  have hm := List.mem_of_getElem? h
  unfold bareW
  rw [Bool.and_eq_false_iff]
  right
  rw [List.all_eq_false]
  refine ⟨c, hm, ?_⟩
  rcases hc with e | rfl
  · simp [e]
  · simp
theorem bare_all {l : List UInt8} (h : ∀ (j : Nat) c, l[j]? = some c → plainB c = true ∧ c ≠ 32) : bareW l = !l.isEmpty := by
  unfold bareW
  have : l.all (fun c => plainB c && c != 32) = true := by
    rw [List.all_eq_true]
    intro c hc
    obtain ⟨j, hj, rfl⟩ := List.getElem_of_mem hc
    have := h j _ (List.getElem?_eq_getElem hj)
    simp [this.1, this.2]
  rw [this, Bool.and_true]
theorem str_get {s : ByteArray} {k : Nat} (h : k < s.size) : s.data.toList[k]? = some (s[k]'h) := by
  rw [List.getElem?_eq_getElem (by simpa using h)]; simp [ByteArray.getElem_eq_getElem_data]
end Go.Proofs.YtndcjgkgkpkklaaDoor
/-
  Plain facts of words: decimal forms.
-/
namespace Go.Proofs.YtndcjgkgkpkklaaDoor
set_option linter.unusedSimpArgs false
set_option linter.unusedVariables false
/-! ### Decimal forms -/
open Go.Lib
def digB (c : UInt8) : Bool := decide (48 ≤ c.toNat) && decide (c.toNat ≤ 57)
def isNat (l : List UInt8) : Bool := !l.isEmpty && l.all digB && (l.head? != some 48 || l == [48])
def isDec : List UInt8 → Bool
  | [] => false
  | c :: r => if c = 45 then isNat r && r != [48] else isNat (c :: r)
def natS (a : Nat) (c : UInt8) : Nat := a * 10 + (c.toNat - 48)
def natV (a : Nat) (l : List UInt8) : Nat := l.foldl natS a
def intV : List UInt8 → Int
  | [] => 0
  | c :: r => if c = 45 then -(natV 0 r : Int) else (natV 0 (c :: r) : Int)
theorem digB_iff {c : UInt8} : digB c = true ↔ 48 ≤ c.toNat ∧ c.toNat ≤ 57 := by simp [digB]
theorem natV_nil (a : Nat) : natV a [] = a := rfl
theorem natV_cons (a : Nat) (c : UInt8) (r : List UInt8) : natV a (c :: r) = natV (natS a c) r := List.foldl_cons ..
theorem natV_ge (l : List UInt8) : ∀ (a : Nat), a ≤ natV a l := by
  induction l with
  | nil => intro a; exact Nat.le_refl _
  | cons c r ih => intro a; rw [natV_cons]; exact Nat.le_trans (show a ≤ natS a c by unfold natS; omega) (ih _)
theorem natV_app (l r : List UInt8) : ∀ (a : Nat), natV a (l ++ r) = natV (natV a l) r := by
  induction l with
  | nil => intro a; rw [List.nil_append, natV_nil]
  | cons c l ih => intro a; rw [List.cons_append, natV_cons, natV_cons, ih]
theorem parseM {l : List UInt8} (hd : ∀ c ∈ l, digB c = true) : ∀ {a : Nat}, a ≤ 18446744073709551615 → parseUintM 18446744073709551615 a l = if natV a l ≤ 18446744073709551615 then .ok (natV a l) else .range := by
  induction l with
  | nil => intro a ha; simp [parseUintM, natV, ha]
  | cons c r ih =>
    intro a ha
    have h1 := digB_iff.1 (hd c (by simp))
    rw [natV_cons]
    simp only [parseUintM]
    rw [if_pos h1]
    have hge := natV_ge r (natS a c)
    have ih2 := fun h => ih (fun d hd' => hd d (by simp [hd'])) (a := natS a c) h
    generalize natV (natS a c) r = V at *
    unfold natS at hge ih2
    by_cases h2 : 1844674407370955162 ≤ a
    · rw [if_pos h2, if_neg (by omega)]
    · rw [if_neg h2]
      by_cases h3 : 18446744073709551615 < a * 10 + (c.toNat - 48)
      · rw [if_pos h3, if_neg (by omega)]
      · rw [if_neg h3]
        exact ih2 (by omega)
theorem isNat_iff {l : List UInt8} : isNat l = true ↔ l ≠ [] ∧ (∀ c ∈ l, digB c = true) ∧ (l.head? ≠ some 48 ∨ l = [48]) := by
  unfold isNat
  simp [and_assoc]
theorem parse_dec {l : List UInt8} (h : isDec l = true) : parseIntB 64 l = if -9223372036854775808 ≤ intV l ∧ intV l ≤ 9223372036854775807 then .ok (intV l) else .range := by
  match l with
  | [] => cases h
  | c :: r =>
    simp only [isDec] at h
    have e64 : 2 ^ 64 - 1 = 18446744073709551615 := by decide
    have e63 : 2 ^ (64 - 1) = 9223372036854775808 := by decide
    by_cases hc : c = 45
    · rw [if_pos hc] at h
      subst hc
      simp only [Bool.and_eq_true] at h
      obtain ⟨h1, h2, h3⟩ := isNat_iff.1 h.1
      have h45 : (45 : UInt8).toNat = 45 := rfl
      simp only [parseIntB, intV, parseUintB, h45]
      rw [if_pos (Or.inr trivial), if_pos trivial, if_neg h1, e64, parseM h2 (by omega), e63]
      generalize natV 0 r = V at *
      by_cases hr : V ≤ 18446744073709551615
      · rw [if_pos hr]
        simp only
        by_cases hn : 9223372036854775808 < V
        · rw [if_neg (by simp), if_pos ⟨trivial, hn⟩, if_neg (by omega)]
        · rw [if_neg (by simp), if_neg (fun q => hn q.2), if_pos trivial, if_pos (by omega)]
      · rw [if_neg hr, if_neg (by omega)]
    · rw [if_neg hc] at h
      obtain ⟨h1, h2, h3⟩ := isNat_iff.1 h
      have hd := digB_iff.1 (h2 c (by simp))
      have hn45 : ¬ c.toNat = 45 := by omega
      have hn43 : ¬ (c.toNat = 43 ∨ c.toNat = 45) := by omega
      simp only [parseIntB, intV, parseUintB, if_neg hn43, if_neg hc, if_neg h1]
      rw [e64, parseM h2 (by omega), e63]
      generalize natV 0 (c :: r) = V at *
      by_cases hr : V ≤ 18446744073709551615
      · rw [if_pos hr]
        simp only
        by_cases hn : 9223372036854775808 ≤ V
        · rw [if_pos ⟨hn45, hn⟩, if_neg (by omega)]
        · rw [if_neg (fun q => hn q.2), if_neg (fun q => hn45 q.1), if_neg hn45, if_pos ⟨by omega, by omega⟩]
      · rw [if_neg hr, if_neg (by omega)]
/-! ### The decimal form of a number -/
theorem dd_step (u : Nat) (h : ¬ u < 10) : decDigits u = decDigits (u / 10) ++ [UInt8.ofNat (48 + u % 10)] := by rw [decDigits, dif_neg h]
theorem digs : ∀ n : Nat, n < 10 → digB (UInt8.ofNat (48 + n)) = true ∧ (UInt8.ofNat (48 + n)).toNat - 48 = n := by
  intro n h
  have : (UInt8.ofNat (48 + n)).toNat = 48 + n := by simp; omega
  rw [digB_iff, this]; omega
theorem dd_facts (u : Nat) : isNat (decDigits u) = true ∧ natV 0 (decDigits u) = u ∧ (decDigits u = [48] → u = 0) := by
  induction u using Nat.strongRecOn with
  | _ u ih =>
    by_cases h : u < 10
    · rw [decDigits_one h]
      obtain ⟨d1, d2⟩ := digs u h
      refine ⟨isNat_iff.2 ⟨by simp, by simpa using d1, ?_⟩, by simp only [natV_cons, natV_nil, natS]; omega, ?_⟩
      · rcases Nat.eq_zero_or_pos u with rfl | h0
        · right; rfl
        · left
          simp only [List.head?_cons, ne_eq, Option.some.injEq]
          intro e
          rw [e] at d2
          have : (48 : UInt8).toNat = 48 := rfl
          omega
      · intro e
        injection e with e
        rw [e] at d2
        have : (48 : UInt8).toNat = 48 := rfl
        omega
    · rw [dd_step u h]
      obtain ⟨h1, h2, h3⟩ := ih (u / 10) (by omega)
      obtain ⟨i1, i2, i3⟩ := isNat_iff.1 h1
      obtain ⟨d1, d2⟩ := digs (u % 10) (by omega)
      refine ⟨isNat_iff.2 ⟨by simp, ?_, ?_⟩, ?_, ?_⟩
      · intro c hc
        rcases List.mem_append.1 hc with hc | hc
        · exact i2 c hc
        · rw [List.mem_singleton.1 hc]; exact d1
      · left
        match hd : decDigits (u / 10), i1 with
        | c :: r, _ =>
          rw [hd] at i3 h3
          simp only [List.cons_append, List.head?_cons, ne_eq, Option.some.injEq]
          intro e
          subst e
          rcases i3 with i3 | i3
          · simp at i3
          · have := h3 i3; omega
      · rw [natV_app, h2]
        simp only [natV_cons, natV_nil, natS]
        rw [d2]; omega
      · intro e
        have : (decDigits (u / 10) ++ [UInt8.ofNat (48 + u % 10)]).length = 1 := by rw [e]; rfl
        rw [List.length_append] at this
        have h0 : (decDigits (u / 10)).length = 0 := by simpa using this
        exact absurd (List.length_eq_zero_iff.1 h0) i1
theorem dd_natV : ∀ (l : List UInt8), isNat l = true → decDigits (natV 0 l) = l := by
  intro l
  generalize hk : l.length = k
  induction k generalizing l with
  | zero => intro h; have := (isNat_iff.1 h).1; exact absurd (List.length_eq_zero_iff.1 hk) this
  | succ k ih =>
    intro h
    obtain ⟨h1, h2, h3⟩ := isNat_iff.1 h
    obtain ⟨m, c, rfl⟩ : ∃ m c, l = m ++ [c] := ⟨l.dropLast, l.getLast h1, (List.dropLast_concat_getLast h1).symm⟩
    have hc := digB_iff.1 (h2 c (by simp))
    have hlast : UInt8.ofNat (48 + (c.toNat - 48)) = c := by rw [show 48 + (c.toNat - 48) = c.toNat by omega]; simp
    by_cases hm : m = []
    · subst hm
      rw [List.nil_append, natV_cons, natV_nil, show natS 0 c = c.toNat - 48 by unfold natS; omega, decDigits_one (by omega), hlast]
    · have hmn : isNat m = true := by
        refine isNat_iff.2 ⟨hm, fun d hd => h2 d (by simp [hd]), ?_⟩
        match m, hm with
        | d :: m, _ =>
          rcases h3 with h3 | h3
          · left; simpa using h3
          · have := congrArg List.length h3; simp at this
      have hi := ih m (by simp at hk; omega) hmn
      have hpos : 1 ≤ natV 0 m := by
        rcases Nat.eq_zero_or_pos (natV 0 m) with z | z
        · rw [z, decDigits_one (by omega)] at hi
          exfalso
          rw [← hi] at h3
          rcases h3 with h3 | h3
          · exact h3 rfl
          · simp at h3
        · exact z
      rw [natV_app]
      simp only [natV_cons, natV_nil, natS]
      rw [dd_step _ (by omega), show (natV 0 m * 10 + (c.toNat - 48)) / 10 = natV 0 m by omega, show (natV 0 m * 10 + (c.toNat - 48)) % 10 = c.toNat - 48 by omega, hi, hlast]
theorem itoa_facts (n : Int) : isDec (itoa n) = true ∧ intV (itoa n) = n := by
  unfold itoa
  by_cases h : n < 0
  · rw [if_pos h]
    obtain ⟨h1, h2, h3⟩ := dd_facts n.natAbs
    simp only [isDec, intV, if_true]
    refine ⟨?_, by rw [h2]; omega⟩
    rw [h1]
    simp only [Bool.true_and, bne_iff_ne, ne_eq]
    intro e
    have := h3 e; omega
  · rw [if_neg h]
    obtain ⟨h1, h2, h3⟩ := dd_facts n.toNat
    obtain ⟨i1, i2, i3⟩ := isNat_iff.1 h1
    match hd : decDigits n.toNat, i1 with
    | c :: r, _ =>
      rw [hd] at h1 h2 i2
      have hc := digB_iff.1 (i2 c (by simp))
      have h45 : ¬ c = 45 := by rintro rfl; simp at hc
      simp only [isDec, intV, if_neg h45]
      exact ⟨h1, by rw [h2]; omega⟩
theorem itoa_intV {l : List UInt8} (h : isDec l = true) : itoa (intV l) = l := by
  match l with
  | [] => cases h
  | c :: r =>
    simp only [isDec] at h
    by_cases hc : c = 45
    · rw [if_pos hc] at h
      subst hc
      simp only [Bool.and_eq_true, bne_iff_ne, ne_eq] at h
      have hr := dd_natV r h.1
      have hpos : 1 ≤ natV 0 r := by
        rcases Nat.eq_zero_or_pos (natV 0 r) with z | z
        · rw [z, decDigits_one (by omega)] at hr
          exact absurd hr.symm h.2
        · exact z
      simp only [intV, if_true]
      unfold itoa
      rw [if_pos (by omega), show (-(natV 0 r : Int)).natAbs = natV 0 r by omega, hr]
    · rw [if_neg hc] at h
      simp only [intV, if_neg hc]
      unfold itoa
      rw [if_neg (by omega), Int.toNat_natCast]
      exact dd_natV _ h
end Go.Proofs.YtndcjgkgkpkklaaDoor

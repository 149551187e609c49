/-
  Own texts laid together: WkK.
-/
import Derived.Test.YtinbdppekhcekaaZk
import Derived.RangeFuncNested
import Derived.RangeFuncBound
import Derived.RangeFuncCalls
import Derived.RangeFuncLeaves
import Derived.Shelf.Abstract
import Derived.Shelf.RegionOpen
import Derived.OwnWalkIn
import Derived.TacticsInMore
import Derived.LoopNIn
import Derived.LoopIn
/-
  walk.step: the first entry of a walk that passes a test.
-/
namespace Go.Proofs.Ytinbdppekhcekaa
open Go.RowKit Go.Shelf
set_option linter.unusedSimpArgs false
set_option linter.unusedVariables false
set_option maxRecDepth 100000
attribute [local go_sem] Oper.semAt_some run_store_func

theorem Kept.putObj {K : Nat → Prop} {n₀ : Nat} (hK : ∀ k, K k → k < n₀) (W : World) (l : Nat) (o o' : Obj) (hl : n₀ ≤ l) (h : W.heap[l]? = some o) : Kept K W (W.putObj l o') :=
  have hlt := (Array.getElem?_eq_some_iff.1 h).1
  ⟨(grownBy_putObj' W l o').size, fun k hk => by have h1 := hK k hk; exact (grownBy_putObj' W l o').block k (by omega) (fun e => by cases e; omega)⟩

/-- What a step hands back: the first entry that passes, with the cursor behind it; else none, and where it began. -/
def wfind (t : Ent → Bool) (p : Nat) (ys : List (Ent × Int)) : Ent × Int × Int := match ys.find? (fun y => t y.1) with | some y => (y.1, y.2, 0) | none => (ent0, (p : Int), 12)
def wres (l : List Ent) (p : Nat) (back : Bool) (t : Ent → Bool) : Ent × Int × Int := wfind t p (upto (wf l p back) (wN l p back))
def wv (x : Ent × Int × Int) : Value := .tuple #[x.1.v, cur x.2.1, .int .i64 x.2.2]

/-- The result variables of a step, as they were laid. -/
structure RCells (w : World) (R : Nat) : Prop where
  a0 : w.cell? ⟨R, 0, none⟩ = some (.string ⟨#[]⟩)
  a1 : w.cell? ⟨R, 1, none⟩ = some (.string ⟨#[]⟩)
  a2 : w.cell? ⟨R, 2, none⟩ = some (.bool false)
  a3 : w.cell? ⟨R, 3, none⟩ = some (.int .i64 0)
  a4 : w.cell? ⟨R + 1, 0, none⟩ = some (.int .i64 0)
  a5 : w.cell? ⟨R + 1 + 1, 0, none⟩ = some (.int .i64 0)
  f0 : w.frozen? ⟨R, 0, none⟩ = false
  f1 : w.frozen? ⟨R, 1, none⟩ = false
  f2 : w.frozen? ⟨R, 2, none⟩ = false
  f3 : w.frozen? ⟨R, 3, none⟩ = false
  f4 : w.frozen? ⟨R + 1, 0, none⟩ = false
  f5 : w.frozen? ⟨R + 1 + 1, 0, none⟩ = false
theorem RCells.below {n : Nat} {w W : World} {R : Nat} (h : RCells w R) (hB : Below n w W) (hn : R + 1 + 1 < n) : RCells W R :=
  ⟨(hB.cell (p := ⟨R, 0, none⟩) (by simp; omega)).trans h.a0, (hB.cell (p := ⟨R, 1, none⟩) (by simp; omega)).trans h.a1, (hB.cell (p := ⟨R, 2, none⟩) (by simp; omega)).trans h.a2, (hB.cell (p := ⟨R, 3, none⟩) (by simp; omega)).trans h.a3,
   (hB.cell (p := ⟨R + 1, 0, none⟩) (by simp; omega)).trans h.a4, (hB.cell (p := ⟨R + 1 + 1, 0, none⟩) (by simp; omega)).trans h.a5,
   (hB.frozen (p := ⟨R, 0, none⟩) (by simp; omega)).trans h.f0, (hB.frozen (p := ⟨R, 1, none⟩) (by simp; omega)).trans h.f1, (hB.frozen (p := ⟨R, 2, none⟩) (by simp; omega)).trans h.f2, (hB.frozen (p := ⟨R, 3, none⟩) (by simp; omega)).trans h.f3,
   (hB.frozen (p := ⟨R + 1, 0, none⟩) (by simp; omega)).trans h.f4, (hB.frozen (p := ⟨R + 1 + 1, 0, none⟩) (by simp; omega)).trans h.f5⟩

theorem ents_lt {w : World} {b off : Nat} {l : List Ent} (h : Ents w (some ⟨b, off, none⟩) l) (hne : l ≠ []) : b < w.heap.size := by
  obtain ⟨b', off', e, hat⟩ := h.at_ hne
  cases e
  obtain ⟨x, hx⟩ : ∃ x, l[0]? = some x := ⟨_, List.getElem?_eq_getElem (List.length_pos_iff.2 hne)⟩
  exact lt_of_cell (hat 0 x hx).1
theorem KeepsFrom.of_bl {B : Nat} {W W' : World} (h : Bl W W') : KeepsFrom B W W' := ⟨Bl.size h, fun k o _ h0 _ => (h.block k (Array.getElem?_eq_some_iff.1 h0).1).trans h0⟩

theorem keeps6 (w : World) (a1 a2 a3 a4 a5 a6 : Addr) (v1 v2 v3 v4 v5 v6 : Value) : KeepsOthers w ((((((w.setCell a1 v1).setCell a2 v2).setCell a3 v3).setCell a4 v4).setCell a5 v5).setCell a6 v6).drew :=
  ((((((KeepsOthers.setCell w a1 v1).trans (KeepsOthers.setCell _ a2 v2)).trans (KeepsOthers.setCell _ a3 v3)).trans (KeepsOthers.setCell _ a4 v4)).trans (KeepsOthers.setCell _ a5 v5)).trans (KeepsOthers.setCell _ a6 v6)).trans (KeepsOthers.drew _)
theorem below6 {n : Nat} {w0 w : World} (h : Below n w0 w) (a1 a2 a3 a4 a5 a6 : Addr) (v1 v2 v3 v4 v5 v6 : Value) (h1 : n ≤ a1.block) (h2 : n ≤ a2.block) (h3 : n ≤ a3.block) (h4 : n ≤ a4.block) (h5 : n ≤ a5.block) (h6 : n ≤ a6.block) :
    Below n w0 ((((((w.setCell a1 v1).setCell a2 v2).setCell a3 v3).setCell a4 v4).setCell a5 v5).setCell a6 v6).drew :=
  ((((((h.setCell h1 v1).setCell h2 v2).setCell h3 v3).setCell h4 v4).setCell h5 v5).setCell h6 v6).drew

/-- What the result variables of a step hold. -/
def RHold (R : Nat) (x : Ent × Int × Int) (W : World) : Prop :=
  W.cell? ⟨R, 0, none⟩ = some (.string x.1.key) ∧ W.cell? ⟨R, 1, none⟩ = some (.string x.1.val) ∧ W.cell? ⟨R, 2, none⟩ = some (.bool x.1.dead) ∧ W.cell? ⟨R, 3, none⟩ = some (.int .i64 x.1.seq) ∧
  W.cell? ⟨R + 1, 0, none⟩ = some (.int .i64 x.2.1) ∧ W.cell? ⟨R + 1 + 1, 0, none⟩ = some (.int .i64 x.2.2)

theorem RHold.putObj {R : Nat} {x : Ent × Int × Int} {W : World} {D : Nat} (h : RHold R x W) (hK : W.heap[D]? = some (.deferred (some []))) : RHold R x (W.putObj D (.deferred none)) := by
  obtain ⟨g0, g1, g2, g3, g4, g5⟩ := h
  have hg := grownBy_putObj' W D (.deferred none)
  have hr : ∀ r, some D = some r → ∃ o : Obj, W.heap[r]? = some o ∧ o.isCells = false := fun r e => by cases e; exact ⟨_, hK, rfl⟩
  exact ⟨cell_kept g0 hg hr, cell_kept g1 hg hr, cell_kept g2 hg hr, cell_kept g3 hg hr, cell_kept g4 hg hr, cell_kept g5 hg hr⟩
theorem find_app {α : Type} {q : α → Bool} {l r : List α} {x : α} (hl : ∀ y ∈ l, q y = false) (hx : q x = true) : (l ++ [x] ++ r).find? q = some x := by
  induction l with
  | nil => simp [hx]
  | cons y l ih =>
    have h1 := hl y (by simp)
    have h2 := ih (fun z hz => hl z (by simp [hz]))
    simp [h1] at h2 ⊢
    exact h2
theorem find_none {α : Type} {q : α → Bool} {l : List α} (hl : ∀ y ∈ l, q y = false) : l.find? q = none := by
  rw [List.find?_eq_none]; intro y hy; simp [hl y hy]
theorem upto_add {α : Type} (f : Nat → α) (k m : Nat) : ∃ r, upto f (k + m) = upto f k ++ r := by
  induction m with
  | zero => exact ⟨[], by simp⟩
  | succ m ih => obtain ⟨r, e⟩ := ih; exact ⟨r ++ [f (k + m)], by rw [← Nat.add_assoc, upto_succ, e, List.append_assoc]⟩
theorem wres_hit {l : List Ent} {p k : Nat} {back : Bool} {t : Ent → Bool} {pre' : List (Ent × Int)} {x : Ent × Int} (hk : k ≤ wN l p back) (h : upto (wf l p back) k = pre' ++ [x]) (hf : ∀ y ∈ pre', t y.1 = false) (ht : t x.1 = true) :
    wres l p back t = (x.1, x.2, 0) := by
  obtain ⟨m, e⟩ : ∃ m, wN l p back = k + m := ⟨wN l p back - k, by omega⟩
  obtain ⟨r, er⟩ := upto_add (wf l p back) k m
  unfold wres wfind
  rw [e, er, h, find_app (q := fun y : Ent × Int => t y.1) hf ht]
theorem wres_miss {l : List Ent} {p : Nat} {back : Bool} {t : Ent → Bool} (hf : ∀ y ∈ upto (wf l p back) (wN l p back), t y.1 = false) : wres l p back t = (ent0, (p : Int), 12) := by
  unfold wres wfind
  rw [find_none (q := fun y : Ent × Int => t y.1) hf]

/-- Between two rounds of a step; and where a round has left. -/
def SI (t : Ent → Bool) (w2 : World) (pre : List (Ent × Int)) (W : World) : Prop := (∀ y ∈ pre, t y.1 = false) ∧ Below w2.heap.size w2 W
def SX (t : Ent → Bool) (w : World) (R : Nat) (c : Code) (pre : List (Ent × Int)) (W : World) : Prop :=
  (c = .ret ∧ ∃ pre' x, pre = pre' ++ [x] ∧ (∀ y ∈ pre', t y.1 = false) ∧ t x.1 = true ∧ RHold R (x.1, x.2, 0) W) ∧ Below w.heap.size w W
theorem SI.own (t : Ent → Bool) (w2 : World) : OwnFrom w2.heap.size (SI t w2) :=
  OwnFrom.and (fun _ _ _ _ hs _ _ => hs) (ownFrom_below (Nat.le_refl _) (Nat.le_refl _))
theorem SX.own (t : Ent → Bool) (w w2 : World) (R : Nat) (hw : w.heap.size ≤ w2.heap.size) (c : Code) : OwnFrom w2.heap.size (SX t w R c) :=
  OwnFrom.and (Own.from (fun s A B row hs hg hr => by
    obtain ⟨hc, pre', x, h1, h2, h3, g0, g1, g2, g3, g4, g5⟩ := hs
    exact ⟨hc, pre', x, h1, h2, h3, cell_kept g0 hg hr, cell_kept g1 hg hr, cell_kept g2 hg hr, cell_kept g3 hg hr, cell_kept g4 hg hr, cell_kept g5 hg hr⟩) _) (ownFrom_below (Nat.le_refl _) hw)

set_option maxHeartbeats 8000000 in
theorem walkStepAll0 (a : Option Addr) (c : Nat) (r : Rn) (p : Nat) (w : World) (h : ROk w a c r) (h0 : wchk r p = 0) (hl : r.es.length ≤ 5000) (hp : p ≤ r.es.length) :
    CallsIn Fence.wide 4 Try.prog 41 #[r.v a c, cur p, .int .i64 0, .func (.func 43) #[] #[]] w (RB w (wv (wres r.es p false (fun _ => true)))) := by
  refine callsIn_of_wp_marks Try.func41 rfl trivial ?_ rfl
  simp only [Try.ntmps41, List.size_toArray, List.length_cons, List.length_nil, Nat.reduceAdd, Nat.reduceSub, Array.replicate_succ, Array.replicate_zero, List.push_toArray, List.append_toArray, List.nil_append, List.cons_append]
  have hC := fun w h => walkCheck a c r (p : Int) w h
  rw [h0] at hC
  have hWW := fun w => walkWalk0 a c r.es p w
  have hps : ((p : Nat) : Int) = (p : Int) := rfl
  obtain ⟨id, l⟩ := r
  have HO := Lib.hid h
  unfold Rn.v
  simp only at *
  have HC := Lib.hid hC
  have HWW := Lib.hid hWW
  clear hC h hWW h0
  have hn1 : 1 ≤ 4 := by omega
  gi_wp2
  refine ⟨trivial, ?_⟩
  refine (callsIn_wide.2 (HC.out _ (HO.out.bl (by repeat (first | assumption | exact Bl.refl _ | apply Bl.drewN | apply Bl.drew | apply Bl.alloc | (refine Bl.dr ?_ (by assumption)) | (refine Bl.trans ?_ (by assumption))))))).mono ?_; rintro e w1 ⟨rfl, hb1⟩
  have c1 : w1.cell? ⟨w.heap.size, 1, none⟩ = some (.slice a l.length c) := hb1.cell (by simp [go_sem])
  have d0 : w1.cell? ⟨w.heap.size + 1, 0, none⟩ = some (.int .i64 p) := hb1.cell (by simp [go_sem])
  have q0 : w1.cell? ⟨w.heap.size + 1 + 1, 0, none⟩ = some (.func (.func 43) #[] #[]) := hb1.cell (by simp [go_sem])
  have R1 : RCells w1 (w.heap.size + 1 + 1 + 1) := by
    refine ⟨hb1.cell (by simp [go_sem]), hb1.cell (by simp [go_sem]), hb1.cell (by simp [go_sem]), hb1.cell (by simp [go_sem]), hb1.cell (by simp [go_sem]), hb1.cell (by simp [go_sem]), ?_, ?_, ?_, ?_, ?_, ?_⟩
    all_goals exact hb1.frozen (by simp [go_sem]; rfl) (by simp [go_sem])
  have hb : Bl w w1 := (by repeat (first | assumption | exact Bl.refl _ | apply Bl.drewN | apply Bl.drew | apply Bl.alloc | (refine Bl.dr ?_ (by assumption)) | (refine Bl.trans ?_ (by assumption))))
  have hO1 : ROk w1 a c ⟨id, l⟩ := HO.out.bl hb
  have hsz : w.heap.size + 1 + 1 + 1 + 1 + 1 < w1.heap.size := by have := hb1.size; simp at this; omega
  clear hb1
  gi_wp2
  refine ⟨trivial, ?_⟩
  refine (callsIn_wide.2 (HWW.out _)).mono ?_; rintro e w2 ⟨v, rfl, ⟨Bw, Bd, Bs, rfl, hw, hd, hs, HB⟩, hb2⟩
  have d2 : w2.cell? ⟨w.heap.size + 1, 0, none⟩ = some (.int .i64 p) := hb2.cell d0
  have q2 : w2.cell? ⟨w.heap.size + 1 + 1, 0, none⟩ = some (.func (.func 43) #[] #[]) := hb2.cell q0
  have R2 : RCells w2 (w.heap.size + 1 + 1 + 1) := R1.below hb2 hsz
  have hO2 : ROk w2 a c ⟨id, l⟩ := hO1.bl hb2
  have hbw : Bl w w2 := hb.trans hb2
  have hsz2 : w.heap.size + 1 + 1 + 1 + 1 + 1 < w2.heap.size := by have := hb2.size; omega
  clear hb2 hb R1 hO1 c1 d0 q0
  gi_wp2
  refine wpIn_rangeFunc_ownH rfl hn1 (gf := 52) (lb := #[.pointer (some ⟨Bw, 0, none⟩), .pointer (some ⟨Bd, 0, none⟩), .pointer (some ⟨Bs, 0, none⟩)]) rfl trivial (enters_of Try.func52 (by kernel_rfl) rfl)
    (walkStops 3 (by omega) Bw Bd Bs w2.heap.size (fun k => k < w2.heap.size) (fun _ h => h) a c l p false w2 (Nat.le_refl _) (fun b off e hne => by subst e; exact ents_lt hO2.ents hne) hw.2 hd.2 hs.2 hl hp HB hO2.ents) (fun h k => Kept.trans h k)
    (fun W y o o' hy h _ _ => Kept.putObj (fun _ h => h) W y o o' hy h) (Below.refl _ _) (fun _ => rfl)
    (SI (fun _ => true) w2) (SX (fun _ => true) w (w.heap.size + 1 + 1 + 1)) (SI.own _ _) (SX.own _ _ _ _ hbw.size) ⟨(by simp), Below.refl _ _⟩
    (fun x a' W => ∃ Bx Bn, (w2.heap.size ≤ Bx ∧ w2.heap.size ≤ Bn) ∧ W.cell? ⟨Bx, 0, none⟩ = some (.string x.1.key) ∧ W.cell? ⟨Bx, 1, none⟩ = some (.string x.1.val) ∧ W.cell? ⟨Bx, 2, none⟩ = some (.bool x.1.dead) ∧ W.cell? ⟨Bx, 3, none⟩ = some (.int .i64 x.1.seq) ∧ W.cell? ⟨Bn, 0, none⟩ = some (.int .i64 x.2) ∧
      a' = { tmps := #[.agg #[.int .i64 id, .slice a l.length c], cur p, .int .i64 0, (.func (.func 43) #[] #[]), .pointer (some ⟨w.heap.size, 0, none⟩), .pointer (some ⟨w.heap.size + 1, 0, none⟩), undef, .pointer (some ⟨w.heap.size + 1 + 1, 0, none⟩), .pointer (some ⟨w.heap.size + 1 + 1 + 1, 0, none⟩), .pointer (some ⟨w.heap.size + 1 + 1 + 1 + 1, 0, none⟩), .pointer (some ⟨w.heap.size + 1 + 1 + 1 + 1 + 1, 0, none⟩), .int .i64 0, .pointer (some ⟨Bx, 0, none⟩), .pointer (some ⟨Bn, 0, none⟩), .agg #[.int .i64 id, .slice a l.length c], .agg #[.int .i64 p], .int .i64 0, .int .i64 0, .bool false, undef, undef, undef, .pointer (some ⟨w.heap.size, 1, none⟩), .slice a l.length c, .agg #[.int .i64 p], .int .i64 0, .func (.func 52) #[] #[.pointer (some ⟨Bw, 0, none⟩), .pointer (some ⟨Bd, 0, none⟩), .pointer (some ⟨Bs, 0, none⟩)], .agg #[.string x.1.key, .string x.1.val, .bool x.1.dead, .int .i64 x.1.seq], .agg #[.int .i64 x.2], undef, undef, undef, undef, undef, undef, undef], defers := [] })
    (fun x a' => Own.from (fun s A B row hs hg hr => by
      obtain ⟨Bx, Bn, hB, e0, e1, e2, e3, e4, rfl⟩ := hs
      exact ⟨Bx, Bn, hB, cell_kept e0 hg hr, cell_kept e1 hg hr, cell_kept e2 hg hr, cell_kept e3 hg hr, cell_kept e4 hg hr, rfl⟩) _) ?assign ?body ?done ?stop
  case assign =>
    rintro y pre x W K hi hK
    simp only [yv, Ent.v, cur]
    have hsz3 := hi.2.size
    gi_wp2
    exact hK _ _ (((KeepsOthers.alloc _ _).trans (KeepsOthers.alloc _ _)).from _) (((Kept.refl _ W).alloc (fun _ h => h) hsz3 _).alloc (fun _ h => h) (by simp; omega) _) ⟨hi.1, (hi.2.alloc hsz3 _).alloc (by simp; omega) _⟩
      ⟨W.heap.size, W.heap.size + 1, ⟨hsz3, by omega⟩, by simp [go_sem], by simp [go_sem], by simp [go_sem], by simp [go_sem], by simp [go_sem], rfl⟩
  case body =>
    rintro y pre x a' W hl ⟨r, hr⟩ ⟨hp, hB⟩ ⟨Bx, Bn, hBs, e0, e1, e2, e3, e4, rfl⟩ hlt
    have hq : W.cell? ⟨w.heap.size + 1 + 1, 0, none⟩ = some (.func (.func 43) #[] #[]) := (hB.cell (p := ⟨w.heap.size + 1 + 1, 0, none⟩) (by simp; omega)).trans q2
    gi_wp2
    refine ⟨trivial, ?_⟩
    refine (CallsIn.inRound y (callsIn_wide.2 ((fun x W _ => walkAll x W) x.1 W (hbw.trans hB)))).mono ?_; rintro e w3 ⟨rfl, hb3⟩
    obtain ⟨za0, za1, za2, za3, za4, za5, zf0, zf1, zf2, zf3, zf4, zf5⟩ := R2.below (hB.trans (Below.mono hb3 hB.size)) hsz2
    have e0 : w3.cell? ⟨Bx, 0, none⟩ = some (.string x.1.key) := hb3.cell e0
    have e1 : w3.cell? ⟨Bx, 1, none⟩ = some (.string x.1.val) := hb3.cell e1
    have e2 : w3.cell? ⟨Bx, 2, none⟩ = some (.bool x.1.dead) := hb3.cell e2
    have e3 : w3.cell? ⟨Bx, 3, none⟩ = some (.int .i64 x.1.seq) := hb3.cell e3
    have e4 : w3.cell? ⟨Bn, 0, none⟩ = some (.int .i64 x.2) := hb3.cell e4
    have hkf : KeepsFrom w2.heap.size W w3 := KeepsFrom.of_bl hb3
    rcases hT : (fun _ => true) x.1 with _ | _
    · first
      | (exfalso; simp at hT; done)
      | (gi_wp2
         exact ⟨hkf, Kept.of_below (fun _ h => h) (Below.mono hb3 hB.size), ⟨fun y' hy' => (List.mem_append.1 hy').elim (hp y') (fun e' => by simp at e'; subst e'; exact hT), hB.trans (Below.mono hb3 hB.size)⟩⟩)
    · have HT := Lib.hid hT
      have hbX : Below w.heap.size w w3 := (hbw.trans hB).trans hb3
      have hmix : Try.prog.follows .mixedOrders = true := by kernel_rfl
      gi_wp2
      gi_region_with_o (fail)
      all_goals gi_wp2
      all_goals
        refine ⟨hkf.trans ((keeps6 _ _ _ _ _ _ _ _ _ _ _ _ _).from _), ⟨rfl, pre, x, rfl, hp, (by first | exact HT.out | rfl), ?_⟩, below6 hbX _ _ _ _ _ _ _ _ _ _ _ _ (by simp; omega) (by simp; omega) (by simp; omega) (by simp; omega) (by simp; omega) (by simp; omega)⟩
        refine ⟨?_, ?_, ?_, ?_, ?_, ?_⟩ <;> simp [go_sem, za0, za1, za2, za3, za4, za5]
  case done =>
    rintro D ys W hD rfl ⟨hp, hB⟩ hK
    have hq : W.cell? ⟨w.heap.size + 1, 0, none⟩ = some (.int .i64 p) := (hB.cell (p := ⟨w.heap.size + 1, 0, none⟩) (by simp; omega)).trans d2
    obtain ⟨za0, za1, za2, za3, za4, za5, zf0, zf1, zf2, zf3, zf4, zf5⟩ := R2.below hB hsz2
    have hmix : Try.prog.follows .mixedOrders = true := by kernel_rfl
    have hbW : Bl w W := hbw.trans hB
    gi_wp2
    gi_region
    gi_wp2
    have hR : RHold (w.heap.size + 1 + 1 + 1) (ent0, (p : Int), 12) ((((((W.setCell ⟨w.heap.size + 1 + 1 + 1, 0, none⟩ (.string ⟨#[]⟩)).setCell ⟨w.heap.size + 1 + 1 + 1, 1, none⟩ (.string ⟨#[]⟩)).setCell ⟨w.heap.size + 1 + 1 + 1, 2, none⟩ (.bool false)).setCell ⟨w.heap.size + 1 + 1 + 1, 3, none⟩ (.int .i64 0)).setCell ⟨w.heap.size + 1 + 1 + 1 + 1, 0, none⟩ (.int .i64 p)).setCell ⟨w.heap.size + 1 + 1 + 1 + 1 + 1, 0, none⟩ (.int .i64 12)).drew := by
      refine ⟨?_, ?_, ?_, ?_, ?_, ?_⟩ <;> simp [go_sem, za0, za1, za2, za3, za4, za5, ent0]
    have hK' := (keeps6 W ⟨w.heap.size + 1 + 1 + 1, 0, none⟩ ⟨w.heap.size + 1 + 1 + 1, 1, none⟩ ⟨w.heap.size + 1 + 1 + 1, 2, none⟩ ⟨w.heap.size + 1 + 1 + 1, 3, none⟩ ⟨w.heap.size + 1 + 1 + 1 + 1, 0, none⟩ ⟨w.heap.size + 1 + 1 + 1 + 1 + 1, 0, none⟩ (.string ⟨#[]⟩) (.string ⟨#[]⟩) (.bool false) (.int .i64 0) (.int .i64 p) (.int .i64 12)).same D _ hK rfl
    have hb6 := below6 hbW ⟨w.heap.size + 1 + 1 + 1, 0, none⟩ ⟨w.heap.size + 1 + 1 + 1, 1, none⟩ ⟨w.heap.size + 1 + 1 + 1, 2, none⟩ ⟨w.heap.size + 1 + 1 + 1, 3, none⟩ ⟨w.heap.size + 1 + 1 + 1 + 1, 0, none⟩ ⟨w.heap.size + 1 + 1 + 1 + 1 + 1, 0, none⟩ (.string ⟨#[]⟩) (.string ⟨#[]⟩) (.bool false) (.int .i64 0) (.int .i64 p) (.int .i64 12) (by simp; omega) (by simp; omega) (by simp; omega) (by simp; omega) (by simp; omega) (by simp; omega)
    have heq := wres_miss (t := (fun _ => true)) hp
    refine ⟨by simp, .inl ⟨_, _, rfl, run_takeDeferred hK', ?_⟩⟩
    obtain ⟨k0, k1, k2, k3, k4, k5⟩ := RHold.putObj hR hK'
    (try rw [heq])
    refine ⟨wv _, ?_, ⟨rfl, (hb6.trans (belowK_b (w := w) (Nat.le_refl _) _ D _ _ (Nat.le_trans hbw.size hD) hK' rfl rfl))⟩⟩
    unfold wv
    simp [results, Try.f41, go_sem, k0, k1, k2, k3, k4, k5, Ent.v]
  case stop =>
    rintro D c pre W hD ⟨k, hk, rfl⟩ ⟨⟨rfl, pre', x, hpre, hf, ht, g0, g1, g2, g3, g4, g5⟩, hB⟩ hK
    have heq := wres_hit (t := (fun _ => true)) hk hpre hf ht
    have hR : RHold (w.heap.size + 1 + 1 + 1) (x.1, x.2, 0) W := ⟨g0, g1, g2, g3, g4, g5⟩
    gi_wp2
    refine ⟨by simp, .inl ⟨_, _, rfl, run_takeDeferred hK, ?_⟩⟩
    obtain ⟨k0, k1, k2, k3, k4, k5⟩ := RHold.putObj hR hK
    (try rw [heq])
    refine ⟨wv _, ?_, ⟨rfl, (hB.trans (belowK_b (w := w) (Nat.le_refl _) W D _ _ (Nat.le_trans hbw.size hD) hK rfl rfl))⟩⟩
    unfold wv
    simp [results, Try.f41, go_sem, k0, k1, k2, k3, k4, k5, Ent.v]
set_option maxHeartbeats 8000000 in
theorem walkStepAll1 (a : Option Addr) (c : Nat) (r : Rn) (p : Nat) (w : World) (h : ROk w a c r) (h0 : wchk r p = 0) (hl : r.es.length ≤ 5000) (hp : p ≤ r.es.length) :
    CallsIn Fence.wide 4 Try.prog 41 #[r.v a c, cur p, .int .i64 1, .func (.func 43) #[] #[]] w (RB w (wv (wres r.es p true (fun _ => true)))) := by
  refine callsIn_of_wp_marks Try.func41 rfl trivial ?_ rfl
  simp only [Try.ntmps41, List.size_toArray, List.length_cons, List.length_nil, Nat.reduceAdd, Nat.reduceSub, Array.replicate_succ, Array.replicate_zero, List.push_toArray, List.append_toArray, List.nil_append, List.cons_append]
  have hC := fun w h => walkCheck a c r (p : Int) w h
  rw [h0] at hC
  have hWW := fun w => walkWalk1 a c r.es p w
  have hps : ((p : Nat) : Int) = (p : Int) := rfl
  obtain ⟨id, l⟩ := r
  have HO := Lib.hid h
  unfold Rn.v
  simp only at *
  have HC := Lib.hid hC
  have HWW := Lib.hid hWW
  clear hC h hWW h0
  have hn1 : 1 ≤ 4 := by omega
  gi_wp2
  refine ⟨trivial, ?_⟩
  refine (callsIn_wide.2 (HC.out _ (HO.out.bl (by repeat (first | assumption | exact Bl.refl _ | apply Bl.drewN | apply Bl.drew | apply Bl.alloc | (refine Bl.dr ?_ (by assumption)) | (refine Bl.trans ?_ (by assumption))))))).mono ?_; rintro e w1 ⟨rfl, hb1⟩
  have c1 : w1.cell? ⟨w.heap.size, 1, none⟩ = some (.slice a l.length c) := hb1.cell (by simp [go_sem])
  have d0 : w1.cell? ⟨w.heap.size + 1, 0, none⟩ = some (.int .i64 p) := hb1.cell (by simp [go_sem])
  have q0 : w1.cell? ⟨w.heap.size + 1 + 1, 0, none⟩ = some (.func (.func 43) #[] #[]) := hb1.cell (by simp [go_sem])
  have R1 : RCells w1 (w.heap.size + 1 + 1 + 1) := by
    refine ⟨hb1.cell (by simp [go_sem]), hb1.cell (by simp [go_sem]), hb1.cell (by simp [go_sem]), hb1.cell (by simp [go_sem]), hb1.cell (by simp [go_sem]), hb1.cell (by simp [go_sem]), ?_, ?_, ?_, ?_, ?_, ?_⟩
    all_goals exact hb1.frozen (by simp [go_sem]; rfl) (by simp [go_sem])
  have hb : Bl w w1 := (by repeat (first | assumption | exact Bl.refl _ | apply Bl.drewN | apply Bl.drew | apply Bl.alloc | (refine Bl.dr ?_ (by assumption)) | (refine Bl.trans ?_ (by assumption))))
  have hO1 : ROk w1 a c ⟨id, l⟩ := HO.out.bl hb
  have hsz : w.heap.size + 1 + 1 + 1 + 1 + 1 < w1.heap.size := by have := hb1.size; simp at this; omega
  clear hb1
  gi_wp2
  refine ⟨trivial, ?_⟩
  refine (callsIn_wide.2 (HWW.out _)).mono ?_; rintro e w2 ⟨v, rfl, ⟨Bw, Bd, Bs, rfl, hw, hd, hs, HB⟩, hb2⟩
  have d2 : w2.cell? ⟨w.heap.size + 1, 0, none⟩ = some (.int .i64 p) := hb2.cell d0
  have q2 : w2.cell? ⟨w.heap.size + 1 + 1, 0, none⟩ = some (.func (.func 43) #[] #[]) := hb2.cell q0
  have R2 : RCells w2 (w.heap.size + 1 + 1 + 1) := R1.below hb2 hsz
  have hO2 : ROk w2 a c ⟨id, l⟩ := hO1.bl hb2
  have hbw : Bl w w2 := hb.trans hb2
  have hsz2 : w.heap.size + 1 + 1 + 1 + 1 + 1 < w2.heap.size := by have := hb2.size; omega
  clear hb2 hb R1 hO1 c1 d0 q0
  gi_wp2
  refine wpIn_rangeFunc_ownH rfl hn1 (gf := 52) (lb := #[.pointer (some ⟨Bw, 0, none⟩), .pointer (some ⟨Bd, 0, none⟩), .pointer (some ⟨Bs, 0, none⟩)]) rfl trivial (enters_of Try.func52 (by kernel_rfl) rfl)
    (walkStops 3 (by omega) Bw Bd Bs w2.heap.size (fun k => k < w2.heap.size) (fun _ h => h) a c l p true w2 (Nat.le_refl _) (fun b off e hne => by subst e; exact ents_lt hO2.ents hne) hw.2 hd.2 hs.2 hl hp HB hO2.ents) (fun h k => Kept.trans h k)
    (fun W y o o' hy h _ _ => Kept.putObj (fun _ h => h) W y o o' hy h) (Below.refl _ _) (fun _ => rfl)
    (SI (fun _ => true) w2) (SX (fun _ => true) w (w.heap.size + 1 + 1 + 1)) (SI.own _ _) (SX.own _ _ _ _ hbw.size) ⟨(by simp), Below.refl _ _⟩
    (fun x a' W => ∃ Bx Bn, (w2.heap.size ≤ Bx ∧ w2.heap.size ≤ Bn) ∧ W.cell? ⟨Bx, 0, none⟩ = some (.string x.1.key) ∧ W.cell? ⟨Bx, 1, none⟩ = some (.string x.1.val) ∧ W.cell? ⟨Bx, 2, none⟩ = some (.bool x.1.dead) ∧ W.cell? ⟨Bx, 3, none⟩ = some (.int .i64 x.1.seq) ∧ W.cell? ⟨Bn, 0, none⟩ = some (.int .i64 x.2) ∧
      a' = { tmps := #[.agg #[.int .i64 id, .slice a l.length c], cur p, .int .i64 1, (.func (.func 43) #[] #[]), .pointer (some ⟨w.heap.size, 0, none⟩), .pointer (some ⟨w.heap.size + 1, 0, none⟩), undef, .pointer (some ⟨w.heap.size + 1 + 1, 0, none⟩), .pointer (some ⟨w.heap.size + 1 + 1 + 1, 0, none⟩), .pointer (some ⟨w.heap.size + 1 + 1 + 1 + 1, 0, none⟩), .pointer (some ⟨w.heap.size + 1 + 1 + 1 + 1 + 1, 0, none⟩), .int .i64 0, .pointer (some ⟨Bx, 0, none⟩), .pointer (some ⟨Bn, 0, none⟩), .agg #[.int .i64 id, .slice a l.length c], .agg #[.int .i64 p], .int .i64 0, .int .i64 0, .bool false, undef, undef, undef, .pointer (some ⟨w.heap.size, 1, none⟩), .slice a l.length c, .agg #[.int .i64 p], .int .i64 1, .func (.func 52) #[] #[.pointer (some ⟨Bw, 0, none⟩), .pointer (some ⟨Bd, 0, none⟩), .pointer (some ⟨Bs, 0, none⟩)], .agg #[.string x.1.key, .string x.1.val, .bool x.1.dead, .int .i64 x.1.seq], .agg #[.int .i64 x.2], undef, undef, undef, undef, undef, undef, undef], defers := [] })
    (fun x a' => Own.from (fun s A B row hs hg hr => by
      obtain ⟨Bx, Bn, hB, e0, e1, e2, e3, e4, rfl⟩ := hs
      exact ⟨Bx, Bn, hB, cell_kept e0 hg hr, cell_kept e1 hg hr, cell_kept e2 hg hr, cell_kept e3 hg hr, cell_kept e4 hg hr, rfl⟩) _) ?assign ?body ?done ?stop
  case assign =>
    rintro y pre x W K hi hK
    simp only [yv, Ent.v, cur]
    have hsz3 := hi.2.size
    gi_wp2
    exact hK _ _ (((KeepsOthers.alloc _ _).trans (KeepsOthers.alloc _ _)).from _) (((Kept.refl _ W).alloc (fun _ h => h) hsz3 _).alloc (fun _ h => h) (by simp; omega) _) ⟨hi.1, (hi.2.alloc hsz3 _).alloc (by simp; omega) _⟩
      ⟨W.heap.size, W.heap.size + 1, ⟨hsz3, by omega⟩, by simp [go_sem], by simp [go_sem], by simp [go_sem], by simp [go_sem], by simp [go_sem], rfl⟩
  case body =>
    rintro y pre x a' W hl ⟨r, hr⟩ ⟨hp, hB⟩ ⟨Bx, Bn, hBs, e0, e1, e2, e3, e4, rfl⟩ hlt
    have hq : W.cell? ⟨w.heap.size + 1 + 1, 0, none⟩ = some (.func (.func 43) #[] #[]) := (hB.cell (p := ⟨w.heap.size + 1 + 1, 0, none⟩) (by simp; omega)).trans q2
    gi_wp2
    refine ⟨trivial, ?_⟩
    refine (CallsIn.inRound y (callsIn_wide.2 ((fun x W _ => walkAll x W) x.1 W (hbw.trans hB)))).mono ?_; rintro e w3 ⟨rfl, hb3⟩
    obtain ⟨za0, za1, za2, za3, za4, za5, zf0, zf1, zf2, zf3, zf4, zf5⟩ := R2.below (hB.trans (Below.mono hb3 hB.size)) hsz2
    have e0 : w3.cell? ⟨Bx, 0, none⟩ = some (.string x.1.key) := hb3.cell e0
    have e1 : w3.cell? ⟨Bx, 1, none⟩ = some (.string x.1.val) := hb3.cell e1
    have e2 : w3.cell? ⟨Bx, 2, none⟩ = some (.bool x.1.dead) := hb3.cell e2
    have e3 : w3.cell? ⟨Bx, 3, none⟩ = some (.int .i64 x.1.seq) := hb3.cell e3
    have e4 : w3.cell? ⟨Bn, 0, none⟩ = some (.int .i64 x.2) := hb3.cell e4
    have hkf : KeepsFrom w2.heap.size W w3 := KeepsFrom.of_bl hb3
    rcases hT : (fun _ => true) x.1 with _ | _
    · first
      | (exfalso; simp at hT; done)
      | (gi_wp2
         exact ⟨hkf, Kept.of_below (fun _ h => h) (Below.mono hb3 hB.size), ⟨fun y' hy' => (List.mem_append.1 hy').elim (hp y') (fun e' => by simp at e'; subst e'; exact hT), hB.trans (Below.mono hb3 hB.size)⟩⟩)
    · have HT := Lib.hid hT
      have hbX : Below w.heap.size w w3 := (hbw.trans hB).trans hb3
      have hmix : Try.prog.follows .mixedOrders = true := by kernel_rfl
      gi_wp2
      gi_region_with_o (fail)
      all_goals gi_wp2
      all_goals
        refine ⟨hkf.trans ((keeps6 _ _ _ _ _ _ _ _ _ _ _ _ _).from _), ⟨rfl, pre, x, rfl, hp, (by first | exact HT.out | rfl), ?_⟩, below6 hbX _ _ _ _ _ _ _ _ _ _ _ _ (by simp; omega) (by simp; omega) (by simp; omega) (by simp; omega) (by simp; omega) (by simp; omega)⟩
        refine ⟨?_, ?_, ?_, ?_, ?_, ?_⟩ <;> simp [go_sem, za0, za1, za2, za3, za4, za5]
  case done =>
    rintro D ys W hD rfl ⟨hp, hB⟩ hK
    have hq : W.cell? ⟨w.heap.size + 1, 0, none⟩ = some (.int .i64 p) := (hB.cell (p := ⟨w.heap.size + 1, 0, none⟩) (by simp; omega)).trans d2
    obtain ⟨za0, za1, za2, za3, za4, za5, zf0, zf1, zf2, zf3, zf4, zf5⟩ := R2.below hB hsz2
    have hmix : Try.prog.follows .mixedOrders = true := by kernel_rfl
    have hbW : Bl w W := hbw.trans hB
    gi_wp2
    gi_region
    gi_wp2
    have hR : RHold (w.heap.size + 1 + 1 + 1) (ent0, (p : Int), 12) ((((((W.setCell ⟨w.heap.size + 1 + 1 + 1, 0, none⟩ (.string ⟨#[]⟩)).setCell ⟨w.heap.size + 1 + 1 + 1, 1, none⟩ (.string ⟨#[]⟩)).setCell ⟨w.heap.size + 1 + 1 + 1, 2, none⟩ (.bool false)).setCell ⟨w.heap.size + 1 + 1 + 1, 3, none⟩ (.int .i64 0)).setCell ⟨w.heap.size + 1 + 1 + 1 + 1, 0, none⟩ (.int .i64 p)).setCell ⟨w.heap.size + 1 + 1 + 1 + 1 + 1, 0, none⟩ (.int .i64 12)).drew := by
      refine ⟨?_, ?_, ?_, ?_, ?_, ?_⟩ <;> simp [go_sem, za0, za1, za2, za3, za4, za5, ent0]
    have hK' := (keeps6 W ⟨w.heap.size + 1 + 1 + 1, 0, none⟩ ⟨w.heap.size + 1 + 1 + 1, 1, none⟩ ⟨w.heap.size + 1 + 1 + 1, 2, none⟩ ⟨w.heap.size + 1 + 1 + 1, 3, none⟩ ⟨w.heap.size + 1 + 1 + 1 + 1, 0, none⟩ ⟨w.heap.size + 1 + 1 + 1 + 1 + 1, 0, none⟩ (.string ⟨#[]⟩) (.string ⟨#[]⟩) (.bool false) (.int .i64 0) (.int .i64 p) (.int .i64 12)).same D _ hK rfl
    have hb6 := below6 hbW ⟨w.heap.size + 1 + 1 + 1, 0, none⟩ ⟨w.heap.size + 1 + 1 + 1, 1, none⟩ ⟨w.heap.size + 1 + 1 + 1, 2, none⟩ ⟨w.heap.size + 1 + 1 + 1, 3, none⟩ ⟨w.heap.size + 1 + 1 + 1 + 1, 0, none⟩ ⟨w.heap.size + 1 + 1 + 1 + 1 + 1, 0, none⟩ (.string ⟨#[]⟩) (.string ⟨#[]⟩) (.bool false) (.int .i64 0) (.int .i64 p) (.int .i64 12) (by simp; omega) (by simp; omega) (by simp; omega) (by simp; omega) (by simp; omega) (by simp; omega)
    have heq := wres_miss (t := (fun _ => true)) hp
    refine ⟨by simp, .inl ⟨_, _, rfl, run_takeDeferred hK', ?_⟩⟩
    obtain ⟨k0, k1, k2, k3, k4, k5⟩ := RHold.putObj hR hK'
    (try rw [heq])
    refine ⟨wv _, ?_, ⟨rfl, (hb6.trans (belowK_b (w := w) (Nat.le_refl _) _ D _ _ (Nat.le_trans hbw.size hD) hK' rfl rfl))⟩⟩
    unfold wv
    simp [results, Try.f41, go_sem, k0, k1, k2, k3, k4, k5, Ent.v]
  case stop =>
    rintro D c pre W hD ⟨k, hk, rfl⟩ ⟨⟨rfl, pre', x, hpre, hf, ht, g0, g1, g2, g3, g4, g5⟩, hB⟩ hK
    have heq := wres_hit (t := (fun _ => true)) hk hpre hf ht
    have hR : RHold (w.heap.size + 1 + 1 + 1) (x.1, x.2, 0) W := ⟨g0, g1, g2, g3, g4, g5⟩
    gi_wp2
    refine ⟨by simp, .inl ⟨_, _, rfl, run_takeDeferred hK, ?_⟩⟩
    obtain ⟨k0, k1, k2, k3, k4, k5⟩ := RHold.putObj hR hK
    (try rw [heq])
    refine ⟨wv _, ?_, ⟨rfl, (hB.trans (belowK_b (w := w) (Nat.le_refl _) W D _ _ (Nat.le_trans hbw.size hD) hK rfl rfl))⟩⟩
    unfold wv
    simp [results, Try.f41, go_sem, k0, k1, k2, k3, k4, k5, Ent.v]
set_option maxHeartbeats 8000000 in
theorem walkStepKind0 (a : Option Addr) (c : Nat) (r : Rn) (p : Nat) (d : Bool) (Bk : Nat) (w : World) (hk : w.cell? ⟨Bk, 0, none⟩ = some (.bool d)) (h : ROk w a c r) (h0 : wchk r p = 0) (hl : r.es.length ≤ 5000) (hp : p ≤ r.es.length) :
    CallsIn Fence.wide 4 Try.prog 41 #[r.v a c, cur p, .int .i64 0, .func (.func 42) #[] #[.pointer (some ⟨Bk, 0, none⟩)]] w (RB w (wv (wres r.es p false (fun x => x.dead == d)))) := by
  have hkb := lt_of_cell hk
  refine callsIn_of_wp_marks Try.func41 rfl trivial ?_ rfl
  simp only [Try.ntmps41, List.size_toArray, List.length_cons, List.length_nil, Nat.reduceAdd, Nat.reduceSub, Array.replicate_succ, Array.replicate_zero, List.push_toArray, List.append_toArray, List.nil_append, List.cons_append]
  have hC := fun w h => walkCheck a c r (p : Int) w h
  rw [h0] at hC
  have hWW := fun w => walkWalk0 a c r.es p w
  have hps : ((p : Nat) : Int) = (p : Int) := rfl
  obtain ⟨id, l⟩ := r
  have HO := Lib.hid h
  unfold Rn.v
  simp only at *
  have HC := Lib.hid hC
  have HWW := Lib.hid hWW
  clear hC h hWW h0
  have hn1 : 1 ≤ 4 := by omega
  gi_wp2
  refine ⟨trivial, ?_⟩
  refine (callsIn_wide.2 (HC.out _ (HO.out.bl (by repeat (first | assumption | exact Bl.refl _ | apply Bl.drewN | apply Bl.drew | apply Bl.alloc | (refine Bl.dr ?_ (by assumption)) | (refine Bl.trans ?_ (by assumption))))))).mono ?_; rintro e w1 ⟨rfl, hb1⟩
  have c1 : w1.cell? ⟨w.heap.size, 1, none⟩ = some (.slice a l.length c) := hb1.cell (by simp [go_sem])
  have d0 : w1.cell? ⟨w.heap.size + 1, 0, none⟩ = some (.int .i64 p) := hb1.cell (by simp [go_sem])
  have q0 : w1.cell? ⟨w.heap.size + 1 + 1, 0, none⟩ = some (.func (.func 42) #[] #[.pointer (some ⟨Bk, 0, none⟩)]) := hb1.cell (by simp [go_sem])
  have R1 : RCells w1 (w.heap.size + 1 + 1 + 1) := by
    refine ⟨hb1.cell (by simp [go_sem]), hb1.cell (by simp [go_sem]), hb1.cell (by simp [go_sem]), hb1.cell (by simp [go_sem]), hb1.cell (by simp [go_sem]), hb1.cell (by simp [go_sem]), ?_, ?_, ?_, ?_, ?_, ?_⟩
    all_goals exact hb1.frozen (by simp [go_sem]; rfl) (by simp [go_sem])
  have hb : Bl w w1 := (by repeat (first | assumption | exact Bl.refl _ | apply Bl.drewN | apply Bl.drew | apply Bl.alloc | (refine Bl.dr ?_ (by assumption)) | (refine Bl.trans ?_ (by assumption))))
  have hO1 : ROk w1 a c ⟨id, l⟩ := HO.out.bl hb
  have hsz : w.heap.size + 1 + 1 + 1 + 1 + 1 < w1.heap.size := by have := hb1.size; simp at this; omega
  clear hb1
  gi_wp2
  refine ⟨trivial, ?_⟩
  refine (callsIn_wide.2 (HWW.out _)).mono ?_; rintro e w2 ⟨v, rfl, ⟨Bw, Bd, Bs, rfl, hw, hd, hs, HB⟩, hb2⟩
  have d2 : w2.cell? ⟨w.heap.size + 1, 0, none⟩ = some (.int .i64 p) := hb2.cell d0
  have q2 : w2.cell? ⟨w.heap.size + 1 + 1, 0, none⟩ = some (.func (.func 42) #[] #[.pointer (some ⟨Bk, 0, none⟩)]) := hb2.cell q0
  have R2 : RCells w2 (w.heap.size + 1 + 1 + 1) := R1.below hb2 hsz
  have hO2 : ROk w2 a c ⟨id, l⟩ := hO1.bl hb2
  have hbw : Bl w w2 := hb.trans hb2
  have hsz2 : w.heap.size + 1 + 1 + 1 + 1 + 1 < w2.heap.size := by have := hb2.size; omega
  clear hb2 hb R1 hO1 c1 d0 q0
  gi_wp2
  refine wpIn_rangeFunc_ownH rfl hn1 (gf := 52) (lb := #[.pointer (some ⟨Bw, 0, none⟩), .pointer (some ⟨Bd, 0, none⟩), .pointer (some ⟨Bs, 0, none⟩)]) rfl trivial (enters_of Try.func52 (by kernel_rfl) rfl)
    (walkStops 3 (by omega) Bw Bd Bs w2.heap.size (fun k => k < w2.heap.size) (fun _ h => h) a c l p false w2 (Nat.le_refl _) (fun b off e hne => by subst e; exact ents_lt hO2.ents hne) hw.2 hd.2 hs.2 hl hp HB hO2.ents) (fun h k => Kept.trans h k)
    (fun W y o o' hy h _ _ => Kept.putObj (fun _ h => h) W y o o' hy h) (Below.refl _ _) (fun _ => rfl)
    (SI (fun x => x.dead == d) w2) (SX (fun x => x.dead == d) w (w.heap.size + 1 + 1 + 1)) (SI.own _ _) (SX.own _ _ _ _ hbw.size) ⟨(by simp), Below.refl _ _⟩
    (fun x a' W => ∃ Bx Bn, (w2.heap.size ≤ Bx ∧ w2.heap.size ≤ Bn) ∧ W.cell? ⟨Bx, 0, none⟩ = some (.string x.1.key) ∧ W.cell? ⟨Bx, 1, none⟩ = some (.string x.1.val) ∧ W.cell? ⟨Bx, 2, none⟩ = some (.bool x.1.dead) ∧ W.cell? ⟨Bx, 3, none⟩ = some (.int .i64 x.1.seq) ∧ W.cell? ⟨Bn, 0, none⟩ = some (.int .i64 x.2) ∧
      a' = { tmps := #[.agg #[.int .i64 id, .slice a l.length c], cur p, .int .i64 0, (.func (.func 42) #[] #[.pointer (some ⟨Bk, 0, none⟩)]), .pointer (some ⟨w.heap.size, 0, none⟩), .pointer (some ⟨w.heap.size + 1, 0, none⟩), undef, .pointer (some ⟨w.heap.size + 1 + 1, 0, none⟩), .pointer (some ⟨w.heap.size + 1 + 1 + 1, 0, none⟩), .pointer (some ⟨w.heap.size + 1 + 1 + 1 + 1, 0, none⟩), .pointer (some ⟨w.heap.size + 1 + 1 + 1 + 1 + 1, 0, none⟩), .int .i64 0, .pointer (some ⟨Bx, 0, none⟩), .pointer (some ⟨Bn, 0, none⟩), .agg #[.int .i64 id, .slice a l.length c], .agg #[.int .i64 p], .int .i64 0, .int .i64 0, .bool false, undef, undef, undef, .pointer (some ⟨w.heap.size, 1, none⟩), .slice a l.length c, .agg #[.int .i64 p], .int .i64 0, .func (.func 52) #[] #[.pointer (some ⟨Bw, 0, none⟩), .pointer (some ⟨Bd, 0, none⟩), .pointer (some ⟨Bs, 0, none⟩)], .agg #[.string x.1.key, .string x.1.val, .bool x.1.dead, .int .i64 x.1.seq], .agg #[.int .i64 x.2], undef, undef, undef, undef, undef, undef, undef], defers := [] })
    (fun x a' => Own.from (fun s A B row hs hg hr => by
      obtain ⟨Bx, Bn, hB, e0, e1, e2, e3, e4, rfl⟩ := hs
      exact ⟨Bx, Bn, hB, cell_kept e0 hg hr, cell_kept e1 hg hr, cell_kept e2 hg hr, cell_kept e3 hg hr, cell_kept e4 hg hr, rfl⟩) _) ?assign ?body ?done ?stop
  case assign =>
    rintro y pre x W K hi hK
    simp only [yv, Ent.v, cur]
    have hsz3 := hi.2.size
    gi_wp2
    exact hK _ _ (((KeepsOthers.alloc _ _).trans (KeepsOthers.alloc _ _)).from _) (((Kept.refl _ W).alloc (fun _ h => h) hsz3 _).alloc (fun _ h => h) (by simp; omega) _) ⟨hi.1, (hi.2.alloc hsz3 _).alloc (by simp; omega) _⟩
      ⟨W.heap.size, W.heap.size + 1, ⟨hsz3, by omega⟩, by simp [go_sem], by simp [go_sem], by simp [go_sem], by simp [go_sem], by simp [go_sem], rfl⟩
  case body =>
    rintro y pre x a' W hl ⟨r, hr⟩ ⟨hp, hB⟩ ⟨Bx, Bn, hBs, e0, e1, e2, e3, e4, rfl⟩ hlt
    have hq : W.cell? ⟨w.heap.size + 1 + 1, 0, none⟩ = some (.func (.func 42) #[] #[.pointer (some ⟨Bk, 0, none⟩)]) := (hB.cell (p := ⟨w.heap.size + 1 + 1, 0, none⟩) (by simp; omega)).trans q2
    gi_wp2
    refine ⟨trivial, ?_⟩
    refine (CallsIn.inRound y (callsIn_wide.2 ((fun x W hb => walkKind x d Bk W (Bl.cell hb hk) (Nat.lt_of_lt_of_le hkb (Bl.size hb))) x.1 W (hbw.trans hB)))).mono ?_; rintro e w3 ⟨rfl, hb3⟩
    obtain ⟨za0, za1, za2, za3, za4, za5, zf0, zf1, zf2, zf3, zf4, zf5⟩ := R2.below (hB.trans (Below.mono hb3 hB.size)) hsz2
    have e0 : w3.cell? ⟨Bx, 0, none⟩ = some (.string x.1.key) := hb3.cell e0
    have e1 : w3.cell? ⟨Bx, 1, none⟩ = some (.string x.1.val) := hb3.cell e1
    have e2 : w3.cell? ⟨Bx, 2, none⟩ = some (.bool x.1.dead) := hb3.cell e2
    have e3 : w3.cell? ⟨Bx, 3, none⟩ = some (.int .i64 x.1.seq) := hb3.cell e3
    have e4 : w3.cell? ⟨Bn, 0, none⟩ = some (.int .i64 x.2) := hb3.cell e4
    have hkf : KeepsFrom w2.heap.size W w3 := KeepsFrom.of_bl hb3
    rcases hT : (fun x => x.dead == d) x.1 with _ | _
    · first
      | (exfalso; simp at hT; done)
      | (gi_wp2
         exact ⟨hkf, Kept.of_below (fun _ h => h) (Below.mono hb3 hB.size), ⟨fun y' hy' => (List.mem_append.1 hy').elim (hp y') (fun e' => by simp at e'; subst e'; exact hT), hB.trans (Below.mono hb3 hB.size)⟩⟩)
    · have HT := Lib.hid hT
      have hbX : Below w.heap.size w w3 := (hbw.trans hB).trans hb3
      have hmix : Try.prog.follows .mixedOrders = true := by kernel_rfl
      gi_wp2
      gi_region_with_o (fail)
      all_goals gi_wp2
      all_goals
        refine ⟨hkf.trans ((keeps6 _ _ _ _ _ _ _ _ _ _ _ _ _).from _), ⟨rfl, pre, x, rfl, hp, (by first | exact HT.out | rfl), ?_⟩, below6 hbX _ _ _ _ _ _ _ _ _ _ _ _ (by simp; omega) (by simp; omega) (by simp; omega) (by simp; omega) (by simp; omega) (by simp; omega)⟩
        refine ⟨?_, ?_, ?_, ?_, ?_, ?_⟩ <;> simp [go_sem, za0, za1, za2, za3, za4, za5]
  case done =>
    rintro D ys W hD rfl ⟨hp, hB⟩ hK
    have hq : W.cell? ⟨w.heap.size + 1, 0, none⟩ = some (.int .i64 p) := (hB.cell (p := ⟨w.heap.size + 1, 0, none⟩) (by simp; omega)).trans d2
    obtain ⟨za0, za1, za2, za3, za4, za5, zf0, zf1, zf2, zf3, zf4, zf5⟩ := R2.below hB hsz2
    have hmix : Try.prog.follows .mixedOrders = true := by kernel_rfl
    have hbW : Bl w W := hbw.trans hB
    gi_wp2
    gi_region
    gi_wp2
    have hR : RHold (w.heap.size + 1 + 1 + 1) (ent0, (p : Int), 12) ((((((W.setCell ⟨w.heap.size + 1 + 1 + 1, 0, none⟩ (.string ⟨#[]⟩)).setCell ⟨w.heap.size + 1 + 1 + 1, 1, none⟩ (.string ⟨#[]⟩)).setCell ⟨w.heap.size + 1 + 1 + 1, 2, none⟩ (.bool false)).setCell ⟨w.heap.size + 1 + 1 + 1, 3, none⟩ (.int .i64 0)).setCell ⟨w.heap.size + 1 + 1 + 1 + 1, 0, none⟩ (.int .i64 p)).setCell ⟨w.heap.size + 1 + 1 + 1 + 1 + 1, 0, none⟩ (.int .i64 12)).drew := by
      refine ⟨?_, ?_, ?_, ?_, ?_, ?_⟩ <;> simp [go_sem, za0, za1, za2, za3, za4, za5, ent0]
    have hK' := (keeps6 W ⟨w.heap.size + 1 + 1 + 1, 0, none⟩ ⟨w.heap.size + 1 + 1 + 1, 1, none⟩ ⟨w.heap.size + 1 + 1 + 1, 2, none⟩ ⟨w.heap.size + 1 + 1 + 1, 3, none⟩ ⟨w.heap.size + 1 + 1 + 1 + 1, 0, none⟩ ⟨w.heap.size + 1 + 1 + 1 + 1 + 1, 0, none⟩ (.string ⟨#[]⟩) (.string ⟨#[]⟩) (.bool false) (.int .i64 0) (.int .i64 p) (.int .i64 12)).same D _ hK rfl
    have hb6 := below6 hbW ⟨w.heap.size + 1 + 1 + 1, 0, none⟩ ⟨w.heap.size + 1 + 1 + 1, 1, none⟩ ⟨w.heap.size + 1 + 1 + 1, 2, none⟩ ⟨w.heap.size + 1 + 1 + 1, 3, none⟩ ⟨w.heap.size + 1 + 1 + 1 + 1, 0, none⟩ ⟨w.heap.size + 1 + 1 + 1 + 1 + 1, 0, none⟩ (.string ⟨#[]⟩) (.string ⟨#[]⟩) (.bool false) (.int .i64 0) (.int .i64 p) (.int .i64 12) (by simp; omega) (by simp; omega) (by simp; omega) (by simp; omega) (by simp; omega) (by simp; omega)
    have heq := wres_miss (t := (fun x => x.dead == d)) hp
    refine ⟨by simp, .inl ⟨_, _, rfl, run_takeDeferred hK', ?_⟩⟩
    obtain ⟨k0, k1, k2, k3, k4, k5⟩ := RHold.putObj hR hK'
    (try rw [heq])
    refine ⟨wv _, ?_, ⟨rfl, (hb6.trans (belowK_b (w := w) (Nat.le_refl _) _ D _ _ (Nat.le_trans hbw.size hD) hK' rfl rfl))⟩⟩
    unfold wv
    simp [results, Try.f41, go_sem, k0, k1, k2, k3, k4, k5, Ent.v]
  case stop =>
    rintro D c pre W hD ⟨k, hk, rfl⟩ ⟨⟨rfl, pre', x, hpre, hf, ht, g0, g1, g2, g3, g4, g5⟩, hB⟩ hK
    have heq := wres_hit (t := (fun x => x.dead == d)) hk hpre hf ht
    have hR : RHold (w.heap.size + 1 + 1 + 1) (x.1, x.2, 0) W := ⟨g0, g1, g2, g3, g4, g5⟩
    gi_wp2
    refine ⟨by simp, .inl ⟨_, _, rfl, run_takeDeferred hK, ?_⟩⟩
    obtain ⟨k0, k1, k2, k3, k4, k5⟩ := RHold.putObj hR hK
    (try rw [heq])
    refine ⟨wv _, ?_, ⟨rfl, (hB.trans (belowK_b (w := w) (Nat.le_refl _) W D _ _ (Nat.le_trans hbw.size hD) hK rfl rfl))⟩⟩
    unfold wv
    simp [results, Try.f41, go_sem, k0, k1, k2, k3, k4, k5, Ent.v]
set_option maxHeartbeats 8000000 in
theorem walkStepKind1 (a : Option Addr) (c : Nat) (r : Rn) (p : Nat) (d : Bool) (Bk : Nat) (w : World) (hk : w.cell? ⟨Bk, 0, none⟩ = some (.bool d)) (h : ROk w a c r) (h0 : wchk r p = 0) (hl : r.es.length ≤ 5000) (hp : p ≤ r.es.length) :
    CallsIn Fence.wide 4 Try.prog 41 #[r.v a c, cur p, .int .i64 1, .func (.func 42) #[] #[.pointer (some ⟨Bk, 0, none⟩)]] w (RB w (wv (wres r.es p true (fun x => x.dead == d)))) := by
  have hkb := lt_of_cell hk
  refine callsIn_of_wp_marks Try.func41 rfl trivial ?_ rfl
  simp only [Try.ntmps41, List.size_toArray, List.length_cons, List.length_nil, Nat.reduceAdd, Nat.reduceSub, Array.replicate_succ, Array.replicate_zero, List.push_toArray, List.append_toArray, List.nil_append, List.cons_append]
  have hC := fun w h => walkCheck a c r (p : Int) w h
  rw [h0] at hC
  have hWW := fun w => walkWalk1 a c r.es p w
  have hps : ((p : Nat) : Int) = (p : Int) := rfl
  obtain ⟨id, l⟩ := r
  have HO := Lib.hid h
  unfold Rn.v
  simp only at *
  have HC := Lib.hid hC
  have HWW := Lib.hid hWW
  clear hC h hWW h0
  have hn1 : 1 ≤ 4 := by omega
  gi_wp2
  refine ⟨trivial, ?_⟩
  refine (callsIn_wide.2 (HC.out _ (HO.out.bl (by repeat (first | assumption | exact Bl.refl _ | apply Bl.drewN | apply Bl.drew | apply Bl.alloc | (refine Bl.dr ?_ (by assumption)) | (refine Bl.trans ?_ (by assumption))))))).mono ?_; rintro e w1 ⟨rfl, hb1⟩
  have c1 : w1.cell? ⟨w.heap.size, 1, none⟩ = some (.slice a l.length c) := hb1.cell (by simp [go_sem])
  have d0 : w1.cell? ⟨w.heap.size + 1, 0, none⟩ = some (.int .i64 p) := hb1.cell (by simp [go_sem])
  have q0 : w1.cell? ⟨w.heap.size + 1 + 1, 0, none⟩ = some (.func (.func 42) #[] #[.pointer (some ⟨Bk, 0, none⟩)]) := hb1.cell (by simp [go_sem])
  have R1 : RCells w1 (w.heap.size + 1 + 1 + 1) := by
    refine ⟨hb1.cell (by simp [go_sem]), hb1.cell (by simp [go_sem]), hb1.cell (by simp [go_sem]), hb1.cell (by simp [go_sem]), hb1.cell (by simp [go_sem]), hb1.cell (by simp [go_sem]), ?_, ?_, ?_, ?_, ?_, ?_⟩
    all_goals exact hb1.frozen (by simp [go_sem]; rfl) (by simp [go_sem])
  have hb : Bl w w1 := (by repeat (first | assumption | exact Bl.refl _ | apply Bl.drewN | apply Bl.drew | apply Bl.alloc | (refine Bl.dr ?_ (by assumption)) | (refine Bl.trans ?_ (by assumption))))
  have hO1 : ROk w1 a c ⟨id, l⟩ := HO.out.bl hb
  have hsz : w.heap.size + 1 + 1 + 1 + 1 + 1 < w1.heap.size := by have := hb1.size; simp at this; omega
  clear hb1
  gi_wp2
  refine ⟨trivial, ?_⟩
  refine (callsIn_wide.2 (HWW.out _)).mono ?_; rintro e w2 ⟨v, rfl, ⟨Bw, Bd, Bs, rfl, hw, hd, hs, HB⟩, hb2⟩
  have d2 : w2.cell? ⟨w.heap.size + 1, 0, none⟩ = some (.int .i64 p) := hb2.cell d0
  have q2 : w2.cell? ⟨w.heap.size + 1 + 1, 0, none⟩ = some (.func (.func 42) #[] #[.pointer (some ⟨Bk, 0, none⟩)]) := hb2.cell q0
  have R2 : RCells w2 (w.heap.size + 1 + 1 + 1) := R1.below hb2 hsz
  have hO2 : ROk w2 a c ⟨id, l⟩ := hO1.bl hb2
  have hbw : Bl w w2 := hb.trans hb2
  have hsz2 : w.heap.size + 1 + 1 + 1 + 1 + 1 < w2.heap.size := by have := hb2.size; omega
  clear hb2 hb R1 hO1 c1 d0 q0
  gi_wp2
  refine wpIn_rangeFunc_ownH rfl hn1 (gf := 52) (lb := #[.pointer (some ⟨Bw, 0, none⟩), .pointer (some ⟨Bd, 0, none⟩), .pointer (some ⟨Bs, 0, none⟩)]) rfl trivial (enters_of Try.func52 (by kernel_rfl) rfl)
    (walkStops 3 (by omega) Bw Bd Bs w2.heap.size (fun k => k < w2.heap.size) (fun _ h => h) a c l p true w2 (Nat.le_refl _) (fun b off e hne => by subst e; exact ents_lt hO2.ents hne) hw.2 hd.2 hs.2 hl hp HB hO2.ents) (fun h k => Kept.trans h k)
    (fun W y o o' hy h _ _ => Kept.putObj (fun _ h => h) W y o o' hy h) (Below.refl _ _) (fun _ => rfl)
    (SI (fun x => x.dead == d) w2) (SX (fun x => x.dead == d) w (w.heap.size + 1 + 1 + 1)) (SI.own _ _) (SX.own _ _ _ _ hbw.size) ⟨(by simp), Below.refl _ _⟩
    (fun x a' W => ∃ Bx Bn, (w2.heap.size ≤ Bx ∧ w2.heap.size ≤ Bn) ∧ W.cell? ⟨Bx, 0, none⟩ = some (.string x.1.key) ∧ W.cell? ⟨Bx, 1, none⟩ = some (.string x.1.val) ∧ W.cell? ⟨Bx, 2, none⟩ = some (.bool x.1.dead) ∧ W.cell? ⟨Bx, 3, none⟩ = some (.int .i64 x.1.seq) ∧ W.cell? ⟨Bn, 0, none⟩ = some (.int .i64 x.2) ∧
      a' = { tmps := #[.agg #[.int .i64 id, .slice a l.length c], cur p, .int .i64 1, (.func (.func 42) #[] #[.pointer (some ⟨Bk, 0, none⟩)]), .pointer (some ⟨w.heap.size, 0, none⟩), .pointer (some ⟨w.heap.size + 1, 0, none⟩), undef, .pointer (some ⟨w.heap.size + 1 + 1, 0, none⟩), .pointer (some ⟨w.heap.size + 1 + 1 + 1, 0, none⟩), .pointer (some ⟨w.heap.size + 1 + 1 + 1 + 1, 0, none⟩), .pointer (some ⟨w.heap.size + 1 + 1 + 1 + 1 + 1, 0, none⟩), .int .i64 0, .pointer (some ⟨Bx, 0, none⟩), .pointer (some ⟨Bn, 0, none⟩), .agg #[.int .i64 id, .slice a l.length c], .agg #[.int .i64 p], .int .i64 0, .int .i64 0, .bool false, undef, undef, undef, .pointer (some ⟨w.heap.size, 1, none⟩), .slice a l.length c, .agg #[.int .i64 p], .int .i64 1, .func (.func 52) #[] #[.pointer (some ⟨Bw, 0, none⟩), .pointer (some ⟨Bd, 0, none⟩), .pointer (some ⟨Bs, 0, none⟩)], .agg #[.string x.1.key, .string x.1.val, .bool x.1.dead, .int .i64 x.1.seq], .agg #[.int .i64 x.2], undef, undef, undef, undef, undef, undef, undef], defers := [] })
    (fun x a' => Own.from (fun s A B row hs hg hr => by
      obtain ⟨Bx, Bn, hB, e0, e1, e2, e3, e4, rfl⟩ := hs
      exact ⟨Bx, Bn, hB, cell_kept e0 hg hr, cell_kept e1 hg hr, cell_kept e2 hg hr, cell_kept e3 hg hr, cell_kept e4 hg hr, rfl⟩) _) ?assign ?body ?done ?stop
  case assign =>
    rintro y pre x W K hi hK
    simp only [yv, Ent.v, cur]
    have hsz3 := hi.2.size
    gi_wp2
    exact hK _ _ (((KeepsOthers.alloc _ _).trans (KeepsOthers.alloc _ _)).from _) (((Kept.refl _ W).alloc (fun _ h => h) hsz3 _).alloc (fun _ h => h) (by simp; omega) _) ⟨hi.1, (hi.2.alloc hsz3 _).alloc (by simp; omega) _⟩
      ⟨W.heap.size, W.heap.size + 1, ⟨hsz3, by omega⟩, by simp [go_sem], by simp [go_sem], by simp [go_sem], by simp [go_sem], by simp [go_sem], rfl⟩
  case body =>
    rintro y pre x a' W hl ⟨r, hr⟩ ⟨hp, hB⟩ ⟨Bx, Bn, hBs, e0, e1, e2, e3, e4, rfl⟩ hlt
    have hq : W.cell? ⟨w.heap.size + 1 + 1, 0, none⟩ = some (.func (.func 42) #[] #[.pointer (some ⟨Bk, 0, none⟩)]) := (hB.cell (p := ⟨w.heap.size + 1 + 1, 0, none⟩) (by simp; omega)).trans q2
    gi_wp2
    refine ⟨trivial, ?_⟩
    refine (CallsIn.inRound y (callsIn_wide.2 ((fun x W hb => walkKind x d Bk W (Bl.cell hb hk) (Nat.lt_of_lt_of_le hkb (Bl.size hb))) x.1 W (hbw.trans hB)))).mono ?_; rintro e w3 ⟨rfl, hb3⟩
    obtain ⟨za0, za1, za2, za3, za4, za5, zf0, zf1, zf2, zf3, zf4, zf5⟩ := R2.below (hB.trans (Below.mono hb3 hB.size)) hsz2
    have e0 : w3.cell? ⟨Bx, 0, none⟩ = some (.string x.1.key) := hb3.cell e0
    have e1 : w3.cell? ⟨Bx, 1, none⟩ = some (.string x.1.val) := hb3.cell e1
    have e2 : w3.cell? ⟨Bx, 2, none⟩ = some (.bool x.1.dead) := hb3.cell e2
    have e3 : w3.cell? ⟨Bx, 3, none⟩ = some (.int .i64 x.1.seq) := hb3.cell e3
    have e4 : w3.cell? ⟨Bn, 0, none⟩ = some (.int .i64 x.2) := hb3.cell e4
    have hkf : KeepsFrom w2.heap.size W w3 := KeepsFrom.of_bl hb3
    rcases hT : (fun x => x.dead == d) x.1 with _ | _
    · first
      | (exfalso; simp at hT; done)
      | (gi_wp2
         exact ⟨hkf, Kept.of_below (fun _ h => h) (Below.mono hb3 hB.size), ⟨fun y' hy' => (List.mem_append.1 hy').elim (hp y') (fun e' => by simp at e'; subst e'; exact hT), hB.trans (Below.mono hb3 hB.size)⟩⟩)
    · have HT := Lib.hid hT
      have hbX : Below w.heap.size w w3 := (hbw.trans hB).trans hb3
      have hmix : Try.prog.follows .mixedOrders = true := by kernel_rfl
      gi_wp2
      gi_region_with_o (fail)
      all_goals gi_wp2
      all_goals
        refine ⟨hkf.trans ((keeps6 _ _ _ _ _ _ _ _ _ _ _ _ _).from _), ⟨rfl, pre, x, rfl, hp, (by first | exact HT.out | rfl), ?_⟩, below6 hbX _ _ _ _ _ _ _ _ _ _ _ _ (by simp; omega) (by simp; omega) (by simp; omega) (by simp; omega) (by simp; omega) (by simp; omega)⟩
        refine ⟨?_, ?_, ?_, ?_, ?_, ?_⟩ <;> simp [go_sem, za0, za1, za2, za3, za4, za5]
  case done =>
    rintro D ys W hD rfl ⟨hp, hB⟩ hK
    have hq : W.cell? ⟨w.heap.size + 1, 0, none⟩ = some (.int .i64 p) := (hB.cell (p := ⟨w.heap.size + 1, 0, none⟩) (by simp; omega)).trans d2
    obtain ⟨za0, za1, za2, za3, za4, za5, zf0, zf1, zf2, zf3, zf4, zf5⟩ := R2.below hB hsz2
    have hmix : Try.prog.follows .mixedOrders = true := by kernel_rfl
    have hbW : Bl w W := hbw.trans hB
    gi_wp2
    gi_region
    gi_wp2
    have hR : RHold (w.heap.size + 1 + 1 + 1) (ent0, (p : Int), 12) ((((((W.setCell ⟨w.heap.size + 1 + 1 + 1, 0, none⟩ (.string ⟨#[]⟩)).setCell ⟨w.heap.size + 1 + 1 + 1, 1, none⟩ (.string ⟨#[]⟩)).setCell ⟨w.heap.size + 1 + 1 + 1, 2, none⟩ (.bool false)).setCell ⟨w.heap.size + 1 + 1 + 1, 3, none⟩ (.int .i64 0)).setCell ⟨w.heap.size + 1 + 1 + 1 + 1, 0, none⟩ (.int .i64 p)).setCell ⟨w.heap.size + 1 + 1 + 1 + 1 + 1, 0, none⟩ (.int .i64 12)).drew := by
      refine ⟨?_, ?_, ?_, ?_, ?_, ?_⟩ <;> simp [go_sem, za0, za1, za2, za3, za4, za5, ent0]
    have hK' := (keeps6 W ⟨w.heap.size + 1 + 1 + 1, 0, none⟩ ⟨w.heap.size + 1 + 1 + 1, 1, none⟩ ⟨w.heap.size + 1 + 1 + 1, 2, none⟩ ⟨w.heap.size + 1 + 1 + 1, 3, none⟩ ⟨w.heap.size + 1 + 1 + 1 + 1, 0, none⟩ ⟨w.heap.size + 1 + 1 + 1 + 1 + 1, 0, none⟩ (.string ⟨#[]⟩) (.string ⟨#[]⟩) (.bool false) (.int .i64 0) (.int .i64 p) (.int .i64 12)).same D _ hK rfl
    have hb6 := below6 hbW ⟨w.heap.size + 1 + 1 + 1, 0, none⟩ ⟨w.heap.size + 1 + 1 + 1, 1, none⟩ ⟨w.heap.size + 1 + 1 + 1, 2, none⟩ ⟨w.heap.size + 1 + 1 + 1, 3, none⟩ ⟨w.heap.size + 1 + 1 + 1 + 1, 0, none⟩ ⟨w.heap.size + 1 + 1 + 1 + 1 + 1, 0, none⟩ (.string ⟨#[]⟩) (.string ⟨#[]⟩) (.bool false) (.int .i64 0) (.int .i64 p) (.int .i64 12) (by simp; omega) (by simp; omega) (by simp; omega) (by simp; omega) (by simp; omega) (by simp; omega)
    have heq := wres_miss (t := (fun x => x.dead == d)) hp
    refine ⟨by simp, .inl ⟨_, _, rfl, run_takeDeferred hK', ?_⟩⟩
    obtain ⟨k0, k1, k2, k3, k4, k5⟩ := RHold.putObj hR hK'
    (try rw [heq])
    refine ⟨wv _, ?_, ⟨rfl, (hb6.trans (belowK_b (w := w) (Nat.le_refl _) _ D _ _ (Nat.le_trans hbw.size hD) hK' rfl rfl))⟩⟩
    unfold wv
    simp [results, Try.f41, go_sem, k0, k1, k2, k3, k4, k5, Ent.v]
  case stop =>
    rintro D c pre W hD ⟨k, hk, rfl⟩ ⟨⟨rfl, pre', x, hpre, hf, ht, g0, g1, g2, g3, g4, g5⟩, hB⟩ hK
    have heq := wres_hit (t := (fun x => x.dead == d)) hk hpre hf ht
    have hR : RHold (w.heap.size + 1 + 1 + 1) (x.1, x.2, 0) W := ⟨g0, g1, g2, g3, g4, g5⟩
    gi_wp2
    refine ⟨by simp, .inl ⟨_, _, rfl, run_takeDeferred hK, ?_⟩⟩
    obtain ⟨k0, k1, k2, k3, k4, k5⟩ := RHold.putObj hR hK
    (try rw [heq])
    refine ⟨wv _, ?_, ⟨rfl, (hB.trans (belowK_b (w := w) (Nat.le_refl _) W D _ _ (Nat.le_trans hbw.size hD) hK rfl rfl))⟩⟩
    unfold wv
    simp [results, Try.f41, go_sem, k0, k1, k2, k3, k4, k5, Ent.v]
set_option maxHeartbeats 8000000 in
theorem walkStepBad (a : Option Addr) (c : Nat) (r : Rn) (n b : Int) (f : Fn) (u v : Array Value) (w : World) (h : ROk w a c r) (h0 : wchk r n ≠ 0) :
    CallsIn Fence.wide 4 Try.prog 41 #[r.v a c, cur n, .int .i64 b, .func f u v] w (RB w (wv (ent0, 0, wchk r n))) := by
  refine callsIn_of_wp_marks Try.func41 rfl trivial ?_ rfl
  simp only [Try.ntmps41, List.size_toArray, List.length_cons, List.length_nil, Nat.reduceAdd, Nat.reduceSub, Array.replicate_succ, Array.replicate_zero, List.push_toArray, List.append_toArray, List.nil_append, List.cons_append]
  have hC := fun w h => walkCheck a c r n w h
  have e' : (wchk r n != 0) = true := by simp [h0]
  have e2 : (wchk r n == 0) = false := by simp [h0]
  generalize wchk r n = q at *
  obtain ⟨id, l⟩ := r
  have HO := Lib.hid h
  unfold Rn.v
  simp only at *
  have HC := Lib.hid hC
  clear hC h
  have hn1 : 1 ≤ 4 := by omega
  gi_wp2
  refine ⟨trivial, ?_⟩
  refine (callsIn_wide.2 (HC.out _ (HO.out.bl (by repeat (first | assumption | exact Bl.refl _ | apply Bl.drewN | apply Bl.drew | apply Bl.alloc | (refine Bl.dr ?_ (by assumption)) | (refine Bl.trans ?_ (by assumption))))))).mono ?_; rintro e w1 ⟨rfl, hb1⟩
  obtain ⟨za0, za1, za2, za3, za4, za5, zf0, zf1, zf2, zf3, zf4, zf5⟩ : RCells w1 (w.heap.size + 1 + 1 + 1) := by
    refine ⟨hb1.cell (by simp [go_sem]), hb1.cell (by simp [go_sem]), hb1.cell (by simp [go_sem]), hb1.cell (by simp [go_sem]), hb1.cell (by simp [go_sem]), hb1.cell (by simp [go_sem]), ?_, ?_, ?_, ?_, ?_, ?_⟩
    all_goals exact hb1.frozen (by simp [go_sem]; rfl) (by simp [go_sem])
  have hb : Bl w w1 := (by repeat (first | assumption | exact Bl.refl _ | apply Bl.drewN | apply Bl.drew | apply Bl.alloc | (refine Bl.dr ?_ (by assumption)) | (refine Bl.trans ?_ (by assumption))))
  clear hb1
  have hmix : Try.prog.follows .mixedOrders = true := by kernel_rfl
  gi_wp2
  refine ⟨wv (ent0, 0, q), ?_, ⟨rfl, ?_⟩⟩
  · unfold wv
    simp [results, Try.f41, go_sem, za0, za1, za2, za3, za4, za5, Ent.v, ent0]
  · refine Below.setCell ?_ (by simp; omega) _
    refine Below.setCell ?_ (by simp; omega) _
    refine Below.setCell ?_ (by simp; omega) _
    refine Below.setCell ?_ (by simp; omega) _
    refine Below.setCell ?_ (by simp; omega) _
    refine Below.setCell ?_ (by simp; omega) _
    exact hb
end Go.Proofs.Ytinbdppekhcekaa

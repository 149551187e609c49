/-
  Own texts laid together: WkI.
-/
import Derived.Test.YtinbdppekhcekaaZh
import Derived.RangeFuncNested
import Derived.RangeFuncBound
import Derived.RangeFuncCalls
import Derived.RangeFuncLeaves
import Derived.Shelf.Abstract
import Derived.Shelf.RegionOpen
import Derived.OwnWalkIn
import Derived.TacticsInMore
import Derived.LoopNIn
import Derived.LoopIn
/-
  ways, walk; the two tests all and Skip's own; a walk with no round.
-/
namespace Go.Proofs.Ytinbdppekhcekaa
open Go.RowKit Go.Shelf
set_option linter.unusedSimpArgs false
set_option linter.unusedVariables false
set_option maxRecDepth 100000
attribute [local go_sem] Oper.semAt_some

/-- The k-th entry of a walk from place p, with the cursor behind it; how many come. -/
def wf (l : List Ent) (p : Nat) (back : Bool) : Nat → Ent × Int := if back then fun k => (l.getD (p - k - 1) ent0, (p : Int) - (k : Int) + -1) else fun k => (l.getD (p + k) ent0, ((p + k + 1 : Nat) : Int))
def wN (l : List Ent) (p : Nat) (back : Bool) : Nat := if back then p else l.length - p

/-- The three boxes that walk's closure has captured. -/
structure WBox (w : World) (a : Option Addr) (c : Nat) (l : List Ent) (p : Nat) (back : Bool) (Bw Bd Bs : Nat) : Prop where
  cw : w.cell? ⟨Bw, 0, none⟩ = some (.int .i64 p)
  c0 : w.cell? ⟨Bd, 0, none⟩ = some (.func (.func (if back then 60 else 58)) #[] #[])
  c1 : w.cell? ⟨Bd, 1, none⟩ = some (.func (.func (if back then 61 else 59)) #[] #[])
  c2 : w.cell? ⟨Bd, 2, none⟩ = some (.int .i64 (if back then -1 else 1))
  cs : w.cell? ⟨Bs, 0, none⟩ = some (.slice a l.length c)

set_option maxHeartbeats 2000000 in
theorem walk1_none0 (n : Nat) (hn : 2 ≤ n) (y Bw Bd Bs : Nat) (a : Option Addr) (m c : Nat) (W : World) (cw : W.cell? ⟨Bw, 0, none⟩ = some (.int .i64 m))
    (c0 : W.cell? ⟨Bd, 0, none⟩ = some (.func (.func 58) #[] #[])) (cs : W.cell? ⟨Bs, 0, none⟩ = some (.slice a m c)) :
    CallsIn Fence.wide n Try.prog 52 #[.func (.yield y) #[] #[], .pointer (some ⟨Bw, 0, none⟩), .pointer (some ⟨Bd, 0, none⟩), .pointer (some ⟨Bs, 0, none⟩)] W fun e W' => (∃ v, e = .returned v) ∧ W' = W := by
  refine callsIn_of_wp Try.func52 rfl trivial ?_ rfl
  simp only [Try.ntmps52, List.size_toArray, List.length_cons, List.length_nil, Nat.reduceAdd, Nat.reduceSub, Array.replicate_succ, Array.replicate_zero, List.push_toArray, List.append_toArray, List.nil_append, List.cons_append]
  have hn1 : 1 ≤ n := by omega
  gi_wp2
  gi_loopw [5, 6] (fun i z wr => i = .int .i64 ((m : Int)) ∧ wr = W) (fun _ _ _ => 0)
  case atStart => exact ⟨rfl, rfl⟩
  case round =>
    obtain ⟨rfl, rfl⟩ := hrel
    have hmix : Try.prog.follows .mixedOrders = true := by kernel_rfl
    gi_wp2
    refine ⟨trivial, ?_⟩
    refine (callsIn_wide.2 (walkMore1 _ _ _)).mono ?_; rintro e w' ⟨rfl, rfl⟩
    gi_wp2
    go_end0
    exact ⟨⟨_, rfl⟩, rfl⟩
set_option maxHeartbeats 2000000 in
theorem walk1_none1 (n : Nat) (hn : 2 ≤ n) (y Bw Bd Bs : Nat) (a : Option Addr) (m c : Nat) (W : World) (cw : W.cell? ⟨Bw, 0, none⟩ = some (.int .i64 0))
    (c0 : W.cell? ⟨Bd, 0, none⟩ = some (.func (.func 60) #[] #[])) (cs : W.cell? ⟨Bs, 0, none⟩ = some (.slice a m c)) :
    CallsIn Fence.wide n Try.prog 52 #[.func (.yield y) #[] #[], .pointer (some ⟨Bw, 0, none⟩), .pointer (some ⟨Bd, 0, none⟩), .pointer (some ⟨Bs, 0, none⟩)] W fun e W' => (∃ v, e = .returned v) ∧ W' = W := by
  refine callsIn_of_wp Try.func52 rfl trivial ?_ rfl
  simp only [Try.ntmps52, List.size_toArray, List.length_cons, List.length_nil, Nat.reduceAdd, Nat.reduceSub, Array.replicate_succ, Array.replicate_zero, List.push_toArray, List.append_toArray, List.nil_append, List.cons_append]
  have hn1 : 1 ≤ n := by omega
  gi_wp2
  gi_loopw [5, 6] (fun i z wr => i = .int .i64 ((0 : Int)) ∧ wr = W) (fun _ _ _ => 0)
  case atStart => exact ⟨rfl, rfl⟩
  case round =>
    obtain ⟨rfl, rfl⟩ := hrel
    have hmix : Try.prog.follows .mixedOrders = true := by kernel_rfl
    gi_wp2
    refine ⟨trivial, ?_⟩
    refine (callsIn_wide.2 (walkMore2 _ _ _)).mono ?_; rintro e w' ⟨rfl, rfl⟩
    gi_wp2
    go_end0
    exact ⟨⟨_, rfl⟩, rfl⟩

/-- Both directions. -/
abbrev dirF : Value := .agg #[.func (.func 58) #[] #[], .func (.func 59) #[] #[], .int .i64 1]
abbrev dirB : Value := .agg #[.func (.func 60) #[] #[], .func (.func 61) #[] #[], .int .i64 (-1)]
abbrev dirs : Value := .agg #[.func (.func 58) #[] #[], .func (.func 59) #[] #[], .int .i64 1, .func (.func 60) #[] #[], .func (.func 61) #[] #[], .int .i64 (-1)]
theorem run_store_func (P : Program) (w : World) (a : Addr) (m : Mode) (f : Fn) (x y : Array Value) : (store a (.func f x y) m).run P w = stored P w a (.func f x y) m := run_store P w a _ m rfl
attribute [local go_sem] run_store_func
theorem idxF (w : World) : (Instr.index 79 dirs (.int .i64 0)).run Try.prog w = .ok dirF w := by kernel_rfl
theorem idxB (w : World) : (Instr.index 79 dirs (.int .i64 1)).run Try.prog w = .ok dirB w := by kernel_rfl
set_option maxHeartbeats 1000000 in
theorem walkWays (w : World) : Calls Try.prog 51 #[] w (RB w dirs) := by
  go_enter Try.func51, Try.ntmps51
  go_wp2_with fail
  
  refine bodyPost_ret (v := dirs) (by simp [results, Try.results51, go_sem, *]) rfl ?_
  exact RB.mk rfl (by repeat (first | assumption | exact Bl.refl _ | apply Bl.drewN | apply Bl.drew | apply Bl.alloc | (refine Bl.setCell ?_ _ (by first | (simp; done) | (simp; omega)) _) | (refine Bl.dr ?_ (by assumption)) | (refine Bl.trans ?_ (by assumption))))

def WIt (w0 : World) (a : Option Addr) (c : Nat) (l : List Ent) (p : Nat) (back : Bool) (w' : World) (v : Value) : Prop :=
  ∃ Bw Bd Bs, v = .func (.func 52) #[] #[.pointer (some ⟨Bw, 0, none⟩), .pointer (some ⟨Bd, 0, none⟩), .pointer (some ⟨Bs, 0, none⟩)] ∧ (w0.heap.size ≤ Bw ∧ Bw < w'.heap.size) ∧ (w0.heap.size ≤ Bd ∧ Bd < w'.heap.size) ∧ (w0.heap.size ≤ Bs ∧ Bs < w'.heap.size) ∧ WBox w' a c l p back Bw Bd Bs
set_option maxHeartbeats 1000000 in
theorem walkWalk0 (a : Option Addr) (c : Nat) (l : List Ent) (p : Nat) (w : World) : Calls Try.prog 39 #[.slice a l.length c, cur p, .int .i64 0] w (RM w (WIt w a c l p false)) := by
  go_enter Try.func39, Try.ntmps39
  go_wp2_with fail
  refine (walkWays _).mono ?_; rintro e w1 ⟨rfl, hb1⟩
  have ix0 := idxF w1
  have ix1 := idxB w1
  have k0 : w1.cell? ⟨w.heap.size, 0, none⟩ = some (.slice a l.length c) := hb1.cell (by simp [go_sem])
  have k1 : w1.cell? ⟨w.heap.size + 1, 0, none⟩ = some (.int .i64 p) := hb1.cell (by simp [go_sem])
  have hb : Bl w w1 := (by repeat (first | assumption | exact Bl.refl _ | apply Bl.drewN | apply Bl.drew | apply Bl.alloc | (refine Bl.dr ?_ (by assumption)) | (refine Bl.trans ?_ (by assumption))))
  have hsz : w.heap.size + 1 + 1 ≤ w1.heap.size := by have := hb1.size; simpa using this
  clear hb1
  go_wp2_with fail
  go_ret
  refine RM.mk ⟨w.heap.size + 1, w1.heap.size, w.heap.size, rfl, ⟨by omega, by simp; omega⟩, ⟨by omega, by simp⟩, ⟨by omega, by simp; omega⟩, ⟨?_, ?_, ?_, ?_, ?_⟩⟩ (by repeat (first | assumption | exact Bl.refl _ | apply Bl.drewN | apply Bl.drew | apply Bl.alloc | (refine Bl.dr ?_ (by assumption)) | (refine Bl.trans ?_ (by assumption))))
  all_goals first | exact ((Bl.refl w1).alloc _).cell k1 | exact ((Bl.refl w1).alloc _).cell k0 | simp [go_sem]
set_option maxHeartbeats 1000000 in
theorem walkWalk1 (a : Option Addr) (c : Nat) (l : List Ent) (p : Nat) (w : World) : Calls Try.prog 39 #[.slice a l.length c, cur p, .int .i64 1] w (RM w (WIt w a c l p true)) := by
  go_enter Try.func39, Try.ntmps39
  go_wp2_with fail
  refine (walkWays _).mono ?_; rintro e w1 ⟨rfl, hb1⟩
  have ix0 := idxF w1
  have ix1 := idxB w1
  have k0 : w1.cell? ⟨w.heap.size, 0, none⟩ = some (.slice a l.length c) := hb1.cell (by simp [go_sem])
  have k1 : w1.cell? ⟨w.heap.size + 1, 0, none⟩ = some (.int .i64 p) := hb1.cell (by simp [go_sem])
  have hb : Bl w w1 := (by repeat (first | assumption | exact Bl.refl _ | apply Bl.drewN | apply Bl.drew | apply Bl.alloc | (refine Bl.dr ?_ (by assumption)) | (refine Bl.trans ?_ (by assumption))))
  have hsz : w.heap.size + 1 + 1 ≤ w1.heap.size := by have := hb1.size; simpa using this
  clear hb1
  go_wp2_with fail
  go_ret
  refine RM.mk ⟨w.heap.size + 1, w1.heap.size, w.heap.size, rfl, ⟨by omega, by simp; omega⟩, ⟨by omega, by simp⟩, ⟨by omega, by simp; omega⟩, ⟨?_, ?_, ?_, ?_, ?_⟩⟩ (by repeat (first | assumption | exact Bl.refl _ | apply Bl.drewN | apply Bl.drew | apply Bl.alloc | (refine Bl.dr ?_ (by assumption)) | (refine Bl.trans ?_ (by assumption))))
  all_goals first | exact ((Bl.refl w1).alloc _).cell k1 | exact ((Bl.refl w1).alloc _).cell k0 | simp [go_sem]

set_option maxHeartbeats 1000000 in
theorem walkAll (x : Ent) (w : World) : Calls Try.prog 43 #[x.v] w (RB w (.bool true)) := by
  unfold Ent.v
  go_enter Try.func43, Try.ntmps43
  go_wp2_with fail
  go_ret
  exact RB.mk rfl (by repeat (first | assumption | exact Bl.refl _ | apply Bl.drewN | apply Bl.drew | apply Bl.alloc | (refine Bl.dr ?_ (by assumption)) | (refine Bl.trans ?_ (by assumption))))
set_option maxHeartbeats 1000000 in
theorem walkKind (x : Ent) (d : Bool) (B : Nat) (w : World) (hd : w.cell? ⟨B, 0, none⟩ = some (.bool d)) (hB : B < w.heap.size) : Calls Try.prog 42 #[x.v, .pointer (some ⟨B, 0, none⟩)] w (RB w (.bool (x.dead == d))) := by
  unfold Ent.v
  go_enter Try.func42, Try.ntmps42
  go_wp2_with fail
  go_ret
  exact RB.mk rfl (by repeat (first | assumption | exact Bl.refl _ | apply Bl.drewN | apply Bl.drew | apply Bl.alloc | (refine Bl.dr ?_ (by assumption)) | (refine Bl.trans ?_ (by assumption))))
end Go.Proofs.Ytinbdppekhcekaa

/-
  Own texts laid together: WkG.
-/
import Derived.Test.YtinbdppekhcekaaZg
import Derived.RangeFuncNested
import Derived.RangeFuncBound
import Derived.RangeFuncCalls
import Derived.RangeFuncLeaves
import Derived.Shelf.Abstract
import Derived.Shelf.RegionOpen
import Derived.OwnWalkIn
import Derived.TacticsInMore
import Derived.LoopNIn
import Derived.LoopIn
/-
  Contract of walk's own iterator, both ways.
-/
namespace Go.Proofs.Ytinbdppekhcekaa
open Go.RowKit Go.Shelf
set_option linter.unusedSimpArgs false
set_option linter.unusedVariables false
set_option maxRecDepth 100000
attribute [local go_sem] Oper.semAt_some

/-- The blocks that K names lie as they lay; no block has gone. -/
def Kept (K : Nat → Prop) (A B : World) : Prop := A.heap.size ≤ B.heap.size ∧ ∀ k, K k → B.heap[k]? = A.heap[k]?
theorem Kept.refl (K : Nat → Prop) (A : World) : Kept K A A := ⟨Nat.le_refl _, fun _ _ => rfl⟩
theorem Kept.trans {K : Nat → Prop} {A B C : World} (h : Kept K A B) (k : Kept K B C) : Kept K A C := ⟨Nat.le_trans h.1 k.1, fun i hi => (k.2 i hi).trans (h.2 i hi)⟩
theorem Kept.drew {K : Nat → Prop} {A B : World} (h : Kept K A B) : Kept K A B.drew := ⟨h.1, h.2⟩
theorem Kept.alloc {K : Nat → Prop} {n₀ : Nat} {A B : World} (h : Kept K A B) (hK : ∀ k, K k → k < n₀) (hB : n₀ ≤ B.heap.size) (o : Obj) : Kept K A (B.alloc o) :=
  h.trans ⟨by simp, fun k hk => Below.heap_alloc _ _ _ (Nat.lt_of_lt_of_le (hK k hk) hB)⟩
theorem Kept.cell {K : Nat → Prop} {A B : World} (h : Kept K A B) {p : Addr} (hp : K p.block) : B.cell? p = A.cell? p := World.cell?_of_block (w := A) (h.2 p.block hp)
theorem Kept.of_below {K : Nat → Prop} {n₀ : Nat} {A B : World} (hK : ∀ k, K k → k < n₀) (h : Below n₀ A B) : Kept K A B := ⟨h.size, fun k hk => h.block k (hK k hk)⟩
theorem Kept.setCell {K : Nat → Prop} {A B : World} (h : Kept K A B) {p : Addr} (hp : ¬ K p.block) (u : Value) : Kept K A (B.setCell p u) :=
  h.trans ⟨by simp [World.setCell], fun k hk => Below.heap_setCell _ _ _ _ (fun e => hp (e ▸ hk))⟩

/-- What has come when k rounds are over. -/
def upto {α : Type} (f : Nat → α) (k : Nat) : List α := (List.range k).map f
theorem upto_succ {α : Type} (f : Nat → α) (k : Nat) : upto f (k + 1) = upto f k ++ [f k] := by simp [upto, List.range_succ]
theorem upto_length {α : Type} (f : Nat → α) (k : Nat) : (upto f k).length = k := by simp [upto]

set_option maxHeartbeats 2000000 in
theorem walkMore1 (x y : Int) (w : World) : Calls Try.prog 58 #[.int .i64 x, .int .i64 y] w fun e w' => e = .returned (.bool (decide (x < y))) ∧ w = w' := by
  go_enter Try.func58, Try.ntmps58
  go_wp2_with fail
  go_ret
  exact ⟨rfl, rfl⟩
theorem walkAt1 (x : Int) (w : World) : Calls Try.prog 59 #[.int .i64 x] w fun e w' => e = .returned (.int .i64 x) ∧ w = w' := by
  go_enter Try.func59, Try.ntmps59
  go_wp2_with fail
  go_ret
  exact ⟨rfl, rfl⟩
theorem walkMore2 (x y : Int) (w : World) : Calls Try.prog 60 #[.int .i64 x, .int .i64 y] w fun e w' => e = .returned (.bool (decide (0 < x))) ∧ w = w' := by
  go_enter Try.func60, Try.ntmps60
  go_wp2_with fail
  go_ret
  exact ⟨rfl, rfl⟩
theorem walkAt2 (x : Int) (w : World) (h1 : -5000 ≤ x) (h2 : x ≤ 5000) : Calls Try.prog 61 #[.int .i64 x] w fun e w' => e = .returned (.int .i64 (x - 1)) ∧ w = w' := by
  go_enter Try.func61, Try.ntmps61
  go_wp2_with fail
  go_ret
  exact ⟨rfl, rfl⟩

/-- What a round yields. -/
def yv (x : Ent × Int) : Array Value := #[x.1.v, cur x.2]

set_option maxHeartbeats 4000000 in
theorem walk1_fwd (n : Nat) (hn : 2 ≤ n) (y Bw Bd Bs n₀ b off c N a0 : Nat) (l : List Ent) (hN : a0 + N = l.length) (f : Nat → Ent × Int) (hf : f = fun k => (l.getD (a0 + k) ent0, ((a0 + k + 1 : Nat) : Int)))
    (K : Nat → Prop) (hK : ∀ k, K k → k < n₀) (hb : K b) (hw0 : K Bw) (hd0 : K Bd) (hs0 : K Bs) (hl : l.length ≤ 5000)
    (J Jx : List (Ent × Int) → World → Prop) (B : Nat) (hJ : AbidesFrom B J)
    (hY : ∀ pre x W, J pre W → pre.length < N → YieldAt Fence.wide (n - 1) Try.prog y (yv x) W fun e W' =>
      (e = .returned (.bool true) ∧ J (pre ++ [x]) W' ∧ Kept K W W') ∨ (e = .returned (.bool false) ∧ Jx (pre ++ [x]) W'))
    (W : World) (hn0 : n₀ ≤ W.heap.size) (cw : W.cell? ⟨Bw, 0, none⟩ = some (.int .i64 a0))
    (c0 : W.cell? ⟨Bd, 0, none⟩ = some (.func (.func 58) #[] #[])) (c1 : W.cell? ⟨Bd, 1, none⟩ = some (.func (.func 59) #[] #[])) (c2 : W.cell? ⟨Bd, 2, none⟩ = some (.int .i64 1))
    (cs : W.cell? ⟨Bs, 0, none⟩ = some (.slice (some ⟨b, off, none⟩) l.length c)) (he : ∀ i x, l[i]? = some x → EntAt W b (off + i * 4) x) (h0 : J [] W) :
    CallsIn Fence.wide n Try.prog 52 #[.func (.yield y) #[] #[], .pointer (some ⟨Bw, 0, none⟩), .pointer (some ⟨Bd, 0, none⟩), .pointer (some ⟨Bs, 0, none⟩)] W fun e W' => (∃ v, e = .returned v) ∧
      ((∃ ys, ys = upto f N ∧ J ys W') ∨ (∃ pre, (∃ k, k ≤ N ∧ pre = upto f k) ∧ Jx pre W')) := by
  
  refine callsIn_of_wp Try.func52 rfl trivial ?_ rfl
  simp only [Try.ntmps52, List.size_toArray, List.length_cons, List.length_nil, Nat.reduceAdd, Nat.reduceSub, Array.replicate_succ, Array.replicate_zero, List.push_toArray, List.append_toArray, List.nil_append, List.cons_append]
  have hn1 : 1 ≤ n := by omega
  have hn2 : 1 ≤ n - 1 := by omega
  gi_wp2
  have HY := Lib.hid hY
  have HE := Lib.hid he
  have HJ := Lib.hid hJ
  clear hY he hJ
  gi_loopw [5, 6] (fun i z wr => ∃ k : Nat, k ≤ N ∧ i = .int .i64 (((a0 + k : Nat) : Int)) ∧ J (upto f k) wr ∧ Kept K W wr ∧ n₀ ≤ wr.heap.size)
    ((fun i _ _ => a0 + N - (intOf i).toNat))
  case atStart => exact ⟨0, Nat.zero_le _, by simp, h0, Kept.refl _ _, hn0⟩
  case round =>
    obtain ⟨k, hk, rfl, hJs, hnx, hsz⟩ := hrel
    have d0 := (hnx.cell (p := ⟨Bd, 0, none⟩) hd0).trans c0
    have d1 := (hnx.cell (p := ⟨Bd, 1, none⟩) hd0).trans c1
    have d2 := (hnx.cell (p := ⟨Bd, 2, none⟩) hd0).trans c2
    have ds := (hnx.cell (p := ⟨Bs, 0, none⟩) hs0).trans cs
    by_cases hlt : k < N
    · skip
      obtain ⟨x, hx⟩ : ∃ x, l[(a0 + k)]? = some x := ⟨_, List.getElem?_eq_getElem (by omega)⟩
      have hfk : f k = (x, (((a0 + k + 1 : Nat) : Int))) := by rw [hf]; simp [List.getD_eq_getElem?_getD, hx]
      obtain ⟨e0, e1, e2, e3⟩ := HE.out _ x hx
      have g0 := (hnx.cell (p := ⟨b, off + (a0 + k) * 4, none⟩) hb).trans e0
      have g1 := (hnx.cell (p := ⟨b, off + (a0 + k) * 4 + 1, none⟩) hb).trans e1
      have g2 := (hnx.cell (p := ⟨b, off + (a0 + k) * 4 + 2, none⟩) hb).trans e2
      have g3 := (hnx.cell (p := ⟨b, off + (a0 + k) * 4 + 3, none⟩) hb).trans e3
      have hi1 : (0 : Int) ≤ (((a0 + k) : Nat) : Int) := by omega
      have hi2 : (((a0 + k) : Nat) : Int) < (l.length : Int) := by omega
      have hbw : b < wr.heap.size := Nat.lt_of_lt_of_le (hK _ hb) hsz
      have hbw1 : Bd < wr.heap.size := Nat.lt_of_lt_of_le (hK _ hd0) hsz
      have hbw2 : Bs < wr.heap.size := Nat.lt_of_lt_of_le (hK _ hs0) hsz
      have hbw3 : Bw < wr.heap.size := Nat.lt_of_lt_of_le (hK _ hw0) hsz
      clear e0 e1 e2 e3 hx
      (have hj1 : (0 : Int) ≤ (a0 : Int) + (k : Int) := (by omega); have hj2 : (a0 : Int) + (k : Int) < (l.length : Int) := (by omega); have hj3 : ((a0 : Int) + (k : Int)).toNat = a0 + k := (by omega))
      have hJa : J (upto f k) (wr.alloc (.cells #[.string x.key, .string x.val, .bool x.dead, .int .i64 x.seq] 36)).drew := HJ.out _ _ _ none hJs (have hga := World.grownBy_alloc wr (.cells #[.string x.key, .string x.val, .bool x.dead, .int .i64 x.seq] 36) none; ⟨hga.os, hga.tape, hga.output, hga.size, hga.block⟩) (by simp)
      obtain ⟨fn, tmps, assign, body, hy, hR⟩ := HY.out _ (x, (((a0 + k + 1 : Nat) : Int))) _ hJa (by rw [upto_length]; exact hlt)
      push_cast [yv, cur, Ent.v] at hy
      have hmix : Try.prog.follows .mixedOrders = true := by kernel_rfl
      gi_wp2
      refine ⟨trivial, ?_⟩
      refine (callsIn_wide.2 (walkMore1 _ _ _)).mono ?_; rintro e w' ⟨rfl, rfl⟩
      gi_wp2
      gi_region_with_o ((refine ⟨trivial, ?_⟩; gi_at_call 59; refine (callsIn_wide.2 (walkAt1 _ _)).mono ?_; rintro e w' ⟨rfl, rfl⟩))
      all_goals gi_wp2
      all_goals (refine hR.mono ?_; rintro e W3 (⟨rfl, hJ3, hk3⟩ | ⟨rfl, hJx3⟩))
      all_goals first
        | (gi_wp2; refine bodyPost_ret (results_none rfl _ _ _) rfl ?_; exact ⟨⟨_, rfl⟩, .inr ⟨_, ⟨k + 1, by omega, by rw [upto_succ, hfk]⟩, hJx3⟩⟩)
        | (gi_wp2; go_roundw; (case rel => exact ⟨k + 1, by omega, by go_num, by rw [upto_succ, hfk]; exact hJ3, hnx.trans (((Kept.refl _ wr).alloc hK hsz _).drew.trans hk3), Nat.le_trans hsz (Nat.le_trans (by simp) hk3.1)⟩); (case measure => (simp [intOf]; omega)))
    · obtain rfl : k = N := by omega
      (have hj1 : ¬ ((a0 : Int) + (k : Int) < (l.length : Int)) := (by omega); have hj2 : (l.length : Int) ≤ (a0 : Int) + (k : Int) := (by omega))
      gi_wp2
      refine ⟨trivial, ?_⟩
      refine (callsIn_wide.2 (walkMore1 _ _ _)).mono ?_; rintro e w' ⟨rfl, rfl⟩
      gi_wp2
      go_end0
      exact ⟨⟨_, rfl⟩, .inl ⟨_, rfl, hJs⟩⟩
end Go.Proofs.Ytinbdppekhcekaa

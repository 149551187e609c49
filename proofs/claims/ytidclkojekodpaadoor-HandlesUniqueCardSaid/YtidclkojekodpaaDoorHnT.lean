
/-
  Contract of handles' own iterator.
-/
import Derived.Test.YtidclkojekodpaaDoorHnA
import Derived.Test.YtidclkojekodpaaDoorHnQ
import Derived.RangeFuncNested
import Derived.RangeFuncBound
import Derived.RangeFuncCalls
import Derived.RangeFuncLeaves
import Derived.Shelf.Abstract
import Derived.Shelf.RegionOpen
import Derived.OwnWalkIn
import Derived.TacticsInMore
import Derived.LoopNIn
import Derived.LoopIn
namespace Go.Proofs.YtidclkojekodpaaDoor
open Go.RowKit Go.Shelf
set_option linter.unusedSimpArgs false
set_option linter.unusedVariables false
set_option maxRecDepth 100000
attribute [local go_sem] Oper.semAt_some

/-- The blocks that K names lie as they lay; no block has gone. -/
def Kept (K : Nat → Prop) (A B : World) : Prop := A.heap.size ≤ B.heap.size ∧ ∀ k, K k → B.heap[k]? = A.heap[k]?
theorem Kept.refl (K : Nat → Prop) (A : World) : Kept K A A := ⟨Nat.le_refl _, fun _ _ => rfl⟩
theorem Kept.trans {K : Nat → Prop} {A B C : World} (h : Kept K A B) (k : Kept K B C) : Kept K A C := ⟨Nat.le_trans h.1 k.1, fun i hi => (k.2 i hi).trans (h.2 i hi)⟩
theorem Kept.drew {K : Nat → Prop} {A B : World} (h : Kept K A B) : Kept K A B.drew := ⟨h.1, h.2⟩
theorem Kept.alloc {K : Nat → Prop} {n₀ : Nat} {A B : World} (h : Kept K A B) (hK : ∀ k, K k → k < n₀) (hB : n₀ ≤ B.heap.size) (o : Obj) : Kept K A (B.alloc o) :=
  h.trans ⟨by simp, fun k hk => Below.heap_alloc _ _ _ (Nat.lt_of_lt_of_le (hK k hk) hB)⟩
theorem Kept.cell {K : Nat → Prop} {A B : World} (h : Kept K A B) {p : Addr} (hp : K p.block) : B.cell? p = A.cell? p := World.cell?_of_block (w := A) (h.2 p.block hp)
theorem Kept.setCell {K : Nat → Prop} {A B : World} (h : Kept K A B) {p : Addr} (hp : ¬ K p.block) (u : Value) : Kept K A (B.setCell p u) :=
  h.trans ⟨by simp [World.setCell], fun k hk => Below.heap_setCell _ _ _ _ (fun e => hp (e ▸ hk))⟩

set_option maxHeartbeats 4000000 in
theorem given1 (n : Nat) (hn : 2 ≤ n) (y Bt n₀ c : Nat) (a : Option Addr) (l : List Slot) (K : Nat → Prop) (hK : ∀ k, K k → k < n₀) (hb : ∀ b off, a = some ⟨b, off, none⟩ → l ≠ [] → K b) (ht : K Bt) (hln : l.length ≤ 5000)
    (J Jx : List (Int × Int) → World → Prop) (B : Nat) (hJ : AbidesFrom B J)
    (hY : ∀ pre x W, J pre W → pre.length < l.length → YieldAt Fence.wide (n - 1) Tryd.prog y #[hv x] W fun e W' =>
      (e = .returned (.bool true) ∧ J (pre ++ [x]) W' ∧ Kept K W W') ∨ (e = .returned (.bool false) ∧ Jx (pre ++ [x]) W'))
    (W : World) (hn0 : n₀ ≤ W.heap.size) (c1 : W.cell? ⟨Bt, 1, none⟩ = some (.slice a l.length c)) (he : Slots W a l) (h0 : J [] W) :
    CallsIn Fence.wide n Tryd.prog 39 #[.func (.yield y) #[] #[], .pointer (some ⟨Bt, 0, none⟩)] W fun e W' => (∃ v, e = .returned v) ∧
      ((∃ ys, ys = hl l l.length ∧ J ys W') ∨ (∃ pre, True ∧ Jx pre W')) := by
  refine callsIn_of_wp Tryd.func39 rfl trivial ?_ rfl
  simp only [Tryd.ntmps39, List.size_toArray, List.length_cons, List.length_nil, Nat.reduceAdd, Nat.reduceSub, Array.replicate_succ, Array.replicate_zero, List.push_toArray, List.append_toArray, List.nil_append, List.cons_append]
  have hn1 : 1 ≤ n := by omega
  have hn2 : 1 ≤ n - 1 := by omega
  gi_wp2
  have HY := Lib.hid hY
  have HE := Lib.hid he
  have HJ := Lib.hid hJ
  have HB := Lib.hid hb
  clear hY he hJ hb
  gi_loopw [8] (fun i wr => ∃ k : Nat, k ≤ l.length ∧ i = .int .i64 k ∧ J (hl l k) wr ∧ Kept K W wr ∧ n₀ ≤ wr.heap.size)
    (fun i _ => l.length - (intOf i).toNat)
  case atStart => exact ⟨0, Nat.zero_le _, rfl, h0, Kept.refl _ _, hn0⟩
  case round =>
    obtain ⟨k, hk, rfl, hJs, hnx, hsz⟩ := hrel
    by_cases hlt : k < l.length
    · obtain ⟨b, off, rfl, hat⟩ := HE.out.get hlt
      have hKb := HB.out b off rfl (by rintro rfl; simp at hlt)
      obtain ⟨x, hx⟩ : ∃ x, l[k]? = some x := ⟨_, List.getElem?_eq_getElem hlt⟩
      have hxd : l.getD k s0 = x := by rw [List.getD_eq_getElem?_getD, hx]; rfl
      obtain ⟨e0, e1⟩ := hat k x hx
      have g0 := (hnx.cell (p := ⟨b, off + k * 2, none⟩) hKb).trans e0
      have g1 := (hnx.cell (p := ⟨b, off + k * 2 + 1, none⟩) hKb).trans e1
      have hi1 : (0 : Int) ≤ (k : Int) := by omega
      have hi2 : (k : Int) < (l.length : Int) := by omega
      clear e0 e1 hat hx
      have hJa : J (hl l k) (wr.alloc (.cells #[.int .i64 x.gen, .bool x.used] 52)) := HJ.out _ _ _ none hJs (World.grownBy_alloc wr _ none) (by simp)
      have hKa : Kept K W (wr.alloc (.cells #[.int .i64 x.gen, .bool x.used] 52)) := hnx.alloc hK hsz _
      have hmix : Tryd.prog.follows .mixedOrders = true := by kernel_rfl
      cases hu : x.used
      · rw [hu] at g1 hJa hKa
        have hs : hl l (k + 1) = hl l k := by simp only [hl]; rw [hxd, hu]; simp
        gi_wp2
        refine ⟨fun f hf => (by cases hf), ?_⟩
        gi_wp2
        go_roundw
        case rel => exact ⟨k + 1, by omega, by go_num, by rw [hs]; exact hJa, hKa, Nat.le_trans hsz (by simp)⟩
        case measure => simp [intOf]; omega
      · rw [hu] at g1 hJa hKa
        have hs : hl l (k + 1) = hl l k ++ [((k : Int) + 1, x.gen)] := by simp only [hl]; rw [hxd, hu]; simp
        obtain ⟨fn, tmps, assign, body, hy, hR⟩ := HY.out _ ((k : Int) + 1, x.gen) _ hJa (by have := hl_len l k; omega)
        unfold hv at hy
        simp only at hy
        gi_wp2
        refine hR.mono ?_
        rintro e W3 (⟨rfl, hJ3, hk3⟩ | ⟨rfl, hJx3⟩)
        · gi_wp2
          go_roundw
          case rel => exact ⟨k + 1, by omega, by go_num, by rw [hs]; exact hJ3, hKa.trans hk3, Nat.le_trans hsz (Nat.le_trans (by simp) hk3.1)⟩
          case measure => simp [intOf]; omega
        · gi_wp2
          refine bodyPost_ret (results_none rfl _ _ _) rfl ?_
          exact ⟨⟨_, rfl⟩, .inr ⟨_, trivial, hJx3⟩⟩
    · obtain rfl : k = l.length := by omega
      gi_wp2
      go_end0
      exact ⟨⟨_, rfl⟩, .inl ⟨_, rfl, hJs⟩⟩
end Go.Proofs.YtidclkojekodpaaDoor

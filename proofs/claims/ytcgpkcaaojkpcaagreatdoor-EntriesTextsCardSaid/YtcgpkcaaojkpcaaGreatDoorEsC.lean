
/-
  The order of entries, as the sort calls it; worlds in which a row of entries turns.
-/
import Derived.Test.YtcgpkcaaojkpcaaGreatDoorEsB
import Derived.Test.YtcgpkcaaojkpcaaGreatDoorShelf
import Derived.Deep.RegionHeld3
namespace Go.Proofs.YtcgpkcaaojkpcaaGreatDoor
open Go.RowKit Go.Sort
set_option linter.unusedSimpArgs false
set_option linter.unusedVariables false
set_option maxRecDepth 100000

/-! ### One row of entries turns, all else stays -/
structure RW (w0 : World) (blk off : Nat) (dk : Array (Ent × Nat)) (W : World) : Prop where
  os : W.os = w0.os
  tape : W.tape = w0.tape
  output : W.output = w0.output
  size : w0.heap.size ≤ W.heap.size
  block : ∀ k, k < w0.heap.size → k ≠ blk → W.heap[k]? = w0.heap[k]?
  row : HoldsK enc4 4 W blk off dk
  lt : blk < W.heap.size
theorem RW.start {w : World} {blk off : Nat} {d : Array (Ent × Nat)} (h : HoldsK enc4 4 w blk off d) (hb : blk < w.heap.size) : RW w blk off d w := ⟨rfl, rfl, rfl, Nat.le_refl _, fun _ _ _ => rfl, h, hb⟩
theorem holdsK_bl {W W' : World} {blk off : Nat} {d : Array (Ent × Nat)} (h : HoldsK enc4 4 W blk off d) (hb : Bl W W') : HoldsK enc4 4 W' blk off d := by
  intro j hj
  obtain ⟨a, b⟩ := h j hj
  exact ⟨hb.cell a, hb.frozen a b⟩
theorem RW.bl {w0 W W' : World} {blk off : Nat} {d : Array (Ent × Nat)} (h : RW w0 blk off d W) (hb : Bl W W') : RW w0 blk off d W' :=
  ⟨hb.os.trans h.os, hb.tape.trans h.tape, hb.output.trans h.output, Nat.le_trans h.size hb.size, fun k hk hne => (hb.block k (Nat.lt_of_lt_of_le hk h.size)).trans (h.block k hk hne), holdsK_bl h.row hb, Nat.lt_of_lt_of_le h.lt hb.size⟩
theorem heap_putRowK (W : World) (blk off : Nat) (d : Array (Ent × Nat)) (k : Nat) (h : k ≠ blk) : (putRowK enc4 4 W blk off d).heap[k]? = W.heap[k]? := by
  unfold putRowK putRow mapBlock
  simp only [Array.getElem?_modify, if_neg (Ne.symm h)]
theorem RW.sw {w0 W W' : World} {blk off : Nat} {d d' : Array (Ent × Nat)} (h : RW w0 blk off d W) (hs : SWK enc4 4 W blk off d' W') (hz : d'.size = d.size) : RW w0 blk off d' W' := by
  have hrow := hs.holds h.lt h.row hz
  obtain ⟨n, os, rfl⟩ := hs
  have hsz : (putRowK enc4 4 (Sort.ahead W n) blk off d').heap.size = W.heap.size := by rw [size_putRowK]; rfl
  refine ⟨h.os, h.tape, h.output, ?_, fun k hk hne => ?_, hrow, ?_⟩
  · unfold sortWorldK
    rw [size_grow, hsz]
    exact Nat.le_trans h.size (Nat.le_add_right _ _)
  · unfold sortWorldK grow
    show ((putRowK enc4 4 (Sort.ahead W n) blk off d').heap ++ os)[k]? = _
    rw [Array.getElem?_append_left (by rw [hsz]; exact Nat.lt_of_lt_of_le hk h.size), heap_putRowK _ _ _ _ _ hne]
    exact h.block k hk hne
  · unfold sortWorldK
    rw [size_grow, hsz]
    exact Nat.lt_of_lt_of_le h.lt (Nat.le_add_right _ _)
theorem RW.rowK {w0 W : World} {blk off : Nat} {d : Array (Ent × Nat)} (h : RW w0 blk off d W) : RowK enc4 4 W blk off d := ⟨enc4_len, enc4_one, h.row, h.lt⟩
theorem RW.start' {w0 W : World} {blk off : Nat} {d : Array (Ent × Nat)} (h : RW w0 blk off d W) : SWK enc4 4 W blk off d W := SWK.start h.row
theorem RW.ent {w0 W : World} {blk off : Nat} {d : Array (Ent × Nat)} (h : RW w0 blk off d W) (i : Nat) (x : Ent × Nat) (hi : i < d.size) (hx : d[i]! = x) :
    EntAt W blk (off + i * 4) x.1 ∧ W.frozen? ⟨blk, off + i * 4, none⟩ = false ∧ W.frozen? ⟨blk, off + i * 4 + 1, none⟩ = false ∧ W.frozen? ⟨blk, off + i * 4 + 2, none⟩ = false ∧ W.frozen? ⟨blk, off + i * 4 + 3, none⟩ = false :=
  sw_ent h.start' h.rowK rfl i x hi hx
theorem RW.cell {w0 W : World} {blk off : Nat} {d : Array (Ent × Nat)} (h : RW w0 blk off d W) {p : Addr} {u : Value} (hp : w0.cell? p = some u) (hne : p.block ≠ blk) : W.cell? p = some u := by
  rw [World.cell?_of_block (h.block p.block (lt_of_cell hp) hne)]; exact hp
/-- A row of the call's own: nothing that was there ahead of it turns. -/
theorem RW.below {w w0 W : World} {blk off : Nat} {d : Array (Ent × Nat)} (h : RW w0 blk off d W) (hb : Bl w w0) (hn : w.heap.size ≤ blk) : Bl w W :=
  ⟨h.os.trans hb.os, h.tape.trans hb.tape, h.output.trans hb.output, Nat.le_trans hb.size h.size, fun k hk => (h.block k (Nat.lt_of_lt_of_le hk hb.size) (by omega)).trans (hb.block k hk)⟩

/-! ### The order -/
theorem lcmpL : ∀ l r : List UInt8, Lib.compareBytes l r = if Op.bytesLess l r = true then -1 else if l = r then 0 else 1
  | [], [] => by simp [Lib.compareBytes, Op.bytesLess]
  | [], _ :: _ => by simp [Lib.compareBytes, Op.bytesLess]
  | _ :: _, [] => by simp [Lib.compareBytes, Op.bytesLess]
  | a :: l, b :: r => by
    have ih := lcmpL l r
    unfold Lib.compareBytes
    by_cases h1 : a < b
    · simp [Op.bytesLess, h1]
    · by_cases h2 : b < a
      · have : a ≠ b := by rintro rfl; exact h1 h2
        simp [Op.bytesLess, h1, h2, this]
      · have : a = b := UInt8.le_antisymm (UInt8.not_lt.1 h2) (UInt8.not_lt.1 h1)
        subst this
        simp [Op.bytesLess, h1, ih]
theorem lcmp (a b : ByteArray) : Lib.compareBytes a.data.toList b.data.toList = cmpS a b := by
  rw [lcmpL]; unfold cmpS slt; rw [toL, toL]
theorem slCompare (a b : ByteArray) (w : World) : Calls Tryz.prog 54 #[.string a, .string b] w (RB w (.int .i64 (cmpS a b))) := by
  refine (Tryz.strings_Compare a b w).mono ?_; rintro e w' ⟨rfl, rfl⟩
  exact RB.mk (ival (lcmp a b)) (Bl.refl _)
theorem slIsNaN (a : Int) (w : World) : Calls Tryz.prog 72 #[.int .i64 a] w (RB w (.bool false)) := by
  go_enter Tryz.func72, Tryz.ntmps72
  go_wp2_with fail
  go_ret
  exact RB.mk rfl (by repeat (first | assumption | exact Bl.refl _ | apply Bl.drewN | apply Bl.drew | apply Bl.alloc | (refine Bl.dr ?_ (by assumption)) | (refine Bl.trans ?_ (by assumption))))
def icmp (a b : Int) : Int := if a < b then -1 else if b < a then 1 else 0
theorem slCmpInt (a b : Int) (w : World) : Calls Tryz.prog 55 #[.int .i64 a, .int .i64 b] w (RB w (.int .i64 (icmp a b))) := by
  have HN := Lib.hid (fun a w => slIsNaN a w)
  unfold icmp
  by_cases h1 : a < b
  · rw [if_pos h1]
    go_enter Tryz.func55, Tryz.ntmps55
    go_wp2_with fail
    refine (HN.out a _).mono ?_; rintro e w1 ⟨rfl, hb1⟩
    go_wp2_with fail
    refine (HN.out b _).mono ?_; rintro e w2 ⟨rfl, hb2⟩
    go_wp2_with fail
    go_ret
    exact RB.mk rfl (by repeat (first | assumption | exact Bl.refl _ | apply Bl.drewN | apply Bl.drew | apply Bl.alloc | (refine Bl.dr ?_ (by assumption)) | (refine Bl.trans ?_ (by assumption))))
  · rw [if_neg h1]
    by_cases h2 : b < a
    · rw [if_pos h2]
      go_enter Tryz.func55, Tryz.ntmps55
      go_wp2_with fail
      refine (HN.out a _).mono ?_; rintro e w1 ⟨rfl, hb1⟩
      go_wp2_with fail
      refine (HN.out b _).mono ?_; rintro e w2 ⟨rfl, hb2⟩
      go_wp2_with fail
      go_ret
      exact RB.mk rfl (by repeat (first | assumption | exact Bl.refl _ | apply Bl.drewN | apply Bl.drew | apply Bl.alloc | (refine Bl.dr ?_ (by assumption)) | (refine Bl.trans ?_ (by assumption))))
    · rw [if_neg h2]
      go_enter Tryz.func55, Tryz.ntmps55
      go_wp2_with fail
      refine (HN.out a _).mono ?_; rintro e w1 ⟨rfl, hb1⟩
      go_wp2_with fail
      refine (HN.out b _).mono ?_; rintro e w2 ⟨rfl, hb2⟩
      go_wp2_with fail
      go_ret
      exact RB.mk rfl (by repeat (first | assumption | exact Bl.refl _ | apply Bl.drewN | apply Bl.drew | apply Bl.alloc | (refine Bl.dr ?_ (by assumption)) | (refine Bl.trans ?_ (by assumption))))
def ior (a b : Int) : Int := if a ≠ 0 then a else b
set_option maxHeartbeats 1000000 in
theorem slOr (g : Nat) (a b : Int) (w : World) (h0 : w.cell? ⟨g, 0, none⟩ = some (.int .i64 a)) (h1 : w.cell? ⟨g, 1, none⟩ = some (.int .i64 b)) : Calls Tryz.prog 53 #[.slice (some ⟨g, 0, none⟩) 2 2] w (RB w (.int .i64 (ior a b))) := by
  unfold ior
  by_cases ha : a = 0
  · rw [if_neg (by simp [ha])]
    subst ha
    by_cases hb : b = 0
    · subst hb
      go_enter Tryz.func53, Tryz.ntmps53
      go_wp2_with fail
      refine wp_loop_rounds 3 ?_
      rw [rounds_succ]
      go_wp2_with fail
      rw [rounds_succ]
      go_wp2_with fail
      rw [rounds_succ]
      go_wp2_with fail
      go_ret
      exact RB.mk rfl (by repeat (first | assumption | exact Bl.refl _ | apply Bl.drewN | apply Bl.drew | apply Bl.alloc | (refine Bl.dr ?_ (by assumption)) | (refine Bl.trans ?_ (by assumption))))
    · have hb' : (b != 0) = true := by rw [bne_iff_ne]; exact hb
      go_enter Tryz.func53, Tryz.ntmps53
      go_wp2_with fail
      refine wp_loop_rounds 3 ?_
      rw [rounds_succ]
      go_wp2_with fail
      rw [rounds_succ]
      go_wp2_with fail
      go_ret
      exact RB.mk rfl (by repeat (first | assumption | exact Bl.refl _ | apply Bl.drewN | apply Bl.drew | apply Bl.alloc | (refine Bl.dr ?_ (by assumption)) | (refine Bl.trans ?_ (by assumption))))
  · rw [if_pos ha]
    have ha' : (a != 0) = true := by rw [bne_iff_ne]; exact ha
    go_enter Tryz.func53, Tryz.ntmps53
    go_wp2_with fail
    refine wp_loop_rounds 3 ?_
    rw [rounds_succ]
    go_wp2_with fail
    go_ret
    exact RB.mk rfl (by repeat (first | assumption | exact Bl.refl _ | apply Bl.drewN | apply Bl.drew | apply Bl.alloc | (refine Bl.dr ?_ (by assumption)) | (refine Bl.trans ?_ (by assumption))))
theorem ocmp_or (x y : Ent) : ior (cmpS x.key y.key) (icmp y.seq x.seq) = ocmp x y := by
  unfold ior ocmp icmp; rfl
set_option maxHeartbeats 4000000 in
theorem entBy (x y : Ent) (w : World) : Calls Tryz.prog 31 #[.agg #[], x.v, y.v] w (RB w (.int .i64 (ocmp x y))) := by
  have HC := Lib.hid (fun w => slCompare x.key y.key w)
  have HI := Lib.hid (fun w => slCmpInt y.seq x.seq w)
  have HO := Lib.hid (fun g w h0 h1 => slOr g (cmpS x.key y.key) (icmp y.seq x.seq) w h0 h1)
  rw [← ocmp_or]
  generalize cmpS x.key y.key = A at HC HO ⊢
  generalize icmp y.seq x.seq = B at HI HO ⊢
  unfold Ent.v
  go_enter Tryz.func31, Tryz.ntmps31
  go_wp2_with fail
  obtain ⟨W0, hW0⟩ : ∃ z, (((w.alloc (.cells #[] 63)).alloc (.cells #[.string x.key, .string x.val, .bool x.dead, .int .i64 x.seq] 34)).alloc (.cells #[.string y.key, .string y.val, .bool y.dead, .int .i64 y.seq] 34)) = z := ⟨_, rfl⟩
  have hb : Bl w W0 := hW0 ▸ ((((Bl.refl w).alloc _).alloc _).alloc _)
  have k0 : W0.cell? ⟨w.heap.size + 1, 0, none⟩ = some (.string x.key) := by rw [← hW0]; simp [go_sem]
  have k3 : W0.cell? ⟨w.heap.size + 1, 3, none⟩ = some (.int .i64 x.seq) := by rw [← hW0]; simp [go_sem]
  have j0 : W0.cell? ⟨w.heap.size + 1 + 1, 0, none⟩ = some (.string y.key) := by rw [← hW0]; simp [go_sem]
  have j3 : W0.cell? ⟨w.heap.size + 1 + 1, 3, none⟩ = some (.int .i64 y.seq) := by rw [← hW0]; simp [go_sem]
  have HKF := Lib.hid (fun W (h : Bl W0 W) => (show Bl W0 W ∧ W.cell? ⟨w.heap.size + 1, 0, none⟩ = some (.string x.key) ∧ W.cell? ⟨w.heap.size + 1, 3, none⟩ = some (.int .i64 x.seq) ∧ W.cell? ⟨w.heap.size + 1 + 1, 0, none⟩ = some (.string y.key) ∧ W.cell? ⟨w.heap.size + 1 + 1, 3, none⟩ = some (.int .i64 y.seq) from ⟨h, h.cell k0, h.cell k3, h.cell j0, h.cell j3⟩))
  rw [hW0]
  clear hW0
  go_region_held3 (fun w' => (Bl W0 w' ∧ w'.cell? ⟨w.heap.size + 1, 0, none⟩ = some (.string x.key) ∧ w'.cell? ⟨w.heap.size + 1, 3, none⟩ = some (.int .i64 x.seq) ∧ w'.cell? ⟨w.heap.size + 1 + 1, 0, none⟩ = some (.string y.key) ∧ w'.cell? ⟨w.heap.size + 1 + 1, 3, none⟩ = some (.int .i64 y.seq))) (exact HKF.out _ (by repeat (first | assumption | exact Bl.refl _ | apply Bl.drewN | apply Bl.drew | apply Bl.alloc | (refine Bl.dr ?_ (by assumption)) | (refine Bl.trans ?_ (by assumption)))))
    (first
    | (go_at_call 54; refine (HC.out _).mono ?_; rintro e w5 ⟨rfl, hb5⟩)
    | (go_at_call 55; refine (HI.out _).mono ?_; rintro e w6 ⟨rfl, hb6⟩)
    | (go_at_call 53; refine (HO.out _ _ (by simp [go_sem]) (by simp [go_sem])).mono ?_; rintro e w7 ⟨rfl, hb7⟩))
  all_goals go_wp2_with fail
  all_goals go_ret
  all_goals exact RB.mk rfl (by repeat (first | assumption | exact Bl.refl _ | apply Bl.drewN | apply Bl.drew | apply Bl.alloc | (refine Bl.dr ?_ (by assumption)) | (refine Bl.trans ?_ (by assumption))))
end Go.Proofs.YtcgpkcaaojkpcaaGreatDoor


/-
  The sort's exchanges: ranges that change places, rotations, of rows of entries.
-/
import Derived.Test.YtcgpkcaaojkpcaaGreatDoorEsR
import Derived.Test.YtcgpkcaaojkpcaaGreatDoorMem
import Derived.Shelf.SlSortCmp.KitK
import Derived.Deep.LoopGhost
namespace Go.Proofs.YtcgpkcaaojkpcaaGreatDoor
open Go.RowKit Go.Sort
set_option linter.unusedSimpArgs false
set_option linter.unusedVariables false
set_option maxRecDepth 100000

instance : Inhabited Ent := ⟨⟨⟨#[]⟩, ⟨#[]⟩, false, 0⟩⟩
def enc4 (x : Ent × Nat) : List Value := [.string x.1.key, .string x.1.val, .bool x.1.dead, .int .i64 x.1.seq]
theorem enc4_len (x : Ent × Nat) : (enc4 x).length = 4 := rfl
theorem enc4_one (x : Ent × Nat) : ∀ v ∈ enc4 x, v.oneCell' = true := by
  intro v hv
  simp [enc4] at hv
  rcases hv with rfl | rfl | rfl | rfl <;> rfl
/-- Element i in a world of the sort's: its cells. -/
theorem sw_ent {w0 W : World} {blk off : Nat} {d0 dk : Array (Ent × Nat)} (h : SWK enc4 4 w0 blk off dk W) (R : RowK enc4 4 w0 blk off d0) (hs : dk.size = d0.size) (i : Nat) (x : Ent × Nat) (hi : i < dk.size) (hx : dk[i]! = x) :
    EntAt W blk (off + i * 4) x.1 ∧ W.frozen? ⟨blk, off + i * 4, none⟩ = false ∧ W.frozen? ⟨blk, off + i * 4 + 1, none⟩ = false ∧ W.frozen? ⟨blk, off + i * 4 + 2, none⟩ = false ∧ W.frozen? ⟨blk, off + i * 4 + 3, none⟩ = false := by
  have hH := h.holds R.hblk R.hH hs
  have c := fun c (hc : c < 4) => HoldsK.cell hH hi hc
  rw [hx] at c
  exact ⟨⟨(c 0 (by omega)).1, (c 1 (by omega)).1, (c 2 (by omega)).1, (c 3 (by omega)).1⟩, (c 0 (by omega)).2, (c 1 (by omega)).2, (c 2 (by omega)).2, (c 3 (by omega)).2⟩
/-- Four cells stored. -/
def set4o (w : World) (g o : Nat) (x : Ent) : World := (((w.setCell ⟨g, o, none⟩ (.string x.key)).setCell ⟨g, o + 1, none⟩ (.string x.val)).setCell ⟨g, o + 2, none⟩ (.bool x.dead)).setCell ⟨g, o + 3, none⟩ (.int .i64 x.seq)
theorem set4o_cells (w : World) (g o : Nat) (x : Ent × Nat) : w.setCells g o (enc4 x) = set4o w g o x.1 := by
  simp only [enc4, World.setCells, set4o, Nat.add_assoc, Nat.reduceAdd]
theorem set4o_other (w : World) (g o j : Nat) (x : Ent) (h : j < o ∨ o + 3 < j) : (set4o w g o x).cell? ⟨g, j, none⟩ = w.cell? ⟨g, j, none⟩ := by
  unfold set4o
  rw [oth _ _ _ _ _ (by omega), oth _ _ _ _ _ (by omega), oth _ _ _ _ _ (by omega), oth _ _ _ _ _ (by omega)]
theorem set4o_frozen (w : World) (g o : Nat) (x : Ent) (p : Addr) : (set4o w g o x).frozen? p = w.frozen? p := by
  unfold set4o; simp only [frozen_set]
/-- An element as it stands behind a store to another one. -/
theorem ent_set4o {W : World} {g o p : Nat} {x y : Ent} (h : EntAt W g p y) (f0 : W.frozen? ⟨g, p, none⟩ = false) (f1 : W.frozen? ⟨g, p + 1, none⟩ = false) (f2 : W.frozen? ⟨g, p + 2, none⟩ = false) (f3 : W.frozen? ⟨g, p + 3, none⟩ = false) (hd : p + 3 < o ∨ o + 3 < p) :
    EntAt (set4o W g o x) g p y ∧ (set4o W g o x).frozen? ⟨g, p, none⟩ = false ∧ (set4o W g o x).frozen? ⟨g, p + 1, none⟩ = false ∧ (set4o W g o x).frozen? ⟨g, p + 2, none⟩ = false ∧ (set4o W g o x).frozen? ⟨g, p + 3, none⟩ = false := by
  refine ⟨⟨?_, ?_, ?_, ?_⟩, ?_, ?_, ?_, ?_⟩
  · rw [set4o_other _ _ _ _ _ (by omega)]; exact h.key
  · rw [set4o_other _ _ _ _ _ (by omega)]; exact h.val
  · rw [set4o_other _ _ _ _ _ (by omega)]; exact h.dead
  · rw [set4o_other _ _ _ _ _ (by omega)]; exact h.seq
  · rw [set4o_frozen]; exact f0
  · rw [set4o_frozen]; exact f1
  · rw [set4o_frozen]; exact f2
  · rw [set4o_frozen]; exact f3
/-- An exchange, cell by cell. -/
theorem sw_swap {w0 W : World} {blk off : Nat} {d0 dk : Array (Ent × Nat)} (h : SWK enc4 4 w0 blk off dk W) (R : RowK enc4 4 w0 blk off d0) (i j : Nat) (x y : Ent × Nat) (hi : i < dk.size) (hj : j < dk.size) (hx : dk[i]! = x) (hy : dk[j]! = y) :
    SWK enc4 4 w0 blk off (swp dk i j) (set4o (set4o W blk (off + i * 4) y.1) blk (off + j * 4) x.1).drew := by
  have e : ∀ (W : World) (o : Nat) (x : Ent), set4o W.drew blk o x = (set4o W blk o x).drew := fun _ _ _ => rfl
  rw [← e, ← e, ← set4o_cells, ← set4o_cells, ← hx, ← hy]
  exact h.swapped R i j hi hj
theorem wrapId (x : Int) (h : -9223372036854775808 ≤ x) (h2 : x ≤ 9223372036854775807) : wrap64 x = x := by unfold wrap64; omega
set_option maxHeartbeats 2000000 in
theorem slSwapRange (w0 : World) (blk off cap : Nat) (d0 : Array (Ent × Nat)) (R : RowK enc4 4 w0 blk off d0) (X A M B Y : List (Ent × Nat)) (a b n : Nat) (hA : A.length = n) (hB : B.length = n) (ha : a = X.length) (hb : b = a + n + M.length)
    (hs : d0.size = X.length + n + M.length + n + Y.length) (hm : d0.size ≤ 1000000) (fv : Value) (w : World) (S : SWK enc4 4 w0 blk off (X ++ A ++ M ++ B ++ Y).toArray w) :
    Calls Tryz.prog 129 #[.slice (some ⟨blk, off, none⟩) d0.size cap, .int .i64 a, .int .i64 b, .int .i64 n, fv] w fun e w' => e = .returned (.tuple #[]) ∧ SWK enc4 4 w0 blk off (X ++ B ++ M ++ A ++ Y).toArray w' := by
  have HS := Lib.hid S
  have HQ := Lib.hid (And.intro hA (And.intro hB (And.intro ha (And.intro hb hs))))
  clear S hA hB ha hb hs
  go_enter Tryz.func129, Tryz.ntmps129
  go_wp2_with fail
  go_loopg [10] n (fun g s wr => ∃ i : Nat, s = .int .i64 i ∧ i ≤ n ∧ Hid (SWK enc4 4 w0 blk off (srow X A M B Y i).toArray wr) ∧ g = n - i)
  case atStart => exact ⟨0, rfl, by omega, by rw [srow_start]; exact HS, rfl⟩
  case round =>
    clear HS
    obtain ⟨i, rfl, hi, HS, hg⟩ := hrel
    have G := Lib.hid hg
    clear hg
    by_cases h1 : i < n
    · obtain ⟨hA, hB, ha, hb, hs⟩ := HQ.out
      have hsz : (srow X A M B Y i).toArray.size = d0.size := by rw [List.size_toArray, srow_len X A M B Y n i hA hB hi, hs]
      have hia : a + i < d0.size := by omega
      have hib : b + i < d0.size := by omega
      obtain ⟨x, hx⟩ : ∃ x, (srow X A M B Y i).toArray[a + i]! = x := ⟨_, rfl⟩
      obtain ⟨y, hy⟩ : ∃ y, (srow X A M B Y i).toArray[b + i]! = y := ⟨_, rfl⟩
      obtain ⟨⟨x0, x1, x2, x3⟩, f0, f1, f2, f3⟩ := sw_ent HS.out R hsz (a + i) x (by omega) hx
      obtain ⟨⟨y0, y1, y2, y3⟩, g0, g1, g2, g3⟩ := sw_ent HS.out R hsz (b + i) y (by omega) hy
      have hz := ent_set4o (o := off + (a + i) * 4) (x := y.1) ⟨y0, y1, y2, y3⟩ g0 g1 g2 g3 (by omega)
      obtain ⟨⟨z0, z1, z2, z3⟩, k0, k1, k2, k3⟩ := hz
      unfold set4o at z0 z1 z2 z3 k0 k1 k2 k3
      have hS2 := sw_swap HS.out R (a + i) (b + i) x y (by omega) (by omega) hx hy
      rw [srow_step X A M B Y n i (a + i) (b + i) hA hB h1 (by omega) (by omega)] at hS2
      unfold set4o at hS2
      have HS2 := Lib.hid hS2
      have wa : IntKind.i64.wrap ((a : Int) + (i : Int)) = (a : Int) + (i : Int) := by rw [IntKind.wrap_i64]; omega
      have wb : IntKind.i64.wrap ((b : Int) + (i : Int)) = (b : Int) + (i : Int) := by rw [IntKind.wrap_i64]; omega
      have pa : (0 : Int) ≤ (a : Int) + (i : Int) := by omega
      have pb : (0 : Int) ≤ (b : Int) + (i : Int) := by omega
      have la : (a : Int) + (i : Int) < (d0.size : Int) := by omega
      have lb : (b : Int) + (i : Int) < (d0.size : Int) := by omega
      have ta : ((a : Int) + (i : Int)).toNat = a + i := by omega
      have tb : ((b : Int) + (i : Int)).toNat = b + i := by omega
      clear hS2 hx hy hA hB ha hb hs hsz hia hib
      go_wp2_with fail
      go_region
      go_wp2_with fail
      go_roundg (n - (i + 1))
      case rel => exact ⟨i + 1, by go_num, by omega, HS2.out, rfl⟩
      case measure => rw [G.out]; omega
    · obtain rfl : i = n := by omega
      go_wp2_with fail
      go_end0
      refine ⟨rfl, ?_⟩
      have := HS.out
      obtain ⟨hA, hB, -⟩ := HQ.out
      rw [srow_end X A M B Y i hA hB] at this
      exact this
end Go.Proofs.YtcgpkcaaojkpcaaGreatDoor

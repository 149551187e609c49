
/-
  Contracts of fence.blocks over entries.
-/
import Derived.Test.YtndcjgkgkpkklaaFnK
import Derived.Test.YtndcjgkgkpkklaaOwn
namespace Go.Proofs.Ytndcjgkgkpkklaa
open Go.RowKit
set_option linter.unusedSimpArgs false
set_option linter.unusedVariables false
set_option maxRecDepth 100000

/-- The block i of a list of n entries at b, off, with s entries a block. -/
def blkV (b off s n c i : Nat) : Value := .slice (some ⟨b, off + i * s * 4, none⟩) (min s (n - i * s)) (if (i + 1) * s < n then s else c - i * s)
def BlkOut (B b off s n c q : Nat) (w : World) (v : Value) : Prop := ∃ a' c', v = .slice a' q c' ∧ q ≤ c' ∧ (0 < q → ∃ g, a' = some ⟨g, 0, none⟩ ∧ B ≤ g ∧ ∀ i, i < q → w.cell? ⟨g, i, none⟩ = some (blkV b off s n c i))

set_option maxRecDepth 100000 in
set_option maxHeartbeats 2000000 in
theorem fenceBlocksE (b off c : Nat) (n s : Nat) (w : World) (hs1 : 1 ≤ s) (hs2 : s ≤ 64) (hn : n ≤ 5000) (hn0 : 0 < n) (hcap : n ≤ c) (hcap2 : c ≤ maxLen) :
    Calls Try.prog 53 #[.slice (some ⟨b, off, none⟩) n c, .int .i64 (s : Int)] w (RM w (BlkOut w.heap.size b off s n c ((n + s - 1) / s))) := by
  obtain ⟨i0, hi, hz0, hz1, hz2⟩ := info_parts inf_ents
  unfold maxLen at hcap2
  go_enter Try.func53, Try.ntmps53
  go_wp2_with fail
  go_loopg [0, 4] n (fun g l out wr => ∃ k : Nat, (0 < k → k * s < n) ∧ l = .slice (some ⟨b, off + k * s * 4, none⟩) (n - k * s) (c - k * s) ∧ wr.ownsRow w.heap.size 22 1 out k ((List.range k).map (blkV b off s n c)) ∧ Bl w wr ∧ g = n - k)
  case atStart => exact ⟨0, by omega, by simp, by simpa using own_nil _ _ _ _, Bl.refl _, rfl⟩
  case round =>
    obtain ⟨k, hk, rfl, hown, hb, hg⟩ := hrel
    have G := Lib.hid hg
    have hk' : k * s < n := by
      rcases Nat.eq_zero_or_pos k with h | h
      · rw [h]; omega
      · exact hk h
    have hkn : k ≤ k * s := Nat.le_mul_of_pos_right k (by omega)
    obtain ⟨t, ht⟩ : ∃ t, t = k * s := ⟨_, rfl⟩
    have hks : (k + 1) * s = k * s + s := by rw [Nat.add_mul]; omega
    have HO := Lib.hid hown
    clear hown hg
    by_cases h2 : s < n - k * s
    · go_wp2_with (at_builtin; refine wpList_append_own _ rfl _ _ 85 rfl w.heap.size 22 i0 (.slice none 0 0) 1 24 Try.underlying85 hi hz0 hz1 hz2 rfl (by decide) _ _ _ rfl (HO.out.alloc _) ⟨wr.heap.size, 0, none⟩ 1 1 [.slice (some ⟨b, off + k * s * 4, none⟩) s s] rfl rfl ?c1 ?c2 ?c3 ?c4 ?c5 ?_)
      case c1 => exact one_new _ _ _
      case c2 => intro u hu; simp at hu; subst hu; rfl
      case c3 => unfold maxLen; omega
      case c4 => omega
      case c5 => simp; have := hb.size; omega
      intro v' w1 hown1 hgrow _
      have hb1 : Bl w w1 := grown_bl (hb.alloc _) (HO.out.alloc _) hgrow (Nat.le_refl _)
      have hbv : blkV b off s n c k = .slice (some ⟨b, off + k * s * 4, none⟩) s s := by
        unfold blkV; rw [Nat.min_eq_left (by omega), if_pos (by omega)]
      rw [← hbv] at hown1
      have hown2 : w1.ownsRow w.heap.size 22 1 v' (k + 1) ((List.range (k + 1)).map (blkV b off s n c)) := by
        rw [List.range_succ, List.map_append]; exact hown1
      have HO2 := Lib.hid hown2
      have HKS := Lib.hid hks
      have hcs : ¬ c - k * s = s := by omega
      clear hown1 hown2 hgrow hbv hks
      go_wp2_with fail
      go_roundg (n - (k + 1))
      case rel =>
        refine ⟨k + 1, by intro _; rw [HKS.out]; omega, ?_, HO2.out, hb1, rfl⟩
        rw [HKS.out]
        congr 1
        · congr 2; omega
        · omega
        · omega
      case measure => rw [G.out]; omega
    · have hq : (n + s - 1) / s = k + 1 := by
        obtain ⟨f1, f2, f3⟩ := ceil_facts n s hs1
        rcases Nat.lt_trichotomy ((n + s - 1) / s) (k + 1) with h | h | h
        · have := Nat.mul_le_mul_right s (show (n + s - 1) / s ≤ k by omega); omega
        · exact h
        · have := f2 (k + 1) h; omega
      have HQ := Lib.hid hq
      have hpos : 0 < n - k * s := by omega
      clear hq
      go_wp2_with (at_builtin; refine wpList_append_own _ rfl _ _ 85 rfl w.heap.size 22 i0 (.slice none 0 0) 1 24 Try.underlying85 hi hz0 hz1 hz2 rfl (by decide) _ _ _ rfl (HO.out.alloc _) ⟨wr.heap.size, 0, none⟩ 1 1 [.slice (some ⟨b, off + k * s * 4, none⟩) (n - k * s) (c - k * s)] rfl rfl ?c1 ?c2 ?c3 ?c4 ?c5 ?_)
      case c1 => exact one_new _ _ _
      case c2 => intro u hu; simp at hu; subst hu; rfl
      case c3 => unfold maxLen; omega
      case c4 => omega
      case c5 => simp; have := hb.size; omega
      intro v' w1 hown1 hgrow _
      have hb1 : Bl w w1 := grown_bl (hb.alloc _) (HO.out.alloc _) hgrow (Nat.le_refl _)
      have hbv : blkV b off s n c k = .slice (some ⟨b, off + k * s * 4, none⟩) (n - k * s) (c - k * s) := by
        unfold blkV; rw [Nat.min_eq_right (by omega), if_neg (by omega)]
      rw [← hbv] at hown1
      have hown2 : w1.ownsRow w.heap.size 22 1 v' (k + 1) ((List.range (k + 1)).map (blkV b off s n c)) := by
        rw [List.range_succ, List.map_append]; exact hown1
      have HO2 := Lib.hid hown2
      clear hown1 hown2 hgrow hbv hks
      go_wp2_with fail
      go_ret
      refine RM.mk ?_ hb1
      obtain ⟨a', c', e, h1, h2, h3⟩ := own_form HO2.out
      refine ⟨a', c', by rw [e, HQ.out]; rfl, by rw [HQ.out]; exact h1, fun _ => ?_⟩
      obtain ⟨g, eg, hge, _, hc⟩ := h3 (by omega)
      refine ⟨g, eg, hge, fun i hi => hc i _ ?_⟩
      rw [HQ.out] at hi
      simp [hi]
end Go.Proofs.Ytndcjgkgkpkklaa

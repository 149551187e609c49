
/-
  Contracts of words: the reference's Split.
-/
import Derived.Test.YtfjdcfmoodlnaaaGreatDoorWoP
namespace Go.Proofs.YtfjdcfmoodlnaaaGreatDoor
open Go.RowKit
set_option linter.unusedSimpArgs false
set_option linter.unusedVariables false
set_option maxRecDepth 100000

theorem word_at {t : List UInt8} {m : Nat} (h : ∀ (i : Nat) c, i < m → t[i]? = some c → c ≠ 32) (he : t.length ≤ m ∨ t[m]? = some 32) (hm : m ≤ t.length) : wordOf t = t.take m := by
  have e : t = t.take m ++ t.drop m := (List.take_append_drop m t).symm
  have hw : ∀ c ∈ t.take m, c ≠ 32 := by
    intro c hc
    obtain ⟨j, hj, rfl⟩ := List.getElem_of_mem hc
    have hj2 : j < m := by simp at hj; omega
    refine h j _ hj2 ?_
    rw [List.getElem_take]
    exact List.getElem?_eq_getElem _
  have hr : t.drop m = [] ∨ ∃ s, t.drop m = 32 :: s := by
    rcases he with he | he
    · exact .inl (List.drop_eq_nil_of_le he)
    · exact .inr ⟨_, drop_head he⟩
  have := word_stop hw hr
  rwa [← e] at this
/-- What has been split up to a place. -/
def SpS (l : List UInt8) (k : Nat) (pre : List Fld) : Prop := pre.map (fun x => (x, true)) ++ fseq (l.drop k) = fseq l
theorem sps_start (l : List UInt8) : SpS l 0 [] := by unfold SpS; simp
theorem sps_bad {l : List UInt8} {k : Nat} {pre : List Fld} (h : SpS l k pre) (hb : fseq (l.drop k) = [badF]) : splitW l = none := by
  unfold SpS at h
  rw [splitW_seq, ← h, hb, if_neg (by simp [badF])]
theorem sps_end {l : List UInt8} {k : Nat} {pre : List Fld} {x : Fld} (h : SpS l k pre) (hb : fseq (l.drop k) = [(x, true)]) : splitW l = some (pre ++ [x]) := by
  unfold SpS at h
  rw [splitW_seq, ← h, hb, if_pos (by simp [List.all_eq_true])]
  simp [List.map_map, Function.comp_def]
theorem sps_step {l r : List UInt8} {k n : Nat} {pre : List Fld} {x : Fld} (h : SpS l k pre) (hh : head1 (l.drop k) = some (x, n)) (hd : l.drop (k + n) = 32 :: r) : SpS l (k + n + 1) (pre ++ [x]) := by
  unfold SpS at *
  have h2 := fseq_sp hh (by rw [List.drop_drop]; exact hd)
  have h3 : l.drop (k + n + 1) = r := by rw [← List.drop_drop, hd]; rfl
  rw [h3, List.map_append, ← h, h2]; simp
theorem sps_len {l : List UInt8} {k : Nat} {pre : List Fld} (h : SpS l k pre) : pre.length ≤ l.length + 1 := by
  unfold SpS at h
  have h1 := fseq_len l
  rw [← h, List.length_append, List.length_map] at h1
  omega
/-- The inner loop's end: a bare field. -/
def Bare (l : List UInt8) (k m : Nat) : Prop := ∀ (i : Nat) c, i < m → (l.drop k)[i]? = some c → c ≠ 32
theorem own_lt {w : World} {base : Nat} {e : TypeId} {size : Nat} {v : Value} {n : Nat} {xs : List Value} (h : w.ownsRow base e size v n xs) : ∀ k, v.ownBlock = some k → k < w.heap.size := by
  intro k hk
  rcases h.2 with ⟨rfl, _⟩ | ⟨g, cap, cur, rfl, hb, hg, _⟩
  · cases hk
  · simp [Value.ownBlock] at hk
    subst hk
    exact (Array.getElem?_eq_some_iff.1 hg).1
theorem own_set2 {w : World} {base : Nat} {e : TypeId} {size : Nat} {v : Value} {n : Nat} {xs : List Value} (h : w.ownsRow base e size v n xs) (a : Addr) (u : Value) (hne : ∀ k, v.ownBlock = some k → k ≠ a.block) : (w.setCell a u).ownsRow base e size v n xs := by
  obtain ⟨hl, h⟩ := h
  refine ⟨hl, ?_⟩
  rcases h with h | ⟨g, cap, cur, rfl, hb, hg, r⟩
  · exact .inl h
  · exact .inr ⟨g, cap, cur, rfl, hb, (Below.heap_setCell w a u g (hne g (by simp [Value.ownBlock]))).trans hg, r⟩
theorem Two.grown {W W' : World} {B : Nat} {a b v : Value} (h : Two W B a b) (hg : W.grownBy W' v.ownBlock) (hne : ∀ k, v.ownBlock = some k → k ≠ B) : Two W' B a b := by
  unfold Two at *
  rw [hg.block B (Array.getElem?_eq_some_iff.1 h).1 (fun e => hne B e.symm rfl)]; exact h
theorem Two.alloc {W : World} {B : Nat} {a b : Value} (h : Two W B a b) (o : Obj) : Two (W.alloc o) B a b := h.bl ((Bl.refl W).alloc o)
end Go.Proofs.YtfjdcfmoodlnaaaGreatDoor

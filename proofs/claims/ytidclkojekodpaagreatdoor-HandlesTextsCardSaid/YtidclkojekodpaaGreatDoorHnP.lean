
/-
  Plain facts of handles: slots and tables, in memory and as what they mean.
-/
import Derived.Test.YtidclkojekodpaaGreatDoorLib
namespace Go.Proofs.YtidclkojekodpaaGreatDoor
open Go.RowKit
set_option linter.unusedSimpArgs false
set_option linter.unusedVariables false

/-- A slot. -/
structure Slot where
  gen : Int
  used : Bool
def Slot.v (s : Slot) : Value := .agg #[.int .i64 s.gen, .bool s.used]
def Slot.ok (s : Slot) : Prop := -9223372036854775808 ≤ s.gen ∧ s.gen ≤ 9223372036854775807
structure SlotAt (w : World) (b o : Nat) (s : Slot) : Prop where
  gen : w.cell? ⟨b, o, none⟩ = some (.int .i64 s.gen)
  used : w.cell? ⟨b, o + 1, none⟩ = some (.bool s.used)
theorem SlotAt.bl {w w' : World} {b o : Nat} {s : Slot} (h : SlotAt w b o s) (k : Bl w w') : SlotAt w' b o s := ⟨k.cell h.1, k.cell h.2⟩
structure Slots (w : World) (a : Option Addr) (l : List Slot) : Prop where
  ok : ∀ s, s ∈ l → s.ok
  at_ : l ≠ [] → ∃ b off, a = some ⟨b, off, none⟩ ∧ ∀ i s, l[i]? = some s → SlotAt w b (off + i * 2) s
theorem Slots.bl {w w' : World} {a : Option Addr} {l : List Slot} (h : Slots w a l) (k : Bl w w') : Slots w' a l :=
  ⟨h.ok, fun hn => let ⟨b, off, e, f⟩ := h.at_ hn; ⟨b, off, e, fun i x hx => (f i x hx).bl k⟩⟩
theorem Slots.get {w : World} {a : Option Addr} {l : List Slot} (h : Slots w a l) {k : Nat} (hk : k < l.length) :
    ∃ b off, a = some ⟨b, off, none⟩ ∧ ∀ i s, l[i]? = some s → SlotAt w b (off + i * 2) s := h.at_ (by rintro rfl; simp at hk)
theorem slots_nil (w : World) : Slots w none [] := ⟨by simp, fun h => absurd rfl h⟩
/-- Handles in memory: an index and a generation. -/
def hv (h : Int × Int) : Value := .agg #[.int .i64 h.1, .int .i64 h.2]
structure Hnds (w : World) (a : Option Addr) (l : List (Int × Int)) : Prop where
  at_ : l ≠ [] → ∃ b off, a = some ⟨b, off, none⟩ ∧ ∀ i h, l[i]? = some h → w.cell? ⟨b, off + i * 2, none⟩ = some (.int .i64 h.1) ∧ w.cell? ⟨b, off + i * 2 + 1, none⟩ = some (.int .i64 h.2)
theorem Hnds.bl {w w' : World} {a : Option Addr} {l : List (Int × Int)} (h : Hnds w a l) (k : Bl w w') : Hnds w' a l :=
  ⟨fun hn => let ⟨b, off, e, f⟩ := h.at_ hn; ⟨b, off, e, fun i x hx => ⟨k.cell (f i x hx).1, k.cell (f i x hx).2⟩⟩⟩
theorem Hnds.get {w : World} {a : Option Addr} {l : List (Int × Int)} (h : Hnds w a l) {k : Nat} (hk : k < l.length) :
    ∃ b off, a = some ⟨b, off, none⟩ ∧ ∀ i h, l[i]? = some h → w.cell? ⟨b, off + i * 2, none⟩ = some (.int .i64 h.1) ∧ w.cell? ⟨b, off + i * 2 + 1, none⟩ = some (.int .i64 h.2) := h.at_ (by rintro rfl; simp at hk)
theorem hnds_nil (w : World) : Hnds w none [] := ⟨fun h => absurd rfl h⟩
/-- A table. -/
structure Tb where
  most : Int
  slots : List Slot
def Tb.v (t : Tb) (a : Option Addr) (c : Nat) : Value := .agg #[.int .i64 t.most, .slice a t.slots.length c]
structure TOk (w : World) (a : Option Addr) (c : Nat) (t : Tb) : Prop where
  slots : Slots w a t.slots
  len : t.slots.length ≤ c
  cap : c ≤ maxLen
  lo : -9223372036854775808 ≤ t.most
  hi : t.most ≤ 9223372036854775807
theorem TOk.bl {w w' : World} {a : Option Addr} {c : Nat} {t : Tb} (h : TOk w a c t) (k : Bl w w') : TOk w' a c t := ⟨h.slots.bl k, h.len, h.cap, h.lo, h.hi⟩
def tnil : Tb := ⟨0, []⟩
theorem tnil_ok (w : World) : TOk w none 0 tnil := ⟨slots_nil w, Nat.le_refl _, by unfold maxLen; omega, by simp [tnil], by simp [tnil]⟩
/-- A table as a result. -/
def TbIs (t : Tb) (w : World) (v : Value) : Prop := ∃ a c, v = t.v a c ∧ TOk w a c t

/-! ### What the functions answer -/
def s0 : Slot := ⟨0, false⟩
def sbadAt (s : Slot) : Bool := decide (s.gen < 1 ∨ 1000000000 < s.gen)
def sbad : List Slot → Option Nat
  | [] => none
  | s :: l => if sbadAt s then some 0 else (sbad l).map (· + 1)
theorem sbad_none : ∀ (l : List Slot), (∀ (j : Nat) s, l[j]? = some s → sbadAt s = false) → sbad l = none
  | [], _ => rfl
  | s :: l, h => by
    have h0 := h 0 s rfl
    have ih := sbad_none l (fun j s hs => h (j + 1) s (by simpa using hs))
    simp [sbad, h0, ih]
theorem sbad_some : ∀ (l : List Slot) (k : Nat) (s : Slot), l[k]? = some s → (∀ (j : Nat) s, j < k → l[j]? = some s → sbadAt s = false) → sbadAt s = true → sbad l = some k
  | [], k, s, h, _, _ => by simp at h
  | x :: l, 0, s, h, _, hb => by simp at h; subst h; simp [sbad, hb]
  | x :: l, k + 1, s, h, hg, hb => by
    have h0 := hg 0 x (by omega) rfl
    have ih := sbad_some l k s (by simpa using h) (fun j s hj hs => hg (j + 1) s (by omega) (by simpa using hs)) hb
    simp [sbad, h0, ih]
theorem sbad_good : ∀ {l : List Slot}, sbad l = none → ∀ s, s ∈ l → 1 ≤ s.gen ∧ s.gen ≤ 1000000000
  | [], _, s, hs => by simp at hs
  | x :: l, h, s, hs => by
    unfold sbad at h
    split at h
    · cases h
    · rename_i hb
      rcases List.mem_cons.1 hs with rfl | hs
      · simp [sbadAt] at hb; omega
      · exact sbad_good (l := l) (by simpa using h) s hs
def tchk (t : Tb) : Int × Int :=
  if t.most < 1 ∨ 16 < t.most then (-1, 7) else if t.most < (t.slots.length : Int) then (-1, 3)
  else match sbad t.slots with | some i => ((i : Int), 7) | none => (0, 0)
structure Good (t : Tb) : Prop where
  most1 : 1 ≤ t.most
  most2 : t.most ≤ 16
  len : (t.slots.length : Int) ≤ t.most
  gens : ∀ s, s ∈ t.slots → 1 ≤ s.gen ∧ s.gen ≤ 1000000000
theorem tchk_good {t : Tb} (h : (tchk t).2 = 0) : Good t := by
  unfold tchk at h
  by_cases h1 : t.most < 1 ∨ 16 < t.most
  · rw [if_pos h1] at h; simp at h
  · rw [if_neg h1] at h
    by_cases h2 : t.most < (t.slots.length : Int)
    · rw [if_pos h2] at h; simp at h
    · rw [if_neg h2] at h
      cases e : sbad t.slots with
      | some i => rw [e] at h; simp at h
      | none => exact ⟨by omega, by omega, by omega, sbad_good e⟩
theorem good_tchk {t : Tb} (h : Good t) : tchk t = (0, 0) := by
  unfold tchk
  have h1 := h.most1; have h2 := h.most2; have h3 := h.len
  rw [if_neg (by omega), if_neg (by omega), sbad_none _ (fun j s hs => ?_)]
  have := h.gens s (List.mem_of_getElem? hs)
  simp [sbadAt]; omega
theorem Good.get {t : Tb} (h : Good t) {i : Nat} (hi : i < t.slots.length) : 1 ≤ (t.slots.getD i s0).gen ∧ (t.slots.getD i s0).gen ≤ 1000000000 := by
  rw [List.getD_eq_getElem?_getD, List.getElem?_eq_getElem hi]
  exact h.gens _ (List.getElem_mem hi)
/-- The first free place. -/
def sfree : List Slot → Nat
  | [] => 0
  | s :: l => if s.used then sfree l + 1 else 0
theorem sfree_le : ∀ l : List Slot, sfree l ≤ l.length
  | [] => Nat.le_refl _
  | s :: l => by have := sfree_le l; unfold sfree; split <;> simp <;> omega
theorem sfree_used : ∀ (l : List Slot) (j : Nat) (s : Slot), j < sfree l → l[j]? = some s → s.used = true
  | [], j, s, h, _ => by simp [sfree] at h
  | x :: l, j, s, h, hs => by
    unfold sfree at h
    split at h
    · rename_i hu
      cases j with
      | zero => simp at hs; subst hs; exact hu
      | succ j => exact sfree_used l j s (by omega) (by simpa using hs)
    · omega
theorem sfree_eq : ∀ (l : List Slot) (k : Nat) (s : Slot), l[k]? = some s → (∀ (j : Nat) s, j < k → l[j]? = some s → s.used = true) → s.used = false → sfree l = k
  | [], k, s, h, _, _ => by simp at h
  | x :: l, 0, s, h, _, hu => by simp at h; subst h; simp [sfree, hu]
  | x :: l, k + 1, s, h, hg, hu => by
    have h0 := hg 0 x (by omega) rfl
    have ih := sfree_eq l k s (by simpa using h) (fun j s hj hs => hg (j + 1) s (by omega) (by simpa using hs)) hu
    simp [sfree, h0, ih]
theorem sfree_all : ∀ (l : List Slot), (∀ (j : Nat) s, l[j]? = some s → s.used = true) → sfree l = l.length
  | [], _ => rfl
  | x :: l, h => by
    have h0 := h 0 x rfl
    have ih := sfree_all l (fun j s hs => h (j + 1) s (by simpa using hs))
    simp [sfree, h0, ih]
theorem sfree_free {l : List Slot} {s : Slot} (h : l[sfree l]? = some s) : s.used = false := by
  induction l with
  | nil => simp at h
  | cons x l ih =>
    unfold sfree at h
    split at h
    · exact ih (by simpa using h)
    · rename_i hu; simp at h; subst h; simpa using hu
def sset (l : List Slot) (i : Nat) (s : Slot) : List Slot := if i = l.length then l ++ [s] else l.set i s
def tgive (t : Tb) : Tb × (Int × Int) × Int :=
  if (tchk t).2 ≠ 0 then (tnil, (0, 0), (tchk t).2) else if (sfree t.slots : Int) = t.most then (tnil, (0, 0), 5)
  else if (t.slots.getD (sfree t.slots) s0).gen = 1000000000 then (tnil, (0, 0), 9)
  else (⟨t.most, sset t.slots (sfree t.slots) ⟨(t.slots.getD (sfree t.slots) s0).gen + 1, true⟩⟩, ((sfree t.slots : Int) + 1, (t.slots.getD (sfree t.slots) s0).gen + 1), 0)
def tlook (t : Tb) (h : Int × Int) : Int × Int :=
  if (tchk t).2 ≠ 0 then (0, (tchk t).2) else if h.1 < 1 ∨ (t.slots.length : Int) < h.1 ∨ h.2 < 1 then (0, 4)
  else if (t.slots.getD (h.1 - 1).toNat s0).gen < h.2 then (0, 4)
  else if h.2 < (t.slots.getD (h.1 - 1).toNat s0).gen ∨ (t.slots.getD (h.1 - 1).toNat s0).used = false then (0, 11) else (h.1 - 1, 0)
def tdrop (t : Tb) (h : Int × Int) : Tb × Int :=
  if (tlook t h).2 ≠ 0 then (tnil, (tlook t h).2) else (⟨t.most, t.slots.set (h.1 - 1).toNat ⟨(t.slots.getD (h.1 - 1).toNat s0).gen, false⟩⟩, 0)
/-- The handles of the slots that are used, of the first k. -/
def hl (l : List Slot) : Nat → List (Int × Int)
  | 0 => []
  | k + 1 => hl l k ++ if (l.getD k s0).used then [((k : Int) + 1, (l.getD k s0).gen)] else []
def tlive (t : Tb) : List (Int × Int) × Int := if (tchk t).2 ≠ 0 then ([], (tchk t).2) else (hl t.slots t.slots.length, 0)
def sg (l : List Slot) : Nat → Int
  | 0 => 0
  | k + 1 => sg l k + (l.getD k s0).gen
def tgiven (t : Tb) : Int × Int := if (tchk t).2 ≠ 0 then (0, (tchk t).2) else (sg t.slots t.slots.length, 0)
theorem hl_len (l : List Slot) : ∀ k, (hl l k).length ≤ k
  | 0 => Nat.le_refl _
  | k + 1 => by have := hl_len l k; simp only [hl, List.length_append]; split <;> simp <;> omega
theorem sg_bound {l : List Slot} (h : ∀ s, s ∈ l → 1 ≤ s.gen ∧ s.gen ≤ 1000000000) : ∀ k, k ≤ l.length → (k : Int) ≤ sg l k ∧ sg l k ≤ k * 1000000000
  | 0, _ => by simp [sg]
  | k + 1, hk => by
    have ih := sg_bound h k (by omega)
    have hx := h l[k] (List.getElem_mem (by omega))
    have e : l.getD k s0 = l[k] := by rw [List.getD_eq_getElem?_getD, List.getElem?_eq_getElem (by omega)]; rfl
    simp only [sg, e]
    omega
end Go.Proofs.YtidclkojekodpaaGreatDoor


/-
  What a text says: plain.
-/
import Derived.Test.YtldccffbjohokaaDoorKyD
namespace Go.Proofs.YtldccffbjohokaaDoor
open Go.RowKit
set_option linter.unusedSimpArgs false
set_option linter.unusedVariables false
set_option maxRecDepth 100000

def hexS : List UInt8 := [48, 49, 50, 51, 52, 53, 54, 55, 56, 57, 97, 98, 99, 100, 101, 102]
def hexI (b : UInt8) : Int := Lib.indexByte hexS b
/-- The first byte that a text says, and how many bytes of it say it. -/
def ustep (l : List UInt8) : Option (UInt8 × Nat) :=
  if l.getD 0 0 ≠ 92 then some (l.getD 0 0, 1)
  else if 2 ≤ l.length ∧ l.getD 1 0 = 92 then some (92, 2)
  else if l.length < 4 then none
  else if l.getD 1 0 ≠ 120 ∨ hexI (l.getD 2 0) < 0 ∨ hexI (l.getD 3 0) < 0 then none
  else some (UInt8.ofNat (16 * (hexI (l.getD 2 0)).toNat + (hexI (l.getD 3 0)).toNat), 4)
def unl : Nat → List UInt8 → Option (List UInt8)
  | 0, l => if l = [] then some [] else none
  | f + 1, l => if l = [] then some [] else match ustep l with
    | none => none
    | some (b, n) => (unl f (l.drop n)).map (b :: ·)
theorem ustep_n {l : List UInt8} {b : UInt8} {n : Nat} (h : ustep l = some (b, n)) : 1 ≤ n := by
  unfold ustep at h
  repeat' split at h
  all_goals first | (injection h with h; injection h with h1 h2; omega) | (exact absurd h (by simp))
theorem unl_fuel : ∀ (f g : Nat) (l : List UInt8), l.length ≤ f → l.length ≤ g → unl f l = unl g l
  | 0, 0, l, _, _ => rfl
  | 0, g + 1, l, h, _ => by
    have : l = [] := List.length_eq_zero_iff.1 (by omega)
    subst this; simp [unl]
  | f + 1, 0, l, _, h => by
    have : l = [] := List.length_eq_zero_iff.1 (by omega)
    subst this; simp [unl]
  | f + 1, g + 1, l, hf, hg => by
    unfold unl
    by_cases hl : l = []
    · rw [if_pos hl, if_pos hl]
    · rw [if_neg hl, if_neg hl]
      cases hu : ustep l with
      | none => rfl
      | some p =>
        obtain ⟨b, n⟩ := p
        have := ustep_n hu
        have hlen : 0 < l.length := List.length_pos_iff.2 hl
        simp only
        rw [unl_fuel f g (l.drop n) (by rw [List.length_drop]; omega) (by rw [List.length_drop]; omega)]
def unL (l : List UInt8) : Option (List UInt8) := unl l.length l
theorem unL_nil : unL [] = some [] := rfl
theorem unL_step {l : List UInt8} {b : UInt8} {n : Nat} (hl : l ≠ []) (h : ustep l = some (b, n)) : unL l = (unL (l.drop n)).map (b :: ·) := by
  have hlen : 0 < l.length := List.length_pos_iff.2 hl
  have := ustep_n h
  unfold unL
  rw [unl_fuel l.length (l.length - 1 + 1) l (by omega) (by omega)]
  rw [unl, if_neg hl, h]
  simp only
  rw [unl_fuel (l.length - 1) (l.drop n).length (l.drop n) (by rw [List.length_drop]; omega) (by omega)]
theorem unL_bad {l : List UInt8} (hl : l ≠ []) (h : ustep l = none) : unL l = none := by
  have hlen : 0 < l.length := List.length_pos_iff.2 hl
  unfold unL
  rw [unl_fuel l.length (l.length - 1 + 1) l (by omega) (by omega)]
  rw [unl, if_neg hl, h]
theorem unL_plain (b : UInt8) (r : List UInt8) (h : b ≠ 92) : unL (b :: r) = (unL r).map (b :: ·) :=
  unL_step (n := 1) (by simp) (by simp [ustep, h])
theorem unL_back (r : List UInt8) : unL (92 :: 92 :: r) = (unL r).map (92 :: ·) :=
  unL_step (n := 2) (by simp) (by simp [ustep])
theorem hexI_D : ∀ n : Fin 16, hexI (hexD n.val) = n.val := by decide
theorem unL_esc (b : UInt8) (r : List UInt8) : unL (escB b ++ r) = (unL r).map (b :: ·) := by
  have hb := b.toNat_lt
  have h1 : hexI (hexD (b.toNat / 16)) = (b.toNat / 16 : Nat) := hexI_D ⟨b.toNat / 16, by omega⟩
  have h2 : hexI (hexD (b.toNat % 16)) = (b.toNat % 16 : Nat) := hexI_D ⟨b.toNat % 16, by omega⟩
  have e : UInt8.ofNat (16 * (b.toNat / 16) + b.toNat % 16) = b := by
    rw [Nat.div_add_mod]; exact UInt8.ofNat_toNat
  have hs : ustep (escB b ++ r) = some (b, 4) := by
    unfold ustep escB
    simp only [List.cons_append, List.nil_append, List.getD_cons_zero, List.getD_cons_succ, List.length_cons]
    rw [if_neg (by decide), if_neg (by rintro ⟨_, h⟩; exact absurd h (by decide)), if_neg (by omega), if_neg (by rw [h1, h2]; rintro (h | h | h); exact absurd rfl h; omega; omega)]
    rw [h1, h2, Int.toNat_natCast, Int.toNat_natCast, e]
  rw [unL_step (by simp [escB]) hs]; rfl
theorem unL_escs (t r : List UInt8) : unL (t.flatMap escB ++ r) = (unL r).map (t ++ ·) := by
  induction t with
  | nil => simp
  | cons b t ih => rw [List.flatMap_cons, List.append_assoc, unL_esc, ih]; cases unL r <;> rfl
theorem unL_plains (t r : List UInt8) (h : ∀ b ∈ t, b ≠ 92) : unL (t ++ r) = (unL r).map (t ++ ·) := by
  induction t with
  | nil => simp
  | cons b t ih => rw [List.cons_append, unL_plain _ _ (h b (by simp)), ih (fun c hc => h c (by simp [hc]))]; cases unL r <;> rfl
theorem dec_one {l : List UInt8} (hl : l ≠ []) : 1 ≤ (Lib.decodeL l).2 := by
  rcases dec_spec l hl with h | ⟨c, n, h⟩
  · rw [h]; exact Nat.le_refl _
  · rw [h.dec]; exact h.n1
theorem unL_piece {l : List UInt8} (r : List UInt8) (hl : l ≠ []) : unL (piece (Lib.decodeL l).1 (Lib.decodeL l).2 l ++ r) = (unL r).map (l.take (Lib.decodeL l).2 ++ ·) := by
  rcases dec_spec l hl with h | ⟨c, n, h⟩
  · rw [h]
    unfold piece
    simp only
    rw [if_pos ⟨trivial, trivial⟩]
    exact unL_escs _ _
  · rw [h.dec]
    unfold piece
    simp only
    by_cases h1 : c = 65533 ∧ n = 1
    · rw [if_pos h1, h1.2]; exact unL_escs _ _
    · rw [if_neg h1]
      by_cases h2 : c = 92
      · rw [if_pos h2]
        obtain ⟨h3, h4⟩ := h.low (by omega)
        subst h2
        rw [h3, h4]
        exact unL_back r
      · rw [if_neg h2]
        by_cases h3 : 32 ≤ c ∧ c ≤ 126 ∨ 160 ≤ c
        · rw [if_pos h3]
          refine unL_plains _ _ fun b hb => ?_
          by_cases h4 : c < 128
          · obtain ⟨h5, h6⟩ := h.low h4
            rw [h5, h6] at hb
            have : b = UInt8.ofNat c := by simpa using hb
            subst this
            intro he
            have := congrArg UInt8.toNat he
            rw [UInt8.toNat_ofNat'] at this
            have h92 : (92 : UInt8).toNat = 92 := rfl
            rw [h92] at this
            omega
          · have := (h.high (by omega)).2 b hb
            intro he
            subst he
            have h92 : (92 : UInt8).toNat = 92 := rfl
            omega
        · rw [if_neg h3]; exact unL_escs _ _
theorem unL_show : ∀ (f : Nat) (l : List UInt8), l.length ≤ f → unL (showG f l) = some l
  | 0, l, h => by
    have : l = [] := List.length_eq_zero_iff.1 (by omega)
    subst this; rfl
  | f + 1, l, h => by
    unfold showG
    by_cases hl : l = []
    · rw [if_pos hl, hl]; rfl
    · rw [if_neg hl, unL_piece _ hl]
      have h1 := dec_one hl
      have hlen : 0 < l.length := List.length_pos_iff.2 hl
      rw [unL_show f (l.drop (Lib.decodeL l).2) (by rw [List.length_drop]; omega)]
      simp
end Go.Proofs.YtldccffbjohokaaDoor

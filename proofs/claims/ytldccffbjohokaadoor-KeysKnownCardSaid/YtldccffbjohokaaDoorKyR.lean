
/-
  Plain laws of runes at the head of bytes.
-/
import Derived.Test.YtldccffbjohokaaDoorKyP
import Derived.Lib.TrimUEq
import Derived.Lib.RuneBytes
import Derived.Lib.Small
namespace Go.Proofs.YtldccffbjohokaaDoor
open Go.RowKit
set_option linter.unusedSimpArgs false
set_option linter.unusedVariables false
set_option maxRecDepth 100000

/-- What a rune that was read well is. -/
structure Good (l : List UInt8) (c n : Nat) : Prop where
  dec : Lib.decodeL l = (c, n)
  len : Lib.runeLen (c : Int) = (n : Int)
  enc : Lib.encodeRune (c : Int) = l.take n
  n1 : 1 ≤ n
  n4 : n ≤ 4
  le : n ≤ l.length
  low : c < 128 → n = 1 ∧ l.take 1 = [UInt8.ofNat c]
  high : 128 ≤ c → 2 ≤ n ∧ ∀ b, b ∈ l.take n → 128 ≤ b.toNat
  max : c ≤ 1114111
theorem u8_of (x : UInt8) (z : Int) (h : z = (x.toNat : Int)) : z.toNat.toUInt8 = x := by
  subst h; simp
set_option maxHeartbeats 2000000 in
theorem dec_spec (l : List UInt8) (hl : l ≠ []) : Lib.decodeL l = (65533, 1) ∨ ∃ c n, Good l c n := by
  have hN := Lib.decodeL_N l
  match l, hl with
  | b0 :: t, _ =>
    have h0 := b0.toNat_lt
    unfold Lib.decodeN at hN
    simp only [List.getD_cons_zero, List.length_cons] at hN
    split at hN
    · rename_i k
      refine .inr ⟨b0.toNat, 1, ⟨hN, ?_, ?_, by omega, by omega, by simp, fun _ => ⟨rfl, by simp⟩, fun h => by omega, by omega⟩⟩
      · unfold Lib.runeLen; rw [if_neg (by omega), if_pos (by omega)]; rfl
      · unfold Lib.encodeRune; rw [Lib.encodeRuneZ_one (by omega) (by omega)]; simp
    · split at hN
      · rename_i k1 k2
        match t, k2, hN with
        | b1 :: t, k2, hN =>
          have h1 := b1.toNat_lt
          simp at k2 hN
          split at hN
          · rename_i k3
            refine .inr ⟨_, _, ⟨hN, ?_, ?_, by omega, by omega, by simp, fun h => by omega, fun _ => ⟨by omega, ?_⟩, by omega⟩⟩
            · unfold Lib.runeLen; rw [if_neg (by omega), if_neg (by omega), if_pos (by omega)]; rfl
            · unfold Lib.encodeRune; rw [Lib.encodeRuneZ_two (by omega) (by omega)]
              simp only [List.map_cons, List.map_nil, List.take_succ_cons, List.take_zero]
              rw [u8_of b0 _ (by omega), u8_of b1 _ (by omega)]
            · intro b hb; simp at hb; rcases hb with rfl | rfl <;> omega
          · exact .inl hN
        | [], k2, _ => simp at k2
      · split at hN
        · rename_i k1 k2 k3
          match t, k3, hN with
          | b1 :: b2 :: t, k3, hN =>
            have h1 := b1.toNat_lt
            have h2 := b2.toNat_lt
            simp at k3 hN
            split at hN
            · rename_i k4
              refine .inr ⟨_, _, ⟨hN, ?_, ?_, by omega, by omega, by simp, fun h => by omega, fun _ => ⟨by omega, ?_⟩, by omega⟩⟩
              · unfold Lib.runeLen; rw [if_neg (by omega), if_neg (by omega), if_neg (by omega), if_neg (by omega), if_pos (by omega)]; rfl
              · unfold Lib.encodeRune; rw [Lib.encodeRuneZ_three (by omega)]
                simp only [List.map_cons, List.map_nil, List.take_succ_cons, List.take_zero]
                rw [u8_of b0 _ (by omega), u8_of b1 _ (by omega), u8_of b2 _ (by omega)]
              · intro b hb; simp at hb; rcases hb with rfl | rfl | rfl <;> omega
            · exact .inl hN
          | [_], k3, _ => simp at k3
          | [], k3, _ => simp at k3
        · split at hN
          · rename_i k1 k2 k3 k4
            match t, k4, hN with
            | b1 :: b2 :: b3 :: t, k4, hN =>
              have h1 := b1.toNat_lt
              have h2 := b2.toNat_lt
              have h3 := b3.toNat_lt
              simp at k4 hN
              split at hN
              · rename_i k5
                refine .inr ⟨_, _, ⟨hN, ?_, ?_, by omega, by omega, by simp, fun h => by omega, fun _ => ⟨by omega, ?_⟩, by omega⟩⟩
                · unfold Lib.runeLen; rw [if_neg (by omega), if_neg (by omega), if_neg (by omega), if_neg (by omega), if_neg (by omega), if_pos (by omega)]; rfl
                · unfold Lib.encodeRune; rw [Lib.encodeRuneZ_four (by omega) (by omega)]
                  simp only [List.map_cons, List.map_nil, List.take_succ_cons, List.take_zero]
                  rw [u8_of b0 _ (by omega), u8_of b1 _ (by omega), u8_of b2 _ (by omega), u8_of b3 _ (by omega)]
                · intro b hb; simp at hb; rcases hb with rfl | rfl | rfl | rfl <;> omega
              · exact .inl hN
            | [_, _], k4, _ => simp at k4
            | [_], k4, _ => simp at k4
            | [], k4, _ => simp at k4
          · exact .inl hN
end Go.Proofs.YtldccffbjohokaaDoor

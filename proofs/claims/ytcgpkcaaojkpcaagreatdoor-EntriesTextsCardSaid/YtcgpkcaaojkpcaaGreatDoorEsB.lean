
/-
  The sort's rotation of a row of entries.
-/
import Derived.Test.YtcgpkcaaojkpcaaGreatDoorEsA
namespace Go.Proofs.YtcgpkcaaojkpcaaGreatDoor
open Go.RowKit Go.Sort
set_option linter.unusedSimpArgs false
set_option linter.unusedVariables false
set_option maxRecDepth 100000

set_option maxHeartbeats 2000000 in
theorem slRotate (w0 : World) (blk off cap : Nat) (d0 : Array (Ent × Nat)) (R : RowK enc4 4 w0 blk off d0) (P0 U0 V0 Q0 : List (Ent × Nat)) (a m b : Nat) (ha : a = P0.length) (hm' : m = a + U0.length) (hb : b = m + V0.length) (hU : 0 < U0.length) (hV : 0 < V0.length)
    (hs : d0.size = P0.length + U0.length + V0.length + Q0.length) (hm : d0.size ≤ 1000000) (fv : Value) (w : World) (S : SWK enc4 4 w0 blk off (P0 ++ U0 ++ V0 ++ Q0).toArray w) :
    Calls Tryz.prog 118 #[.slice (some ⟨blk, off, none⟩) d0.size cap, .int .i64 a, .int .i64 m, .int .i64 b, fv] w fun e w' => e = .returned (.tuple #[]) ∧ SWK enc4 4 w0 blk off (P0 ++ V0 ++ U0 ++ Q0).toArray w' := by
  have HS := Lib.hid S
  have HQ := Lib.hid (And.intro ha (And.intro hm' (And.intro hb (And.intro hU (And.intro hV hs)))))
  have i0 : IntKind.i64.wrap ((m : Int) - (a : Int)) = (U0.length : Int) := by rw [IntKind.wrap_i64]; omega
  have j0 : IntKind.i64.wrap ((b : Int) - (m : Int)) = (V0.length : Int) := by rw [IntKind.wrap_i64]; omega
  have hmb : m ≤ 1000000 := by omega
  have HX := Lib.hid (fun X A M B Y a b n hA hB ha hb hs w S => slSwapRange w0 blk off cap d0 R X A M B Y a b n hA hB ha hb hs hm fv w S)
  clear S ha hm' hb hU hV hs
  go_enter Tryz.func118, Tryz.ntmps118
  go_wp2_with fail
  go_loopg [10, 11] (U0.length + V0.length) (fun g s t wr => ∃ P U V Q : List (Ent × Nat), ∃ i j : Nat, s = .int .i64 i ∧ t = .int .i64 j ∧ Hid (i = U.length ∧ j = V.length ∧ 0 < i ∧ 0 < j ∧ m = P.length + i ∧ d0.size = P.length + i + j + Q.length ∧ g = i + j ∧ P ++ V ++ U ++ Q = P0 ++ V0 ++ U0 ++ Q0 ∧ SWK enc4 4 w0 blk off (P ++ U ++ V ++ Q).toArray wr))
  case atStart => exact ⟨P0, U0, V0, Q0, U0.length, V0.length, rfl, rfl, Lib.hid ⟨rfl, rfl, HQ.out.2.2.2.1, HQ.out.2.2.2.2.1, by have := HQ.out; omega, HQ.out.2.2.2.2.2, rfl, rfl, HS.out⟩⟩
  case round =>
    clear HS i0 j0
    obtain ⟨P, U, V, Q, i, j, rfl, rfl, H⟩ := hrel
    obtain ⟨hU, hV, hi, hj, hmP, hsz, hg, hT, hS⟩ := H.out
    have wm : IntKind.i64.wrap ((m : Int) - (i : Int)) = ((m - i : Nat) : Int) := by rw [IntKind.wrap_i64]; omega
    have H2 := Lib.hid (And.intro hU (And.intro hV (And.intro hi (And.intro hj (And.intro hmP (And.intro hsz (And.intro hg (And.intro hT hS))))))))
    rcases Nat.lt_trichotomy i j with h | h | h
    · have n1 : ((i : Int) != (j : Int)) = true := by rw [bne_iff_ne]; omega
      have n2 : ¬ (j : Int) < (i : Int) := by omega
      have wj : IntKind.i64.wrap ((j : Int) - (i : Int)) = ((j - i : Nat) : Int) := by rw [IntKind.wrap_i64]; omega
      have w2 : wrap64 (wrap64 ((m : Int) + (j : Int)) - (i : Int)) = ((m + j - i : Nat) : Int) := by rw [wrapId ((m : Int) + (j : Int)) (by omega) (by omega), wrapId _ (by omega) (by omega)]; omega
      have e2 := HX.out P U (V.take (j - i)) (V.drop (j - i)) Q (m - i) (m + j - i) i hU.symm (by simp; omega) (by omega) (by simp; omega) (by simp; omega) wr
        (by rw [show P ++ U ++ V.take (j - i) ++ V.drop (j - i) ++ Q = P ++ U ++ V ++ Q by simp only [List.append_assoc]; rw [← List.append_assoc (V.take _), List.take_append_drop]]; exact hS)
      have E2 := Lib.hid e2
      have H3 := Lib.hid h
      clear hU hV hi hj hmP hsz hg hT hS H e2 h
      go_wp2_with fail
      refine E2.out.mono ?_; rintro e w1 ⟨rfl, hS1⟩
      have HS1 := Lib.hid hS1
      clear hS1
      go_wp2_with fail
      obtain ⟨hU, hV, hi, hj, hmP, hsz, hg, hT, -⟩ := H2.out
      have hlt := H3.out
      go_roundg j
      case rel =>
        refine ⟨P, V.drop (j - i), V.take (j - i), U ++ Q, i, j - i, rfl, rfl, Lib.hid ⟨by simp; omega, by simp; omega, hi, by omega, hmP, by simp; omega, by omega, ?_, ?_⟩⟩
        · rw [← hT, ← List.append_assoc]
          congr 1
          simp only [List.append_assoc]
          rw [← List.append_assoc (V.take _), List.take_append_drop]
        · have := HS1.out
          simp only [List.append_assoc] at this ⊢
          exact this
      case measure => omega
    · subst h
      have n1 : ((i : Int) != (i : Int)) = false := by rw [bne_eq_false_iff_eq]
      have e2 := HX.out P U [] V Q (m - i) m i hU.symm hV.symm (by omega) (by simp; omega) (by simp; omega) wr (by rw [List.append_nil]; exact hS)
      have E2 := Lib.hid e2
      clear hU hV hi hj hmP hsz hg hT hS H e2
      go_wp2_with fail
      refine E2.out.mono ?_; rintro e w1 ⟨rfl, hS1⟩
      have HS1 := Lib.hid hS1
      clear hS1
      go_wp2_with fail
      go_end0
      refine ⟨rfl, ?_⟩
      have := HS1.out
      rw [List.append_nil, H2.out.2.2.2.2.2.2.2.1] at this
      exact this
    · have n1 : ((i : Int) != (j : Int)) = true := by rw [bne_iff_ne]; omega
      have n2 : (j : Int) < (i : Int) := by omega
      have wj : IntKind.i64.wrap ((i : Int) - (j : Int)) = ((i - j : Nat) : Int) := by rw [IntKind.wrap_i64]; omega
      have e2 := HX.out P (U.take j) (U.drop j) V Q (m - i) m j (by simp; omega) hV.symm (by omega) (by simp; omega) (by simp; omega) wr
        (by rw [show P ++ U.take j ++ U.drop j ++ V ++ Q = P ++ U ++ V ++ Q by simp only [List.append_assoc]; rw [← List.append_assoc (U.take _), List.take_append_drop]]; exact hS)
      have E2 := Lib.hid e2
      have H3 := Lib.hid h
      clear hU hV hi hj hmP hsz hg hT hS H e2 h
      go_wp2_with fail
      refine E2.out.mono ?_; rintro e w1 ⟨rfl, hS1⟩
      have HS1 := Lib.hid hS1
      clear hS1
      go_wp2_with fail
      obtain ⟨hU, hV, hi, hj, hmP, hsz, hg, hT, -⟩ := H2.out
      have hlt := H3.out
      go_roundg i
      case rel =>
        refine ⟨P ++ V, U.drop j, U.take j, Q, i - j, j, rfl, rfl, Lib.hid ⟨by simp; omega, by simp; omega, by omega, hj, by simp; omega, by simp; omega, by omega, ?_, ?_⟩⟩
        · rw [← hT]
          simp only [List.append_assoc]
          rw [← List.append_assoc (U.take _), List.take_append_drop]
        · have := HS1.out
          simp only [List.append_assoc] at this ⊢
          exact this
      case measure => omega
end Go.Proofs.YtcgpkcaaojkpcaaGreatDoor


/-
  A contract of sort.Search, for a closure with two captured variables.
-/
import Derived.Test.YtndcjgkgkpkklaaLib
import Derived.Deep.LoopGhost
namespace Go.Proofs.Ytndcjgkgkpkklaa
open Go.RowKit
set_option linter.unusedSimpArgs false
set_option linter.unusedVariables false
set_option maxRecDepth 100000

set_option maxHeartbeats 1000000 in
theorem sortSearch (F : Nat) (c1 c2 : Value) (n : Nat) (p : Nat → Bool) (r : Nat) (w : World) (hn : n ≤ 4611686018427387904) (hcf : ∀ args W, (callFunc F args).run Try.prog W = .ok (.enter F args) W)
    (hf : ∀ w' i, Bl w w' → i < n → Calls Try.prog F #[.int .i64 (i : Int), c1, c2] w' (RB w' (.bool (p i))))
    (hr : r ≤ n) (h0 : ∀ j, j < r → p j = false) (h1 : ∀ j, r ≤ j → j < n → p j = true) :
    Calls Try.prog 80 #[.int .i64 (n : Int), .func (.func F) #[] #[c1, c2]] w (RB w (.int .i64 (r : Int))) := by
  have HF := Lib.hid hf
  have H0 := Lib.hid h0
  have H1 := Lib.hid h1
  clear hf h0 h1
  go_enter Try.func80, Try.ntmps80
  go_wp2_with fail
  go_loopg [5, 6] n (fun g i j wr => ∃ a b : Nat, a ≤ r ∧ r ≤ b ∧ b ≤ n ∧ i = .int .i64 a ∧ j = .int .i64 b ∧ Bl w wr ∧ g = b - a)
  case atStart => exact ⟨0, n, by omega, hr, by omega, rfl, rfl, Bl.refl _, rfl⟩
  case round =>
    obtain ⟨a, b, ha, hb, hbn, rfl, rfl, hw, hg⟩ := hrel
    have G := Lib.hid hg
    clear hg
    by_cases hlt : a < b
    · obtain ⟨h, hh⟩ : ∃ h : Nat, h = (a + b) / 2 := ⟨_, rfl⟩
      have hh1 : ((a : Int) + (b : Int)) / 2 = (h : Int) := by omega
      have a1 : a ≤ h := by omega
      have a2 : h < b := by omega
      clear hh
      go_wp2_with fail
      clear hh1
      refine (HF.out wr h hw (by omega)).mono ?_; rintro e w1 ⟨rfl, hb1⟩
      by_cases hp : h < r
      · have e := H0.out h hp
        rw [e]
        go_wp2_with fail
        go_roundg (b - (h + 1))
        case rel => exact ⟨h + 1, b, by omega, hb, hbn, by go_num, rfl, hw.trans hb1, rfl⟩
        case measure => rw [G.out]; omega
      · have e := H1.out h (by omega) (by omega)
        rw [e]
        go_wp2_with fail
        go_roundg (h - a)
        case rel => exact ⟨a, h, ha, by omega, by omega, rfl, rfl, hw.trans hb1, rfl⟩
        case measure => rw [G.out]; omega
    · obtain rfl : a = r := by omega
      have hlt' : ¬ (a : Int) < (b : Int) := by omega
      go_wp2_with fail
      go_ret
      exact RB.mk rfl hw
end Go.Proofs.Ytndcjgkgkpkklaa

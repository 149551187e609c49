
/-
  Contracts of words: the reference's digit, and its form of a byte between quotes.
-/
import Derived.Test.YtbdiiopmjaeaaaaDoorWoC
import Derived.Lib.ConvBytes
import Derived.Test.YtbdiiopmjaeaaaaDoorOwn
namespace Go.Proofs.YtbdiiopmjaeaaaaDoor
open Go.RowKit
set_option linter.unusedSimpArgs false
set_option linter.unusedVariables false
set_option maxRecDepth 100000

theorem conv_backW {P : Program} (src dst e : TypeId) (hs : P.underlying src = some (.slice e)) (he : P.underlying e = some (.int .u8)) (hd : P.underlying dst = some .string) (w : World) (g n cap : Nat) (l : List UInt8) (hn : l.length = n)
    (hc : ∀ j (hj : j < l.length), w.cell? ⟨g, j, none⟩ = some (.int .u8 (l[j].toNat : Int))) :
    (convert src dst (.slice (some ⟨g, 0, none⟩) n cap)).run P w = .ok (.string ⟨l.toArray⟩) w := by
  subst hn
  exact run_convert_bytes_back w src dst e ⟨g, 0, none⟩ cap l hs he hd (fun j hj => by
    have : (⟨g, 0, none⟩ : Addr).add j = ⟨g, j, none⟩ := by unfold Addr.add; split <;> simp_all
    rw [this]; exact hc j hj)
theorem conv_nil (w : World) : (convert 68 9 (.slice none 0 0)).run Tryd.prog w = .ok (.string ⟨#[]⟩) w := by kernel_rfl
theorem conv_own {wr : World} {acc : List UInt8} {v : Value} {base : Nat} (h : wr.ownsRow base 5 1 v acc.length (Lib.byteCells acc)) : (convert 68 9 v).run Tryd.prog wr = .ok (.string ⟨acc.toArray⟩) wr := by
  have hf := own_form h
  obtain ⟨hl, h⟩ := h
  rcases h with ⟨rfl, h2⟩ | ⟨g, cap, cur, rfl, hb, hg, hn, hc, hs, ht⟩
  · have : acc = [] := List.length_eq_zero_iff.1 h2
    subst this; exact conv_nil wr
  · refine conv_backW 68 9 5 Tryd.underlying68 Tryd.underlying5 Tryd.underlying9 wr g acc.length cap acc rfl (fun j hj => ?_)
    obtain ⟨a, c, e, -, -, h4⟩ := hf
    obtain ⟨g', e', -, -, h5⟩ := h4 (by omega)
    injection e with e1 e2 e3
    rw [e'] at e1
    injection e1 with e1; injection e1 with e1
    subst e1
    exact h5 j _ (by simp [Lib.byteCells, hj])
theorem cnv1 (W : World) (c : UInt8) : (convert 68 9 (.slice (some ⟨W.heap.size, 0, none⟩) 1 1)).run Tryd.prog (W.alloc (.cells #[.int .u8 (c.toNat : Nat)] 5)) = .ok (.string ⟨#[c]⟩) (W.alloc (.cells #[.int .u8 (c.toNat : Nat)] 5)) :=
  conv_backW 68 9 5 Tryd.underlying68 Tryd.underlying5 Tryd.underlying9 _ W.heap.size 1 1 [c] rfl (fun j hj => by
    match j, hj with
    | 0, _ => simp [go_sem])
theorem cnv2 (W : World) (c d : UInt8) : (convert 68 9 (.slice (some ⟨W.heap.size, 0, none⟩) 2 2)).run Tryd.prog (W.alloc (.cells #[.int .u8 (c.toNat : Nat), .int .u8 (d.toNat : Nat)] 5)) = .ok (.string ⟨#[c, d]⟩) (W.alloc (.cells #[.int .u8 (c.toNat : Nat), .int .u8 (d.toNat : Nat)] 5)) :=
  conv_backW 68 9 5 Tryd.underlying68 Tryd.underlying5 Tryd.underlying9 _ W.heap.size 2 2 [c, d] rfl (fun j hj => by
    match j, hj with
    | 0, _ => simp [go_sem]
    | 1, _ => simp [go_sem])
theorem hxs_get : ∀ (n : Nat) (h : n < 16), (⟨#[48, 49, 50, 51, 52, 53, 54, 55, 56, 57, 97, 98, 99, 100, 101, 102]⟩ : ByteArray)[n]'h = hxd n
  | 0, _ => rfl
  | 1, _ => rfl
  | 2, _ => rfl
  | 3, _ => rfl
  | 4, _ => rfl
  | 5, _ => rfl
  | 6, _ => rfl
  | 7, _ => rfl
  | 8, _ => rfl
  | 9, _ => rfl
  | 10, _ => rfl
  | 11, _ => rfl
  | 12, _ => rfl
  | 13, _ => rfl
  | 14, _ => rfl
  | 15, _ => rfl
  | n + 16, h => by omega
end Go.Proofs.YtbdiiopmjaeaaaaDoor

/-
  Own texts laid together: WkJ.
-/
import Derived.Test.YtinbdppekhcekaaZi
import Derived.Test.YtinbdppekhcekaaZj
import Derived.RangeFuncNested
import Derived.RangeFuncBound
import Derived.RangeFuncCalls
import Derived.RangeFuncLeaves
import Derived.Shelf.Abstract
import Derived.Shelf.RegionOpen
import Derived.OwnWalkIn
import Derived.TacticsInMore
import Derived.LoopNIn
import Derived.LoopIn
/-
  walk's closure hands back a sequence, both ways.
-/
namespace Go.Proofs.Ytinbdppekhcekaa
open Go.RowKit Go.Shelf
set_option linter.unusedSimpArgs false
set_option linter.unusedVariables false
set_option maxRecDepth 100000
attribute [local go_sem] Oper.semAt_some

theorem walkStops (n : Nat) (hn : 2 ≤ n) (Bw Bd Bs n₀ : Nat) (K : Nat → Prop) (hK : ∀ k, K k → k < n₀) (a : Option Addr) (c : Nat) (l : List Ent) (p : Nat) (back : Bool) (w : World) (hn₀ : n₀ ≤ w.heap.size)
    (hb : ∀ b off, a = some ⟨b, off, none⟩ → l ≠ [] → K b) (hw0 : K Bw) (hd0 : K Bd) (hs0 : K Bs) (hl : l.length ≤ 5000) (hp : p ≤ l.length) (HB : WBox w a c l p back Bw Bd Bs) (he : Ents w a l) :
    SeqStopsK Fence.wide n Try.prog 52 #[.pointer (some ⟨Bw, 0, none⟩), .pointer (some ⟨Bd, 0, none⟩), .pointer (some ⟨Bs, 0, none⟩)] yv (Kept K) (fun ys => ys = upto (wf l p back) (wN l p back))
      (fun pre => ∃ k, k ≤ wN l p back ∧ pre = upto (wf l p back) k) (wN l p back) w := fun y J Jx W hW hJ _ hY h0 => by
  have hlt : ∀ k, K k → k < w.heap.size := fun k hk => Nat.lt_of_lt_of_le (hK k hk) hn₀
  have cw := (hW.cell (p := ⟨Bw, 0, none⟩) (hlt _ hw0)).trans HB.cw
  have c0 := (hW.cell (p := ⟨Bd, 0, none⟩) (hlt _ hd0)).trans HB.c0
  have c1 := (hW.cell (p := ⟨Bd, 1, none⟩) (hlt _ hd0)).trans HB.c1
  have c2 := (hW.cell (p := ⟨Bd, 2, none⟩) (hlt _ hd0)).trans HB.c2
  have cs := (hW.cell (p := ⟨Bs, 0, none⟩) (hlt _ hs0)).trans HB.cs
  by_cases hN : wN l p back = 0
  · have key : CallsIn Fence.wide n Try.prog 52 #[.func (.yield y) #[] #[], .pointer (some ⟨Bw, 0, none⟩), .pointer (some ⟨Bd, 0, none⟩), .pointer (some ⟨Bs, 0, none⟩)] W fun e W' => (∃ v, e = .returned v) ∧ W' = W := by
      cases back
      · have : p = l.length := by simp [wN] at hN; omega
        subst this
        exact walk1_none0 n hn y Bw Bd Bs a _ c W cw c0 cs
      · have : p = 0 := by simpa [wN] using hN
        subst this
        exact walk1_none1 n hn y Bw Bd Bs a _ c W cw c0 cs
    refine key.mono ?_
    rintro e W' ⟨he', rfl⟩
    exact ⟨he', .inl ⟨[], by rw [hN]; rfl, h0⟩⟩
  · have hne : l ≠ [] := by rintro rfl; cases back <;> simp [wN] at hN hp <;> omega
    obtain ⟨b, off, rfl, hat⟩ := he.at_ hne
    have hKb := hb b off rfl hne
    have hat' : ∀ i x, l[i]? = some x → EntAt W b (off + i * 4) x := fun i x hx => (hat i x hx).bl hW
    have hn' : n₀ ≤ W.heap.size := Nat.le_trans hn₀ hW.size
    cases back
    · refine (walk1_fwd n hn y Bw Bd Bs n₀ b off c (l.length - p) p l (by omega) (wf l p false) (by simp [wf]) K hK hKb hw0 hd0 hs0 hl J Jx _ hJ hY W hn' cw c0 c1 c2 cs hat' h0).mono ?_
      rintro e W' ⟨h1, h2⟩
      exact ⟨h1, h2⟩
    · refine (walk1_bwd n hn y Bw Bd Bs n₀ b off c p l hp (wf l p true) (by simp [wf]) K hK hKb hw0 hd0 hs0 hl J Jx _ hJ hY W hn' cw c0 c1 c2 cs hat' h0).mono ?_
      rintro e W' ⟨h1, h2⟩
      exact ⟨h1, h2⟩

end Go.Proofs.Ytinbdppekhcekaa


/-
  Contract of words' own iterator: the fields of a line.
-/
import Derived.Test.YtkbfjficmdgjpaaGreatDoorWoI
import Derived.Test.YtkbfjficmdgjpaaGreatDoorScp
import Derived.RangeFuncNested
import Derived.RangeFuncBound
import Derived.RangeFuncCalls
import Derived.RangeFuncLeaves
import Derived.Shelf.Abstract
import Derived.Shelf.RegionOpen
import Derived.OwnWalkIn
import Derived.TacticsInMore
import Derived.LoopNIn
import Derived.LoopIn
namespace Go.Proofs.YtkbfjficmdgjpaaGreatDoor
open Go.RowKit Go.Shelf
set_option linter.unusedSimpArgs false
set_option linter.unusedVariables false
set_option maxRecDepth 100000
attribute [local go_sem] Oper.semAt_some

/-- The blocks that K names lie as they lay; no block has gone. -/
def Kept (K : Nat → Prop) (A B : World) : Prop := A.heap.size ≤ B.heap.size ∧ ∀ k, K k → B.heap[k]? = A.heap[k]?
theorem Kept.refl (K : Nat → Prop) (A : World) : Kept K A A := ⟨Nat.le_refl _, fun _ _ => rfl⟩
theorem Kept.trans {K : Nat → Prop} {A B C : World} (h : Kept K A B) (k : Kept K B C) : Kept K A C := ⟨Nat.le_trans h.1 k.1, fun i hi => (k.2 i hi).trans (h.2 i hi)⟩
theorem Kept.setCell {K : Nat → Prop} {A B : World} (h : Kept K A B) {p : Addr} (hp : ¬ K p.block) (u : Value) : Kept K A (B.setCell p u) :=
  h.trans ⟨by simp [World.setCell], fun k hk => Below.heap_setCell _ _ _ _ (fun e => hp (e ▸ hk))⟩
def fvl (x : Fld) : Value := .agg #[.string ⟨x.s.toArray⟩, .bool x.q]
def sLen : Value → Nat
  | .string s => s.size
  | _ => 0
theorem grown_set (W : World) (p : Addr) (u : Value) : W.grownBy (W.setCell p u) (some p.block) :=
  ⟨rfl, rfl, rfl, by simp [World.setCell], fun k _ hk => Below.heap_setCell W p u k (fun e => hk (by rw [e]))⟩
theorem grown_none {A B : World} (h : Bl A B) : A.grownBy B none := ⟨h.os, h.tape, h.output, h.size, fun k hk _ => h.block k hk⟩
theorem EscTab.kept {A B : World} (h : EscTab A) (k : B.heap[0]? = A.heap[0]?) : EscTab B := ⟨fun i hi => by rw [World.cell?_of_block (w := A) (a := ⟨0, i, none⟩) k]; exact h.at_ i hi⟩
theorem ext_two (r : ByteArray) (m : Nat) : ((r.extract m r.size).extract 1 (r.size - m)).data.toList = r.data.toList.drop (m + 1) := by
  have e : r.size - m = (r.extract m r.size).size := by simp
  rw [e, ext_dropW, ext_dropW, List.drop_drop]
def FrF (y Bn Bf : Nat) (r : ByteArray) (v5 : Value) (a : Act) : Prop := ∃ u2 u6 u7 u8 u9 u10 u11 u12 u13 u14 u15 u16 u17 u18 u19 u20 u21 u22 u23 u24 u25 u26 u27 u28 u29 u30 u31 u32 u33 u34 u35 u36 u37 u38 u39 u40 u41 u42 u43 u44 u45 u46 u47 u48 u49 u50 u51 u52 u53 u54 u55 u56 : Value, a = { tmps := #[.func (.yield y) #[] #[], .pointer (some ⟨Bn, 0, none⟩), u2, .string r, .pointer (some ⟨Bf, 0, none⟩), v5, u6, u7, u8, u9, u10, u11, u12, u13, u14, u15, u16, u17, u18, u19, u20, u21, u22, u23, u24, u25, u26, u27, u28, u29, u30, u31, u32, u33, u34, u35, u36, u37, u38, u39, u40, u41, u42, u43, u44, u45, u46, u47, u48, u49, u50, u51, u52, u53, u54, u55, u56], defers := [] }
/-- What holds between the jumps. -/
structure FI (Bf : Nat) (J : List (Fld × Bool) → World → Prop) (whole : List (Fld × Bool)) (pre : List (Fld × Bool)) (r : ByteArray) (wr : World) : Prop where
  j : J pre wr
  all : pre ++ fseq r.data.toList = whole
  tab : EscTab wr
  size : Bf < wr.heap.size
  small : r.size ≤ 100000
  ne : 0 ≠ Bf
def AbF (Bf : Nat) (J : List (Fld × Bool) → World → Prop) : Prop := ∀ pre A B row, J pre A → A.grownBy B row → (∀ r, row = some r → r = Bf) → J pre B
theorem FI.bl {Bf : Nat} {J : List (Fld × Bool) → World → Prop} {whole pre : List (Fld × Bool)} {r : ByteArray} {A B : World} (h : FI Bf J whole pre r A) (hJ : AbF Bf J) (k : Bl A B) : FI Bf J whole pre r B :=
  ⟨hJ _ _ _ none h.j (grown_none k) (fun r e => by cases e), h.all, h.tab.bl k, Nat.lt_of_lt_of_le h.size k.size, h.small, h.ne⟩
theorem FI.set {Bf : Nat} {J : List (Fld × Bool) → World → Prop} {whole pre : List (Fld × Bool)} {r : ByteArray} {A : World} (h : FI Bf J whole pre r A) (hJ : AbF Bf J) (i : Nat) (u : Value) : FI Bf J whole pre r (A.setCell ⟨Bf, i, none⟩ u) :=
  ⟨hJ _ _ _ (some Bf) h.j (grown_set A ⟨Bf, i, none⟩ u) (fun r e => by cases e; rfl), h.all, h.tab.kept (Below.heap_setCell A ⟨Bf, i, none⟩ u _ h.ne), by simpa [World.setCell] using h.size, h.small, h.ne⟩
theorem fi_pre {Bf : Nat} {J : List (Fld × Bool) → World → Prop} {whole pre tl : List (Fld × Bool)} {x : Fld × Bool} {r : ByteArray} {A : World} (h : FI Bf J whole pre r A) (e : fseq r.data.toList = x :: tl) : pre ++ [x] <+: whole :=
  ⟨tl, by rw [← h.all, e]; simp⟩
theorem fi_end {Bf : Nat} {J : List (Fld × Bool) → World → Prop} {whole pre : List (Fld × Bool)} {x : Fld × Bool} {r : ByteArray} {A : World} (h : FI Bf J whole pre r A) (e : fseq r.data.toList = [x]) : pre ++ [x] = whole := by rw [← h.all, e]
end Go.Proofs.YtkbfjficmdgjpaaGreatDoor

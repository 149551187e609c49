
/-
  A range over an iterator that writes into one block of its own, the first that it makes.
-/
import Derived.Test.YtkbfjficmdgjpaaGreatDoorLib
import Derived.RangeFuncNested
import Derived.RangeFuncBound
import Derived.RangeFuncCalls
import Derived.RangeFuncLeaves
namespace Go.Proofs.YtkbfjficmdgjpaaGreatDoor
open Go Go.RowKit
set_option linter.unusedVariables false

/-- What stands through new blocks, through a turn of the block Bf, and through a turn of the loop's own two blocks. -/
def Stands {α : Type} (B0 Bf : Nat) (I : List α → World → Prop) : Prop := ∀ pre A B row, I pre A → A.grownBy B row → (∀ r, row = some r → r = Bf ∨ B0 ≤ r ∧ ∃ o : Obj, A.heap[r]? = some o ∧ o.isCells = false) → I pre B
theorem Stands.put {α : Type} {B0 Bf : Nat} {I : List α → World → Prop} (h : Stands B0 Bf I) {pre : List α} {W : World} {l : Nat} {o : Obj} (o' : Obj) (hi : I pre W) (hB : B0 ≤ l) (hl : W.heap[l]? = some o) (ho : o.isCells = false) : I pre (W.putObj l o') :=
  h _ _ _ (some l) hi (grownBy_putObj' W l o') (fun r e => by cases e; exact .inr ⟨hB, o, hl, ho⟩)
theorem Stands.new {α : Type} {B0 Bf : Nat} {I : List α → World → Prop} (h : Stands B0 Bf I) {pre : List α} {W : World} (o : Obj) (hi : I pre W) : I pre (W.alloc o) :=
  h _ _ _ none hi (World.grownBy_alloc W o none) (fun r e => by cases e)
/-- How a round ends: it goes on, or the function returns. -/
def RoundEnds {α : Type} (B0 : Nat) (Kp : World → World → Prop) (I Ix : List α → World → Prop) (xs : List α) (W : World) : Exit → Act → World → Prop
  | .normal, _, W' => KeepsFrom B0 W W' ∧ Kp W W' ∧ I xs W'
  | .ret, _, W' => KeepsFrom B0 W W' ∧ Ix xs W'
  | _, _, _ => False
theorem wpIn_range_box {α : Type} {P : Program} {n : Nat} {g : Operand} {ps : Array Tmp} {assign body : Code} {Q : Exit → Act → World → Prop} {a : Act} {w : World}
    (h1 : 1 ≤ n) {gf : Nat} {lb : Array Value} (hg : a.eval g = .func (.func gf) #[] lb) (eg : ∀ args w, (callFunc gf args).run P w = .ok (.enter gf args) w)
    {encs : α → Array Value} {Kp : World → World → Prop} {whole : List α} (Bf : Nat) (hBf : Bf = w.heap.size + 2)
    (hseq : ∀ (l : Nat) (J Jx : List α → World → Prop) (W : World), W.heap.size = Bf → Below w.heap.size w W →
      (∀ pre A B row, J pre A → A.grownBy B row → (∀ r, row = some r → r = Bf) → J pre B) →
      (∀ pre x W1, J pre W1 → Bf < W1.heap.size → pre ++ [x] <+: whole → YieldAt Fence.wide (n - 1 - 1) P l (encs x) W1 fun e W' => (e = .returned (.bool true) ∧ J (pre ++ [x]) W' ∧ Kp W1 W') ∨ (e = .returned (.bool false) ∧ Jx (pre ++ [x]) W')) →
      J [] W → CallsIn Fence.wide (n - 1) P gf (#[.func (.yield l) #[] #[]] ++ lb) W fun e W' => (∃ v, e = .returned v) ∧ ((∃ ys, ys = whole ∧ J ys W') ∨ (∃ pre, pre <+: whole ∧ Jx pre W')))
    (hKt : ∀ {A B C : World}, Kp A B → Kp B C → Kp A C) (hKb : ∀ (W : World) (l : Nat) (o o' : Obj), w.heap.size ≤ l → l ≠ Bf → W.heap[l]? = some o → o.isCells = false → Kp W (W.putObj l o')) (hps : ∀ x, (encs x).size = ps.size)
    (I Ix : List α → World → Prop) (hI : Stands w.heap.size Bf I) (hIx : Stands w.heap.size Bf Ix) (h0 : I [] w) (Ax : α → Act → World → Prop) (hAx : ∀ x a', Stands w.heap.size Bf (fun (_ : List Unit) W => Ax x a' W))
    (hassign : ∀ (l : Nat) (pre : List α) (x : α) (W : World) (K : Act → World → Prop), I pre W → Bf < W.heap.size → (∀ a' W', KeepsFrom w.heap.size W W' → Kp W W' → I pre W' → Ax x a' W' → K a' W') →
      assign.wpIn (Fence.wide.inRound l) (n - 1 - 1) P (Exit.then K (fun _ _ _ => False)) { tmps := (ps.zip (encs x)).foldl (fun t (p, v) => t.setIfInBounds p v) a.tmps, defers := [] } W)
    (hbody : ∀ (l : Nat) (pre : List α) (x : α) (a' : Act) (W : World), l = w.heap.size + 1 → I pre W → Bf < W.heap.size → Ax x a' W → pre ++ [x] <+: whole → body.wpIn (Fence.wide.inRound l) (n - 1 - 1) P (RoundEnds w.heap.size Kp I Ix (pre ++ [x]) W) a' W)
    (hdone : ∀ (D : Nat) (W : World), D = w.heap.size → I whole W → W.heap[D]? = some (.deferred (some [])) → Q .normal { a with defers := { target := .collected D, args := #[] } :: a.defers } W)
    (hstop : ∀ (D : Nat) (pre : List α) (W : World), D = w.heap.size → pre <+: whole → Ix pre W → W.heap[D]? = some (.deferred (some [])) → Q .ret { a with defers := { target := .collected D, args := #[] } :: a.defers } W) :
    (Code.rangeFunc g ps assign body).wpIn Fence.wide n P Q a w := by
  refine wpIn_rangeFunc ?_
  intro fn hfn
  obtain ⟨rec, hrec⟩ : ∃ rec : LoopState → Option Code → Loop, rec = fun st pe => { state := st, pending := pe, fn, tmps := a.tmps, params := ps, assign, body, defers := w.heap.size } := ⟨_, rfl⟩
  obtain ⟨W1, hW1⟩ : ∃ W1, (w.alloc (.deferred (some []))).alloc (.loop (rec .ready none)) = W1 := ⟨_, rfl⟩
  have hL1 : W1.heap[w.heap.size + 1]? = some (.loop (rec .ready none)) := by
    rw [← hW1]; have := World.alloc_heap_new (w.alloc (.deferred (some []))) (.loop (rec .ready none)); rwa [World.size_alloc] at this
  have hK1 : W1.heap[w.heap.size]? = some (.deferred (some [])) := by
    rw [← hW1]; exact (Below.heap_alloc _ _ _ (by simp)).trans (World.alloc_heap_new w _)
  have hs1 : W1.heap.size = Bf := by rw [← hW1, hBf]; simp
  have hb1 : Below w.heap.size w W1 := by
    rw [← hW1]; exact ((Below.refl _ w).alloc (Nat.le_refl _) _).alloc (by simp) _
  have put : ∀ {J : List α → World → Prop}, Stands w.heap.size Bf J → ∀ {pre : List α} {W : World} {st pe} (st' pe'), J pre W → W.heap[w.heap.size + 1]? = some (.loop (rec st pe)) → J pre (W.putObj (w.heap.size + 1) (.loop (rec st' pe'))) :=
    fun hJ pre W _ _ _ _ hj hl => hJ.put _ hj (by omega) hl rfl
  refine ⟨w.heap.size + 1, [{ target := .collected w.heap.size, args := #[] }], W1, { target := .fn (.func gf) lb, args := #[.func (.yield (w.heap.size + 1)) #[] #[]] }, W1, gf,
    #[.func (.yield (w.heap.size + 1)) #[] #[]] ++ lb, W1, ?_, ?_, fun _ _ => trivial, ?_, fun _ => h1, ?_⟩
  · rw [← hW1, hrec]; exact run_enterLoop_outer _ _ _ _ _
  · simp only [resolve, hg]
    simp [go_sem]
  · simp [invoke, go_sem, eg]
  refine (hseq (w.heap.size + 1)
      (fun pre W => I pre W ∧ W.heap[w.heap.size + 1]? = some (.loop (rec .ready none)) ∧ W.heap[w.heap.size]? = some (.deferred (some [])))
      (fun pre W => Ix pre W ∧ W.heap[w.heap.size + 1]? = some (.loop (rec .done (some .ret))) ∧ W.heap[w.heap.size]? = some (.deferred (some [])))
      W1 hs1 hb1
      (fun s A B row hs hg' hr => ⟨hI s A B row hs.1 hg' (fun r e => .inl (hr r e)), (hg'.block _ (Array.getElem?_eq_some_iff.1 hs.2.1).1 (fun e => by have := hr _ e.symm; omega)).trans hs.2.1, (hg'.block _ (Array.getElem?_eq_some_iff.1 hs.2.2).1 (fun e => by have := hr _ e.symm; omega)).trans hs.2.2⟩)
      ?_ ⟨by rw [← hW1]; exact hI.new _ (hI.new _ h0), hL1, hK1⟩).mono ?_
  · rintro pre x W ⟨hi, hl, hk⟩ hsz hpre
    have hy := run_yield (P := P) (args := encs x) hl (by rw [hrec]; exact hps x)
    rw [hrec] at hy
    refine ⟨fn, _, assign, body, hy, roundIn_of_wpIn hfn (hassign _ pre x W _ hi hsz ?_)⟩
    intro a' Wa hkf hkp hia hax
    have hla := hkf.same _ _ (by omega) hl rfl
    have hka := hkf.same _ _ (Nat.le_refl _) hk rfl
    refine ⟨_, run_beginRound hla (by rw [hrec]), ?_⟩
    have ebusy : ({ rec .ready none with state := .busy } : Loop) = rec .busy none := by rw [hrec]
    rw [ebusy]
    have hl2 : (Wa.putObj (w.heap.size + 1) (.loop (rec .busy none))).heap[w.heap.size + 1]? = some (.loop (rec .busy none)) := World.putObj_heap_same (Array.getElem?_eq_some_iff.1 hla).1
    have hk2 : (Wa.putObj (w.heap.size + 1) (.loop (rec .busy none))).heap[w.heap.size]? = some (.deferred (some [])) := (World.putObj_heap_other (by omega)).trans hka
    have hp2 : Kp Wa (Wa.putObj (w.heap.size + 1) (.loop (rec .busy none))) := hKb _ _ _ _ (by omega) (by omega) hla rfl
    refine wpIn_mono (hbody _ pre x a' _ rfl (put hI _ _ hia hla) (by have := hkf.size; simp [World.putObj]; omega) ((hAx x a').put (pre := []) _ hax (by omega) hla rfl) hpre) ?_
    rintro e a3 W3 hp
    cases e with
    | normal =>
      obtain ⟨hk3, hkp3, hi3⟩ := hp
      have hl3 := hk3.same _ _ (by omega) hl2 rfl
      have hr := run_endRound (P := P) none hl3
      have e1 : ({ rec .busy none with state := if (none : Option Code).isNone then .ready else .done, pending := none } : Loop) = rec .ready none := by rw [hrec]; rfl
      rw [e1] at hr
      exact ⟨_, _, hr, .inl ⟨rfl, ⟨put hI _ _ hi3 hl3, World.putObj_heap_same (Array.getElem?_eq_some_iff.1 hl3).1, (World.putObj_heap_other (by omega)).trans (hk3.same _ _ (Nat.le_refl _) hk2 rfl)⟩, hKt hkp (hKt (hKt hp2 hkp3) (hKb _ _ _ _ (by omega) (by omega) hl3 rfl))⟩⟩
    | ret =>
      obtain ⟨hk3, hi3⟩ := hp
      have hl3 := hk3.same _ _ (by omega) hl2 rfl
      have hr := run_endRound (P := P) (some .ret) hl3
      have e1 : ({ rec .busy none with state := if (some Code.ret).isNone then .ready else .done, pending := some .ret } : Loop) = rec .done (some .ret) := by rw [hrec]; rfl
      rw [e1] at hr
      exact ⟨_, _, hr, .inr ⟨rfl, put hIx _ _ hi3 hl3, World.putObj_heap_same (Array.getElem?_eq_some_iff.1 hl3).1, (World.putObj_heap_other (by omega)).trans (hk3.same _ _ (Nat.le_refl _) hk2 rfl)⟩⟩
    | exit _ => exact hp.elim
    | goto _ => exact hp.elim
    | panic _ => exact hp.elim
    | outgrown => exact hp.elim
  · rintro e W2 ⟨⟨v, rfl⟩, (⟨xs, rfl, hi, hl, hk⟩ | ⟨pre, hpre, hi, hl, hk⟩)⟩
    · exact ⟨none, _, by have := run_endLoop (P := P) hl (by rw [hrec]; simp); rw [hrec] at this; exact this, hdone _ _ rfl (hI.put _ hi (by omega) hl rfl) ((World.putObj_heap_other (by omega)).trans hk)⟩
    · exact ⟨some .ret, _, by have := run_endLoop (P := P) hl (by rw [hrec]; simp); rw [hrec] at this; exact this, wpIn_ret (hstop _ pre _ rfl hpre (hIx.put _ hi (by omega) hl rfl) ((World.putObj_heap_other (by omega)).trans hk))⟩
end Go.Proofs.YtkbfjficmdgjpaaGreatDoor

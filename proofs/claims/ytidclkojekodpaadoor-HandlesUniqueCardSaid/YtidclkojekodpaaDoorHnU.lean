
/-
  Contracts of handles: the iterator collected: AppendSeq, Collect; Live.
-/
import Derived.Test.YtidclkojekodpaaDoorHnT
import Derived.Test.YtidclkojekodpaaDoorHnD
import Derived.Test.YtidclkojekodpaaDoorOwn
import Derived.Maps.AppendAt
namespace Go.Proofs.YtidclkojekodpaaDoor
open Go.RowKit Go.Shelf
set_option linter.unusedSimpArgs false
set_option linter.unusedVariables false
set_option maxRecDepth 100000
theorem run_store_func (P : Program) (w : World) (a : Addr) (m : Mode) (f : Fn) (x y : Array Value) : (store a (.func f x y) m).run P w = stored P w a (.func f x y) m := run_store P w a _ m rfl
attribute [local go_sem] Oper.semAt_some run_store_func

theorem Kept.putObj {K : Nat → Prop} {n₀ : Nat} (hK : ∀ k, K k → k < n₀) (W : World) (l : Nat) (o o' : Obj) (hl : n₀ ≤ l) (h : W.heap[l]? = some o) : Kept K W (W.putObj l o') :=
  have hlt := (Array.getElem?_eq_some_iff.1 h).1
  ⟨(grownBy_putObj' W l o').size, fun k hk => by have h1 := hK k hk; exact (grownBy_putObj' W l o').block k (by omega) (fun e => by cases e; omega)⟩

theorem bxN {W : World} {t : TypeId} {v : Value} {B : Nat} (h : W.heap.size = B) : Boxed (W.alloc (.cells #[v] t)) B t v := h ▸ Boxed.new W t v
theorem bxL {W W' : World} {B : Nat} {t : TypeId} {v : Value} (h : Boxed W B t v) (k : Bl W W') : Boxed W' B t v := (k.block B h.lt).trans h
theorem ownFrom_kept {β : Type} {K : Nat → Prop} {w2 : World} (hK : ∀ k, K k → k < w2.heap.size) : OwnFrom w2.heap.size (fun (_ : β) W => Kept K w2 W) :=
  fun _ A B row hs hg hr => hs.trans ⟨hg.size, fun k hk => hg.block k (Nat.lt_of_lt_of_le (hK k hk) hs.1) (fun e => by have := (hr k e.symm).1; have := hK k hk; omega)⟩
/-- From one world to the next of a round: whatever is no cells, what K names, and what lay below n₀, lie as they lay. -/
structure Step (K : Nat → Prop) (n₀ : Nat) (A B : World) : Prop where
  keeps : KeepsOthers A B
  kept : Kept K A B
  below : Below n₀ A B
theorem Step.refl (K : Nat → Prop) (n₀ : Nat) (A : World) : Step K n₀ A A := ⟨KeepsOthers.refl _, Kept.refl _ _, Below.refl _ _⟩
theorem Step.drew {K : Nat → Prop} {n₀ : Nat} {A B : World} (h : Step K n₀ A B) : Step K n₀ A B.drew := ⟨h.keeps.trans (KeepsOthers.drew _), h.kept.drew, h.below.drew⟩
theorem Step.set {K : Nat → Prop} {n₀ : Nat} {A B : World} (h : Step K n₀ A B) {p : Addr} (hp : ¬ K p.block) (hn : n₀ ≤ p.block) (u : Value) : Step K n₀ A (B.setCell p u) :=
  ⟨h.keeps.trans (KeepsOthers.setCell _ _ _), h.kept.setCell hp u, h.below.setCell hn u⟩
theorem Step.new {K : Nat → Prop} {n₀ m : Nat} {A B : World} (h : Step K n₀ A B) (hK : ∀ k, K k → k < m) (hm : m ≤ A.heap.size) (hn : n₀ ≤ A.heap.size) (o : Obj) : Step K n₀ A (B.alloc o) :=
  ⟨h.keeps.trans (KeepsOthers.alloc _ _), h.kept.alloc hK (Nat.le_trans hm h.kept.1) o, h.below.alloc (Nat.le_trans hn h.below.size) o⟩
theorem Step.app {K : Nat → Prop} {n₀ m : Nat} {A B C : World} (h : Step K n₀ A B) (hK : ∀ k, K k → k < m) (hm : m ≤ A.heap.size) (hn : n₀ ≤ m) {e : TypeId} {size : Nat} {v : Value} {k : Nat} {xs : List Value} (hr : B.ownsRow m e size v k xs) (hg : B.grownBy C v.ownBlock) : Step K n₀ A C := by
  have hm' := Nat.le_trans hm h.kept.1
  refine ⟨h.keeps.trans (KeepsOthers.of_grownBy hg fun j o ej hj => ?_), h.kept.trans ⟨hg.size, fun q hq => hg.block q (by have := hK q hq; omega) (fun e' => ?_)⟩, h.below.grown hg (by omega) fun q eq => Nat.le_trans hn (own_block hr q eq)⟩
  · rcases hr.2 with ⟨rfl, _⟩ | ⟨g, cap, cur, rfl, _, hgb, _⟩
    · simp [Value.ownBlock] at ej
    · obtain rfl : g = j := by simpa [Value.ownBlock] using ej
      rw [hgb] at hj; cases hj; rfl
  · have h1 := own_block hr q e'.symm
    have h2 := hK q hq
    omega
theorem bxD {W : World} {B : Nat} {t : TypeId} {v : Value} (h : Boxed W B t v) : Boxed W.drew B t v := h
theorem owD {w : World} {base : Nat} {e : TypeId} {size : Nat} {v : Value} {n : Nat} {xs : List Value} (h : w.ownsRow base e size v n xs) : w.drew.ownsRow base e size v n xs := h


/-- The cells of handles. -/
def hndCells (l : List (Int × Int)) : List Value := l.flatMap fun x => [.int .i64 x.1, .int .i64 x.2]
theorem hndCells_snoc (l : List (Int × Int)) (x : Int × Int) : hndCells (l ++ [x]) = hndCells l ++ [.int .i64 x.1, .int .i64 x.2] := by simp [hndCells]
theorem hndCells_get : ∀ (l : List (Int × Int)) (i : Nat) (x : Int × Int), l[i]? = some x → (hndCells l)[i * 2]? = some (.int .i64 x.1) ∧ (hndCells l)[i * 2 + 1]? = some (.int .i64 x.2)
  | [], i, x, h => by simp at h
  | y :: l, 0, x, h => by simp at h; subst h; simp [hndCells]
  | y :: l, i + 1, x, h => by
    have ih := hndCells_get l i x (by simpa using h)
    have e : hndCells (y :: l) = [.int .i64 y.1, .int .i64 y.2] ++ hndCells l := by simp [hndCells]
    rw [e, show (i + 1) * 2 = i * 2 + 2 by omega]
    simpa using ih
/-- Handles of the call's own. -/
def OwnH (B : Nat) (l : List (Int × Int)) (w : World) (v : Value) : Prop := w.ownsRow B 26 2 v l.length (hndCells l)
/-- Handles as a result. -/
def HsIs (l : List (Int × Int)) (w : World) (v : Value) : Prop := ∃ a c, v = .slice a l.length c ∧ Hnds w a l ∧ l.length ≤ c ∧ c ≤ maxLen
theorem ownH_is {B : Nat} {l : List (Int × Int)} {w : World} {v : Value} (h : OwnH B l w v) : HsIs l w v := by
  obtain ⟨a, c, rfl, h1, h2, h3⟩ := own_form (show w.ownsRow _ _ _ _ _ _ from h)
  refine ⟨a, c, rfl, ⟨fun hn => ?_⟩, h1, h2⟩
  obtain ⟨g, rfl, _, _, hc⟩ := h3 (List.length_pos_iff.2 hn)
  refine ⟨g, 0, rfl, fun i x hx => ?_⟩
  obtain ⟨k0, k1⟩ := hndCells_get l i x hx
  rw [Nat.zero_add]
  exact ⟨hc _ _ k0, hc _ _ k1⟩
theorem hsIs_nil (w : World) : HsIs [] w (.slice none 0 0) := ⟨none, 0, rfl, hnds_nil w, Nat.le_refl _, by unfold maxLen; omega⟩
theorem HsIs.bl {l : List (Int × Int)} {w w' : World} {v : Value} (h : HsIs l w v) (k : Bl w w') : HsIs l w' v := by
  obtain ⟨a, c, rfl, h1, h2, h3⟩ := h
  exact ⟨a, c, rfl, h1.bl k, h2, h3⟩
theorem givenStops (n : Nat) (hn : 2 ≤ n) (Bt n₀ c : Nat) (a : Option Addr) (l : List Slot) (K : Nat → Prop) (hK : ∀ k, K k → k < n₀) (hb : ∀ b off, a = some ⟨b, off, none⟩ → l ≠ [] → K b) (ht : K Bt) (hln : l.length ≤ 5000) (w : World) (hn₀ : n₀ ≤ w.heap.size)
    (c1 : w.cell? ⟨Bt, 1, none⟩ = some (.slice a l.length c)) (he : Slots w a l) :
    SeqStopsK Fence.wide n Tryd.prog 39 #[.pointer (some ⟨Bt, 0, none⟩)] (fun x => #[hv x]) (Kept K) (fun ys => ys = hl l l.length) (fun _ => True) l.length w := fun y J Jx W hW hJ _ hY h0 => by
  have hlt : ∀ k, K k → k < w.heap.size := fun k hk => Nat.lt_of_lt_of_le (hK k hk) hn₀
  exact given1 n hn y Bt n₀ c a l K hK hb ht hln J Jx _ hJ hY W (Nat.le_trans hn₀ hW.size) ((hW.cell (p := ⟨Bt, 1, none⟩) (hlt _ ht)).trans c1) (he.bl hW) h0
theorem slots_lt {w : World} {b off : Nat} {l : List Slot} (h : Slots w (some ⟨b, off, none⟩) l) (hne : l ≠ []) : b < w.heap.size := by
  obtain ⟨b', off', e, hat⟩ := h.at_ hne
  cases e
  obtain ⟨x, hx⟩ : ∃ x, l[0]? = some x := ⟨_, List.getElem?_eq_getElem (List.length_pos_iff.2 hne)⟩
  exact lt_of_cell (hat 0 x hx).1

/-- Between two rounds. -/
def AI (w w2 : World) (Bo : Nat) (pre : List (Int × Int)) (W : World) : Prop :=
  (∃ v, Boxed W Bo 36 v ∧ W.ownsRow w2.heap.size 26 2 v pre.length (hndCells pre) ∧ True) ∧ (Kept (fun q => q < w.heap.size) w2 W ∧ Below w.heap.size w W)
theorem AI.own (w w2 : World) (Bo : Nat) (hw : w.heap.size ≤ w2.heap.size) : OwnFrom w2.heap.size (AI w w2 Bo) :=
  OwnFrom.and (Own.from (holdsRow_own w2.heap.size Bo 36 26 2 (fun pre : List (Int × Int) => pre.length) (fun pre => hndCells pre) (fun _ _ => True)) _)
    (OwnFrom.and (ownFrom_kept (fun k hk => by omega)) (ownFrom_below (Nat.le_refl _) hw))
theorem inf_hnd : (Tryd.prog.info? 26).map (fun i => (i.zero, i.size, i.bytes)) = some (some (.agg #[.int .i64 0, .int .i64 0]), 2, 16) := by kernel_rfl
set_option maxHeartbeats 8000000 in
theorem hnAppendSeq (Bt c : Nat) (a : Option Addr) (l : List Slot) (w : World) (ht : Bt < w.heap.size) (hln : l.length ≤ 5000) (c1 : w.cell? ⟨Bt, 1, none⟩ = some (.slice a l.length c)) (he : Slots w a l) :
    CallsIn Fence.wide 4 Tryd.prog 38 #[.slice none 0 0, .func (.func 39) #[] #[.pointer (some ⟨Bt, 0, none⟩)]] w (RM w (OwnH w.heap.size (hl l l.length))) := by
  obtain ⟨i0, hi0, hz0, hz1, hz2⟩ := info_parts inf_hnd
  refine callsIn_of_wp_marks Tryd.func38 rfl trivial ?_ rfl
  simp only [Tryd.ntmps38, List.size_toArray, List.length_cons, List.length_nil, Nat.reduceAdd, Nat.reduceSub, Array.replicate_succ, Array.replicate_zero, List.push_toArray, List.append_toArray, List.nil_append, List.cons_append]
  have hn1 : 1 ≤ 4 := by omega
  gi_wp2
  obtain ⟨w2, hw2⟩ : ∃ w2, w.alloc (.cells #[.slice none 0 0] 36) = w2 := ⟨_, rfl⟩
  have o2 : Boxed w2 w.heap.size 36 (.slice none 0 0) := hw2 ▸ bxN rfl
  have hb2 : Bl w w2 := hw2 ▸ (Bl.refl w).alloc _
  have hs2 : w.heap.size + 1 = w2.heap.size := by rw [← hw2]; simp
  have c2 := hb2.cell c1
  have he2 := he.bl hb2
  rw [hw2]
  clear hw2
  refine wpIn_rangeFunc_ownH rfl hn1 (gf := 39) (lb := #[.pointer (some ⟨Bt, 0, none⟩)]) rfl trivial (enters_of Tryd.func39 (by kernel_rfl) rfl)
    (givenStops 3 (by omega) Bt w.heap.size c a l (fun q => q < w.heap.size) (fun _ h => h) (fun b off e hne => by subst e; exact slots_lt he hne) ht hln w2 (by omega) c2 he2) (fun h k => Kept.trans h k)
    (fun W y o o' hy h _ _ => Kept.putObj (fun _ h => h) W y o o' (by omega) h) (Below.refl _ _) (fun _ => rfl)
    (AI w w2 w.heap.size) (fun _ _ _ => False) (AI.own _ _ _ hb2.size) (fun _ _ _ _ _ h _ _ => h)
    ⟨⟨_, o2, by simpa [hndCells] using own_nil _ _ _ _, trivial⟩, Kept.refl _ _, hb2⟩
    (fun x a' W => ∃ Bx, w2.heap.size ≤ Bx ∧ W.cell? ⟨Bx, 0, none⟩ = some (.int .i64 x.1) ∧ W.cell? ⟨Bx, 1, none⟩ = some (.int .i64 x.2) ∧
      a' = { tmps := #[.slice none 0 0, .func (.func 39) #[] #[.pointer (some ⟨Bt, 0, none⟩)], .pointer (some ⟨w.heap.size, 0, none⟩), undef, .slice none 0 0, .pointer (some ⟨Bx, 0, none⟩), .func (.func 39) #[] #[.pointer (some ⟨Bt, 0, none⟩)], .agg #[.int .i64 x.1, .int .i64 x.2], undef, undef, undef, undef, undef], defers := [] })
    (fun x a' => Own.from (fun s A B row hs hg hr => by
      obtain ⟨Bx, hB, e0, e1, rfl⟩ := hs
      exact ⟨Bx, hB, cell_kept e0 hg hr, cell_kept e1 hg hr, rfl⟩) _) ?assign ?body ?done ?stop
  case assign =>
    rintro y pre x W K hi hK
    simp only [hv]
    have hsz3 : w2.heap.size ≤ W.heap.size := hi.2.1.1
    gi_wp2
    exact hK _ _ ((KeepsOthers.alloc _ _).from _) ((Kept.refl _ W).alloc (fun _ h => h) (by omega) _) ((AI.own _ _ _ hb2.size).alloc _ hi)
      ⟨W.heap.size, hsz3, by simp [go_sem], by simp [go_sem], rfl⟩
  case body =>
    rintro y pre x a' W hl' ⟨r, hr⟩ ⟨⟨v, hv, hrow, -⟩, hK', hB⟩ ⟨Bx, hBs, e0, e1, rfl⟩ hlt
    obtain ⟨oa, oc, rfl, -⟩ := own_form hrow
    have vc := hv.cell
    have vf := hv.frozen
    have hsW : w2.heap.size ≤ W.heap.size := hK'.1
    have hS0 : Step (fun q => q < w.heap.size) w.heap.size W W := Step.refl _ _ _
    have hv1 := Boxed.alloc hv (.cells #[.int .i64 x.1, .int .i64 x.2] 26)
    have hS1 := hS0.new (fun k hk => hk) (by omega) (by omega) (.cells #[.int .i64 x.1, .int .i64 x.2] 26)
    gi_wp2_with (gi_at_builtin; refine wpListIn_append_own _ rfl _ _ 36 rfl w2.heap.size 26 i0 (.agg #[.int .i64 0, .int .i64 0]) 2 16 Tryd.underlying36 hi0 hz0 hz1 hz2 rfl (by decide) _ _ _ rfl (hrow.alloc _) ⟨W.heap.size, 0, none⟩ 1 1 [.int .i64 x.1, .int .i64 x.2] rfl rfl ?c1 ?c2 ?c3 ?c4 ?c5 ?_)
    case c1 => exact multi_new _ _ _
    case c2 => intro u hu; simp at hu; rcases hu with rfl | rfl <;> rfl
    case c3 => unfold maxLen; omega
    case c4 => omega
    case c5 => simp; omega
    intro v' w3 hown' hg3 _
    obtain ⟨ob, oc', rfl, -⟩ := own_form hown'
    have hv3 := hv1.kept hg3 (Boxed.not_row hv1 (by decide) (hrow.alloc _))
    have hS3 := hS1.app (m := w2.heap.size) (fun k hk => by omega) (by omega) (by omega) (hrow.alloc _) hg3
    have vc3 := hv3.cell
    have vf3 := hv3.frozen
    gi_wp2
    have hS4 := hS3.set (p := ⟨w.heap.size, 0, none⟩) (by simp) (Nat.le_refl _) (.slice ob (pre.length + 1) oc')
    refine ⟨hS4.keeps.from _, hS4.kept, ⟨⟨_, Boxed.set _ hv3, ?_, trivial⟩, hK'.trans hS4.kept, hB.trans hS4.below⟩⟩
    rw [hndCells_snoc, List.length_append]
    exact own_set hown' ⟨w.heap.size, 0, none⟩ (by simp only; omega) _
  case done =>
    rintro D ys W hD rfl ⟨⟨v, hv, hrow, -⟩, hK', hB⟩ hK
    obtain ⟨oa, oc, rfl, hle, hcap, -⟩ := own_form hrow
    have vc := hv.cell
    gi_wp2
    refine ⟨by simp, .inl ⟨_, _, rfl, run_takeDeferred hK, ?_⟩⟩
    have hrow3 := ownsRow_putObj hrow (.deferred none) hK rfl
    exact ⟨_, results_tmp rfl _ _ _, _, rfl, own_base hrow3 (by omega), hB.trans (belowK_b (w := w) (Nat.le_refl _) _ D _ _ (by omega) hK rfl rfl)⟩
  case stop =>
    rintro D c pre W hD - h hK
    exact h.elim
end Go.Proofs.YtidclkojekodpaaDoor

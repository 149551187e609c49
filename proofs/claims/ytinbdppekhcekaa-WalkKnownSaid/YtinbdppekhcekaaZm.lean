/-
  Own texts laid together: WkM.
-/
import Derived.Test.YtinbdppekhcekaaZl
import Derived.Test.YtinbdppekhcekaaZe
import Derived.Maps.AppendAt
import Derived.Deep.AppendLies
/-
  walk.Take: the entries of a walk, at most so many.
-/
namespace Go.Proofs.Ytinbdppekhcekaa
open Go.RowKit Go.Shelf
set_option linter.unusedSimpArgs false
set_option linter.unusedVariables false
set_option maxRecDepth 100000
attribute [local go_sem] Oper.semAt_some run_store_func

/-- Where a walk from p stands when ys have come. -/
def tcur (p : Nat) (ys : List (Ent × Int)) : Int := match ys.getLast? with | some y => y.2 | none => (p : Int)
theorem tcur_snoc (p : Nat) (ys : List (Ent × Int)) (x : Ent × Int) : tcur p (ys ++ [x]) = x.2 := by simp [tcur]
/-- What Take takes. -/
def tk (l : List Ent) (p : Nat) (back : Bool) (k : Nat) : List (Ent × Int) := upto (wf l p back) (min k (wN l p back))

theorem bxN {W : World} {t : TypeId} {v : Value} {B : Nat} (h : W.heap.size = B) : Boxed (W.alloc (.cells #[v] t)) B t v := h ▸ Boxed.new W t v
theorem bxL {W W' : World} {B : Nat} {t : TypeId} {v : Value} (h : Boxed W B t v) (k : Bl W W') : Boxed W' B t v := (k.block B h.lt).trans h
/-- Between two rounds of Take. -/
def TI (p k Bo Bc : Nat) (K : Nat → Prop) (w w2 : World) (pre : List (Ent × Int)) (W : World) : Prop :=
  ((∃ v, Boxed W Bo 22 v ∧ W.ownsRow w2.heap.size 36 4 v pre.length (entCells (pre.map (·.1))) ∧ True) ∧ Boxed W Bc 28 (.int .i64 (tcur p pre))) ∧ (pre.length ≤ k ∧ Kept K w2 W ∧ Below w.heap.size w W)
theorem ownFrom_kept {β : Type} {K : Nat → Prop} {w2 : World} (hK : ∀ k, K k → k < w2.heap.size) : OwnFrom w2.heap.size (fun (_ : β) W => Kept K w2 W) :=
  fun _ A B row hs hg hr => hs.trans ⟨hg.size, fun k hk => hg.block k (Nat.lt_of_lt_of_le (hK k hk) hs.1) (fun e => by have := (hr k e.symm).1; have := hK k hk; omega)⟩
theorem TI.own (p k Bo Bc : Nat) (K : Nat → Prop) (w w2 : World) (hK : ∀ k, K k → k < w2.heap.size) (hw : w.heap.size ≤ w2.heap.size) : OwnFrom w2.heap.size (TI p k Bo Bc K w w2) :=
  OwnFrom.and (OwnFrom.and (Own.from (holdsRow_own w2.heap.size Bo 22 36 4 (fun pre : List (Ent × Int) => pre.length) (fun pre => entCells (pre.map (·.1))) (fun _ _ => True)) _) (Own.from (boxed_own Bc 28 (fun pre : List (Ent × Int) => .int .i64 (tcur p pre))) _))
    (OwnFrom.and (fun _ _ _ _ hs _ _ => hs) (OwnFrom.and (ownFrom_kept hK) (ownFrom_below (Nat.le_refl _) hw)))

/-- An append, shut up for the walk. -/
def AppG (F : Fence) (n : Nat) (P : Program) (o : Oper) (a : Act) (w : World) (K : Act → World → Prop) (Q : Exit → Act → World → Prop) : Prop := o.wpIn F n P a w K Q
def WpO (F : Fence) (n : Nat) (P : Program) (o : Oper) (a : Act) (w : World) (K : Act → World → Prop) (Q : Exit → Act → World → Prop) : Prop := o.wpIn F n P a w K Q
theorem wpO_in (F : Fence) (n : Nat) (P : Program) (o : Oper) (a : Act) (w : World) (K : Act → World → Prop) (Q : Exit → Act → World → Prop) : Oper.wpIn F n P o a w K Q = WpO F n P o a w K Q := rfl
theorem wpO_out (F : Fence) (n : Nat) (P : Program) (o : Oper) (a : Act) (w : World) (K : Act → World → Prop) (Q : Exit → Act → World → Prop) :
    WpO F n P o a w K Q = ((∀ f, o.about P w a.eval = some f → F.fn f) ∧ o.uponIn F n P a K Q ((o.semAt F.round a.eval).run P w)) := rfl
theorem appG_eq (F : Fence) (n : Nat) (P : Program) (dst : Option Tmp) (s x : Operand) (t u ty : TypeId) (pos : String) (gd) (af) (a : Act) (w : World) (K : Act → World → Prop) (Q : Exit → Act → World → Prop) :
    WpO F n P ⟨dst, Op.call { callee := Callee.builtin Builtin.append, args := #[s, x], argTypes := #[t, u] }, ty, pos, gd, af⟩ a w K Q = AppG F n P ⟨dst, Op.call { callee := Callee.builtin Builtin.append, args := #[s, x], argTypes := #[t, u] }, ty, pos, gd, af⟩ a w K Q := rfl
theorem appG_step {F : Fence} {n : Nat} {P : Program} (w : World) {o : Oper} {a : Act} {K : Act → World → Prop} {Q : Exit → Act → World → Prop}
    (s x : Operand) (t : TypeId) (hop : o.op = Op.call { callee := Callee.builtin Builtin.append, args := #[s, x], argTypes := #[t, t] })
    (base : Nat) (e : TypeId) (i : TypeInfo) (z : Value) (size bytes : Nat) (h1 : P.underlying t = some (.slice e)) (h2 : P.info? e = some i) (h3 : i.zero = some z) (h4 : i.size = size) (h5 : i.bytes = bytes) (h6 : z.cells.size = size) (h7 : 0 < size)
    (v : Value) (k : Nat) (xs : List Value) (hs : a.eval s = v) (hown : w.ownsRow base e size v k xs) (ad : Addr) (m c : Nat) (news : List Value) (hx : a.eval x = .slice (some ad) m c) (hn : news.length = m * size)
    (hc : ∀ j u, news[j]? = some u → w.cell? (ad.add j) = some u) (h1c : ∀ u ∈ news, u.oneCell' = true) (hm : 0 < m) (b1 : k + m ≤ maxLen) (b2 : (k + m) * bytes ≤ 140737488355328) (b3 : base ≤ w.heap.size)
    (hK : ∀ g cap w', w'.ownsRow base e size (.slice (some ⟨g, 0, none⟩) (k + m) cap) (k + m) (xs ++ news) → w.grownBy w' v.ownBlock → K (a.put o.dst (.slice (some ⟨g, 0, none⟩) (k + m) cap)) w') :
    AppG F n P o a w K Q := by
  obtain ⟨g, cap, w', hrun, r1, r2, -, -⟩ := run_append_lies (P := P) w t o.type base e i z size bytes h1 h2 h3 h4 h5 h6 h7 v k xs hown ad m c news hn hc h1c hm b1 b2 b3 w.heap.size rfl
  unfold AppG Oper.wpIn
  refine ⟨?_, ?_⟩
  · simp [Oper.about, hop, resolve, Target.leads, Sem.run_pure]
  · rw [Oper.semAt_plain F _ _ (by rw [hop]; intro c hc'; cases hc')]
    simp [execOp, hop, resolve, invoke, builtin, hs, hx, hrun, Result.andThen]
    exact hK _ _ _ r1 r2
attribute [local go_sem ↓] wpO_in
attribute [local go_sem] wpO_out
attribute [local go_sem high] appG_eq

/-- From one world to the next of a round: whatever is no cells, what K names, and what lay below n₀, lie as they lay. -/
structure Step (K : Nat → Prop) (n₀ : Nat) (A B : World) : Prop where
  keeps : KeepsOthers A B
  kept : Kept K A B
  below : Below n₀ A B
theorem Step.refl (K : Nat → Prop) (n₀ : Nat) (A : World) : Step K n₀ A A := ⟨KeepsOthers.refl _, Kept.refl _ _, Below.refl _ _⟩
theorem Step.drew {K : Nat → Prop} {n₀ : Nat} {A B : World} (h : Step K n₀ A B) : Step K n₀ A B.drew := ⟨h.keeps.trans (KeepsOthers.drew _), h.kept.drew, h.below.drew⟩
theorem Step.set {K : Nat → Prop} {n₀ : Nat} {A B : World} (h : Step K n₀ A B) {p : Addr} (hp : ¬ K p.block) (hn : n₀ ≤ p.block) (u : Value) : Step K n₀ A (B.setCell p u) :=
  ⟨h.keeps.trans (KeepsOthers.setCell _ _ _), h.kept.setCell hp u, h.below.setCell hn u⟩
theorem Step.new {K : Nat → Prop} {n₀ m : Nat} {A B : World} (h : Step K n₀ A B) (hK : ∀ k, K k → k < m) (hm : m ≤ A.heap.size) (hn : n₀ ≤ A.heap.size) (o : Obj) : Step K n₀ A (B.alloc o) :=
  ⟨h.keeps.trans (KeepsOthers.alloc _ _), h.kept.alloc hK (Nat.le_trans hm h.kept.1) o, h.below.alloc (Nat.le_trans hn h.below.size) o⟩
theorem Step.app {K : Nat → Prop} {n₀ m : Nat} {A B C : World} (h : Step K n₀ A B) (hK : ∀ k, K k → k < m) (hm : m ≤ A.heap.size) (hn : n₀ ≤ m) {e : TypeId} {size : Nat} {v : Value} {k : Nat} {xs : List Value} (hr : B.ownsRow m e size v k xs) (hg : B.grownBy C v.ownBlock) : Step K n₀ A C := by
  have hm' := Nat.le_trans hm h.kept.1
  refine ⟨h.keeps.trans (KeepsOthers.of_grownBy hg fun j o ej hj => ?_), h.kept.trans ⟨hg.size, fun q hq => hg.block q (by have := hK q hq; omega) (fun e' => ?_)⟩, h.below.grown hg (by omega) fun q eq => Nat.le_trans hn (own_block hr q eq)⟩
  · rcases hr.2 with ⟨rfl, _⟩ | ⟨g, cap, cur, rfl, _, hgb, _⟩
    · simp [Value.ownBlock] at ej
    · obtain rfl : g = j := by simpa [Value.ownBlock] using ej
      rw [hgb] at hj; cases hj; rfl
  · have h1 := own_block hr q e'.symm
    have h2 := hK q hq
    omega
theorem bxD {W : World} {B : Nat} {t : TypeId} {v : Value} (h : Boxed W B t v) : Boxed W.drew B t v := h
theorem owD {w : World} {base : Nat} {e : TypeId} {size : Nat} {v : Value} {n : Nat} {xs : List Value} (h : w.ownsRow base e size v n xs) : w.drew.ownsRow base e size v n xs := h

theorem TI.snoc {p k Bo Bc : Nat} {K : Nat → Prop} {w w2 W Wf : World} {pre : List (Ent × Int)} {x : Ent × Int} {v' : Value} (hO : Boxed Wf Bo 22 v')
    (hown : Wf.ownsRow w2.heap.size 36 4 v' (pre.length + 1) (entCells (pre.map (·.1)) ++ [.string x.1.key, .string x.1.val, .bool x.1.dead, .int .i64 x.1.seq])) (hC : Boxed Wf Bc 28 (.int .i64 x.2))
    (hlen : pre.length + 1 ≤ k) (hK : Kept K w2 W) (hB : Below w.heap.size w W) (hS : Step K w.heap.size W Wf) : KeepsFrom w2.heap.size W Wf ∧ Kept K W Wf ∧ TI p k Bo Bc K w w2 (pre ++ [x]) Wf :=
  ⟨hS.keeps.from _, hS.kept, ⟨⟨v', hO, by rw [List.map_append, List.length_append, List.map_singleton, entCells_snoc]; exact hown, trivial⟩, by rw [tcur_snoc]; exact hC⟩, by simp; omega, hK.trans hS.kept, hB.trans hS.below⟩
section
variable {p k Bo Bc : Nat} {K : Nat → Prop} {w w2 W wa : World} {pre : List (Ent × Int)} {x : Ent × Int} {v v' : Value} (hv1 : Boxed wa Bo 22 v)
  (hown : wa.ownsRow w2.heap.size 36 4 v' (pre.length + 1) (entCells (pre.map (·.1)) ++ [.string x.1.key, .string x.1.val, .bool x.1.dead, .int .i64 x.1.seq]))
  (hlen : pre.length + 1 ≤ k) (hK : Kept K w2 W) (hB : Below w.heap.size w W) (hS : Step K w.heap.size W wa) (n1 : Bo ≠ Bc) (n2 : ¬ K Bo) (n4 : w.heap.size ≤ Bo) (n6 : Bo < w2.heap.size)
include hv1 hown hlen hK hB hS n1 n2 n4 n6
theorem fin3 (hc1 : Boxed wa Bc 28 (.int .i64 x.2)) :
    KeepsFrom w2.heap.size W (wa.setCell ⟨Bo, 0, none⟩ v') ∧ Kept K W (wa.setCell ⟨Bo, 0, none⟩ v') ∧ TI p k Bo Bc K w w2 (pre ++ [x]) (wa.setCell ⟨Bo, 0, none⟩ v') :=
  TI.snoc (Boxed.set v' hv1) (own_set hown ⟨Bo, 0, none⟩ n6 _) (Boxed.other hc1 n1.symm _) hlen hK hB (hS.set (p := ⟨Bo, 0, none⟩) n2 n4 _)
variable (n3 : ¬ K Bc) (n5 : w.heap.size ≤ Bc) (n7 : Bc < w2.heap.size)
include n3 n5 n7
theorem fin1 {u : Value} (hc1 : Boxed wa Bc 28 u) :
    KeepsFrom w2.heap.size W ((wa.setCell ⟨Bo, 0, none⟩ v').setCell ⟨Bc, 0, none⟩ (.int .i64 x.2)) ∧ Kept K W ((wa.setCell ⟨Bo, 0, none⟩ v').setCell ⟨Bc, 0, none⟩ (.int .i64 x.2)) ∧ TI p k Bo Bc K w w2 (pre ++ [x]) ((wa.setCell ⟨Bo, 0, none⟩ v').setCell ⟨Bc, 0, none⟩ (.int .i64 x.2)) :=
  TI.snoc (Boxed.other (Boxed.set v' hv1) n1 _) (own_set (own_set hown ⟨Bo, 0, none⟩ n6 _) ⟨Bc, 0, none⟩ n7 _) (Boxed.set _ (Boxed.other hc1 n1.symm _)) hlen hK hB ((hS.set (p := ⟨Bo, 0, none⟩) n2 n4 _).set (p := ⟨Bc, 0, none⟩) n3 n5 _)
theorem fin2 {u : Value} (hc1 : Boxed wa Bc 28 u) :
    KeepsFrom w2.heap.size W ((wa.setCell ⟨Bc, 0, none⟩ (.int .i64 x.2)).setCell ⟨Bo, 0, none⟩ v') ∧ Kept K W ((wa.setCell ⟨Bc, 0, none⟩ (.int .i64 x.2)).setCell ⟨Bo, 0, none⟩ v') ∧ TI p k Bo Bc K w w2 (pre ++ [x]) ((wa.setCell ⟨Bc, 0, none⟩ (.int .i64 x.2)).setCell ⟨Bo, 0, none⟩ v') :=
  TI.snoc (Boxed.set v' (Boxed.other hv1 n1 _)) (own_set (own_set hown ⟨Bc, 0, none⟩ n7 _) ⟨Bo, 0, none⟩ n6 _) (Boxed.other (Boxed.set _ hc1) n1.symm _) hlen hK hB ((hS.set (p := ⟨Bc, 0, none⟩) n3 n5 _).set (p := ⟨Bo, 0, none⟩) n2 n4 _)
end

/-- Where Take has left by its break. -/
def TX (p k Bo Bc : Nat) (K : Nat → Prop) (w w2 : World) (c : Code) (pre : List (Ent × Int)) (W : World) : Prop :=
  c = Code.exit 0 ∧ ∃ pre' x, pre = pre' ++ [x] ∧ pre'.length = k ∧ TI p k Bo Bc K w w2 pre' W
theorem TX.own (p k Bo Bc : Nat) (K : Nat → Prop) (w w2 : World) (hK : ∀ k, K k → k < w2.heap.size) (hw : w.heap.size ≤ w2.heap.size) (c : Code) : OwnFrom w2.heap.size (TX p k Bo Bc K w w2 c) :=
  fun s A B row hs hg hr => by
    obtain ⟨hc, pre', x, h1, h2, h3⟩ := hs
    exact ⟨hc, pre', x, h1, h2, TI.own p k Bo Bc K w w2 hK hw pre' A B row h3 hg hr⟩

theorem upto_break {α : Type} {f : Nat → α} {k k' : Nat} {pre : List α} {x : α} (h : upto f k' = pre ++ [x]) (hf : pre.length = k) : upto f k = pre ∧ k' = k + 1 := by
  have hl : k' = k + 1 := by have := congrArg List.length h; rw [upto_length] at this; simp at this; omega
  subst hl
  rw [upto_succ] at h
  exact ⟨(List.append_inj' h rfl).1, rfl⟩
theorem wf_mem {l : List Ent} {p j : Nat} {back : Bool} (hp : p ≤ l.length) (hj : j ≤ wN l p back) {y : Ent} (hy : y ∈ (upto (wf l p back) j).map (·.1)) : y ∈ l := by
  simp only [upto, List.map_map, List.mem_map, List.mem_range, Function.comp] at hy
  obtain ⟨i, hi, rfl⟩ := hy
  cases back <;> simp [wf, wN] at hj ⊢
  · rw [List.getElem?_eq_getElem (by omega)]; exact List.getElem_mem _
  · rw [List.getElem?_eq_getElem (by omega)]; exact List.getElem_mem _

set_option maxHeartbeats 8000000 in
theorem walkTake0 (a : Option Addr) (c : Nat) (r : Rn) (p k : Nat) (w : World) (h : ROk w a c r) (h0 : wchk r p = 0) (hl : r.es.length ≤ 5000) (hp : p ≤ r.es.length) (hk : k ≤ 5000) :
    CallsIn Fence.wide 4 Try.prog 14 #[r.v a c, cur p, .int .i64 k] w (RM w (fun w' v => ∃ a' c', v = .tuple #[.slice a' (tk r.es p false k).length c', cur (tcur p (tk r.es p false k)), .int .i64 0] ∧ Ents w' a' ((tk r.es p false k).map (·.1)) ∧ (tk r.es p false k).length ≤ c' ∧ c' ≤ maxLen)) := by
  refine callsIn_of_wp_marks Try.func14 rfl trivial ?_ rfl
  simp only [Try.ntmps14, List.size_toArray, List.length_cons, List.length_nil, Nat.reduceAdd, Nat.reduceSub, Array.replicate_succ, Array.replicate_zero, List.push_toArray, List.append_toArray, List.nil_append, List.cons_append]
  have hC := fun w h => walkCheck a c r (p : Int) w h
  rw [h0] at hC
  have hWW := fun w => walkWalk0 a c r.es p w
  obtain ⟨i0, hi0, hz0, hz1, hz2⟩ := info_parts inf_ent
  obtain ⟨id, l⟩ := r
  have HO := Lib.hid h
  unfold Rn.v
  simp only at *
  have HC := Lib.hid hC
  have HWW := Lib.hid hWW
  clear hC h hWW h0
  have hn1 : 1 ≤ 4 := by omega
  have hk1 : decide (((k : Int) : Int) < -5000) = false := by simp <;> omega
  have hk2 : decide ((5000 : Int) < ((k : Int) : Int)) = false := by simp <;> omega
  have hk4 : decide ((5000 : Int) < (k : Int)) = false := by simp <;> omega
  have hk3 : decide (((k : Int) : Int) < 0) = false := by simp <;> omega
  have hmix : Try.prog.follows .mixedOrders = true := by kernel_rfl
  gi_wp2
  refine ⟨trivial, ?_⟩
  refine (callsIn_wide.2 (HC.out _ (HO.out.bl (by repeat (first | assumption | exact Bl.refl _ | apply Bl.drewN | apply Bl.drew | apply Bl.alloc | (refine Bl.dr ?_ (by assumption)) | (refine Bl.trans ?_ (by assumption))))))).mono ?_; rintro e w1 ⟨rfl, hb1⟩
  have c1 : w1.cell? ⟨w.heap.size, 1, none⟩ = some (.slice a l.length c) := hb1.cell (by simp [go_sem])
  have d0 : Boxed w1 (w.heap.size + 1) 28 (.int .i64 p) := bxL (Boxed.alloc (Boxed.alloc (bxN (by simp)) _) _) hb1
  have n0 : Boxed w1 (w.heap.size + 1 + 1) 3 (.int .i64 ((k : Int))) := bxL (Boxed.alloc (bxN (by simp)) _) hb1
  have s0 : Boxed w1 (w.heap.size + 1 + 1 + 1) 28 (.int .i64 0) := bxL (bxN (by simp)) hb1
  have hb : Bl w w1 := (by repeat (first | assumption | exact Bl.refl _ | apply Bl.drewN | apply Bl.drew | apply Bl.alloc | (refine Bl.dr ?_ (by assumption)) | (refine Bl.trans ?_ (by assumption))))
  have hO1 : ROk w1 a c ⟨id, l⟩ := HO.out.bl hb
  have hsz : w.heap.size + 1 + 1 + 1 < w1.heap.size := by have := hb1.size; simp at this; omega
  clear hb1
  skip
  have c1a : (w1.alloc (.cells #[.slice none 0 0] 22)).cell? ⟨w.heap.size, 1, none⟩ = some (.slice a l.length c) := ((Bl.refl w1).alloc _).cell c1
  have d0a : (w1.alloc (.cells #[.slice none 0 0] 22)).cell? ⟨w.heap.size + 1, 0, none⟩ = some (.int .i64 p) := ((Bl.refl w1).alloc _).cell d0.cell
  have d0c := d0.cell
  have n0c := n0.cell
  have n0f := n0.frozen
  have s0c := s0.cell
  gi_wp2
  refine ⟨trivial, ?_⟩
  refine (callsIn_wide.2 (HWW.out _)).mono ?_; rintro e w2 ⟨v, rfl, ⟨Bw, Bd, Bs, rfl, hw, hd, hs, HB⟩, hb2⟩
  have o2 : Boxed w2 w1.heap.size 22 (.slice none 0 0) := bxL (Boxed.new _ _ _) hb2
  have d2 : Boxed w2 (w.heap.size + 1) 28 (.int .i64 p) := bxL (Boxed.alloc d0 _) hb2
  have n2 : Boxed w2 (w.heap.size + 1 + 1) 3 (.int .i64 k) := bxL (Boxed.alloc n0 _) hb2
  have s2 : Boxed w2 (w.heap.size + 1 + 1 + 1) 28 (.int .i64 0) := bxL (Boxed.alloc s0 _) hb2
  have hO2 : ROk w2 a c ⟨id, l⟩ := (hO1.bl ((Bl.refl _).alloc _)).bl hb2
  have hbw : Bl w w2 := (hb.alloc _).trans hb2
  have hsz2 : w1.heap.size < w2.heap.size := o2.lt
  clear hb2 hb hO1 c1 d0 n0 s0 d0c n0c n0f s0c c1a d0a
  gi_wp2
  have hKK : ∀ q, (q < w2.heap.size ∧ q ≠ w1.heap.size ∧ q ≠ w.heap.size + 1) → q < w2.heap.size := fun _ h => h.1
  refine wpIn_rangeFunc_ownH rfl hn1 (gf := 52) (lb := #[.pointer (some ⟨Bw, 0, none⟩), .pointer (some ⟨Bd, 0, none⟩), .pointer (some ⟨Bs, 0, none⟩)]) rfl trivial (enters_of Try.func52 (by kernel_rfl) rfl)
    (walkStops 3 (by omega) Bw Bd Bs w2.heap.size (fun q => q < w2.heap.size ∧ q ≠ w1.heap.size ∧ q ≠ w.heap.size + 1) hKK a c l p false w2 (Nat.le_refl _)
      (fun b off e hne => by subst e; have := ents_lt HO.out.ents hne; exact ⟨by omega, by omega, by omega⟩) ⟨hw.2, by have := hw.1; simp at this; omega, by have := hw.1; simp at this; omega⟩ ⟨hd.2, by have := hd.1; simp at this; omega, by have := hd.1; simp at this; omega⟩ ⟨hs.2, by have := hs.1; simp at this; omega, by have := hs.1; simp at this; omega⟩ hl hp HB hO2.ents) (fun h k => Kept.trans h k)
    (fun W y o o' hy h _ _ => Kept.putObj hKK W y o o' hy h) (Below.refl _ _) (fun _ => rfl)
    (TI p k w1.heap.size (w.heap.size + 1) _ w w2) (TX p k w1.heap.size (w.heap.size + 1) _ w w2) (TI.own _ _ _ _ _ _ _ hKK hbw.size) (TX.own _ _ _ _ _ _ _ hKK hbw.size)
    ⟨⟨⟨_, o2, by simpa [entCells] using own_nil _ _ _ _, trivial⟩, d2⟩, by simp, Kept.refl _ _, hbw⟩
    (fun x a' W => ∃ Bx By, (w2.heap.size ≤ Bx ∧ w2.heap.size ≤ By) ∧ W.cell? ⟨Bx, 0, none⟩ = some (.string x.1.key) ∧ W.cell? ⟨Bx, 1, none⟩ = some (.string x.1.val) ∧ W.cell? ⟨Bx, 2, none⟩ = some (.bool x.1.dead) ∧ W.cell? ⟨Bx, 3, none⟩ = some (.int .i64 x.1.seq) ∧ Boxed W By 28 (.int .i64 x.2) ∧
      a' = { tmps := #[.agg #[.int .i64 id, .slice a l.length c], cur p, .int .i64 ((k : Int)), .pointer (some ⟨w.heap.size, 0, none⟩), .pointer (some ⟨w.heap.size + 1, 0, none⟩), .pointer (some ⟨w.heap.size + 1 + 1, 0, none⟩), .slice none 0 0, .pointer (some ⟨w.heap.size + 1 + 1 + 1, 0, none⟩), .int .i64 0, .int .i64 0, .int .i64 0, .pointer (some ⟨w1.heap.size, 0, none⟩), .pointer (some ⟨Bx, 0, none⟩), .pointer (some ⟨By, 0, none⟩), .agg #[.int .i64 id, .slice a l.length c], .agg #[.int .i64 p], .int .i64 0, .int .i64 0, .bool false, undef, undef, .int .i64 ((k : Int)), .bool false, .bool false, .int .i64 ((k : Int)), .bool false, .bool false, undef, .int .i64 ((k : Int)), .bool false, undef, undef, .pointer (some ⟨w.heap.size, 1, none⟩), .slice a l.length c, .agg #[.int .i64 p], .int .i64 0, .func (.func 52) #[] #[.pointer (some ⟨Bw, 0, none⟩), .pointer (some ⟨Bd, 0, none⟩), .pointer (some ⟨Bs, 0, none⟩)], .agg #[.string x.1.key, .string x.1.val, .bool x.1.dead, .int .i64 x.1.seq], .agg #[.int .i64 x.2], undef, undef, undef, undef, undef, undef, undef, undef, undef, undef, undef], defers := [] })
    (fun x a' => Own.from (fun s A B row hs hg hr => by
      obtain ⟨Bx, By, hB, e0, e1, e2, e3, e4, rfl⟩ := hs
      exact ⟨Bx, By, hB, cell_kept e0 hg hr, cell_kept e1 hg hr, cell_kept e2 hg hr, cell_kept e3 hg hr, boxed_own By 28 (fun _ : Unit => .int .i64 x.2) () A B row e4 hg hr, rfl⟩) _) ?assign ?body ?done ?stop
  case assign =>
    rintro y pre x W K hi hK
    simp only [yv, Ent.v, cur]
    have hsz3 : w2.heap.size ≤ W.heap.size := hi.2.2.1.1
    gi_wp2
    exact hK _ _ (((KeepsOthers.alloc _ _).trans (KeepsOthers.alloc _ _)).from _) (((Kept.refl _ W).alloc hKK hsz3 _).alloc hKK (by simp; omega) _) ((TI.own _ _ _ _ _ _ _ hKK hbw.size).alloc _ ((TI.own _ _ _ _ _ _ _ hKK hbw.size).alloc _ hi))
      ⟨W.heap.size, W.heap.size + 1, ⟨hsz3, by omega⟩, by simp [go_sem], by simp [go_sem], by simp [go_sem], by simp [go_sem], bxN (by simp), rfl⟩
  case body =>
    rintro y pre x a' W hl' ⟨r, hr⟩ ⟨⟨⟨v, hv, hrow, -⟩, hcur⟩, hlen, hK', hB⟩ ⟨Bx, By, hBs, e0, e1, e2, e3, e4, rfl⟩ hlt
    obtain ⟨oa, oc, rfl, -⟩ := own_form hrow
    have vc := hv.cell
    have vf := hv.frozen
    have hcc := hcur.cell
    have hcf := hcur.frozen
    have nc : W.cell? ⟨w.heap.size + 1 + 1, 0, none⟩ = some (.int .i64 k) := (hK'.cell (p := ⟨w.heap.size + 1 + 1, 0, none⟩) ⟨by simp; omega, by simp; omega, by simp⟩).trans n2.cell
    have hsW : w2.heap.size ≤ W.heap.size := hK'.1
    have hne1 : (w.heap.size + 1 = w1.heap.size) = False := by simp; omega
    have hne2 : (w1.heap.size = w.heap.size + 1) = False := by simp; omega
    have e4c := e4.cell
    have hwW : w.heap.size ≤ W.heap.size := hB.size
    have hnK : ¬ (w.heap.size + 1 < w2.heap.size ∧ w.heap.size + 1 ≠ w1.heap.size ∧ w.heap.size + 1 ≠ w.heap.size + 1) := fun h => h.2.2 rfl
    have hnO : ¬ (w1.heap.size < w2.heap.size ∧ w1.heap.size ≠ w1.heap.size ∧ w1.heap.size ≠ w.heap.size + 1) := fun h => h.2.1 rfl
    have hne3 : (Bx = w.heap.size + 1) = False := by simp; omega
    have hne4 : (By = w.heap.size + 1) = False := by simp; omega
    have hne5 : (w.heap.size + 1 = Bx) = False := by simp; omega
    have hne6 : (w.heap.size + 1 = By) = False := by simp; omega
    have q1 := (Boxed.alloc e4 (Obj.cells #[.string x.1.key, .string x.1.val, .bool x.1.dead, .int .i64 x.1.seq] 36)).cell
    have q2 := (Boxed.alloc hv (Obj.cells #[.string x.1.key, .string x.1.val, .bool x.1.dead, .int .i64 x.1.seq] 36)).cell
    have q3 := (Boxed.alloc hcur (Obj.cells #[.string x.1.key, .string x.1.val, .bool x.1.dead, .int .i64 x.1.seq] 36)).cell
    have q4 := (Boxed.alloc hcur (Obj.cells #[.string x.1.key, .string x.1.val, .bool x.1.dead, .int .i64 x.1.seq] 36)).frozen
    have q5 := (Boxed.alloc (Boxed.other hv (B' := w.heap.size + 1) (by omega) (.int .i64 x.2)) (Obj.cells #[.string x.1.key, .string x.1.val, .bool x.1.dead, .int .i64 x.1.seq] 36)).cell
    have q6 := (Boxed.other (Boxed.alloc hv (Obj.cells #[.string x.1.key, .string x.1.val, .bool x.1.dead, .int .i64 x.1.seq] 36)) (B' := w.heap.size + 1) (by omega) (.int .i64 x.2)).cell
    by_cases hf : pre.length = k
    · have hf1 : ((pre.length : Int) = (k : Int)) = True := by simp; omega
      gi_wp2
      exact ⟨KeepsFrom.refl _ _, rfl, pre, x, rfl, hf, ⟨⟨_, hv, hrow, trivial⟩, hcur⟩, hlen, hK', hB⟩
    · have hf1 : ((pre.length : Int) = (k : Int)) = False := by simp; omega
      gi_wp2
      gi_region_with_o ((refine appG_step _ _ _ _ (by rfl) w2.heap.size 36 i0 _ 4 48 Try.underlying22 hi0 hz0 hz1 hz2 rfl (by omega) _ pre.length (entCells (pre.map (·.1))) (by rfl) (by first | exact owD (hrow.alloc _) | exact owD (own_set (hrow.alloc _) _ (by simp; omega) _) | exact owD ((own_set hrow _ (by simp; omega) _).alloc _)) ⟨W.heap.size, 0, none⟩ 1 1 [.string x.1.key, .string x.1.val, .bool x.1.dead, .int .i64 x.1.seq] (by rfl) (by rfl) (by first | exact World.news_of_block (cs := #[.string x.1.key, .string x.1.val, .bool x.1.dead, .int .i64 x.1.seq]) (t := 36) (fr := (0, 0)) (heap_alloc_new W _) | exact World.news_of_block (cs := #[.string x.1.key, .string x.1.val, .bool x.1.dead, .int .i64 x.1.seq]) (t := 36) (fr := (0, 0)) ((Below.heap_setCell _ _ _ _ (by simp; omega)).trans (heap_alloc_new W _)) | exact World.news_of_block (cs := #[.string x.1.key, .string x.1.val, .bool x.1.dead, .int .i64 x.1.seq]) (t := 36) (fr := (0, 0)) (by have := heap_alloc_new (W.setCell ⟨w.heap.size + 1, 0, none⟩ (.int .i64 x.2)) (Obj.cells #[.string x.1.key, .string x.1.val, .bool x.1.dead, .int .i64 x.1.seq] 36); simpa using this)) (by simp [Value.oneCell']) (by omega) (by unfold maxLen; omega) (by omega) (by simp; omega) ?_; intro gg cap wa hown' hgrow; have hv1 : Boxed wa w1.heap.size 22 (.slice oa pre.length oc) := Boxed.kept (by first | exact bxD (Boxed.alloc hv _) | exact bxD (Boxed.other (Boxed.alloc hv _) (by omega) _) | exact bxD (Boxed.alloc (Boxed.other hv (by omega) _) _)) hgrow (Boxed.not_row hv (by decide) hrow); have hy1 : Boxed wa By 28 (.int .i64 x.2) := Boxed.kept (by first | exact bxD (Boxed.alloc e4 _) | exact bxD (Boxed.other (Boxed.alloc e4 _) (by omega) _) | exact bxD (Boxed.alloc (Boxed.other e4 (by omega) _) _)) hgrow (Boxed.not_row e4 (by decide) hrow); (first | (have hc1 : Boxed wa (w.heap.size + 1) 28 (.int .i64 (tcur p pre)) := Boxed.kept (by first | exact bxD (Boxed.alloc hcur _) | exact bxD (Boxed.other (Boxed.alloc hcur _) (by omega) _) | exact bxD (Boxed.alloc (Boxed.other hcur (by omega) _) _)) hgrow (Boxed.not_row hcur (by decide) hrow); have hc1c := hc1.cell; have hc1f := hc1.frozen) | (have hc1 : Boxed wa (w.heap.size + 1) 28 (.int .i64 x.2) := Boxed.kept (by first | exact bxD (Boxed.alloc (Boxed.set _ hcur) _) | exact bxD (Boxed.set _ (Boxed.alloc hcur _))) hgrow (Boxed.not_row hcur (by decide) hrow))); have hv1c := hv1.cell; have hv1f := hv1.frozen; have hy1c := hy1.cell; have hsa : Step (fun q => q < w2.heap.size ∧ q ≠ w1.heap.size ∧ q ≠ w.heap.size + 1) w.heap.size W wa := Step.app (m := w2.heap.size) (by first | exact ((Step.refl _ _ _).new hKK hsW hwW _).drew | exact (((Step.refl _ _ _).new hKK hsW hwW _).set (p := ⟨w.heap.size + 1, 0, none⟩) hnK (by simp) _).drew | exact (((Step.refl _ _ _).set (p := ⟨w.heap.size + 1, 0, none⟩) hnK (by simp) _).new hKK hsW hwW _).drew) hKK hsW hbw.size (by first | exact owD (hrow.alloc _) | exact owD (own_set (hrow.alloc _) _ (by simp; omega) _) | exact owD ((own_set hrow _ (by simp; omega) _).alloc _)) hgrow))
      all_goals refine (?_ : KeepsFrom w2.heap.size W _ ∧ Kept (fun q => q < w2.heap.size ∧ q ≠ w1.heap.size ∧ q ≠ w.heap.size + 1) W _ ∧ TI p k w1.heap.size (w.heap.size + 1) (fun q => q < w2.heap.size ∧ q ≠ w1.heap.size ∧ q ≠ w.heap.size + 1) w w2 (pre ++ [x]) _)
      all_goals first
        | with_reducible exact fin1 hv1 hown' (by omega) hK' hB hsa (by omega) hnO (by omega) hsz2 hnK (by omega) (by omega) hc1
        | with_reducible exact fin2 hv1 hown' (by omega) hK' hB hsa (by omega) hnO (by omega) hsz2 hnK (by omega) (by omega) hc1
        | with_reducible exact fin3 hv1 hown' (by omega) hK' hB hsa (by omega) hnO (by omega) hsz2 hc1
  case done =>
    rintro D ys W hD rfl ⟨⟨⟨v, hv, hrow, -⟩, hcur⟩, hlen, hK', hB⟩ hK
    have htk : tk l p false k = upto (wf l p false) (wN l p false) := by rw [upto_length] at hlen; unfold tk; rw [Nat.min_eq_right hlen]
    have hok : ∀ y, y ∈ (upto (wf l p false) (wN l p false)).map (·.1) → y.ok := fun y hy => hO2.ents.ok y (wf_mem hp (Nat.le_refl _) hy)
    generalize upto (wf l p false) (wN l p false) = ys at *
    have HT := Lib.hid htk
    clear htk
    obtain ⟨oa, oc, rfl, hle, hcap, -⟩ := own_form hrow
    have vc := hv.cell
    have hcc := hcur.cell
    have hs3 : Boxed W (w.heap.size + 1 + 1 + 1) 28 (.int .i64 0) := (hK'.2 _ ⟨by omega, by omega, by omega⟩).trans s2
    have sc := hs3.cell
    have sf := hs3.frozen
    gi_wp2
    gi_region
    gi_wp2
    have hKd := ((KeepsOthers.setCell W ⟨w.heap.size + 1 + 1 + 1, 0, none⟩ (.int .i64 (tcur p ys))).trans (KeepsOthers.drew _)).same D _ hK rfl
    refine ⟨by simp, .inl ⟨_, _, rfl, run_takeDeferred hKd, ?_⟩⟩
    have hfs : (W.setCell ⟨w.heap.size + 1 + 1 + 1, 0, none⟩ (.int .i64 (tcur p ys))).drew.cell? ⟨w.heap.size + 1 + 1 + 1, 0, none⟩ = some (.int .i64 (tcur p ys)) := (Boxed.set (.int .i64 (tcur p ys)) hs3).cell
    have hc5 := cell_kept hfs (grownBy_putObj' _ D (.deferred none)) (fun r e => by cases e; exact ⟨_, hKd, rfl⟩)
    have hrow3 := ownsRow_putObj (owD (own_set hrow ⟨w.heap.size + 1 + 1 + 1, 0, none⟩ (by simp; omega) (.int .i64 (tcur p ys)))) (.deferred none) hKd rfl
    obtain ⟨a1, c1, e1, hE, -, -⟩ := own_ents (l := ys.map (·.1)) (by simpa using hrow3) hok
    injection e1 with e1 e2 e3
    subst e1
    refine ⟨.tuple #[.slice oa ys.length oc, cur (tcur p ys), .int .i64 0], ?_, ⟨_, rfl, ⟨oa, oc, by rw [HT.out], by rw [HT.out]; exact hE, by rw [HT.out]; exact hle, hcap⟩, (hB.setCell (p := ⟨w.heap.size + 1 + 1 + 1, 0, none⟩) (by simp; omega) _).drew.trans (belowK_b (w := w) (Nat.le_refl _) _ D _ _ (Nat.le_trans hbw.size hD) hKd rfl rfl)⟩⟩
    simp [results, Try.f14, go_sem, hc5] <;> omega
  case stop =>
    rintro D c pre W hD ⟨k', hk', rfl⟩ ⟨rfl, pre', x, hpre, hf, ⟨⟨v, hv, hrow, -⟩, hcur⟩, hlen, hK', hB⟩ hK
    obtain ⟨hys, hkN⟩ := upto_break hpre hf
    have htk : tk l p false k = pre' := by unfold tk; rw [Nat.min_eq_left (by omega), hys]
    have hok : ∀ y, y ∈ pre'.map (·.1) → y.ok := fun y hy => hO2.ents.ok y (wf_mem (back := false) (j := k) hp (by omega) (by rw [hys]; exact hy))
    clear hpre hys
    generalize pre' = ys at *
    have HT := Lib.hid htk
    clear htk
    obtain ⟨oa, oc, rfl, hle, hcap, -⟩ := own_form hrow
    have vc := hv.cell
    have hcc := hcur.cell
    have hs3 : Boxed W (w.heap.size + 1 + 1 + 1) 28 (.int .i64 0) := (hK'.2 _ ⟨by omega, by omega, by omega⟩).trans s2
    have sc := hs3.cell
    have sf := hs3.frozen
    gi_wp2
    gi_region
    gi_wp2
    have hKd := ((KeepsOthers.setCell W ⟨w.heap.size + 1 + 1 + 1, 0, none⟩ (.int .i64 (tcur p ys))).trans (KeepsOthers.drew _)).same D _ hK rfl
    refine ⟨by simp, .inl ⟨_, _, rfl, run_takeDeferred hKd, ?_⟩⟩
    have hfs : (W.setCell ⟨w.heap.size + 1 + 1 + 1, 0, none⟩ (.int .i64 (tcur p ys))).drew.cell? ⟨w.heap.size + 1 + 1 + 1, 0, none⟩ = some (.int .i64 (tcur p ys)) := (Boxed.set (.int .i64 (tcur p ys)) hs3).cell
    have hc5 := cell_kept hfs (grownBy_putObj' _ D (.deferred none)) (fun r e => by cases e; exact ⟨_, hKd, rfl⟩)
    have hrow3 := ownsRow_putObj (owD (own_set hrow ⟨w.heap.size + 1 + 1 + 1, 0, none⟩ (by simp; omega) (.int .i64 (tcur p ys)))) (.deferred none) hKd rfl
    obtain ⟨a1, c1, e1, hE, -, -⟩ := own_ents (l := ys.map (·.1)) (by simpa using hrow3) hok
    injection e1 with e1 e2 e3
    subst e1
    refine ⟨.tuple #[.slice oa ys.length oc, cur (tcur p ys), .int .i64 0], ?_, ⟨_, rfl, ⟨oa, oc, by rw [HT.out], by rw [HT.out]; exact hE, by rw [HT.out]; exact hle, hcap⟩, (hB.setCell (p := ⟨w.heap.size + 1 + 1 + 1, 0, none⟩) (by simp; omega) _).drew.trans (belowK_b (w := w) (Nat.le_refl _) _ D _ _ (Nat.le_trans hbw.size hD) hKd rfl rfl)⟩⟩
    simp [results, Try.f14, go_sem, hc5] <;> omega
set_option maxHeartbeats 8000000 in
theorem walkTake1 (a : Option Addr) (c : Nat) (r : Rn) (p k : Nat) (w : World) (h : ROk w a c r) (h0 : wchk r p = 0) (hl : r.es.length ≤ 5000) (hp : p ≤ r.es.length) (hk : k ≤ 5000) (hk0 : 0 < k) :
    CallsIn Fence.wide 4 Try.prog 14 #[r.v a c, cur p, .int .i64 (-(k : Int))] w (RM w (fun w' v => ∃ a' c', v = .tuple #[.slice a' (tk r.es p true k).length c', cur (tcur p (tk r.es p true k)), .int .i64 0] ∧ Ents w' a' ((tk r.es p true k).map (·.1)) ∧ (tk r.es p true k).length ≤ c' ∧ c' ≤ maxLen)) := by
  refine callsIn_of_wp_marks Try.func14 rfl trivial ?_ rfl
  simp only [Try.ntmps14, List.size_toArray, List.length_cons, List.length_nil, Nat.reduceAdd, Nat.reduceSub, Array.replicate_succ, Array.replicate_zero, List.push_toArray, List.append_toArray, List.nil_append, List.cons_append]
  have hC := fun w h => walkCheck a c r (p : Int) w h
  rw [h0] at hC
  have hWW := fun w => walkWalk1 a c r.es p w
  obtain ⟨i0, hi0, hz0, hz1, hz2⟩ := info_parts inf_ent
  obtain ⟨id, l⟩ := r
  have HO := Lib.hid h
  unfold Rn.v
  simp only at *
  have HC := Lib.hid hC
  have HWW := Lib.hid hWW
  clear hC h hWW h0
  have hn1 : 1 ≤ 4 := by omega
  have hk1 : decide (((-(k : Int)) : Int) < -5000) = false := by simp <;> omega
  have hk2 : decide ((5000 : Int) < ((-(k : Int)) : Int)) = false := by simp <;> omega
  have hk4 : decide ((5000 : Int) < (k : Int)) = false := by simp <;> omega
  have hk3 : decide (((-(k : Int)) : Int) < 0) = true := by simp <;> omega
  have hmix : Try.prog.follows .mixedOrders = true := by kernel_rfl
  gi_wp2
  refine ⟨trivial, ?_⟩
  refine (callsIn_wide.2 (HC.out _ (HO.out.bl (by repeat (first | assumption | exact Bl.refl _ | apply Bl.drewN | apply Bl.drew | apply Bl.alloc | (refine Bl.dr ?_ (by assumption)) | (refine Bl.trans ?_ (by assumption))))))).mono ?_; rintro e w1 ⟨rfl, hb1⟩
  have c1 : w1.cell? ⟨w.heap.size, 1, none⟩ = some (.slice a l.length c) := hb1.cell (by simp [go_sem])
  have d0 : Boxed w1 (w.heap.size + 1) 28 (.int .i64 p) := bxL (Boxed.alloc (Boxed.alloc (bxN (by simp)) _) _) hb1
  have n0 : Boxed w1 (w.heap.size + 1 + 1) 3 (.int .i64 ((-(k : Int)))) := bxL (Boxed.alloc (bxN (by simp)) _) hb1
  have s0 : Boxed w1 (w.heap.size + 1 + 1 + 1) 28 (.int .i64 0) := bxL (bxN (by simp)) hb1
  have hb : Bl w w1 := (by repeat (first | assumption | exact Bl.refl _ | apply Bl.drewN | apply Bl.drew | apply Bl.alloc | (refine Bl.dr ?_ (by assumption)) | (refine Bl.trans ?_ (by assumption))))
  have hO1 : ROk w1 a c ⟨id, l⟩ := HO.out.bl hb
  have hsz : w.heap.size + 1 + 1 + 1 < w1.heap.size := by have := hb1.size; simp at this; omega
  clear hb1
  have n0c := n0.cell
  have n0f := n0.frozen
  gi_wp2
  gi_region
  obtain ⟨wn, hwn⟩ : ∃ wn, (w1.setCell ⟨w.heap.size + 1 + 1, 0, none⟩ (.int .i64 k)).drew = wn := ⟨_, rfl⟩
  rw [hwn]
  have c1 : wn.cell? ⟨w.heap.size, 1, none⟩ = some (.slice a l.length c) := by rw [← hwn]; simp [go_sem, c1]
  have d0 : Boxed wn (w.heap.size + 1) 28 (.int .i64 p) := hwn ▸ bxD (Boxed.other d0 (by omega) _)
  have n0 : Boxed wn (w.heap.size + 1 + 1) 3 (.int .i64 k) := hwn ▸ bxD (Boxed.set _ n0)
  have s0 : Boxed wn (w.heap.size + 1 + 1 + 1) 28 (.int .i64 0) := hwn ▸ bxD (Boxed.other s0 (by omega) _)
  have hb : Bl w wn := hwn ▸ (Below.setCell hb (p := ⟨w.heap.size + 1 + 1, 0, none⟩) (by simp; omega) _).drew
  have hO1 : ROk wn a c ⟨id, l⟩ := HO.out.bl hb
  have hsz : w.heap.size + 1 + 1 + 1 < wn.heap.size := by rw [← hwn]; simpa using hsz
  clear hwn n0c n0f
  obtain ⟨w1, rfl⟩ : ∃ w1, w1 = wn := ⟨_, rfl⟩
  have c1a : (w1.alloc (.cells #[.slice none 0 0] 22)).cell? ⟨w.heap.size, 1, none⟩ = some (.slice a l.length c) := ((Bl.refl w1).alloc _).cell c1
  have d0a : (w1.alloc (.cells #[.slice none 0 0] 22)).cell? ⟨w.heap.size + 1, 0, none⟩ = some (.int .i64 p) := ((Bl.refl w1).alloc _).cell d0.cell
  have d0c := d0.cell
  have n0c := n0.cell
  have n0f := n0.frozen
  have s0c := s0.cell
  gi_wp2
  refine ⟨trivial, ?_⟩
  refine (callsIn_wide.2 (HWW.out _)).mono ?_; rintro e w2 ⟨v, rfl, ⟨Bw, Bd, Bs, rfl, hw, hd, hs, HB⟩, hb2⟩
  have o2 : Boxed w2 w1.heap.size 22 (.slice none 0 0) := bxL (Boxed.new _ _ _) hb2
  have d2 : Boxed w2 (w.heap.size + 1) 28 (.int .i64 p) := bxL (Boxed.alloc d0 _) hb2
  have n2 : Boxed w2 (w.heap.size + 1 + 1) 3 (.int .i64 k) := bxL (Boxed.alloc n0 _) hb2
  have s2 : Boxed w2 (w.heap.size + 1 + 1 + 1) 28 (.int .i64 0) := bxL (Boxed.alloc s0 _) hb2
  have hO2 : ROk w2 a c ⟨id, l⟩ := (hO1.bl ((Bl.refl _).alloc _)).bl hb2
  have hbw : Bl w w2 := (hb.alloc _).trans hb2
  have hsz2 : w1.heap.size < w2.heap.size := o2.lt
  clear hb2 hb hO1 c1 d0 n0 s0 d0c n0c n0f s0c c1a d0a
  gi_wp2
  have hKK : ∀ q, (q < w2.heap.size ∧ q ≠ w1.heap.size ∧ q ≠ w.heap.size + 1) → q < w2.heap.size := fun _ h => h.1
  refine wpIn_rangeFunc_ownH rfl hn1 (gf := 52) (lb := #[.pointer (some ⟨Bw, 0, none⟩), .pointer (some ⟨Bd, 0, none⟩), .pointer (some ⟨Bs, 0, none⟩)]) rfl trivial (enters_of Try.func52 (by kernel_rfl) rfl)
    (walkStops 3 (by omega) Bw Bd Bs w2.heap.size (fun q => q < w2.heap.size ∧ q ≠ w1.heap.size ∧ q ≠ w.heap.size + 1) hKK a c l p true w2 (Nat.le_refl _)
      (fun b off e hne => by subst e; have := ents_lt HO.out.ents hne; exact ⟨by omega, by omega, by omega⟩) ⟨hw.2, by have := hw.1; simp at this; omega, by have := hw.1; simp at this; omega⟩ ⟨hd.2, by have := hd.1; simp at this; omega, by have := hd.1; simp at this; omega⟩ ⟨hs.2, by have := hs.1; simp at this; omega, by have := hs.1; simp at this; omega⟩ hl hp HB hO2.ents) (fun h k => Kept.trans h k)
    (fun W y o o' hy h _ _ => Kept.putObj hKK W y o o' hy h) (Below.refl _ _) (fun _ => rfl)
    (TI p k w1.heap.size (w.heap.size + 1) _ w w2) (TX p k w1.heap.size (w.heap.size + 1) _ w w2) (TI.own _ _ _ _ _ _ _ hKK hbw.size) (TX.own _ _ _ _ _ _ _ hKK hbw.size)
    ⟨⟨⟨_, o2, by simpa [entCells] using own_nil _ _ _ _, trivial⟩, d2⟩, by simp, Kept.refl _ _, hbw⟩
    (fun x a' W => ∃ Bx By, (w2.heap.size ≤ Bx ∧ w2.heap.size ≤ By) ∧ W.cell? ⟨Bx, 0, none⟩ = some (.string x.1.key) ∧ W.cell? ⟨Bx, 1, none⟩ = some (.string x.1.val) ∧ W.cell? ⟨Bx, 2, none⟩ = some (.bool x.1.dead) ∧ W.cell? ⟨Bx, 3, none⟩ = some (.int .i64 x.1.seq) ∧ Boxed W By 28 (.int .i64 x.2) ∧
      a' = { tmps := #[.agg #[.int .i64 id, .slice a l.length c], cur p, .int .i64 ((-(k : Int))), .pointer (some ⟨w.heap.size, 0, none⟩), .pointer (some ⟨w.heap.size + 1, 0, none⟩), .pointer (some ⟨w.heap.size + 1 + 1, 0, none⟩), .slice none 0 0, .pointer (some ⟨w.heap.size + 1 + 1 + 1, 0, none⟩), .int .i64 0, .int .i64 0, .int .i64 1, .pointer (some ⟨w1.heap.size, 0, none⟩), .pointer (some ⟨Bx, 0, none⟩), .pointer (some ⟨By, 0, none⟩), .agg #[.int .i64 id, .slice a l.length c], .agg #[.int .i64 p], .int .i64 0, .int .i64 0, .bool false, undef, undef, .int .i64 ((-(k : Int))), .bool false, .bool false, .int .i64 ((-(k : Int))), .bool false, .bool false, undef, .int .i64 ((-(k : Int))), .bool true, (.int .i64 (-(k : Int))), (.int .i64 (k : Int)), .pointer (some ⟨w.heap.size, 1, none⟩), .slice a l.length c, .agg #[.int .i64 p], .int .i64 1, .func (.func 52) #[] #[.pointer (some ⟨Bw, 0, none⟩), .pointer (some ⟨Bd, 0, none⟩), .pointer (some ⟨Bs, 0, none⟩)], .agg #[.string x.1.key, .string x.1.val, .bool x.1.dead, .int .i64 x.1.seq], .agg #[.int .i64 x.2], undef, undef, undef, undef, undef, undef, undef, undef, undef, undef, undef], defers := [] })
    (fun x a' => Own.from (fun s A B row hs hg hr => by
      obtain ⟨Bx, By, hB, e0, e1, e2, e3, e4, rfl⟩ := hs
      exact ⟨Bx, By, hB, cell_kept e0 hg hr, cell_kept e1 hg hr, cell_kept e2 hg hr, cell_kept e3 hg hr, boxed_own By 28 (fun _ : Unit => .int .i64 x.2) () A B row e4 hg hr, rfl⟩) _) ?assign ?body ?done ?stop
  case assign =>
    rintro y pre x W K hi hK
    simp only [yv, Ent.v, cur]
    have hsz3 : w2.heap.size ≤ W.heap.size := hi.2.2.1.1
    gi_wp2
    exact hK _ _ (((KeepsOthers.alloc _ _).trans (KeepsOthers.alloc _ _)).from _) (((Kept.refl _ W).alloc hKK hsz3 _).alloc hKK (by simp; omega) _) ((TI.own _ _ _ _ _ _ _ hKK hbw.size).alloc _ ((TI.own _ _ _ _ _ _ _ hKK hbw.size).alloc _ hi))
      ⟨W.heap.size, W.heap.size + 1, ⟨hsz3, by omega⟩, by simp [go_sem], by simp [go_sem], by simp [go_sem], by simp [go_sem], bxN (by simp), rfl⟩
  case body =>
    rintro y pre x a' W hl' ⟨r, hr⟩ ⟨⟨⟨v, hv, hrow, -⟩, hcur⟩, hlen, hK', hB⟩ ⟨Bx, By, hBs, e0, e1, e2, e3, e4, rfl⟩ hlt
    obtain ⟨oa, oc, rfl, -⟩ := own_form hrow
    have vc := hv.cell
    have vf := hv.frozen
    have hcc := hcur.cell
    have hcf := hcur.frozen
    have nc : W.cell? ⟨w.heap.size + 1 + 1, 0, none⟩ = some (.int .i64 k) := (hK'.cell (p := ⟨w.heap.size + 1 + 1, 0, none⟩) ⟨by simp; omega, by simp; omega, by simp⟩).trans n2.cell
    have hsW : w2.heap.size ≤ W.heap.size := hK'.1
    have hne1 : (w.heap.size + 1 = w1.heap.size) = False := by simp; omega
    have hne2 : (w1.heap.size = w.heap.size + 1) = False := by simp; omega
    have e4c := e4.cell
    have hwW : w.heap.size ≤ W.heap.size := hB.size
    have hnK : ¬ (w.heap.size + 1 < w2.heap.size ∧ w.heap.size + 1 ≠ w1.heap.size ∧ w.heap.size + 1 ≠ w.heap.size + 1) := fun h => h.2.2 rfl
    have hnO : ¬ (w1.heap.size < w2.heap.size ∧ w1.heap.size ≠ w1.heap.size ∧ w1.heap.size ≠ w.heap.size + 1) := fun h => h.2.1 rfl
    have hne3 : (Bx = w.heap.size + 1) = False := by simp; omega
    have hne4 : (By = w.heap.size + 1) = False := by simp; omega
    have hne5 : (w.heap.size + 1 = Bx) = False := by simp; omega
    have hne6 : (w.heap.size + 1 = By) = False := by simp; omega
    have q1 := (Boxed.alloc e4 (Obj.cells #[.string x.1.key, .string x.1.val, .bool x.1.dead, .int .i64 x.1.seq] 36)).cell
    have q2 := (Boxed.alloc hv (Obj.cells #[.string x.1.key, .string x.1.val, .bool x.1.dead, .int .i64 x.1.seq] 36)).cell
    have q3 := (Boxed.alloc hcur (Obj.cells #[.string x.1.key, .string x.1.val, .bool x.1.dead, .int .i64 x.1.seq] 36)).cell
    have q4 := (Boxed.alloc hcur (Obj.cells #[.string x.1.key, .string x.1.val, .bool x.1.dead, .int .i64 x.1.seq] 36)).frozen
    have q5 := (Boxed.alloc (Boxed.other hv (B' := w.heap.size + 1) (by omega) (.int .i64 x.2)) (Obj.cells #[.string x.1.key, .string x.1.val, .bool x.1.dead, .int .i64 x.1.seq] 36)).cell
    have q6 := (Boxed.other (Boxed.alloc hv (Obj.cells #[.string x.1.key, .string x.1.val, .bool x.1.dead, .int .i64 x.1.seq] 36)) (B' := w.heap.size + 1) (by omega) (.int .i64 x.2)).cell
    by_cases hf : pre.length = k
    · have hf1 : ((pre.length : Int) = (k : Int)) = True := by simp; omega
      gi_wp2
      exact ⟨KeepsFrom.refl _ _, rfl, pre, x, rfl, hf, ⟨⟨_, hv, hrow, trivial⟩, hcur⟩, hlen, hK', hB⟩
    · have hf1 : ((pre.length : Int) = (k : Int)) = False := by simp; omega
      gi_wp2
      gi_region_with_o ((refine appG_step _ _ _ _ (by rfl) w2.heap.size 36 i0 _ 4 48 Try.underlying22 hi0 hz0 hz1 hz2 rfl (by omega) _ pre.length (entCells (pre.map (·.1))) (by rfl) (by first | exact owD (hrow.alloc _) | exact owD (own_set (hrow.alloc _) _ (by simp; omega) _) | exact owD ((own_set hrow _ (by simp; omega) _).alloc _)) ⟨W.heap.size, 0, none⟩ 1 1 [.string x.1.key, .string x.1.val, .bool x.1.dead, .int .i64 x.1.seq] (by rfl) (by rfl) (by first | exact World.news_of_block (cs := #[.string x.1.key, .string x.1.val, .bool x.1.dead, .int .i64 x.1.seq]) (t := 36) (fr := (0, 0)) (heap_alloc_new W _) | exact World.news_of_block (cs := #[.string x.1.key, .string x.1.val, .bool x.1.dead, .int .i64 x.1.seq]) (t := 36) (fr := (0, 0)) ((Below.heap_setCell _ _ _ _ (by simp; omega)).trans (heap_alloc_new W _)) | exact World.news_of_block (cs := #[.string x.1.key, .string x.1.val, .bool x.1.dead, .int .i64 x.1.seq]) (t := 36) (fr := (0, 0)) (by have := heap_alloc_new (W.setCell ⟨w.heap.size + 1, 0, none⟩ (.int .i64 x.2)) (Obj.cells #[.string x.1.key, .string x.1.val, .bool x.1.dead, .int .i64 x.1.seq] 36); simpa using this)) (by simp [Value.oneCell']) (by omega) (by unfold maxLen; omega) (by omega) (by simp; omega) ?_; intro gg cap wa hown' hgrow; have hv1 : Boxed wa w1.heap.size 22 (.slice oa pre.length oc) := Boxed.kept (by first | exact bxD (Boxed.alloc hv _) | exact bxD (Boxed.other (Boxed.alloc hv _) (by omega) _) | exact bxD (Boxed.alloc (Boxed.other hv (by omega) _) _)) hgrow (Boxed.not_row hv (by decide) hrow); have hy1 : Boxed wa By 28 (.int .i64 x.2) := Boxed.kept (by first | exact bxD (Boxed.alloc e4 _) | exact bxD (Boxed.other (Boxed.alloc e4 _) (by omega) _) | exact bxD (Boxed.alloc (Boxed.other e4 (by omega) _) _)) hgrow (Boxed.not_row e4 (by decide) hrow); (first | (have hc1 : Boxed wa (w.heap.size + 1) 28 (.int .i64 (tcur p pre)) := Boxed.kept (by first | exact bxD (Boxed.alloc hcur _) | exact bxD (Boxed.other (Boxed.alloc hcur _) (by omega) _) | exact bxD (Boxed.alloc (Boxed.other hcur (by omega) _) _)) hgrow (Boxed.not_row hcur (by decide) hrow); have hc1c := hc1.cell; have hc1f := hc1.frozen) | (have hc1 : Boxed wa (w.heap.size + 1) 28 (.int .i64 x.2) := Boxed.kept (by first | exact bxD (Boxed.alloc (Boxed.set _ hcur) _) | exact bxD (Boxed.set _ (Boxed.alloc hcur _))) hgrow (Boxed.not_row hcur (by decide) hrow))); have hv1c := hv1.cell; have hv1f := hv1.frozen; have hy1c := hy1.cell; have hsa : Step (fun q => q < w2.heap.size ∧ q ≠ w1.heap.size ∧ q ≠ w.heap.size + 1) w.heap.size W wa := Step.app (m := w2.heap.size) (by first | exact ((Step.refl _ _ _).new hKK hsW hwW _).drew | exact (((Step.refl _ _ _).new hKK hsW hwW _).set (p := ⟨w.heap.size + 1, 0, none⟩) hnK (by simp) _).drew | exact (((Step.refl _ _ _).set (p := ⟨w.heap.size + 1, 0, none⟩) hnK (by simp) _).new hKK hsW hwW _).drew) hKK hsW hbw.size (by first | exact owD (hrow.alloc _) | exact owD (own_set (hrow.alloc _) _ (by simp; omega) _) | exact owD ((own_set hrow _ (by simp; omega) _).alloc _)) hgrow))
      all_goals refine (?_ : KeepsFrom w2.heap.size W _ ∧ Kept (fun q => q < w2.heap.size ∧ q ≠ w1.heap.size ∧ q ≠ w.heap.size + 1) W _ ∧ TI p k w1.heap.size (w.heap.size + 1) (fun q => q < w2.heap.size ∧ q ≠ w1.heap.size ∧ q ≠ w.heap.size + 1) w w2 (pre ++ [x]) _)
      all_goals first
        | with_reducible exact fin1 hv1 hown' (by omega) hK' hB hsa (by omega) hnO (by omega) hsz2 hnK (by omega) (by omega) hc1
        | with_reducible exact fin2 hv1 hown' (by omega) hK' hB hsa (by omega) hnO (by omega) hsz2 hnK (by omega) (by omega) hc1
        | with_reducible exact fin3 hv1 hown' (by omega) hK' hB hsa (by omega) hnO (by omega) hsz2 hc1
  case done =>
    rintro D ys W hD rfl ⟨⟨⟨v, hv, hrow, -⟩, hcur⟩, hlen, hK', hB⟩ hK
    have htk : tk l p true k = upto (wf l p true) (wN l p true) := by rw [upto_length] at hlen; unfold tk; rw [Nat.min_eq_right hlen]
    have hok : ∀ y, y ∈ (upto (wf l p true) (wN l p true)).map (·.1) → y.ok := fun y hy => hO2.ents.ok y (wf_mem hp (Nat.le_refl _) hy)
    generalize upto (wf l p true) (wN l p true) = ys at *
    have HT := Lib.hid htk
    clear htk
    obtain ⟨oa, oc, rfl, hle, hcap, -⟩ := own_form hrow
    have vc := hv.cell
    have hcc := hcur.cell
    have hs3 : Boxed W (w.heap.size + 1 + 1 + 1) 28 (.int .i64 0) := (hK'.2 _ ⟨by omega, by omega, by omega⟩).trans s2
    have sc := hs3.cell
    have sf := hs3.frozen
    gi_wp2
    gi_region
    gi_wp2
    have hKd := ((KeepsOthers.setCell W ⟨w.heap.size + 1 + 1 + 1, 0, none⟩ (.int .i64 (tcur p ys))).trans (KeepsOthers.drew _)).same D _ hK rfl
    refine ⟨by simp, .inl ⟨_, _, rfl, run_takeDeferred hKd, ?_⟩⟩
    have hfs : (W.setCell ⟨w.heap.size + 1 + 1 + 1, 0, none⟩ (.int .i64 (tcur p ys))).drew.cell? ⟨w.heap.size + 1 + 1 + 1, 0, none⟩ = some (.int .i64 (tcur p ys)) := (Boxed.set (.int .i64 (tcur p ys)) hs3).cell
    have hc5 := cell_kept hfs (grownBy_putObj' _ D (.deferred none)) (fun r e => by cases e; exact ⟨_, hKd, rfl⟩)
    have hrow3 := ownsRow_putObj (owD (own_set hrow ⟨w.heap.size + 1 + 1 + 1, 0, none⟩ (by simp; omega) (.int .i64 (tcur p ys)))) (.deferred none) hKd rfl
    obtain ⟨a1, c1, e1, hE, -, -⟩ := own_ents (l := ys.map (·.1)) (by simpa using hrow3) hok
    injection e1 with e1 e2 e3
    subst e1
    refine ⟨.tuple #[.slice oa ys.length oc, cur (tcur p ys), .int .i64 0], ?_, ⟨_, rfl, ⟨oa, oc, by rw [HT.out], by rw [HT.out]; exact hE, by rw [HT.out]; exact hle, hcap⟩, (hB.setCell (p := ⟨w.heap.size + 1 + 1 + 1, 0, none⟩) (by simp; omega) _).drew.trans (belowK_b (w := w) (Nat.le_refl _) _ D _ _ (Nat.le_trans hbw.size hD) hKd rfl rfl)⟩⟩
    simp [results, Try.f14, go_sem, hc5] <;> omega
  case stop =>
    rintro D c pre W hD ⟨k', hk', rfl⟩ ⟨rfl, pre', x, hpre, hf, ⟨⟨v, hv, hrow, -⟩, hcur⟩, hlen, hK', hB⟩ hK
    obtain ⟨hys, hkN⟩ := upto_break hpre hf
    have htk : tk l p true k = pre' := by unfold tk; rw [Nat.min_eq_left (by omega), hys]
    have hok : ∀ y, y ∈ pre'.map (·.1) → y.ok := fun y hy => hO2.ents.ok y (wf_mem (back := true) (j := k) hp (by omega) (by rw [hys]; exact hy))
    clear hpre hys
    generalize pre' = ys at *
    have HT := Lib.hid htk
    clear htk
    obtain ⟨oa, oc, rfl, hle, hcap, -⟩ := own_form hrow
    have vc := hv.cell
    have hcc := hcur.cell
    have hs3 : Boxed W (w.heap.size + 1 + 1 + 1) 28 (.int .i64 0) := (hK'.2 _ ⟨by omega, by omega, by omega⟩).trans s2
    have sc := hs3.cell
    have sf := hs3.frozen
    gi_wp2
    gi_region
    gi_wp2
    have hKd := ((KeepsOthers.setCell W ⟨w.heap.size + 1 + 1 + 1, 0, none⟩ (.int .i64 (tcur p ys))).trans (KeepsOthers.drew _)).same D _ hK rfl
    refine ⟨by simp, .inl ⟨_, _, rfl, run_takeDeferred hKd, ?_⟩⟩
    have hfs : (W.setCell ⟨w.heap.size + 1 + 1 + 1, 0, none⟩ (.int .i64 (tcur p ys))).drew.cell? ⟨w.heap.size + 1 + 1 + 1, 0, none⟩ = some (.int .i64 (tcur p ys)) := (Boxed.set (.int .i64 (tcur p ys)) hs3).cell
    have hc5 := cell_kept hfs (grownBy_putObj' _ D (.deferred none)) (fun r e => by cases e; exact ⟨_, hKd, rfl⟩)
    have hrow3 := ownsRow_putObj (owD (own_set hrow ⟨w.heap.size + 1 + 1 + 1, 0, none⟩ (by simp; omega) (.int .i64 (tcur p ys)))) (.deferred none) hKd rfl
    obtain ⟨a1, c1, e1, hE, -, -⟩ := own_ents (l := ys.map (·.1)) (by simpa using hrow3) hok
    injection e1 with e1 e2 e3
    subst e1
    refine ⟨.tuple #[.slice oa ys.length oc, cur (tcur p ys), .int .i64 0], ?_, ⟨_, rfl, ⟨oa, oc, by rw [HT.out], by rw [HT.out]; exact hE, by rw [HT.out]; exact hle, hcap⟩, (hB.setCell (p := ⟨w.heap.size + 1 + 1 + 1, 0, none⟩) (by simp; omega) _).drew.trans (belowK_b (w := w) (Nat.le_refl _) _ D _ _ (Nat.le_trans hbw.size hD) hKd rfl rfl)⟩⟩
    simp [results, Try.f14, go_sem, hc5] <;> omega
end Go.Proofs.Ytinbdppekhcekaa

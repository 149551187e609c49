
/-
  Contracts of words: Split.
-/
import Derived.Test.YtidclkojekodpaaGreatDoorWoJ
import Derived.Test.YtidclkojekodpaaGreatDoorRng
import Derived.Test.YtidclkojekodpaaGreatDoorOwn
import Derived.Maps.AppendAt
namespace Go.Proofs.YtidclkojekodpaaGreatDoor
open Go.RowKit Go.Shelf
set_option linter.unusedSimpArgs false
set_option linter.unusedVariables false
set_option maxRecDepth 100000
attribute [local go_sem] Oper.semAt_some

def tooL (fs : List Fld) : Bool := fs.any (fun f => decide (2000 < f.s.length))
def wsplit (l : List UInt8) : List Fld × Int := if 8192 < l.length then ([], 3) else if l = [] then ([], 0) else match splitW l with
  | none => ([], 6)
  | some fs => if tooL fs = true ∨ 64 < fs.length then ([], 3) else (fs, 0)
theorem tooL_snoc (fs : List Fld) (x : Fld) : tooL (fs ++ [x]) = (tooL fs || decide (2000 < x.s.length)) := by simp [tooL]
/-- The cells of fields. -/
def fldCells (l : List Fld) : List Value := l.flatMap fun x => [.string ⟨x.s.toArray⟩, .bool x.q]
theorem fldCells_snoc (l : List Fld) (x : Fld) : fldCells (l ++ [x]) = fldCells l ++ [.string ⟨x.s.toArray⟩, .bool x.q] := by simp [fldCells]
theorem fldCells_get : ∀ (l : List Fld) (i : Nat) (x : Fld), l[i]? = some x → (fldCells l)[i * 2]? = some (.string ⟨x.s.toArray⟩) ∧ (fldCells l)[i * 2 + 1]? = some (.bool x.q)
  | [], i, x, h => by simp at h
  | y :: l, 0, x, h => by simp at h; subst h; simp [fldCells]
  | y :: l, i + 1, x, h => by
    have ih := fldCells_get l i x (by simpa using h)
    have e : fldCells (y :: l) = [.string ⟨y.s.toArray⟩, .bool y.q] ++ fldCells l := by simp [fldCells]
    rw [e, show (i + 1) * 2 = i * 2 + 2 by omega]
    simpa using ih
/-- Fields in memory. -/
structure Flds (w : World) (a : Option Addr) (l : List Fld) : Prop where
  at_ : l ≠ [] → ∃ b off, a = some ⟨b, off, none⟩ ∧ ∀ i x, l[i]? = some x → w.cell? ⟨b, off + i * 2, none⟩ = some (.string ⟨x.s.toArray⟩) ∧ w.cell? ⟨b, off + i * 2 + 1, none⟩ = some (.bool x.q)
theorem Flds.bl {w w' : World} {a : Option Addr} {l : List Fld} (h : Flds w a l) (k : Bl w w') : Flds w' a l :=
  ⟨fun hn => let ⟨b, off, e, f⟩ := h.at_ hn; ⟨b, off, e, fun i x hx => ⟨k.cell (f i x hx).1, k.cell (f i x hx).2⟩⟩⟩
theorem Flds.get {w : World} {a : Option Addr} {l : List Fld} (h : Flds w a l) {k : Nat} (hk : k < l.length) :
    ∃ b off, a = some ⟨b, off, none⟩ ∧ ∀ i x, l[i]? = some x → w.cell? ⟨b, off + i * 2, none⟩ = some (.string ⟨x.s.toArray⟩) ∧ w.cell? ⟨b, off + i * 2 + 1, none⟩ = some (.bool x.q) := h.at_ (by rintro rfl; simp at hk)
/-- Fields as a result. -/
def FldsIs (l : List Fld) (w : World) (v : Value) : Prop := ∃ a c, v = .slice a l.length c ∧ Flds w a l ∧ l.length ≤ c ∧ c ≤ maxLen
theorem ownF_is {B : Nat} {l : List Fld} {w : World} {v : Value} (h : w.ownsRow B 71 2 v l.length (fldCells l)) : FldsIs l w v := by
  obtain ⟨a, c, rfl, h1, h2, h3⟩ := own_form h
  refine ⟨a, c, rfl, ⟨fun hn => ?_⟩, h1, h2⟩
  obtain ⟨g, rfl, _, _, hc⟩ := h3 (List.length_pos_iff.2 hn)
  refine ⟨g, 0, rfl, fun i x hx => ?_⟩
  obtain ⟨k0, k1⟩ := fldCells_get l i x hx
  rw [Nat.zero_add]
  exact ⟨hc _ _ k0, hc _ _ k1⟩
theorem fldsIs_nil (w : World) : FldsIs [] w (.slice none 0 0) := ⟨none, 0, rfl, ⟨fun h => absurd rfl h⟩, Nat.le_refl _, by unfold maxLen; omega⟩
theorem FldsIs.bl {l : List Fld} {w w' : World} {v : Value} (h : FldsIs l w v) (k : Bl w w') : FldsIs l w' v := by
  obtain ⟨a, c, rfl, h1, h2, h3⟩ := h
  exact ⟨a, c, rfl, h1.bl k, h2, h3⟩
def SplV (r : List Fld × Int) (w : World) (v : Value) : Prop := ∃ vl, v = .tuple #[vl, .int .i64 r.2] ∧ FldsIs r.1 w vl
theorem inf_fld : (Tryz.prog.info? 71).map (fun i => (i.zero, i.size, i.bytes)) = some (some (.agg #[.string ⟨#[]⟩, .bool false]), 2, 24) := by kernel_rfl
set_option maxHeartbeats 1000000 in
theorem woFields (s : ByteArray) (w : World) : Calls Tryz.prog 40 #[.string s] w fun e w' => e = .returned (.func (.func 54) #[] #[.pointer (some ⟨w.heap.size, 0, none⟩)]) ∧ w' = w.alloc (.cells #[.string s] 9) := by
  go_enter Tryz.func40, Tryz.ntmps40
  go_wp2_with fail
  go_ret
  exact ⟨rfl, rfl⟩
theorem bxN {W : World} {t : TypeId} {v : Value} {B : Nat} (h : W.heap.size = B) : Boxed (W.alloc (.cells #[v] t)) B t v := h ▸ Boxed.new W t v
theorem bxK {W W' : World} {B : Nat} {t : TypeId} {v : Value} {row : Option Nat} (h : Boxed W B t v) (hg : W.grownBy W' row) (hr : row ≠ some B) : Boxed W' B t v := (hg.block B h.lt (fun e => hr e.symm)).trans h
theorem bxB {W W' : World} {B : Nat} {t : TypeId} {v : Value} (h : Boxed W B t v) (k : Bl W W') : Boxed W' B t v := (k.block B h.lt).trans h
/-- Between two rounds: the function's own variables from block n on; the row from block n + 8 on. -/
structure SI (w : World) (n : Nat) (pre : List (Fld × Bool)) (W : World) : Prop where
  r0 : Boxed W n 67 (.slice none 0 0)
  r1 : Boxed W (n + 1) 27 (.int .i64 0)
  row : ∃ v, Boxed W (n + 2) 67 v ∧ W.ownsRow (n + 8) 71 2 v pre.length (fldCells (pre.map (·.1)))
  long : Boxed W (n + 3) 4 (.bool (tooL (pre.map (·.1))))
  all : ∀ x ∈ pre, x.2 = true
  below : Below n w W
structure SX (w : World) (n : Nat) (pre : List (Fld × Bool)) (W : World) : Prop where
  r0 : Boxed W n 67 (.slice none 0 0)
  r1 : Boxed W (n + 1) 27 (.int .i64 6)
  bad : ∃ x ∈ pre, x.2 = false
  below : Below n w W
theorem bx_not {A : World} {B Bf B0 : Nat} {t : TypeId} {v : Value} (h : Boxed A B t v) (hne : B ≠ Bf) {row : Option Nat} (hr : ∀ r, row = some r → r = Bf ∨ B0 ≤ r ∧ ∃ o : Obj, A.heap[r]? = some o ∧ o.isCells = false) : row ≠ some B := by
  intro e
  rcases hr B e with e | ⟨_, o, ho, hc⟩
  · exact hne e
  · rw [show A.heap[B]? = _ from h] at ho; cases ho; cases hc
theorem below_grown {n B0 Bf : Nat} {w A B : World} {row : Option Nat} (h : Below n w A) (hg : A.grownBy B row) (hn : n ≤ A.heap.size) (hr : ∀ r, row = some r → n ≤ r) : Below n w B := h.grown hg hn hr
theorem SI.stands (w : World) (n : Nat) (hn : w.heap.size = n) : Stands (n + 5) (n + 7) (SI w n) := by
  intro pre A B row h hg hr
  have hle : ∀ r, row = some r → n ≤ r := fun r e => by rcases hr r e with e | ⟨e, _⟩ <;> omega
  refine ⟨bxK h.r0 hg (bx_not h.r0 (by omega) hr), bxK h.r1 hg (bx_not h.r1 (by omega) hr), ?_, bxK h.long hg (bx_not h.long (by omega) hr), h.all, h.below.grown hg (by have := h.below.size; omega) hle⟩
  obtain ⟨v, hv, hrow⟩ := h.row
  refine ⟨v, bxK hv hg (bx_not hv (by omega) hr), ?_⟩
  refine ⟨hrow.1, ?_⟩
  rcases hrow.2 with hx | ⟨g, cap, cur, e1, hb, hc, rest⟩
  · exact .inl hx
  · refine .inr ⟨g, cap, cur, e1, hb, (hg.block g (Array.getElem?_eq_some_iff.1 hc).1 ?_).trans hc, rest⟩
    intro e
    rcases hr g e.symm with e | ⟨_, o, ho, hcc⟩
    · omega
    · rw [hc] at ho; cases ho; cases hcc
theorem SX.stands (w : World) (n : Nat) (hn : w.heap.size = n) : Stands (n + 5) (n + 7) (SX w n) := by
  intro pre A B row h hg hr
  have hle : ∀ r, row = some r → n ≤ r := fun r e => by rcases hr r e with e | ⟨e, _⟩ <;> omega
  exact ⟨bxK h.r0 hg (bx_not h.r0 (by omega) hr), bxK h.r1 hg (bx_not h.r1 (by omega) hr), h.bad, h.below.grown hg (by have := h.below.size; omega) hle⟩
theorem Kept.new {K : Nat → Prop} {n₀ : Nat} {A B : World} (h : Kept K A B) (hK : ∀ k, K k → k < n₀) (hB : n₀ ≤ B.heap.size) (o : Obj) : Kept K A (B.alloc o) :=
  h.trans ⟨by simp, fun k hk => Below.heap_alloc _ _ _ (Nat.lt_of_lt_of_le (hK k hk) hB)⟩
/-- From one world to the next of a round: whatever is no cells, what K names, and what lay below n₀, lie as they lay. -/
structure Step (K : Nat → Prop) (n₀ : Nat) (A B : World) : Prop where
  keeps : KeepsOthers A B
  kept : Kept K A B
  below : Below n₀ A B
theorem Step.refl (K : Nat → Prop) (n₀ : Nat) (A : World) : Step K n₀ A A := ⟨KeepsOthers.refl _, Kept.refl _ _, Below.refl _ _⟩
theorem Step.set {K : Nat → Prop} {n₀ : Nat} {A B : World} (h : Step K n₀ A B) {p : Addr} (hp : ¬ K p.block) (hn : n₀ ≤ p.block) (u : Value) : Step K n₀ A (B.setCell p u) :=
  ⟨h.keeps.trans (KeepsOthers.setCell _ _ _), h.kept.setCell hp u, h.below.setCell hn u⟩
theorem Step.new {K : Nat → Prop} {n₀ m : Nat} {A B : World} (h : Step K n₀ A B) (hK : ∀ k, K k → k < m) (hm : m ≤ A.heap.size) (hn : n₀ ≤ A.heap.size) (o : Obj) : Step K n₀ A (B.alloc o) :=
  ⟨h.keeps.trans (KeepsOthers.alloc _ _), h.kept.new hK (Nat.le_trans hm h.kept.1) o, h.below.alloc (Nat.le_trans hn h.below.size) o⟩
theorem Step.app {K : Nat → Prop} {n₀ m : Nat} {A B C : World} (h : Step K n₀ A B) (hK : ∀ k, K k → k < m) (hm : m ≤ A.heap.size) (hn : n₀ ≤ m) {e : TypeId} {size : Nat} {v : Value} {k : Nat} {xs : List Value} (hr : B.ownsRow m e size v k xs) (hg : B.grownBy C v.ownBlock) : Step K n₀ A C := by
  have hm' := Nat.le_trans hm h.kept.1
  refine ⟨h.keeps.trans (KeepsOthers.of_grownBy hg fun j o ej hj => ?_), h.kept.trans ⟨hg.size, fun q hq => hg.block q (by have := hK q hq; omega) (fun e' => ?_)⟩, h.below.grown hg (by omega) fun q eq => Nat.le_trans hn (own_block hr q eq)⟩
  · rcases hr.2 with ⟨rfl, _⟩ | ⟨g, cap, cur, rfl, _, hgb, _⟩
    · simp [Value.ownBlock] at ej
    · obtain rfl : g = j := by simpa [Value.ownBlock] using ej
      rw [hgb] at hj; cases hj; rfl
  · have h1 := own_block hr q e'.symm
    have h2 := hK q hq
    omega
theorem bxR {A C : World} {B base : Nat} {t e : TypeId} {size k : Nat} {u v : Value} {xs : List Value} (h : Boxed A B t u) (hr : A.ownsRow base e size v k xs) (hlt : B < base) (hg : A.grownBy C v.ownBlock) : Boxed C B t u :=
  bxK h hg (fun eq => by have := own_block hr B eq; omega)
set_option maxHeartbeats 8000000 in
theorem splitMain (s : ByteArray) (hs : s.size ≤ 8192) (h0 : s.data.toList ≠ []) (w : World) (hE : EscTab w) :
    CallsIn Fence.wide 4 Tryz.prog 30 #[.string s] w (RM w (SplV (wsplit s.data.toList))) := by
  obtain ⟨i0, hi0, hz0, hz1, hz2⟩ := info_parts inf_fld
  refine callsIn_of_wp_marks Tryz.func30 rfl trivial ?_ rfl
  simp only [Tryz.ntmps30, List.size_toArray, List.length_cons, List.length_nil, Nat.reduceAdd, Nat.reduceSub, Array.replicate_succ, Array.replicate_zero, List.push_toArray, List.append_toArray, List.nil_append, List.cons_append]
  have hn1 : 1 ≤ 4 := by omega
  have i1 : ¬ 8192 < (s.size : Int) := by omega
  have hem : s.toList.isEmpty = false := by
    rw [toL]
    cases e : s.data.toList with
    | nil => exact absurd e h0
    | cons _ _ => rfl
  have H0 := Lib.hid h0
  clear h0
  gi_wp2
  refine ⟨trivial, ?_⟩
  refine (callsIn_wide.2 (woFields s _)).mono ?_; rintro e w' ⟨rfl, rfl⟩
  gi_wp2
  obtain ⟨n, hn⟩ : ∃ n, w.heap.size = n := ⟨_, rfl⟩
  obtain ⟨w2, hw2⟩ : ∃ w2, (((((w.alloc (.cells #[.slice none 0 0] 67)).alloc (.cells #[.int .i64 0] 27)).alloc (.cells #[.slice none 0 0] 67)).alloc (.cells #[.bool false] 4)).alloc (.cells #[.string s] 9)) = w2 := ⟨_, rfl⟩
  have b0 : Boxed w2 n 67 (.slice none 0 0) := hw2 ▸ ((((bxN hn).alloc _).alloc _).alloc _).alloc _
  have b1 : Boxed w2 (n + 1) 27 (.int .i64 0) := hw2 ▸ (((bxN (by simp; omega)).alloc _).alloc _).alloc _
  have b2 : Boxed w2 (n + 2) 67 (.slice none 0 0) := hw2 ▸ ((bxN (by simp; omega)).alloc _).alloc _
  have b3 : Boxed w2 (n + 3) 4 (.bool false) := hw2 ▸ (bxN (by simp; omega)).alloc _
  have b4 : Boxed w2 (n + 4) 9 (.string s) := hw2 ▸ bxN (by simp; omega)
  have hb2 : Bl w w2 := hw2 ▸ (by repeat (first | assumption | exact Bl.refl _ | apply Bl.drewN | apply Bl.drew | apply Bl.alloc | (refine Bl.dr ?_ (by assumption)) | (refine Bl.trans ?_ (by assumption))))
  have hs2 : w2.heap.size = n + 5 := by rw [← hw2]; simp; omega
  have hT2 := hE.bl hb2
  have hgE : 2 < n := by have := lt_of_cell (hE.at_ 0 (by omega)); simp at this; omega
  rw [hw2]
  clear hw2 hE
  simp only [hn, Nat.add_assoc, Nat.reduceAdd]
  refine wpIn_range_box hn1 (gf := 54) (lb := #[.pointer (some ⟨n + 4, 0, none⟩)]) rfl (enters_of Tryz.func54 (by kernel_rfl) rfl)
    (encs := fun (x : Fld × Bool) => #[fvl x.1, .bool x.2]) (Kp := Kept (fun k => k = n + 7 ∨ k = 2)) (whole := fseq s.data.toList) (n + 7) (by omega) ?seq (fun h k => Kept.trans h k) ?kb (fun _ => rfl)
    (SI w n) (SX w n) (hs2 ▸ SI.stands w n hn) (hs2 ▸ SX.stands w n hn) ⟨b0, b1, ⟨_, b2, by simpa [fldCells] using own_nil _ _ _ _⟩, b3, by simp, by rw [← hn]; exact hb2⟩
    (fun x a' W => ∃ Bx, n + 8 ≤ Bx ∧ Two W Bx (.string ⟨x.1.s.toArray⟩) (.bool x.1.q) ∧ a' = { tmps := #[.string s, undef, .pointer (some ⟨n, 0, none⟩), .pointer (some ⟨n + 1, 0, none⟩), .pointer (some ⟨n + 2, 0, none⟩), .pointer (some ⟨n + 3, 0, none⟩), .pointer (some ⟨Bx, 0, none⟩), .bool x.2, .bool false, .string s, .int .i64 s.size, .bool false, .bool false, .string s, .bool false, .string s, .func (.func 54) #[] #[.pointer (some ⟨n + 4, 0, none⟩)], .agg #[.string ⟨x.1.s.toArray⟩, .bool x.1.q], .bool x.2, undef, undef, undef, undef, undef, undef, undef, undef, undef, undef, undef, undef, undef, undef, undef, undef, undef, undef, undef, undef], defers := [] })
    ?ax ?assign ?body ?done ?stop
  case seq =>
    intro l J Jx W hW hb hJ hY h0
    have hbl : Bl w2 W := hb
    exact fields1 3 (by omega) l (n + 4) (n + 7) s (by omega) J Jx hJ hY W hW ((bxB b4 hbl).cell) (hT2.bl hbl) h0
  case kb =>
    intro W l o o' hl hne hW ho
    exact ⟨by simp [World.putObj], fun k hk => World.putObj_heap_other (by rcases hk with rfl | rfl <;> omega)⟩
  case ax =>
    intro x a' pre A B row h hg hr
    obtain ⟨Bx, hB, h2, e⟩ := h
    refine ⟨Bx, hB, (hg.block Bx (Array.getElem?_eq_some_iff.1 h2).1 ?_).trans h2, e⟩
    intro e
    rcases hr Bx e.symm with e | ⟨_, o, ho, hc⟩
    · omega
    · rw [show A.heap[Bx]? = _ from h2] at ho; cases ho; cases hc
  case assign =>
    rintro y pre x W K hi hsz hK
    simp only [fvl]
    gi_wp2
    exact hK _ _ ((KeepsOthers.alloc _ _).from _) ((Kept.refl _ W).new (fun k hk => by omega) (Nat.le_refl _) _) ((SI.stands w n hn).new _ hi) ⟨W.heap.size, by omega, Two.new _ _ _, rfl⟩
  case body =>
    rintro l pre x a' W - hi hsz ⟨Bx, hBx, h2, rfl⟩ hpre
    obtain ⟨f, q⟩ := x
    simp only at h2 ⊢
    have c0 := hi.r0.cell
    have f0 := hi.r0.frozen
    have c1 := hi.r1.cell
    have f1 := hi.r1.frozen
    have hbw := hi.below
    have hS0 : Step (fun k => k = n + 7 ∨ k = 2) n W W := Step.refl _ _ _
    cases q
    · gi_wp2
      have hS1 := (hS0.set (p := ⟨n, 0, none⟩) (by simp <;> omega) (Nat.le_refl _) (.slice none 0 0)).set (p := ⟨n + 1, 0, none⟩) (by simp <;> omega) (by simp) (.int .i64 6)
      exact ⟨hS1.keeps.from _, ⟨(Boxed.set _ hi.r0).other (by omega) _, Boxed.set _ (hi.r1.other (by omega) _), ⟨(f, false), by simp, rfl⟩, hbw.trans hS1.below⟩⟩
    · obtain ⟨v, hv, hrow⟩ := hi.row
      obtain ⟨oa, oc, rfl, -⟩ := own_form hrow
      have vc := hv.cell
      have vf := hv.frozen
      have tc := hi.long.cell
      have tf := hi.long.frozen
      have e0 := h2.c0
      have e1 := h2.c1
      obtain ⟨fs, hfs⟩ : ∃ fs, (⟨f.s.toArray⟩ : ByteArray) = fs := ⟨_, rfl⟩
      have hfl : fs.size = f.s.length := by rw [← hfs]; rfl
      rw [hfs] at e0 ⊢
      obtain ⟨tl, htl⟩ : ∃ tl, tooL (pre.map (·.1)) = tl := ⟨_, rfl⟩
      rw [htl] at tc
      have hplen : pre.length ≤ 8192 := by
        have h1 := hpre.length_le
        have h2 := fseq_len s.data.toList
        simp at h1 h2; omega
      have hpm : (pre.map (·.1)).length = pre.length := by simp
      cases tl
      · by_cases hlong : 2000 < f.s.length
        · (have i2 : decide ((2000 : Int) < (fs.size : Int)) = true := by rw [decide_eq_true_eq]; omega)
          clear hfl
          have g0 := hi.r0.other (show n ≠ n + 3 by omega) (.bool true)
          have g1 := hi.r1.other (show n + 1 ≠ n + 3 by omega) (.bool true)
          have g2 := hv.other (show n + 2 ≠ n + 3 by omega) (.bool true)
          have g3 := Boxed.set (.bool true) hi.long
          have hrow1 := own_set hrow ⟨n + 3, 0, none⟩ (by simp) (.bool true)
          have hS1 := hS0.set (p := ⟨n + 3, 0, none⟩) (by simp <;> omega) (by simp) (.bool true)
          have hS2 := hS1.new (m := n + 8) (fun k hk => by omega) (by omega) (by omega) (.cells #[.string fs, .bool f.q] 71)
          gi_wp2_with (gi_at_builtin; refine wpListIn_append_own _ rfl _ _ 67 rfl (n + 8) 71 i0 (.agg #[.string ⟨#[]⟩, .bool false]) 2 24 Tryz.underlying67 hi0 hz0 hz1 hz2 rfl (by decide) _ _ _ rfl (hrow1.alloc _) ⟨W.heap.size, 0, none⟩ 1 1 [.string fs, .bool f.q] rfl rfl ?c1 ?c2 ?c3 ?c4 ?c5 ?_)
          case c1 => have hm := multi_new (W.setCell ⟨n + 3, 0, none⟩ (.bool true)) [.string fs, .bool f.q] 71; rwa [show (W.setCell ⟨n + 3, 0, none⟩ (.bool true)).heap.size = W.heap.size by simp [World.setCell]] at hm
          case c2 => intro u hu; simp at hu; rcases hu with rfl | rfl <;> rfl
          case c3 => unfold maxLen; omega
          case c4 => omega
          case c5 => simp [World.setCell]; omega
          intro v' w3 hown' hg3 _
          obtain ⟨ob, oc', rfl, -⟩ := own_form hown'
          have k0 := bxR (g0.alloc _) (hrow1.alloc _) (by omega) hg3
          have k1 := bxR (g1.alloc _) (hrow1.alloc _) (by omega) hg3
          have k2 := bxR (g2.alloc _) (hrow1.alloc _) (by omega) hg3
          have k3 := bxR (g3.alloc _) (hrow1.alloc _) (by omega) hg3
          have hS3 := hS2.app (m := n + 8) (fun k hk => by omega) (by omega) (by omega) (hrow1.alloc _) hg3
          have vc3 := k2.cell
          have vf3 := k2.frozen
          gi_wp2
          have hS4 := hS3.set (p := ⟨n + 2, 0, none⟩) (by simp <;> omega) (by simp) (.slice ob (pre.length + 1) oc')
          refine ⟨hS4.keeps.from _, hS4.kept, ⟨k0.other (by omega) _, k1.other (by omega) _, ⟨_, Boxed.set _ k2, ?_⟩, ?_, ?_, hbw.trans hS4.below⟩⟩
          · rw [List.map_append, List.map_cons, List.map_nil, fldCells_snoc, List.length_append, hfs]
            exact own_set hown' ⟨n + 2, 0, none⟩ (by simp) _
          · rw [show tooL (List.map (·.1) (pre ++ [(f, true)])) = true from (by rw [List.map_append, List.map_cons, List.map_nil, tooL_snoc, htl, decide_eq_true hlong]; rfl)]
            exact k3.other (by omega) _
          · intro y hy
            rcases List.mem_append.1 hy with hy | hy
            · exact hi.all y hy
            · rw [List.mem_singleton.1 hy]
        · (have i2 : decide ((2000 : Int) < (fs.size : Int)) = false := by rw [decide_eq_false_iff_not]; omega)
          clear hfl
          have g0 := hi.r0.other (show n ≠ n + 3 by omega) (.bool false)
          have g1 := hi.r1.other (show n + 1 ≠ n + 3 by omega) (.bool false)
          have g2 := hv.other (show n + 2 ≠ n + 3 by omega) (.bool false)
          have g3 := Boxed.set (.bool false) hi.long
          have hrow1 := own_set hrow ⟨n + 3, 0, none⟩ (by simp) (.bool false)
          have hS1 := hS0.set (p := ⟨n + 3, 0, none⟩) (by simp <;> omega) (by simp) (.bool false)
          have hS2 := hS1.new (m := n + 8) (fun k hk => by omega) (by omega) (by omega) (.cells #[.string fs, .bool f.q] 71)
          gi_wp2_with (gi_at_builtin; refine wpListIn_append_own _ rfl _ _ 67 rfl (n + 8) 71 i0 (.agg #[.string ⟨#[]⟩, .bool false]) 2 24 Tryz.underlying67 hi0 hz0 hz1 hz2 rfl (by decide) _ _ _ rfl (hrow1.alloc _) ⟨W.heap.size, 0, none⟩ 1 1 [.string fs, .bool f.q] rfl rfl ?c1 ?c2 ?c3 ?c4 ?c5 ?_)
          case c1 => have hm := multi_new (W.setCell ⟨n + 3, 0, none⟩ (.bool false)) [.string fs, .bool f.q] 71; rwa [show (W.setCell ⟨n + 3, 0, none⟩ (.bool false)).heap.size = W.heap.size by simp [World.setCell]] at hm
          case c2 => intro u hu; simp at hu; rcases hu with rfl | rfl <;> rfl
          case c3 => unfold maxLen; omega
          case c4 => omega
          case c5 => simp [World.setCell]; omega
          intro v' w3 hown' hg3 _
          obtain ⟨ob, oc', rfl, -⟩ := own_form hown'
          have k0 := bxR (g0.alloc _) (hrow1.alloc _) (by omega) hg3
          have k1 := bxR (g1.alloc _) (hrow1.alloc _) (by omega) hg3
          have k2 := bxR (g2.alloc _) (hrow1.alloc _) (by omega) hg3
          have k3 := bxR (g3.alloc _) (hrow1.alloc _) (by omega) hg3
          have hS3 := hS2.app (m := n + 8) (fun k hk => by omega) (by omega) (by omega) (hrow1.alloc _) hg3
          have vc3 := k2.cell
          have vf3 := k2.frozen
          gi_wp2
          have hS4 := hS3.set (p := ⟨n + 2, 0, none⟩) (by simp <;> omega) (by simp) (.slice ob (pre.length + 1) oc')
          refine ⟨hS4.keeps.from _, hS4.kept, ⟨k0.other (by omega) _, k1.other (by omega) _, ⟨_, Boxed.set _ k2, ?_⟩, ?_, ?_, hbw.trans hS4.below⟩⟩
          · rw [List.map_append, List.map_cons, List.map_nil, fldCells_snoc, List.length_append, hfs]
            exact own_set hown' ⟨n + 2, 0, none⟩ (by simp) _
          · rw [show tooL (List.map (·.1) (pre ++ [(f, true)])) = false from (by rw [List.map_append, List.map_cons, List.map_nil, tooL_snoc, htl, decide_eq_false hlong]; rfl)]
            exact k3.other (by omega) _
          · intro y hy
            rcases List.mem_append.1 hy with hy | hy
            · exact hi.all y hy
            · rw [List.mem_singleton.1 hy]
      · (skip)
        clear hfl
        have g0 := hi.r0.other (show n ≠ n + 3 by omega) (.bool true)
        have g1 := hi.r1.other (show n + 1 ≠ n + 3 by omega) (.bool true)
        have g2 := hv.other (show n + 2 ≠ n + 3 by omega) (.bool true)
        have g3 := Boxed.set (.bool true) hi.long
        have hrow1 := own_set hrow ⟨n + 3, 0, none⟩ (by simp) (.bool true)
        have hS1 := hS0.set (p := ⟨n + 3, 0, none⟩) (by simp <;> omega) (by simp) (.bool true)
        have hS2 := hS1.new (m := n + 8) (fun k hk => by omega) (by omega) (by omega) (.cells #[.string fs, .bool f.q] 71)
        gi_wp2_with (gi_at_builtin; refine wpListIn_append_own _ rfl _ _ 67 rfl (n + 8) 71 i0 (.agg #[.string ⟨#[]⟩, .bool false]) 2 24 Tryz.underlying67 hi0 hz0 hz1 hz2 rfl (by decide) _ _ _ rfl (hrow1.alloc _) ⟨W.heap.size, 0, none⟩ 1 1 [.string fs, .bool f.q] rfl rfl ?c1 ?c2 ?c3 ?c4 ?c5 ?_)
        case c1 => have hm := multi_new (W.setCell ⟨n + 3, 0, none⟩ (.bool true)) [.string fs, .bool f.q] 71; rwa [show (W.setCell ⟨n + 3, 0, none⟩ (.bool true)).heap.size = W.heap.size by simp [World.setCell]] at hm
        case c2 => intro u hu; simp at hu; rcases hu with rfl | rfl <;> rfl
        case c3 => unfold maxLen; omega
        case c4 => omega
        case c5 => simp [World.setCell]; omega
        intro v' w3 hown' hg3 _
        obtain ⟨ob, oc', rfl, -⟩ := own_form hown'
        have k0 := bxR (g0.alloc _) (hrow1.alloc _) (by omega) hg3
        have k1 := bxR (g1.alloc _) (hrow1.alloc _) (by omega) hg3
        have k2 := bxR (g2.alloc _) (hrow1.alloc _) (by omega) hg3
        have k3 := bxR (g3.alloc _) (hrow1.alloc _) (by omega) hg3
        have hS3 := hS2.app (m := n + 8) (fun k hk => by omega) (by omega) (by omega) (hrow1.alloc _) hg3
        have vc3 := k2.cell
        have vf3 := k2.frozen
        gi_wp2
        have hS4 := hS3.set (p := ⟨n + 2, 0, none⟩) (by simp <;> omega) (by simp) (.slice ob (pre.length + 1) oc')
        refine ⟨hS4.keeps.from _, hS4.kept, ⟨k0.other (by omega) _, k1.other (by omega) _, ⟨_, Boxed.set _ k2, ?_⟩, ?_, ?_, hbw.trans hS4.below⟩⟩
        · rw [List.map_append, List.map_cons, List.map_nil, fldCells_snoc, List.length_append, hfs]
          exact own_set hown' ⟨n + 2, 0, none⟩ (by simp) _
        · rw [show tooL (List.map (·.1) (pre ++ [(f, true)])) = true from (by rw [List.map_append, List.map_cons, List.map_nil, tooL_snoc, htl]; rfl)]
          exact k3.other (by omega) _
        · intro y hy
          rcases List.mem_append.1 hy with hy | hy
          · exact hi.all y hy
          · rw [List.mem_singleton.1 hy]
  case done =>
    rintro D W rfl hi hK
    rw [hs2] at hK ⊢
    obtain ⟨fl, hfl⟩ : ∃ fl, (fseq s.data.toList).map (·.1) = fl := ⟨_, rfl⟩
    have hall : (fseq s.data.toList).all (·.2) = true := List.all_eq_true.2 hi.all
    have hlen : (fseq s.data.toList).length = fl.length := by rw [← hfl]; simp
    have hres : wsplit s.data.toList = if tooL fl = true ∨ 64 < fl.length then ([], 3) else (fl, 0) := by
      unfold wsplit
      rw [if_neg (by simp; omega), if_neg H0.out, splitW_seq, if_pos hall, hfl]
    obtain ⟨v, hv, hrow⟩ := hi.row
    rw [hfl, hlen] at hrow
    have htc0 := hi.long
    rw [hfl] at htc0
    have hfb : fl.length ≤ 8193 := by
      have := fseq_len s.data.toList
      simp at this; omega
    obtain ⟨oa, oc, rfl, -⟩ := own_form hrow
    have hbw := hi.below
    have c0 := hi.r0.cell
    have f0 := hi.r0.frozen
    have c1 := hi.r1.cell
    have f1 := hi.r1.frozen
    have vc := hv.cell
    have tc := htc0.cell
    obtain ⟨tl, htl⟩ : ∃ tl, tooL fl = tl := ⟨_, rfl⟩
    rw [htl] at tc hres
    have R0 := Lib.hid hi.r0
    have R1 := Lib.hid hi.r1
    have HL := Lib.hid hlen
    clear hfl hall hi htl hlen htc0
    cases tl
    · by_cases h64 : 64 < fl.length
      · rw [if_pos (.inr h64)] at hres
        have HR := Lib.hid hres
        have i2 : (64 : Int) < (fl.length : Int) := by omega
        clear hres
        gi_wp2
        have hK4 : ((W.setCell ⟨n, 0, none⟩ (.slice none 0 0)).setCell ⟨n + 1, 0, none⟩ (.int .i64 3)).heap[n + 5]? = some (.deferred (some [])) := ((KeepsOthers.setCell _ _ _).trans (KeepsOthers.setCell _ _ _)).same _ _ hK rfl
        refine ⟨by simp, .inl ⟨_, _, rfl, run_takeDeferred hK4, ?_⟩⟩
        have q0 := (Boxed.set (.slice none 0 0) R0.out).other (show n ≠ n + 1 by omega) (.int .i64 3)
        have q1 := Boxed.set (.int .i64 3) (R1.out.other (show n + 1 ≠ n by omega) (.slice none 0 0))
        have g0 : Boxed (((W.setCell ⟨n, 0, none⟩ (.slice none 0 0)).setCell ⟨n + 1, 0, none⟩ (.int .i64 3)).putObj (n + 5) (.deferred none)) n 67 (.slice none 0 0) := (World.putObj_heap_other (by omega)).trans q0
        have g1 : Boxed (((W.setCell ⟨n, 0, none⟩ (.slice none 0 0)).setCell ⟨n + 1, 0, none⟩ (.int .i64 3)).putObj (n + 5) (.deferred none)) (n + 1) 27 (.int .i64 3) := (World.putObj_heap_other (by omega)).trans q1
        have d0 := g0.cell
        have d1 := g1.cell
        refine ⟨.tuple #[.slice none 0 0, .int .i64 3], by simp [results, Tryz.results30, go_sem, d0, d1], ?_⟩
        refine RM.mk ⟨_, by rw [HR.out], by rw [HR.out]; exact fldsIs_nil _⟩ ?_
        show Below w.heap.size w _
        rw [hn]
        exact ((hbw.setCell (p := ⟨n, 0, none⟩) (Nat.le_refl _) _).setCell (p := ⟨n + 1, 0, none⟩) (by simp) _).trans (belowK_b (w := w) (Nat.le_of_eq hn.symm) _ (n + 5) _ _ (by omega) hK4 rfl rfl)
      · rw [if_neg (by simp; omega)] at hres
        have HR := Lib.hid hres
        have i2 : ¬ (64 : Int) < (fl.length : Int) := by omega
        clear hres
        gi_wp2
        have hK4 : ((W.setCell ⟨n, 0, none⟩ (.slice oa fl.length oc)).setCell ⟨n + 1, 0, none⟩ (.int .i64 0)).heap[n + 5]? = some (.deferred (some [])) := ((KeepsOthers.setCell _ _ _).trans (KeepsOthers.setCell _ _ _)).same _ _ hK rfl
        refine ⟨by simp, .inl ⟨_, _, rfl, run_takeDeferred hK4, ?_⟩⟩
        have q0 := (Boxed.set (.slice oa fl.length oc) R0.out).other (show n ≠ n + 1 by omega) (.int .i64 0)
        have q1 := Boxed.set (.int .i64 0) (R1.out.other (show n + 1 ≠ n by omega) (.slice oa fl.length oc))
        have g0 : Boxed (((W.setCell ⟨n, 0, none⟩ (.slice oa fl.length oc)).setCell ⟨n + 1, 0, none⟩ (.int .i64 0)).putObj (n + 5) (.deferred none)) n 67 (.slice oa fl.length oc) := (World.putObj_heap_other (by omega)).trans q0
        have g1 : Boxed (((W.setCell ⟨n, 0, none⟩ (.slice oa fl.length oc)).setCell ⟨n + 1, 0, none⟩ (.int .i64 0)).putObj (n + 5) (.deferred none)) (n + 1) 27 (.int .i64 0) := (World.putObj_heap_other (by omega)).trans q1
        have d0 := g0.cell
        have d1 := g1.cell
        refine ⟨.tuple #[.slice oa fl.length oc, .int .i64 0], by simp [results, Tryz.results30, go_sem, d0, d1], ?_⟩
        refine RM.mk ⟨_, by rw [HR.out], by rw [HR.out]; exact ownF_is (own_base (ownsRow_putObj (own_set (own_set hrow ⟨n, 0, none⟩ (by simp) _) ⟨n + 1, 0, none⟩ (by simp) _) (.deferred none) hK4 rfl) (Nat.le_refl _))⟩ ?_
        show Below w.heap.size w _
        rw [hn]
        exact ((hbw.setCell (p := ⟨n, 0, none⟩) (Nat.le_refl _) _).setCell (p := ⟨n + 1, 0, none⟩) (by simp) _).trans (belowK_b (w := w) (Nat.le_of_eq hn.symm) _ (n + 5) _ _ (by omega) hK4 rfl rfl)
    · rw [if_pos (.inl rfl)] at hres
      have HR := Lib.hid hres
      clear hres
      gi_wp2
      have hK4 : ((W.setCell ⟨n, 0, none⟩ (.slice none 0 0)).setCell ⟨n + 1, 0, none⟩ (.int .i64 3)).heap[n + 5]? = some (.deferred (some [])) := ((KeepsOthers.setCell _ _ _).trans (KeepsOthers.setCell _ _ _)).same _ _ hK rfl
      refine ⟨by simp, .inl ⟨_, _, rfl, run_takeDeferred hK4, ?_⟩⟩
      have q0 := (Boxed.set (.slice none 0 0) R0.out).other (show n ≠ n + 1 by omega) (.int .i64 3)
      have q1 := Boxed.set (.int .i64 3) (R1.out.other (show n + 1 ≠ n by omega) (.slice none 0 0))
      have g0 : Boxed (((W.setCell ⟨n, 0, none⟩ (.slice none 0 0)).setCell ⟨n + 1, 0, none⟩ (.int .i64 3)).putObj (n + 5) (.deferred none)) n 67 (.slice none 0 0) := (World.putObj_heap_other (by omega)).trans q0
      have g1 : Boxed (((W.setCell ⟨n, 0, none⟩ (.slice none 0 0)).setCell ⟨n + 1, 0, none⟩ (.int .i64 3)).putObj (n + 5) (.deferred none)) (n + 1) 27 (.int .i64 3) := (World.putObj_heap_other (by omega)).trans q1
      have d0 := g0.cell
      have d1 := g1.cell
      refine ⟨.tuple #[.slice none 0 0, .int .i64 3], by simp [results, Tryz.results30, go_sem, d0, d1], ?_⟩
      refine RM.mk ⟨_, by rw [HR.out], by rw [HR.out]; exact fldsIs_nil _⟩ ?_
      show Below w.heap.size w _
      rw [hn]
      exact ((hbw.setCell (p := ⟨n, 0, none⟩) (Nat.le_refl _) _).setCell (p := ⟨n + 1, 0, none⟩) (by simp) _).trans (belowK_b (w := w) (Nat.le_of_eq hn.symm) _ (n + 5) _ _ (by omega) hK4 rfl rfl)
  case stop =>
    rintro D pre W rfl hpre hi hK
    rw [hs2] at hK ⊢
    have hres : wsplit s.data.toList = ([], 6) := by
      obtain ⟨x, hx, hf⟩ := hi.bad
      have hm : x ∈ fseq s.data.toList := hpre.subset hx
      unfold wsplit
      rw [if_neg (by simp; omega), if_neg H0.out, splitW_seq, if_neg (fun h => by have := List.all_eq_true.1 h x hm; rw [hf] at this; cases this)]
    refine ⟨by simp, .inl ⟨_, _, rfl, run_takeDeferred hK, ?_⟩⟩
    have g0 : Boxed (W.putObj (n + 5) (.deferred none)) n 67 (.slice none 0 0) := (World.putObj_heap_other (by omega)).trans hi.r0
    have g1 : Boxed (W.putObj (n + 5) (.deferred none)) (n + 1) 27 (.int .i64 6) := (World.putObj_heap_other (by omega)).trans hi.r1
    have d0 := g0.cell
    have d1 := g1.cell
    refine ⟨.tuple #[.slice none 0 0, .int .i64 6], by simp [results, Tryz.results30, go_sem, d0, d1], ?_⟩
    refine RM.mk ⟨_, by rw [hres], by rw [hres]; exact fldsIs_nil _⟩ ?_
    show Below w.heap.size w _
    rw [hn]
    exact hi.below.trans (belowK_b (w := w) (Nat.le_of_eq hn.symm) W (n + 5) _ _ (by omega) hK rfl rfl)
set_option maxHeartbeats 4000000 in
theorem woSplit (s : ByteArray) (hs : s.size ≤ 100000) (w : World) (hE : EscTab w) : Calls Tryz.prog 30 #[.string s] w (RM w (SplV (wsplit s.data.toList))) := by
  by_cases h1 : 8192 < s.size
  · have hres : wsplit s.data.toList = ([], 3) := by unfold wsplit; rw [if_pos (by simpa using h1)]
    rw [hres]
    have i1 : (8192 : Int) < (s.size : Int) := by omega
    clear hres hE
    go_enter Tryz.func30, Tryz.ntmps30
    go_wp2_with fail
    refine bodyPost_ret (v := .tuple #[.slice none 0 0, .int .i64 3]) (by simp [results, Tryz.results30, go_sem]) rfl ?_
    exact RM.mk ⟨_, rfl, fldsIs_nil _⟩ (by repeat (first | assumption | exact Bl.refl _ | apply Bl.drewN | apply Bl.drew | apply Bl.alloc | (refine Bl.setCell ?_ _ (by first | (simp; done) | (simp; omega)) _) | (refine Bl.dr ?_ (by assumption)) | (refine Bl.trans ?_ (by assumption))))
  · by_cases h0 : s.data.toList = []
    · have hres : wsplit s.data.toList = ([], 0) := by unfold wsplit; rw [if_neg (by simpa using h1), if_pos h0]
      rw [hres]
      have i1 : ¬ (8192 : Int) < (s.size : Int) := by omega
      have hem : s.toList.isEmpty = true := by rw [toL, h0]; rfl
      have hem2 : s.toList = [] := by rw [toL, h0]
      clear hres hE h0
      go_enter Tryz.func30, Tryz.ntmps30
      go_wp2_with fail
      refine bodyPost_ret (v := .tuple #[.slice none 0 0, .int .i64 0]) (by simp [results, Tryz.results30, go_sem]) rfl ?_
      exact RM.mk ⟨_, rfl, fldsIs_nil _⟩ (by repeat (first | assumption | exact Bl.refl _ | apply Bl.drewN | apply Bl.drew | apply Bl.alloc | (refine Bl.setCell ?_ _ (by first | (simp; done) | (simp; omega)) _) | (refine Bl.dr ?_ (by assumption)) | (refine Bl.trans ?_ (by assumption))))
    · exact callsIn_wide.1 (splitMain s (by omega) h0 w hE)
end Go.Proofs.YtidclkojekodpaaGreatDoor

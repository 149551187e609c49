
/-
  Over: a range over the program's own iterator.
-/
import Derived.Test.YtbdiiopmjaeaaaaDoorEvE
namespace Go.Proofs.YtbdiiopmjaeaaaaDoor
open Go.RowKit Go.Shelf
set_option linter.unusedSimpArgs false
set_option linter.unusedVariables false
set_option maxRecDepth 100000
attribute [local go_sem] Oper.semAt_some

set_option maxHeartbeats 1000000 in
theorem entMerged (vo vf : Value) (ho : ∃ a n c, vo = .slice a n c) (hf : ∃ a n c, vf = .slice a n c) (w : World) : Calls Tryd.prog 50 #[vo, vf] w fun e w' => e = .returned (.func (.func 65) #[] #[.pointer (some ⟨w.heap.size, 0, none⟩), .pointer (some ⟨w.heap.size + 1, 0, none⟩)]) ∧ w' = (w.alloc (.cells #[vo] 33)).alloc (.cells #[vf] 33) := by
  obtain ⟨a, n, c, rfl⟩ := ho
  obtain ⟨a2, n2, c2, rfl⟩ := hf
  go_enter Tryd.func50, Tryd.ntmps50
  go_wp2_with fail
  go_ret
  exact ⟨rfl, rfl⟩
theorem ebxN {W : World} {t : TypeId} {v : Value} {B : Nat} (h : W.heap.size = B) : Boxed (W.alloc (.cells #[v] t)) B t v := h ▸ Boxed.new W t v
theorem ebxK {W W' : World} {B : Nat} {t : TypeId} {v : Value} {row : Option Nat} (h : Boxed W B t v) (hg : W.grownBy W' row) (hr : row ≠ some B) : Boxed W' B t v := (hg.block B h.lt (fun e => hr e.symm)).trans h
def Four (W : World) (B : Nat) (x : Ent) : Prop := W.heap[B]? = some (.cells #[.string x.key, .string x.val, .bool x.dead, .int .i64 x.seq] 23 (0, 0))
theorem Four.new (W : World) (x : Ent) : Four (W.alloc (.cells #[.string x.key, .string x.val, .bool x.dead, .int .i64 x.seq] 23)) W.heap.size x := World.alloc_heap_new W _
theorem Four.at_ {W : World} {B : Nat} {x : Ent} (h : Four W B x) : EntAt W B 0 x := by
  constructor <;> (rw [Lib.cell_of_heap h]; rfl)
/-- Between two rounds: the result so far in the box n. -/
structure OI (w : World) (n : Nat) (pre : List Ent) (W : World) : Prop where
  row : ∃ v, Boxed W n 33 v ∧ W.ownsRow (n + 3) 23 4 v pre.length (entCells pre)
  below : Below n w W
  size : n + 3 ≤ W.heap.size
theorem OI.stands (w : World) (n : Nat) (hn : w.heap.size = n) : StandsM (n + 3) (fun k => k = n + 1 ∨ k = n + 2) (OI w n) := by
  intro pre A B row h hg hr
  have hle : ∀ r, row = some r → n ≤ r := fun r e => by rcases hr r e with (e | e) | ⟨e, _⟩ <;> omega
  refine ⟨?_, h.below.grown hg (by have := h.below.size; omega) hle, Nat.le_trans h.size hg.size⟩
  obtain ⟨v, hv, hrow⟩ := h.row
  refine ⟨v, ebxK hv hg (fun e => ?_), hrow.1, ?_⟩
  · rcases hr n e with (e | e) | ⟨e, _⟩ <;> omega
  rcases hrow.2 with hx | ⟨g, cap, cur, e1, hb, hc, rest⟩
  · exact .inl hx
  · refine .inr ⟨g, cap, cur, e1, hb, (hg.block g (Array.getElem?_eq_some_iff.1 hc).1 ?_).trans hc, rest⟩
    intro e
    rcases hr g e.symm with (e | e) | ⟨_, o, ho, hcc⟩
    · omega
    · omega
    · rw [hc] at ho; cases ho; cases hcc
theorem emerge_len : ∀ (n : Nat) (o f : List Ent), o.length + f.length ≤ n → (emerge o f).length ≤ o.length + f.length
  | _, [], f, _ => by rw [emerge_nil1]; simp
  | _, x :: o, [], _ => by rw [emerge_nil2]; simp
  | 0, x :: o, y :: f, h => by simp at h
  | n + 1, x :: o, y :: f, h => by
    simp only [List.length_cons] at h
    have h1 := emerge_len n o (y :: f) (by simp only [List.length_cons]; omega)
    have h2 := emerge_len n o f (by omega)
    have h3 := emerge_len n (x :: o) f (by simp only [List.length_cons]; omega)
    simp only [List.length_cons] at h1 h3
    rw [emerge_cons]
    split
    · simp only [List.length_cons]; omega
    · split <;> simp only [List.length_cons] <;> omega
theorem EsB.of {w : World} {a : Option Addr} {l : List Ent} {n : Nat} (h : Ents w a l) (hn : w.heap.size ≤ n) : EsB n w a l := by
  refine ⟨h, fun hne => ?_⟩
  obtain ⟨b, off, e, hat⟩ := h.at_ hne
  refine ⟨b, off, e, Nat.lt_of_lt_of_le ?_ hn⟩
  match l, hne with
  | x :: l, _ => exact lt_of_cell (hat 0 x rfl).key
theorem EsB.bl {B : Nat} {w W : World} {a : Option Addr} {l : List Ent} (h : EsB B w a l) (k : Bl w W) : EsB B W a l := ⟨h.e.bl k, h.k⟩
/-- From one world to the next of a round. -/
structure StepE (n : Nat) (A B : World) : Prop where
  keeps : KeepsOthers A B
  kept : KeptE n A B
  below : Below n A B
theorem StepE.refl (n : Nat) (A : World) : StepE n A A := ⟨KeepsOthers.refl _, KeptE.refl _ _, Below.refl _ _⟩
theorem StepE.set {n : Nat} {A B : World} (h : StepE n A B) (u : Value) : StepE n A (B.setCell ⟨n, 0, none⟩ u) :=
  ⟨h.keeps.trans (KeepsOthers.setCell _ _ _), h.kept.trans ⟨by simp [World.setCell], fun k hk => Below.heap_setCell _ _ _ _ (by simp only; omega)⟩, h.below.setCell (p := ⟨n, 0, none⟩) (Nat.le_refl _) u⟩
theorem StepE.new {n : Nat} {A B : World} (h : StepE n A B) (hm : n + 3 ≤ A.heap.size) (o : Obj) : StepE n A (B.alloc o) :=
  ⟨h.keeps.trans (KeepsOthers.alloc _ _), h.kept.trans ⟨by simp, fun k hk => Below.heap_alloc _ _ _ (by have := h.kept.1; omega)⟩, h.below.alloc (by have := h.below.size; omega) o⟩
theorem StepE.app {n : Nat} {A B C : World} (h : StepE n A B) (hm : n + 3 ≤ A.heap.size) {e : TypeId} {size : Nat} {v : Value} {k : Nat} {xs : List Value} (hr : B.ownsRow (n + 3) e size v k xs) (hg : B.grownBy C v.ownBlock) : StepE n A C := by
  have hm' := Nat.le_trans hm h.kept.1
  refine ⟨h.keeps.trans (KeepsOthers.of_grownBy hg fun j o ej hj => ?_), h.kept.trans ⟨hg.size, fun q hq => hg.block q (by omega) (fun e' => ?_)⟩, h.below.grown hg (by omega) fun q eq => by have := own_block hr q eq; omega⟩
  · rcases hr.2 with ⟨rfl, _⟩ | ⟨g, cap, cur, rfl, _, hgb, _⟩
    · simp [Value.ownBlock] at ej
    · obtain rfl : g = j := by simpa [Value.ownBlock] using ej
      rw [hgb] at hj; cases hj; rfl
  · have h1 := own_block hr q e'.symm
    omega
theorem ebxR {A C : World} {B base : Nat} {t e : TypeId} {size k : Nat} {u v : Value} {xs : List Value} (h : Boxed A B t u) (hr : A.ownsRow base e size v k xs) (hlt : B < base) (hg : A.grownBy C v.ownBlock) : Boxed C B t u :=
  ebxK h hg (fun eq => by have := own_block hr B eq; omega)
set_option maxHeartbeats 8000000 in
theorem overMain (a b : Option Addr) (c d : Nat) (o f : List Ent) (w : World) (ho : Ents w a o) (hf : Ents w b f) (hn : o.length ≤ maxLen) (hn2 : f.length ≤ maxLen) (hco : o.length ≤ c) (hcf : f.length ≤ d) (h1 : (clchk o).2 = 0) (h2 : (clchk f).2 = 0) :
    CallsIn Fence.wide 4 Tryd.prog 26 #[.slice a o.length c, .slice b f.length d] w (RM w (OutE w.heap.size (eover o f))) := by
  obtain ⟨i0, hi0, hz0, hz1, hz2⟩ := info_parts inf_ent
  have hCo := fun w h => entCheckList a c o w h hn
  have hCf := fun w h => entCheckList b d f w h hn2
  have ho5 := ((clchk_ok o).1 h1).1
  have hf5 := ((clchk_ok f).1 h2).1
  have hres : eover o f = if 5000 < (emerge o f).length then ([], 3) else (emerge o f, 0) := by
    unfold eover; rw [if_neg (by simp [h1]), if_neg (by simp [h2])]
  have HEo := Lib.hid ho
  have HEf := Lib.hid hf
  obtain ⟨⟨n1, q1⟩, hp1⟩ : ∃ p, clchk o = p := ⟨_, rfl⟩
  obtain ⟨⟨n2, q2⟩, hp2⟩ : ∃ p, clchk f = p := ⟨_, rfl⟩
  rw [hp1] at hCo h1
  rw [hp2] at hCf h2
  simp only at h1 h2
  subst h1 h2
  have HCo := Lib.hid hCo
  have HCf := Lib.hid hCf
  have HRes := Lib.hid hres
  have HMg := Lib.hid (fun w => entMerged (.slice a o.length c) (.slice b f.length d) ⟨_, _, _, rfl⟩ ⟨_, _, _, rfl⟩ w)
  clear ho hf hCo hCf hp1 hp2 hres
  refine callsIn_of_wp_marks Tryd.func26 rfl trivial ?_ rfl
  simp only [Tryd.ntmps26, List.size_toArray, List.length_cons, List.length_nil, Nat.reduceAdd, Nat.reduceSub, Array.replicate_succ, Array.replicate_zero, List.push_toArray, List.append_toArray, List.nil_append, List.cons_append]
  have hn1 : 1 ≤ 4 := by omega
  have hL := fun W (h : Bl (w.alloc (.cells #[.slice a o.length c, .slice b f.length d] 33)) W) => (show W.cell? ⟨w.heap.size, 0, none⟩ = some (.slice a o.length c) ∧ W.cell? ⟨w.heap.size, 1, none⟩ = some (.slice b f.length d) from ⟨h.cell (by simp [go_sem]), h.cell (by simp [go_sem])⟩)
  refine wpIn_wide.2 ?_
  go_wp2_with fail
  refine wp_loop_rounds 3 ?_
  rw [rounds_succ]
  go_wp2_with fail
  refine (HCo.out _ (HEo.out.bl ((Bl.refl _).alloc _))).mono ?_; rintro e w1 ⟨rfl, hb1⟩
  have k1 : w1.cell? ⟨w.heap.size, 1, none⟩ = some (.slice b f.length d) := hb1.cell (by simp [go_sem])
  go_wp2_with fail
  rw [rounds_succ]
  go_wp2_with fail
  have hb1 := ((Bl.refl w).alloc _).trans hb1
  refine (HCf.out _ (HEf.out.bl hb1)).mono ?_; rintro e w2 ⟨rfl, hb2⟩
  have hb2 := hb1.trans hb2
  clear k1 hb1
  go_wp2_with fail
  rw [rounds_succ]
  go_wp2_with fail
  refine (HMg.out _).mono ?_; rintro e w3 ⟨rfl, hw3⟩
  go_wp2_with fail
  obtain ⟨n, hnn⟩ : ∃ n, w2.heap.size = n := ⟨_, rfl⟩
  obtain ⟨w5, hw5⟩ : ∃ z, ((w2.alloc (.cells #[.slice none 0 0] 33)).alloc (.cells #[.slice a o.length c] 33)).alloc (.cells #[.slice b f.length d] 33) = z := ⟨_, rfl⟩
  have b0 : Boxed w5 n 33 (.slice none 0 0) := hw5 ▸ boxed_bl (boxed_bl (ebxN hnn) ((Bl.refl _).alloc _)) ((Bl.refl _).alloc _)
  have b1 : Boxed w5 (n + 1) 33 (.slice a o.length c) := hw5 ▸ boxed_bl (ebxN (by simp; omega)) ((Bl.refl _).alloc _)
  have b2 : Boxed w5 (n + 2) 33 (.slice b f.length d) := hw5 ▸ ebxN (by simp; omega)
  have hb5 : Bl w2 w5 := hw5 ▸ (((Bl.refl _).alloc _).alloc _).alloc _
  have hs5 : w5.heap.size = n + 3 := by rw [← hw5]; simp; omega
  have HEo5 := Lib.hid (EsB.bl (EsB.of (HEo.out.bl hb2) (Nat.le_of_eq hnn)) hb5)
  have HEf5 := Lib.hid (EsB.bl (EsB.of (HEf.out.bl hb2) (Nat.le_of_eq hnn)) hb5)
  have hB2 := Lib.hid hb2
  have hlen := emerge_len _ o f (Nat.le_refl _)
  rw [hw5]
  simp only [hnn, Nat.add_assoc, Nat.reduceAdd]
  clear hw5 hw3 hb2
  refine (wpIn_wide (n := 4)).1 ?_
  refine wpIn_range_m hn1 (gf := 65) (lb := #[.pointer (some ⟨n + 1, 0, none⟩), .pointer (some ⟨n + 2, 0, none⟩)]) rfl (enters_of Tryd.func65 (by kernel_rfl) rfl)
    (encs := fun (x : Ent) => #[Ent.v x]) (Kp := KeptE n) (whole := emerge o f) (fun k => k = n + 1 ∨ k = n + 2) (by intro k hk; omega) ?seq (fun h k => KeptE.trans h k) ?kb (fun _ => rfl)
    (OI w2 n) (fun _ _ => False) (hs5 ▸ OI.stands w2 n hnn) (fun _ _ _ _ h _ _ => h) ⟨⟨_, b0, by simpa [entCells] using own_nil _ _ _ _⟩, by rw [← hnn]; exact hb5, Nat.le_of_eq hs5.symm⟩
    (fun x a' W => ∃ Bx, n + 3 ≤ Bx ∧ Four W Bx x ∧ a' = { tmps := #[.slice a o.length c, .slice b f.length d, undef, undef, .slice none 0 0, .int .i64 0, undef, .slice b f.length d, .int .i64 n2, .int .i64 0, .pointer (some ⟨n, 0, none⟩), .pointer (some ⟨Bx, 0, none⟩), .slice a o.length c, .slice b f.length d, .slice (some ⟨w.heap.size, 0, none⟩) 2 2, .int .i64 2, .int .i64 2, .bool false, .pointer (some ⟨w.heap.size, 1, none⟩), .slice b f.length d, .tuple #[.int .i64 n2, .int .i64 0], .slice b f.length d, .tuple #[.int .i64 n2, .int .i64 0], .int .i64 n2, .int .i64 0, .int .i64 0, .bool false, undef, .int .i64 2, .slice a o.length c, .slice b f.length d, .func (.func 65) #[] #[.pointer (some ⟨n + 1, 0, none⟩), .pointer (some ⟨n + 2, 0, none⟩)], Ent.v x, undef, undef, undef, undef, undef, undef, undef, undef], defers := [] })
    ?ax ?assign ?body ?done ?stop
  case seq =>
    intro l J Jx W hb hJ hY h0
    have hbl : Bl w5 W := hb
    exact merged1 3 (by omega) l n o f a b c d J Jx hJ hY W ⟨h0, rfl, boxed_bl b1 hbl, boxed_bl b2 hbl, HEo5.out.bl hbl, HEf5.out.bl hbl, hco, hcf, ho5, hf5⟩
  case kb =>
    intro W l o o' hl hW ho
    exact ⟨by simp [World.putObj], fun k hk => World.putObj_heap_other (by omega)⟩
  case ax =>
    intro x a' pre A B row h hg hr
    obtain ⟨Bx, hB, h2, e⟩ := h
    refine ⟨Bx, hB, (hg.block Bx (Array.getElem?_eq_some_iff.1 h2).1 ?_).trans h2, e⟩
    intro e
    rcases hr Bx e.symm with (e | e) | ⟨_, o, ho, hc⟩
    · omega
    · omega
    · rw [show A.heap[Bx]? = _ from h2] at ho; cases ho; cases hc
  case assign =>
    rintro y pre x W K hi hK
    have hsz := hi.size
    simp only [Ent.v]
    gi_wp2
    exact hK _ _ ((KeepsOthers.alloc _ _).from _) ((StepE.refl n W).new (by omega) _).kept ((OI.stands w2 n hnn).new _ hi) ⟨W.heap.size, by omega, Four.new _ _, rfl⟩
  case body =>
    rintro l pre x a' W - hi ⟨Bx, hBx, h4, rfl⟩ hpre
    obtain ⟨v, hv, hrow⟩ := hi.row
    have hsz := hi.size
    obtain ⟨oa, oc, rfl, -⟩ := own_form hrow
    have vc := hv.cell
    have vf := hv.frozen
    obtain ⟨x0, x1, x2, x3⟩ := h4.at_
    have hplen : pre.length ≤ 10000 := by
      have := hpre.length_le
      simp at this; omega
    have hS0 := StepE.refl n W
    have HI := Lib.hid (And.intro hi hv)
    clear hi hpre h4 hv
    gi_wp2_with (gi_at_builtin; refine wpListIn_append_own _ rfl _ _ 33 rfl (n + 3) 23 i0 (.agg #[.string ⟨#[]⟩, .string ⟨#[]⟩, .bool false, .int .i64 0]) 4 48 Tryd.underlying33 hi0 hz0 hz1 hz2 rfl (by decide) _ _ _ rfl (World.ownsRow.alloc hrow _) ⟨W.heap.size, 0, none⟩ 1 1 [.string x.key, .string x.val, .bool x.dead, .int .i64 x.seq] rfl rfl ?c1 ?c2 ?c3 ?c4 ?c5 ?_)
    case c1 => exact multi_new _ _ _
    case c2 => intro u hu; simp at hu; rcases hu with rfl | rfl | rfl | rfl <;> rfl
    case c3 => unfold maxLen; omega
    case c4 => omega
    case c5 => simp; omega
    intro v' w9 hown' hg3 _
    obtain ⟨ob, oc', rfl, -⟩ := own_form hown'
    have k2 := ebxR (boxed_bl HI.out.2 ((Bl.refl _).alloc _)) (World.ownsRow.alloc hrow _) (by omega) hg3
    have hS3 := ((hS0.new hsz _).app hsz (World.ownsRow.alloc hrow _) hg3)
    have vc3 := k2.cell
    have vf3 := k2.frozen
    have HS := Lib.hid (And.intro hS3 (And.intro k2 hown'))
    clear hS3 k2 hown' hg3 vc vf x0 x1 x2 x3 hrow hS0
    gi_wp2
    obtain ⟨hS3, k2, hown'⟩ := HS.out
    have hS4 := hS3.set (.slice ob (pre.length + 1) oc')
    refine ⟨hS4.keeps.from _, hS4.kept, ⟨⟨_, Boxed.set _ k2, ?_⟩, HI.out.1.below.trans hS4.below, Nat.le_trans hsz hS4.kept.1⟩⟩
    exact own_cast (own_set hown' ⟨n, 0, none⟩ (by simp) _) (by simp) (by rw [entCells_snoc])
  case done =>
    rintro D W rfl hi hK
    rw [hs5] at hK ⊢
    have hre := HRes.out
    obtain ⟨R, hR⟩ : ∃ R, emerge o f = R := ⟨_, rfl⟩
    rw [hR] at hi hre hlen
    obtain ⟨v, hv, hrow⟩ := hi.row
    obtain ⟨oa, oc, rfl, -⟩ := own_form hrow
    have vc := hv.cell
    have hbw : Bl w2 W := by have := hi.below; rw [← hnn] at this; exact this
    have HOw := Lib.hid (own_base (ownsRow_putObj hrow (.deferred none) hK rfl) (show w.heap.size ≤ n + 3 by have := hB2.out.size; omega))
    have HRe := Lib.hid hre
    have hR5 : R.length ≤ 10000 := by omega
    by_cases h5 : 5000 < R.length
    · have HR5 := Lib.hid (hre.trans (if_pos h5))
      have i1 : (5000 : Int) < (R.length : Int) := by omega
      clear hre hrow hi hR hlen
      go_wp2_with fail
      refine ⟨by simp, .inl ⟨_, _, rfl, run_takeDeferred hK, ?_⟩⟩
      refine ⟨.tuple #[.slice none 0 0, .int .i64 3], by simp [results, Tryd.results26, go_sem], ?_⟩
      refine RM.mk (by rw [HR5.out]; exact OutE.nil 3) ?_
      show Below w.heap.size w _
      exact Below.trans (hB2.out.trans hbw) (belowK_b (w := w) (Nat.le_refl _) W (n + 3) _ _ (by have := hB2.out.size; omega) hK rfl rfl)
    · have HR5 := Lib.hid (hre.trans (if_neg h5))
      have i1 : ¬ (5000 : Int) < (R.length : Int) := by omega
      clear hre hrow hi hR hlen
      go_wp2_with fail
      refine ⟨by simp, .inl ⟨_, _, rfl, run_takeDeferred hK, ?_⟩⟩
      refine ⟨.tuple #[.slice oa R.length oc, .int .i64 0], by simp [results, Tryd.results26, go_sem], ?_⟩
      refine RM.mk (by rw [HR5.out]; exact ⟨_, rfl, ownE_of HOw.out⟩) ?_
      show Below w.heap.size w _
      exact Below.trans (hB2.out.trans hbw) (belowK_b (w := w) (Nat.le_refl _) W (n + 3) _ _ (by have := hB2.out.size; omega) hK rfl rfl)
  case stop =>
    rintro D pre W rfl hpre hi hK
    exact hi.elim
set_option maxHeartbeats 4000000 in
theorem entOver (a b : Option Addr) (c d : Nat) (o f : List Ent) (w : World) (ho : Ents w a o) (hf : Ents w b f) (hn : o.length ≤ maxLen) (hn2 : f.length ≤ maxLen) (hco : o.length ≤ c) (hcf : f.length ≤ d) :
    Calls Tryd.prog 26 #[.slice a o.length c, .slice b f.length d] w (RM w (OutE w.heap.size (eover o f))) := by
  by_cases h1 : (clchk o).2 = 0
  · by_cases h2 : (clchk f).2 = 0
    · exact callsIn_wide.1 (overMain a b c d o f w ho hf hn hn2 hco hcf h1 h2)
    · have hres : eover o f = ([], (clchk f).2) := by unfold eover; rw [if_neg (by simp [h1]), if_pos h2]
      rw [hres]
      have hCo := fun w h => entCheckList a c o w h hn
      have hCf := fun w h => entCheckList b d f w h hn2
      have HEo := Lib.hid ho
      have HEf := Lib.hid hf
      obtain ⟨⟨n1, q1⟩, hp1⟩ : ∃ p, clchk o = p := ⟨_, rfl⟩
      obtain ⟨⟨n2, q2⟩, hp2⟩ : ∃ p, clchk f = p := ⟨_, rfl⟩
      rw [hp1] at hCo h1
      rw [hp2] at hCf h2 ⊢
      simp only at h1 h2
      subst h1
      have e1 : (q2 != 0) = true := by rw [bne_iff_ne]; exact h2
      have HCo := Lib.hid hCo
      have HCf := Lib.hid hCf
      clear ho hf hCo hCf hp1 hp2 hres h2
      go_enter Tryd.func26, Tryd.ntmps26
      go_wp2_with fail
      refine wp_loop_rounds 3 ?_
      rw [rounds_succ]
      go_wp2_with fail
      refine (HCo.out _ (HEo.out.bl ((Bl.refl _).alloc _))).mono ?_; rintro e w1 ⟨rfl, hb1⟩
      have k1 : w1.cell? ⟨w.heap.size, 1, none⟩ = some (.slice b f.length d) := hb1.cell (by simp [go_sem])
      go_wp2_with fail
      rw [rounds_succ]
      go_wp2_with fail
      have hb1 := ((Bl.refl w).alloc _).trans hb1
      refine (HCf.out _ (HEf.out.bl hb1)).mono ?_; rintro e w2 ⟨rfl, hb2⟩
      have hb2 := hb1.trans hb2
      clear k1 hb1
      go_wp2_with fail
      go_ret2
      exact RM.mk (OutE.nil q2) hb2
  · have hres : eover o f = ([], (clchk o).2) := by unfold eover; rw [if_pos h1]
    rw [hres]
    have hCo := fun w h => entCheckList a c o w h hn
    have HEo := Lib.hid ho
    obtain ⟨⟨n1, q1⟩, hp1⟩ : ∃ p, clchk o = p := ⟨_, rfl⟩
    rw [hp1] at hCo h1 ⊢
    simp only at h1
    have e1 : (q1 != 0) = true := by rw [bne_iff_ne]; exact h1
    have HCo := Lib.hid hCo
    clear ho hf hCo hp1 hres h1
    go_enter Tryd.func26, Tryd.ntmps26
    go_wp2_with fail
    refine wp_loop_rounds 3 ?_
    rw [rounds_succ]
    go_wp2_with fail
    refine (HCo.out _ (HEo.out.bl ((Bl.refl _).alloc _))).mono ?_; rintro e w1 ⟨rfl, hb1⟩
    go_wp2_with fail
    go_ret2
    exact RM.mk (OutE.nil q1) (((Bl.refl w).alloc _).trans hb1)
end Go.Proofs.YtbdiiopmjaeaaaaDoor

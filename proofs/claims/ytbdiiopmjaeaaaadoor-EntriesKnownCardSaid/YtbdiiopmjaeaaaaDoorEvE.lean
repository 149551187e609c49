
/-
  The program's own iterator: two ascending lists as one.
-/
import Derived.Test.YtbdiiopmjaeaaaaDoorEvC
import Derived.Test.YtbdiiopmjaeaaaaDoorRgm
import Derived.Test.YtbdiiopmjaeaaaaDoorMem
import Derived.Shelf.Abstract
import Derived.Shelf.RegionOpen
import Derived.OwnWalkIn
import Derived.TacticsInMore
import Derived.LoopNIn
import Derived.LoopIn
namespace Go.Proofs.YtbdiiopmjaeaaaaDoor
open Go.RowKit Go.Shelf
set_option linter.unusedSimpArgs false
set_option linter.unusedVariables false
set_option maxRecDepth 100000
attribute [local go_sem] Oper.semAt_some

/-! ### What a round keeps -/
/-- What lies below B, and the two boxes behind B, lie as they lay; no block has gone. -/
def KeptE (B : Nat) (A W : World) : Prop := A.heap.size ≤ W.heap.size ∧ ∀ k, k < B ∨ k = B + 1 ∨ k = B + 2 → W.heap[k]? = A.heap[k]?
theorem KeptE.refl (B : Nat) (A : World) : KeptE B A A := ⟨Nat.le_refl _, fun _ _ => rfl⟩
theorem KeptE.trans {B : Nat} {A C D : World} (h : KeptE B A C) (k : KeptE B C D) : KeptE B A D := ⟨Nat.le_trans h.1 k.1, fun i hi => (k.2 i hi).trans (h.2 i hi)⟩
/-- All but the two boxes lies as it lay. -/
structure Chg (B : Nat) (A W : World) : Prop where
  os : W.os = A.os
  tape : W.tape = A.tape
  output : W.output = A.output
  size : A.heap.size ≤ W.heap.size
  block : ∀ k, k < A.heap.size → k ≠ B + 1 → k ≠ B + 2 → W.heap[k]? = A.heap[k]?
theorem Chg.of_bl {B : Nat} {A W : World} (h : Bl A W) : Chg B A W := ⟨h.os, h.tape, h.output, h.size, fun k hk _ _ => h.block k hk⟩
theorem Chg.set {B : Nat} {A W : World} (h : Chg B A W) (i : Nat) (hi : i = B + 1 ∨ i = B + 2) (u : Value) : Chg B A (W.setCell ⟨i, 0, none⟩ u) :=
  ⟨h.os, h.tape, h.output, by simpa [World.setCell] using h.size, fun k hk h1 h2 => (Below.heap_setCell W ⟨i, 0, none⟩ u k (by simp only; omega)).trans (h.block k hk h1 h2)⟩
theorem Chg.new {B : Nat} {A W : World} (h : Chg B A W) (p : Addr) (hp : A.heap.size ≤ p.block) (u : Value) : Chg B A (W.setCell p u) :=
  ⟨h.os, h.tape, h.output, by simpa [World.setCell] using h.size, fun k hk h1 h2 => (Below.heap_setCell W p u k (by omega)).trans (h.block k hk h1 h2)⟩
theorem Chg.drew {B : Nat} {A W : World} (h : Chg B A W) : Chg B A W.drew := ⟨h.os, h.tape, h.output, h.size, h.block⟩
theorem Chg.bl {B : Nat} {A W D : World} (h : Chg B A W) (k : Bl W D) : Chg B A D :=
  ⟨k.os.trans h.os, k.tape.trans h.tape, k.output.trans h.output, Nat.le_trans h.size k.size, fun i hi h1 h2 => (k.block i (Nat.lt_of_lt_of_le hi h.size)).trans (h.block i hi h1 h2)⟩
def AbE (B : Nat) (J : List Ent → World → Prop) : Prop := ∀ pre A W row, J pre A → A.grownBy W row → (∀ r, row = some r → r = B + 1 ∨ r = B + 2) → J pre W
theorem AbE.chg {B : Nat} {J : List Ent → World → Prop} (hJ : AbE B J) {pre : List Ent} {A W : World} (h : J pre A) (c : Chg B A W) (h2 : B + 2 < A.heap.size) : J pre W := by
  have hw : B + 1 < W.heap.size := by have := c.size; omega
  obtain ⟨A', hA'⟩ : ∃ A' : World, A' = { A with heap := A.heap.setIfInBounds (B + 1) (W.heap[B + 1]) } := ⟨_, rfl⟩
  have hs : A'.heap.size = A.heap.size := by rw [hA']; simp
  have e1 : A'.heap[B + 1]? = W.heap[B + 1]? := by
    rw [hA']; simp [Array.getElem?_setIfInBounds, show B + 1 < A.heap.size by omega]
  have e2 : ∀ k, k ≠ B + 1 → A'.heap[k]? = A.heap[k]? := fun k hk => by
    rw [hA']; simp [Array.getElem?_setIfInBounds, Ne.symm hk]
  have g1 : A.grownBy A' (some (B + 1)) := ⟨by rw [hA'], by rw [hA'], by rw [hA'], by rw [hs]; exact Nat.le_refl _, fun k _ hk => e2 k (fun e => hk (by rw [e]))⟩
  have g2 : A'.grownBy W (some (B + 2)) := ⟨by rw [c.os, hA'], by rw [c.tape, hA'], by rw [c.output, hA'], by rw [hs]; exact c.size, fun k hk hne => by
    by_cases h1 : k = B + 1
    · subst h1; exact e1.symm
    · rw [e2 k h1]; exact c.block k (by rw [hs] at hk; exact hk) h1 (fun e => hne (by rw [e]))⟩
  exact hJ _ _ _ _ (hJ _ _ _ _ h g1 (fun r e => by cases e; exact .inl rfl)) g2 (fun r e => by cases e; exact .inr rfl)
/-- Entries whose row lies below B. -/
structure EsB (B : Nat) (w : World) (a : Option Addr) (l : List Ent) : Prop where
  e : Ents w a l
  k : l ≠ [] → ∃ b off, a = some ⟨b, off, none⟩ ∧ b < B
theorem EsB.kept {B : Nat} {A W : World} {a : Option Addr} {l : List Ent} (h : EsB B A a l) (k : ∀ i, i < B → W.heap[i]? = A.heap[i]?) : EsB B W a l := by
  refine ⟨⟨h.e.ok, fun hn => ?_⟩, h.k⟩
  obtain ⟨b, off, e, hat⟩ := h.e.at_ hn
  obtain ⟨b', off', e', hb⟩ := h.k hn
  rw [e] at e'
  injection e' with e'; injection e' with e1 e2
  subst e1
  have key : ∀ j, W.cell? ⟨b, j, none⟩ = A.cell? ⟨b, j, none⟩ := fun j => World.cell?_of_block (w := A) (a := ⟨b, j, none⟩) (k b hb)
  exact ⟨b, off, e, fun i x hx => let t := hat i x hx; ⟨(key _).trans t.1, (key _).trans t.2, (key _).trans t.3, (key _).trans t.4⟩⟩
theorem EsB.one {B : Nat} {w : World} {a : Option Addr} {x : Ent} {l : List Ent} (h : EsB B w a (x :: l)) : ∃ b off, a = some ⟨b, off, none⟩ ∧ b < B ∧ EntAt w b off x ∧ EsB B w (some ⟨b, off + 4, none⟩) l := by
  obtain ⟨b, off, e, hat⟩ := h.e.at_ (by simp)
  obtain ⟨b', off', e', hb⟩ := h.k (by simp)
  rw [e] at e'
  injection e' with e'; injection e' with e1 e2
  subst e1
  refine ⟨b, off, e, hb, by simpa using hat 0 x rfl, ⟨fun y hy => h.e.ok y (by simp [hy]), fun _ => ⟨b, off + 4, rfl, fun i y hy => ?_⟩⟩, fun _ => ⟨b, off + 4, rfl, hb⟩⟩
  have := hat (i + 1) y (by simpa using hy)
  rwa [show off + (i + 1) * 4 = off + 4 + i * 4 by omega] at this
theorem EsB.nil (B : Nat) (w : World) (a : Option Addr) : EsB B w a [] := ⟨⟨by simp, fun h => absurd rfl h⟩, fun h => absurd rfl h⟩
def boxLen (w : World) (B : Nat) : Nat := match w.cell? ⟨B, 0, none⟩ with
  | some (.slice _ n _) => n
  | _ => 0
theorem boxLen_of {w : World} {B : Nat} {t : TypeId} {a : Option Addr} {n c : Nat} (h : Boxed w B t (.slice a n c)) : boxLen w B = n := by unfold boxLen; rw [h.cell]
/-- What holds between the rounds. -/
structure MI (B : Nat) (J : List Ent → World → Prop) (whole pre O F : List Ent) (aO aF : Option Addr) (cO cF : Nat) (w : World) : Prop where
  j : J pre w
  all : pre ++ emerge O F = whole
  bo : Boxed w (B + 1) 33 (.slice aO O.length cO)
  bf : Boxed w (B + 2) 33 (.slice aF F.length cF)
  eo : EsB B w aO O
  ef : EsB B w aF F
  co : O.length ≤ cO
  cf : F.length ≤ cF
  lo : O.length ≤ 5000
  lf : F.length ≤ 5000
theorem boxed_bl {W W' : World} {B : Nat} {t : TypeId} {v : Value} (h : Boxed W B t v) (k : Bl W W') : Boxed W' B t v := (k.block B h.lt).trans h
theorem MI.low {B : Nat} {J : List Ent → World → Prop} {whole pre O F : List Ent} {aO aF : Option Addr} {cO cF : Nat} {w : World} (h : MI B J whole pre O F aO aF cO cF w) : B + 2 < w.heap.size := h.bf.lt
/-- The whole of a step, by what has turned: the next state ahead of the call. -/
theorem MI.go {B : Nat} {J : List Ent → World → Prop} {whole pre O F : List Ent} {aO aF : Option Addr} {cO cF : Nat} {w W : World} {x : Ent} {O' F' : List Ent} {aO' aF' : Option Addr} {cO' cF' : Nat}
    (h : MI B J whole pre O F aO aF cO cF w) (hJ : AbE B J) (c : Chg B w W) (he : emerge O F = x :: emerge O' F') (bo : Boxed W (B + 1) 33 (.slice aO' O'.length cO')) (bf : Boxed W (B + 2) 33 (.slice aF' F'.length cF'))
    (eo : EsB B w aO' O') (ef : EsB B w aF' F') (hO : O'.length ≤ O.length) (hF : F'.length ≤ F.length) (co : O'.length ≤ cO') (cf : F'.length ≤ cF') :
    J pre W ∧ pre ++ [x] <+: whole ∧ ∀ W9, J (pre ++ [x]) W9 → KeptE B W W9 → MI B J whole (pre ++ [x]) O' F' aO' aF' cO' cF' W9 := by
  have hl := h.low
  have hlow : ∀ i, i < B → W.heap[i]? = w.heap[i]? := fun i hi => c.block i (by omega) (by omega) (by omega)
  refine ⟨hJ.chg h.j c hl, ⟨emerge O' F', by rw [← h.all, he]; simp⟩, fun W9 h9 k9 => ?_⟩
  refine ⟨h9, by rw [← h.all, he]; simp, (k9.2 _ (.inr (.inl rfl))).trans bo, (k9.2 _ (.inr (.inr rfl))).trans bf, (eo.kept hlow).kept (fun i hi => k9.2 i (.inl hi)), (ef.kept hlow).kept (fun i hi => k9.2 i (.inl hi)), co, cf, ?_, ?_⟩
  · have := h.lo; omega
  · have := h.lf; omega
/-- The rest of a row, as the program cuts it. -/
theorem EsB.cut {B : Nat} {w : World} {b off c n : Nat} {l : List Ent} (h : EsB B w (some ⟨b, off + 4, none⟩) l) (hn : l.length = n) (hc : n + 1 ≤ c) : EsB B w (if c = 1 then some ⟨b, off, none⟩ else some ⟨b, off + 4, none⟩) l := by
  split
  · have : l = [] := List.length_eq_zero_iff.1 (by omega)
    subst this; exact .nil _ _ _
  · exact h
/-! ### The walk -/
theorem emerge_lt {x y : Ent} {O F : List Ent} (h : slt x.key y.key = true) : emerge (x :: O) (y :: F) = x :: emerge O (y :: F) := by rw [emerge_cons, if_pos h]
theorem emerge_eq {x y : Ent} {O F : List Ent} (h : x.key = y.key) : emerge (x :: O) (y :: F) = y :: emerge O F := by
  rw [emerge_cons, if_neg (by rw [h, slt_irrefl]; simp), if_pos h]
theorem emerge_gt {x y : Ent} {O F : List Ent} (h : slt x.key y.key = false) (k : ¬ x.key = y.key) : emerge (x :: O) (y :: F) = y :: emerge (x :: O) F := by rw [emerge_cons, if_neg (by rw [h]; simp), if_neg k]
theorem entAt_chg {B b o : Nat} {A W : World} {x : Ent} (h : EntAt A b o x) (c : Chg B A W) (hb : b < B) (hl : B + 2 < A.heap.size) : EntAt W b o x := by
  have key : ∀ j, W.cell? ⟨b, j, none⟩ = A.cell? ⟨b, j, none⟩ := fun j => World.cell?_of_block (w := A) (a := ⟨b, j, none⟩) (c.block b (by omega) (by omega) (by omega))
  exact ⟨(key _).trans h.1, (key _).trans h.2, (key _).trans h.3, (key _).trans h.4⟩
theorem boxed_off {W : World} {B : Nat} {t : TypeId} {v : Value} (h : Boxed W B t v) {p : Addr} (hp : B ≠ p.block) (u : Value) : Boxed (W.setCell p u) B t v := (Below.heap_setCell W p u B hp).trans h
theorem boxed_off4 {W : World} {B : Nat} {t : TypeId} {v : Value} (h : Boxed W B t v) {g : Nat} (hp : B ≠ g) (x : Ent) : Boxed (set4 W g x) B t v := boxed_off (boxed_off (boxed_off (boxed_off h hp _) hp _) hp _) hp _
theorem Chg.set4 {B : Nat} {A W : World} (h : Chg B A W) (g : Nat) (hg : A.heap.size ≤ g) (x : Ent) : Chg B A (Go.Proofs.YtbdiiopmjaeaaaaDoor.set4 W g x) := (((h.new _ hg _).new _ hg _).new _ hg _).new _ hg _
theorem boxed_drew {W : World} {B : Nat} {t : TypeId} {v : Value} (h : Boxed W B t v) : Boxed W.drew B t v := h
set_option maxHeartbeats 8000000 in
theorem merged1 (n : Nat) (hn : 2 ≤ n) (y B : Nat) (o f : List Ent) (ao af : Option Addr) (co cf : Nat) (J Jx : List Ent → World → Prop) (hJ : AbE B J)
    (hY : ∀ pre x W, J pre W → pre ++ [x] <+: emerge o f → YieldAt Fence.wide (n - 1) Tryd.prog y #[Ent.v x] W fun e W' =>
      (e = .returned (.bool true) ∧ J (pre ++ [x]) W' ∧ KeptE B W W') ∨ (e = .returned (.bool false) ∧ Jx (pre ++ [x]) W'))
    (W : World) (h0 : MI B J (emerge o f) [] o f ao af co cf W) :
    CallsIn Fence.wide n Tryd.prog 65 #[.func (.yield y) #[] #[], .pointer (some ⟨B + 1, 0, none⟩), .pointer (some ⟨B + 2, 0, none⟩)] W fun e W' => (∃ v, e = .returned v) ∧
      ((∃ ys, ys = emerge o f ∧ J ys W') ∨ (∃ pre, pre <+: emerge o f ∧ Jx pre W')) := by
  refine callsIn_of_wp Tryd.func65 rfl trivial ?_ rfl
  simp only [Tryd.ntmps65, List.size_toArray, List.length_cons, List.length_nil, Nat.reduceAdd, Nat.reduceSub, Array.replicate_succ, Array.replicate_zero, List.push_toArray, List.append_toArray, List.nil_append, List.cons_append]
  have hn1 : 1 ≤ n := by omega
  have hn2 : 1 ≤ n - 1 := by omega
  have hmix : Tryd.prog.follows .mixedOrders = true := by kernel_rfl
  have HY := Lib.hid hY
  have HJ := Lib.hid hJ
  have H0 := Lib.hid h0
  clear hY hJ h0
  gi_wp2
  gi_loopw [4] (fun v wr => ∃ pre O F aO aF cO cF, MI B J (emerge o f) pre O F aO aF cO cF wr) (fun _ wr => boxLen wr (B + 1) + boxLen wr (B + 2))
  case atStart => exact ⟨[], o, f, ao, af, co, cf, H0.out⟩
  case round =>
    clear H0
    obtain ⟨pre, O, F, aO, aF, cO, cF, H⟩ := hrel
    have c1 := H.bo.cell
    have c2 := H.bf.cell
    have l1 := boxLen_of H.bo
    have l2 := boxLen_of H.bf
    have lo := H.lo
    have lf := H.lf
    have hlow := H.low
    have HM := Lib.hid H
    have HLen := Lib.hid (And.intro l1 l2)
    obtain ⟨wa, hwa⟩ : ∃ z, wr.alloc (.cells #[.string ⟨#[]⟩, .string ⟨#[]⟩, .bool false, .int .i64 0] 23) = z := ⟨_, rfl⟩
    have hba : Bl wr wa := hwa ▸ (Bl.refl _).alloc _
    have hV : Mem wa (VE wr.heap.size eNil) := by rw [← hwa]; exact Mem.new4 wr eNil _
    have HV := Lib.hid hV
    have HBa := Lib.hid hba
    clear H l1 l2 hV hba
    cases O with
    | nil =>
      cases F with
      | nil =>
        simp only [List.length_nil] at c1 c2
        clear lo lf
        gi_wp2
        go_end0
        refine ⟨⟨_, rfl⟩, .inl ⟨_, rfl, ?_⟩⟩
        have := HM.out.j
        have e := HM.out.all
        rw [emerge_nil1, List.append_nil] at e
        rw [← e]; exact this
      | cons y F =>
        obtain ⟨b2n, of2, rfl, hbB2, hat2, hEs2⟩ := HM.out.ef.one
        obtain ⟨m2, hm2⟩ : ∃ m, F.length = m := ⟨_, rfl⟩
        have HF := Lib.hid (And.intro hbB2 (And.intro hat2 (And.intro hEs2 hm2)))
        have e1 : (((m2 : Int) + 1) == 0) = false := by rw [beq_eq_false_iff_ne]; omega
        have e2 : decide ((0 : Int) < (m2 : Int) + 1) = true := by rw [decide_eq_true_eq]; omega
        simp only [List.length_nil, List.length_cons] at c1 c2
        rw [hm2] at c2
        have c1' := @BW.cell wa _ _ (HBa.out.cell c1)
        have c2' := @BW.cell wa _ _ (HBa.out.cell c2)
        clear hbB2 hat2 hEs2 hm2
        refine wpIn_wide.2 ?_
        go_wp2_with fail
        
        refine wp_region_quiet_bw wa (by kernel_rfl) (by kernel_rfl) (Bl.refl wa) ?_
        repeat (go_big_quiet_step (fail))
        refine wpQuiet_nil ?_
        intro wq hw'
        have hwq : Bl wa wq := by obtain ⟨x, hx⟩ := hw'; rw [hx]; exact x.h
        clear hw'
        clear c1' c2'
        go_wp2_with fail
        have c1' := @BW.cell wq _ _ ((HBa.out.trans hwq).cell c1)
        have c2' := @BW.cell wq _ _ ((HBa.out.trans hwq).cell c2)
        
        refine wp_region_quiet_bw wq (by kernel_rfl) (by kernel_rfl) (Bl.refl wq) ?_
        repeat (go_big_quiet_step (fail))
        refine wpQuiet_nil ?_
        intro wz hw'
        have hwz : Bl wq wz := by obtain ⟨x, hx⟩ := hw'; rw [hx]; exact x.h
        clear hw'
        clear c1' c2'
        have hbz := (HBa.out.trans hwq).trans hwz
        have hV3 := HV.out.bl (hwq.trans hwz)
        have hC3 : Chg B wr wz := Chg.of_bl hbz
        have b2 : Boxed wz (B + 2) 33 (.slice (some ⟨b2n, of2, none⟩) (m2 + 1) cF) := by
          have := boxed_bl HM.out.bf hbz
          rwa [List.length_cons, HF.out.2.2.2] at this
        have b1 := boxed_bl HM.out.bo hbz
        clear c1 c2
        have u2 := b2.cell
        have t2 := b2.frozen
        obtain ⟨y0, y1, y2, y3⟩ := entAt_chg HF.out.2.1 hC3 HF.out.1 hlow
        obtain ⟨aN, haN⟩ : ∃ a, (if cF = 1 then some (⟨b2n, of2, none⟩ : Addr) else some ⟨b2n, of2 + 4, none⟩) = a := ⟨_, rfl⟩
        obtain ⟨W6, hW6⟩ : ∃ z, z = ((set4 wz wr.heap.size y).setCell ⟨B + 2, 0, none⟩ (.slice aN m2 (cF - 1))).drew := ⟨_, rfl⟩
        have hz : Mem W6 (VE wr.heap.size y) := by rw [hW6]; exact Mem.bl (Mem.off (B + 2) 0 (.slice aN m2 (cF - 1)) (Mem.set4 hV3 y) (by simp [VE]; omega)) ((Bl.refl _).drew)
        have hc : Chg B wr W6 := by rw [hW6]; exact (((hC3.set4 wr.heap.size (Nat.le_refl _) y).set (B + 2) (.inr rfl) (.slice aN m2 (cF - 1))).drew)
        have hb2 : Boxed W6 (B + 2) 33 (.slice aN F.length (cF - 1)) := by rw [hW6, HF.out.2.2.2]; exact boxed_drew (Boxed.set _ (boxed_off4 b2 (show B + 2 ≠ wr.heap.size by omega) y))
        have hb1 : Boxed W6 (B + 1) 33 (.slice (aO) (List.length ([] : List Ent)) (cO)) := by rw [hW6]; exact boxed_drew (Boxed.other (boxed_off4 b1 (show B + 1 ≠ wr.heap.size by omega) y) (show B + 1 ≠ B + 2 by omega) (.slice aN m2 (cF - 1)))
        have hcf := HM.out.cf
        rw [List.length_cons] at hcf
        have hgo := HM.out.go HJ.out hc ((by rw [emerge_nil1, emerge_nil1])) hb1 hb2 (EsB.nil _ _ _) (by rw [← haN]; exact HF.out.2.2.1.cut HF.out.2.2.2 (by rw [← HF.out.2.2.2]; exact hcf)) (Nat.le_refl _) (by simp) (by simp) (by omega)
        unfold set4 at hW6
        have HW6 := Lib.hid (And.intro haN hW6)
        have HZ := Lib.hid hz
        have HGo := Lib.hid hgo
        
        have hm := hV3
        simp only [Mem, VE, List.cons_append, List.nil_append, and_true] at hm
        clear hc hcf hz hb1 hb2 hgo hW6 haN hV3
        go_wp2_with fail
        go_region
        go_upto_region 7 with fail
        clear hm u2 t2 y0 y1 y2 y3
        rw [HW6.out.1, ← HW6.out.2]
        obtain ⟨fn, tmps, assign, body, hy, hR⟩ := HY.out pre y _ HGo.out.1 HGo.out.2.1
        unfold Ent.v at hy
        have HR := Lib.hid hR
        clear hR
        have hz := HZ.out
        simp only [Mem, VE, List.cons_append, List.nil_append, and_true] at hz
        refine (wpIn_wide (n := n)).1 ?_
        gi_wp2
        refine HR.out.mono ?_
        rintro e W9 (⟨rfl, hJ9, hk9⟩ | ⟨rfl, hJx⟩)
        · have hmi := HGo.out.2.2 W9 hJ9 hk9
          have HMi := Lib.hid hmi
          clear hmi hy hz
          gi_wp2
          go_wp2_with fail
          go_roundw
          case rel => exact ⟨pre ++ [y], [], F, _, _, _, _, HMi.out⟩
          case measure => rw [boxLen_of HMi.out.bo, boxLen_of HMi.out.bf, HLen.out.1, HLen.out.2]; simp <;> omega
        · clear hy hz
          gi_wp2
          go_wp2_with fail
          refine bodyPost_ret (results_none rfl _ _ _) rfl ?_
          exact ⟨⟨_, rfl⟩, .inr ⟨_, HGo.out.2.1, hJx⟩⟩
    | cons x O =>
      obtain ⟨b, off, rfl, hbB, hat, hEs⟩ := HM.out.eo.one
      obtain ⟨m, hm⟩ : ∃ m, O.length = m := ⟨_, rfl⟩
      have HE := Lib.hid (And.intro hbB (And.intro hat (And.intro hEs hm)))
      have d1 : decide ((0 : Int) < (m : Int) + 1) = true := by rw [decide_eq_true_eq]; omega
      cases F with
      | nil =>
        simp only [List.length_nil, List.length_cons] at c1 c2
        rw [hm] at c1
        have c1' := @BW.cell wa _ _ (HBa.out.cell c1)
        have c2' := @BW.cell wa _ _ (HBa.out.cell c2)
        clear hat hEs hm hbB
        refine wpIn_wide.2 ?_
        go_wp2_with fail
        
        refine wp_region_quiet_bw wa (by kernel_rfl) (by kernel_rfl) (Bl.refl wa) ?_
        repeat (go_big_quiet_step (fail))
        refine wpQuiet_nil ?_
        intro wq hw'
        have hwq : Bl wa wq := by obtain ⟨x, hx⟩ := hw'; rw [hx]; exact x.h
        clear hw'
        clear c1' c2'
        have hbq := HBa.out.trans hwq
        have u1 := hbq.cell c1
        have t1 : wq.frozen? ⟨B + 1, 0, none⟩ = false := hbq.frozen c1 HM.out.bo.frozen
        obtain ⟨x0, x1, x2, x3⟩ := HE.out.2.1.bl hbq
        obtain ⟨aN, haN⟩ : ∃ a, (if cO = 1 then some (⟨b, off, none⟩ : Addr) else some ⟨b, off + 4, none⟩) = a := ⟨_, rfl⟩
        obtain ⟨W6, hW6⟩ : ∃ z, z = ((set4 wq wr.heap.size x).setCell ⟨B + 1, 0, none⟩ (.slice aN m (cO - 1))).drew := ⟨_, rfl⟩
        have hz : Mem W6 (VE wr.heap.size x) := by rw [hW6]; exact Mem.bl (Mem.off (B + 1) 0 (.slice aN m (cO - 1)) (Mem.set4 (HV.out.bl hwq) x) (by simp [VE]; omega)) ((Bl.refl _).drew)
        have hc : Chg B wr W6 := by rw [hW6]; exact ((((Chg.of_bl hbq : Chg B wr wq).set4 wr.heap.size (Nat.le_refl _) x).set (B + 1) (.inl rfl) (.slice aN m (cO - 1))).drew)
        have hb1 : Boxed W6 (B + 1) 33 (.slice aN O.length (cO - 1)) := by rw [hW6, HE.out.2.2.2]; exact boxed_drew (Boxed.set _ (boxed_off4 (boxed_bl HM.out.bo hbq) (by omega) x))
        have hb2 := Boxed.other (boxed_off4 (boxed_bl HM.out.bf hbq) (show B + 2 ≠ wr.heap.size by omega) x) (show B + 2 ≠ B + 1 by omega) (.slice aN m (cO - 1))
        have hco := HM.out.co
        rw [List.length_cons] at hco
        have hgo := HM.out.go HJ.out hc (by rw [emerge_nil2, emerge_nil2]) hb1 (by rw [hW6]; exact boxed_drew hb2) (by rw [← haN]; exact HE.out.2.2.1.cut HE.out.2.2.2 (by rw [← HE.out.2.2.2]; exact hco)) HM.out.ef (by simp) (Nat.le_refl _) (by omega) HM.out.cf
        unfold set4 at hW6
        have HW6 := Lib.hid (And.intro haN hW6)
        have HZ := Lib.hid hz
        have HGo := Lib.hid hgo
        
        have hm := HV.out.bl hwq
        simp only [Mem, VE, List.cons_append, List.nil_append, and_true] at hm
        clear hc hco hz c1 c2 hb1 hb2 hgo hW6 haN
        go_wp2_with fail
        go_region
        go_upto_region 7 with fail
        clear hm u1 t1 x0 x1 x2 x3
        rw [HW6.out.1, ← HW6.out.2]
        obtain ⟨fn, tmps, assign, body, hy, hR⟩ := HY.out pre x _ HGo.out.1 HGo.out.2.1
        unfold Ent.v at hy
        have HR := Lib.hid hR
        clear hR
        have hz := HZ.out
        simp only [Mem, VE, List.cons_append, List.nil_append, and_true] at hz
        refine (wpIn_wide (n := n)).1 ?_
        gi_wp2
        refine HR.out.mono ?_
        rintro e W9 (⟨rfl, hJ9, hk9⟩ | ⟨rfl, hJx⟩)
        · have hmi := HGo.out.2.2 W9 hJ9 hk9
          have HMi := Lib.hid hmi
          clear hmi hy hz
          gi_wp2
          go_wp2_with fail
          go_roundw
          case rel => exact ⟨pre ++ [x], O, [], _, _, _, _, HMi.out⟩
          case measure => rw [boxLen_of HMi.out.bo, boxLen_of HMi.out.bf, HLen.out.1, HLen.out.2]; simp <;> omega
        · clear hy hz
          gi_wp2
          go_wp2_with fail
          refine bodyPost_ret (results_none rfl _ _ _) rfl ?_
          exact ⟨⟨_, rfl⟩, .inr ⟨_, HGo.out.2.1, hJx⟩⟩
      | cons y F =>
        obtain ⟨b2n, of2, rfl, hbB2, hat2, hEs2⟩ := HM.out.ef.one
        obtain ⟨m2, hm2⟩ : ∃ m, F.length = m := ⟨_, rfl⟩
        have HF := Lib.hid (And.intro hbB2 (And.intro hat2 (And.intro hEs2 hm2)))
        have e1 : (((m2 : Int) + 1) == 0) = false := by rw [beq_eq_false_iff_ne]; omega
        have e2 : decide ((0 : Int) < (m2 : Int) + 1) = true := by rw [decide_eq_true_eq]; omega
        simp only [List.length_cons] at c1 c2
        rw [hm] at c1
        rw [hm2] at c2
        have c1' := @BW.cell wa _ _ (HBa.out.cell c1)
        have c2' := @BW.cell wa _ _ (HBa.out.cell c2)
        have x0' := @BW.cell wa _ _ (HBa.out.cell hat.key)
        have y0' := @BW.cell wa _ _ (HBa.out.cell hat2.key)
        have kx := hat.key
        have ky := hat2.key
        clear hbB2 hat2 hEs2 hm2 hat hEs hm hbB
        by_cases hlt : slt x.key y.key = true
        · have hl1 : Op.bytesLess x.key.toList y.key.toList = true := hlt
          have HLt := Lib.hid hlt
          clear hlt
          refine wpIn_wide.2 ?_
          go_wp2_with fail
          
          refine wp_region_quiet_bw wa (by kernel_rfl) (by kernel_rfl) (Bl.refl wa) ?_
          repeat (go_big_quiet_step (fail))
          refine wpQuiet_nil ?_
          intro wq hw'
          have hwq : Bl wa wq := by obtain ⟨x, hx⟩ := hw'; rw [hx]; exact x.h
          clear hw'
          clear c1' c2' x0' y0' kx ky
          have hbq := HBa.out.trans hwq
          have u1 := hbq.cell c1
          have t1 : wq.frozen? ⟨B + 1, 0, none⟩ = false := hbq.frozen c1 HM.out.bo.frozen
          obtain ⟨x0, x1, x2, x3⟩ := HE.out.2.1.bl hbq
          obtain ⟨aN, haN⟩ : ∃ a, (if cO = 1 then some (⟨b, off, none⟩ : Addr) else some ⟨b, off + 4, none⟩) = a := ⟨_, rfl⟩
          obtain ⟨W6, hW6⟩ : ∃ z, z = ((set4 wq wr.heap.size x).setCell ⟨B + 1, 0, none⟩ (.slice aN m (cO - 1))).drew := ⟨_, rfl⟩
          have hz : Mem W6 (VE wr.heap.size x) := by rw [hW6]; exact Mem.bl (Mem.off (B + 1) 0 (.slice aN m (cO - 1)) (Mem.set4 (HV.out.bl hwq) x) (by simp [VE]; omega)) ((Bl.refl _).drew)
          have hc : Chg B wr W6 := by rw [hW6]; exact ((((Chg.of_bl hbq : Chg B wr wq).set4 wr.heap.size (Nat.le_refl _) x).set (B + 1) (.inl rfl) (.slice aN m (cO - 1))).drew)
          have hb1 : Boxed W6 (B + 1) 33 (.slice aN O.length (cO - 1)) := by rw [hW6, HE.out.2.2.2]; exact boxed_drew (Boxed.set _ (boxed_off4 (boxed_bl HM.out.bo hbq) (by omega) x))
          have hb2 := Boxed.other (boxed_off4 (boxed_bl HM.out.bf hbq) (show B + 2 ≠ wr.heap.size by omega) x) (show B + 2 ≠ B + 1 by omega) (.slice aN m (cO - 1))
          have hco := HM.out.co
          rw [List.length_cons] at hco
          have hgo := HM.out.go HJ.out hc (emerge_lt HLt.out) hb1 (by rw [hW6]; exact boxed_drew hb2) (by rw [← haN]; exact HE.out.2.2.1.cut HE.out.2.2.2 (by rw [← HE.out.2.2.2]; exact hco)) HM.out.ef (by simp) (Nat.le_refl _) (by omega) HM.out.cf
          unfold set4 at hW6
          have HW6 := Lib.hid (And.intro haN hW6)
          have HZ := Lib.hid hz
          have HGo := Lib.hid hgo
          
          have hm := HV.out.bl hwq
          simp only [Mem, VE, List.cons_append, List.nil_append, and_true] at hm
          clear hc hco hz c1 c2 hb1 hb2 hgo hW6 haN
          go_wp2_with fail
          go_region
          go_upto_region 7 with fail
          clear hm u1 t1 x0 x1 x2 x3
          rw [HW6.out.1, ← HW6.out.2]
          obtain ⟨fn, tmps, assign, body, hy, hR⟩ := HY.out pre x _ HGo.out.1 HGo.out.2.1
          unfold Ent.v at hy
          have HR := Lib.hid hR
          clear hR
          have hz := HZ.out
          simp only [Mem, VE, List.cons_append, List.nil_append, and_true] at hz
          refine (wpIn_wide (n := n)).1 ?_
          gi_wp2
          refine HR.out.mono ?_
          rintro e W9 (⟨rfl, hJ9, hk9⟩ | ⟨rfl, hJx⟩)
          · have hmi := HGo.out.2.2 W9 hJ9 hk9
            have HMi := Lib.hid hmi
            clear hmi hy hz
            gi_wp2
            go_wp2_with fail
            go_roundw
            case rel => exact ⟨pre ++ [x], O, (y :: F), _, _, _, _, HMi.out⟩
            case measure => rw [boxLen_of HMi.out.bo, boxLen_of HMi.out.bf, HLen.out.1, HLen.out.2]; simp <;> omega
          · clear hy hz
            gi_wp2
            go_wp2_with fail
            refine bodyPost_ret (results_none rfl _ _ _) rfl ?_
            exact ⟨⟨_, rfl⟩, .inr ⟨_, HGo.out.2.1, hJx⟩⟩
        · have hlf : slt x.key y.key = false := by simpa using hlt
          have hl1 : Op.bytesLess x.key.toList y.key.toList = false := hlf
          have HLt := Lib.hid hlf
          clear hlt hlf
          refine wpIn_wide.2 ?_
          go_wp2_with fail
          
          refine wp_region_quiet_bw wa (by kernel_rfl) (by kernel_rfl) (Bl.refl wa) ?_
          repeat (go_big_quiet_step (fail))
          refine wpQuiet_nil ?_
          intro wq hw'
          have hwq : Bl wa wq := by obtain ⟨x, hx⟩ := hw'; rw [hx]; exact x.h
          clear hw'
          clear c1' c2' x0' y0'
          have hbq := HBa.out.trans hwq
          have c1' := @BW.cell wq _ _ (hbq.cell c1)
          have c2' := @BW.cell wq _ _ (hbq.cell c2)
          have x0' := @BW.cell wq _ _ (hbq.cell kx)
          have y0' := @BW.cell wq _ _ (hbq.cell ky)
          by_cases hk : x.key = y.key
          · have hk1 : (x.key.toList == y.key.toList) = true := beq_key hk
            have HK := Lib.hid hk
            clear hk
            go_wp2_with fail
            
            refine wp_region_quiet_bw wq (by kernel_rfl) (by kernel_rfl) (Bl.refl wq) ?_
            repeat (go_big_quiet_step (fail))
            refine wpQuiet_nil ?_
            intro wz hw'
            have hwz : Bl wq wz := by obtain ⟨x, hx⟩ := hw'; rw [hx]; exact x.h
            clear hw'
            clear c1' c2' x0' y0' kx ky hl1 hk1
            have hbz := hbq.trans hwz
            have u1 := hbz.cell c1
            have t1 : wz.frozen? ⟨B + 1, 0, none⟩ = false := hbz.frozen c1 HM.out.bo.frozen
            have hVz := HV.out.bl (hwq.trans hwz)
            go_upto_region 4 with fail
            obtain ⟨aM, haM⟩ : ∃ a, (if cO = 1 then some (⟨b, off, none⟩ : Addr) else some ⟨b, off + 4, none⟩) = a := ⟨_, rfl⟩
            obtain ⟨w3, hw3⟩ : ∃ z, z = wz.setCell ⟨B + 1, 0, none⟩ (.slice aM m (cO - 1)) := ⟨_, rfl⟩
            rw [haM, ← hw3]
            have hC3 : Chg B wr w3 := by rw [hw3]; exact Chg.set (Chg.of_bl hbz) (B + 1) (.inl rfl) _
            have b1 : Boxed w3 (B + 1) 33 (.slice aM O.length (cO - 1)) := by rw [hw3, HE.out.2.2.2]; exact Boxed.set _ (boxed_bl HM.out.bo hbz)
            have b2 : Boxed w3 (B + 2) 33 (.slice (some ⟨b2n, of2, none⟩) (m2 + 1) cF) := by
              have := boxed_bl HM.out.bf hbz
              rw [List.length_cons, HF.out.2.2.2] at this
              rw [hw3]; exact Boxed.other this (by omega) _
            have hV3 : Mem w3 (VE wr.heap.size eNil) := by rw [hw3]; exact Mem.off (B + 1) 0 _ hVz (by simp [VE]; omega)
            have hco := HM.out.co
            rw [List.length_cons] at hco
            have heo : EsB B wr aM O := by rw [← haM]; exact HE.out.2.2.1.cut HE.out.2.2.2 (by rw [← HE.out.2.2.2]; exact hco)
            have hcl : O.length ≤ cO - 1 := by omega
            clear c1 c2 hw3 haM u1 t1 hVz hco
            have u2 := b2.cell
            have t2 := b2.frozen
            obtain ⟨y0, y1, y2, y3⟩ := entAt_chg HF.out.2.1 hC3 HF.out.1 hlow
            obtain ⟨aN, haN⟩ : ∃ a, (if cF = 1 then some (⟨b2n, of2, none⟩ : Addr) else some ⟨b2n, of2 + 4, none⟩) = a := ⟨_, rfl⟩
            obtain ⟨W6, hW6⟩ : ∃ z, z = ((set4 w3 wr.heap.size y).setCell ⟨B + 2, 0, none⟩ (.slice aN m2 (cF - 1))).drew := ⟨_, rfl⟩
            have hz : Mem W6 (VE wr.heap.size y) := by rw [hW6]; exact Mem.bl (Mem.off (B + 2) 0 (.slice aN m2 (cF - 1)) (Mem.set4 hV3 y) (by simp [VE]; omega)) ((Bl.refl _).drew)
            have hc : Chg B wr W6 := by rw [hW6]; exact (((hC3.set4 wr.heap.size (Nat.le_refl _) y).set (B + 2) (.inr rfl) (.slice aN m2 (cF - 1))).drew)
            have hb2 : Boxed W6 (B + 2) 33 (.slice aN F.length (cF - 1)) := by rw [hW6, HF.out.2.2.2]; exact boxed_drew (Boxed.set _ (boxed_off4 b2 (show B + 2 ≠ wr.heap.size by omega) y))
            have hb1 : Boxed W6 (B + 1) 33 (.slice (aM) (List.length (O : List Ent)) (cO - 1)) := by rw [hW6]; exact boxed_drew (Boxed.other (boxed_off4 b1 (show B + 1 ≠ wr.heap.size by omega) y) (show B + 1 ≠ B + 2 by omega) (.slice aN m2 (cF - 1)))
            have hcf := HM.out.cf
            rw [List.length_cons] at hcf
            have hgo := HM.out.go HJ.out hc ((emerge_eq HK.out)) hb1 hb2 heo (by rw [← haN]; exact HF.out.2.2.1.cut HF.out.2.2.2 (by rw [← HF.out.2.2.2]; exact hcf)) (by simp) (by simp) hcl (by omega)
            unfold set4 at hW6
            have HW6 := Lib.hid (And.intro haN hW6)
            have HZ := Lib.hid hz
            have HGo := Lib.hid hgo
            
            have hm := hV3
            simp only [Mem, VE, List.cons_append, List.nil_append, and_true] at hm
            clear hc hcf hz hb1 hb2 hgo hW6 haN hV3
            go_wp2_with fail
            go_region
            go_upto_region 7 with fail
            clear hm u2 t2 y0 y1 y2 y3
            rw [HW6.out.1, ← HW6.out.2]
            obtain ⟨fn, tmps, assign, body, hy, hR⟩ := HY.out pre y _ HGo.out.1 HGo.out.2.1
            unfold Ent.v at hy
            have HR := Lib.hid hR
            clear hR
            have hz := HZ.out
            simp only [Mem, VE, List.cons_append, List.nil_append, and_true] at hz
            refine (wpIn_wide (n := n)).1 ?_
            gi_wp2
            refine HR.out.mono ?_
            rintro e W9 (⟨rfl, hJ9, hk9⟩ | ⟨rfl, hJx⟩)
            · have hmi := HGo.out.2.2 W9 hJ9 hk9
              have HMi := Lib.hid hmi
              clear hmi hy hz
              gi_wp2
              go_wp2_with fail
              go_roundw
              case rel => exact ⟨pre ++ [y], O, F, _, _, _, _, HMi.out⟩
              case measure => rw [boxLen_of HMi.out.bo, boxLen_of HMi.out.bf, HLen.out.1, HLen.out.2]; simp <;> omega
            · clear hy hz
              gi_wp2
              go_wp2_with fail
              refine bodyPost_ret (results_none rfl _ _ _) rfl ?_
              exact ⟨⟨_, rfl⟩, .inr ⟨_, HGo.out.2.1, hJx⟩⟩
          · have hk1 : (x.key.toList == y.key.toList) = false := bne_key hk
            have HK := Lib.hid hk
            clear hk
            go_wp2_with fail
            
            refine wp_region_quiet_bw wq (by kernel_rfl) (by kernel_rfl) (Bl.refl wq) ?_
            repeat (go_big_quiet_step (fail))
            refine wpQuiet_nil ?_
            intro wz hw'
            have hwz : Bl wq wz := by obtain ⟨x, hx⟩ := hw'; rw [hx]; exact x.h
            clear hw'
            clear c1' c2' x0' y0' kx ky hl1 hk1
            have hbz := hbq.trans hwz
            have hV3 := HV.out.bl (hwq.trans hwz)
            have hC3 : Chg B wr wz := Chg.of_bl hbz
            have b2 : Boxed wz (B + 2) 33 (.slice (some ⟨b2n, of2, none⟩) (m2 + 1) cF) := by
              have := boxed_bl HM.out.bf hbz
              rwa [List.length_cons, HF.out.2.2.2] at this
            have b1 := boxed_bl HM.out.bo hbz
            clear c1 c2
            have u2 := b2.cell
            have t2 := b2.frozen
            obtain ⟨y0, y1, y2, y3⟩ := entAt_chg HF.out.2.1 hC3 HF.out.1 hlow
            obtain ⟨aN, haN⟩ : ∃ a, (if cF = 1 then some (⟨b2n, of2, none⟩ : Addr) else some ⟨b2n, of2 + 4, none⟩) = a := ⟨_, rfl⟩
            obtain ⟨W6, hW6⟩ : ∃ z, z = ((set4 wz wr.heap.size y).setCell ⟨B + 2, 0, none⟩ (.slice aN m2 (cF - 1))).drew := ⟨_, rfl⟩
            have hz : Mem W6 (VE wr.heap.size y) := by rw [hW6]; exact Mem.bl (Mem.off (B + 2) 0 (.slice aN m2 (cF - 1)) (Mem.set4 hV3 y) (by simp [VE]; omega)) ((Bl.refl _).drew)
            have hc : Chg B wr W6 := by rw [hW6]; exact (((hC3.set4 wr.heap.size (Nat.le_refl _) y).set (B + 2) (.inr rfl) (.slice aN m2 (cF - 1))).drew)
            have hb2 : Boxed W6 (B + 2) 33 (.slice aN F.length (cF - 1)) := by rw [hW6, HF.out.2.2.2]; exact boxed_drew (Boxed.set _ (boxed_off4 b2 (show B + 2 ≠ wr.heap.size by omega) y))
            have hb1 : Boxed W6 (B + 1) 33 (.slice (some ⟨b, off, none⟩) (List.length ((x :: O) : List Ent)) (cO)) := by rw [hW6]; exact boxed_drew (Boxed.other (boxed_off4 b1 (show B + 1 ≠ wr.heap.size by omega) y) (show B + 1 ≠ B + 2 by omega) (.slice aN m2 (cF - 1)))
            have hcf := HM.out.cf
            rw [List.length_cons] at hcf
            have hgo := HM.out.go HJ.out hc ((emerge_gt HLt.out HK.out)) hb1 hb2 HM.out.eo (by rw [← haN]; exact HF.out.2.2.1.cut HF.out.2.2.2 (by rw [← HF.out.2.2.2]; exact hcf)) (Nat.le_refl _) (by simp) HM.out.co (by omega)
            unfold set4 at hW6
            have HW6 := Lib.hid (And.intro haN hW6)
            have HZ := Lib.hid hz
            have HGo := Lib.hid hgo
            
            have hm := hV3
            simp only [Mem, VE, List.cons_append, List.nil_append, and_true] at hm
            clear hc hcf hz hb1 hb2 hgo hW6 haN hV3
            go_wp2_with fail
            go_region
            go_upto_region 7 with fail
            clear hm u2 t2 y0 y1 y2 y3
            rw [HW6.out.1, ← HW6.out.2]
            obtain ⟨fn, tmps, assign, body, hy, hR⟩ := HY.out pre y _ HGo.out.1 HGo.out.2.1
            unfold Ent.v at hy
            have HR := Lib.hid hR
            clear hR
            have hz := HZ.out
            simp only [Mem, VE, List.cons_append, List.nil_append, and_true] at hz
            refine (wpIn_wide (n := n)).1 ?_
            gi_wp2
            refine HR.out.mono ?_
            rintro e W9 (⟨rfl, hJ9, hk9⟩ | ⟨rfl, hJx⟩)
            · have hmi := HGo.out.2.2 W9 hJ9 hk9
              have HMi := Lib.hid hmi
              clear hmi hy hz
              gi_wp2
              go_wp2_with fail
              go_roundw
              case rel => exact ⟨pre ++ [y], (x :: O), F, _, _, _, _, HMi.out⟩
              case measure => rw [boxLen_of HMi.out.bo, boxLen_of HMi.out.bf, HLen.out.1, HLen.out.2]; simp <;> omega
            · clear hy hz
              gi_wp2
              go_wp2_with fail
              refine bodyPost_ret (results_none rfl _ _ _) rfl ?_
              exact ⟨⟨_, rfl⟩, .inr ⟨_, HGo.out.2.1, hJx⟩⟩
end Go.Proofs.YtbdiiopmjaeaaaaDoor

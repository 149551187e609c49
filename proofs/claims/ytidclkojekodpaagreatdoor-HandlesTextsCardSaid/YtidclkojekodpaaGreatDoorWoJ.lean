
/-
  Contract of words' own iterator: the fields of a line.
-/
import Derived.Test.YtidclkojekodpaaGreatDoorWoI
import Derived.Test.YtidclkojekodpaaGreatDoorScp
import Derived.RangeFuncNested
import Derived.RangeFuncBound
import Derived.RangeFuncCalls
import Derived.RangeFuncLeaves
import Derived.Shelf.Abstract
import Derived.Shelf.RegionOpen
import Derived.OwnWalkIn
import Derived.TacticsInMore
import Derived.LoopNIn
import Derived.LoopIn
namespace Go.Proofs.YtidclkojekodpaaGreatDoor
open Go.RowKit Go.Shelf
set_option linter.unusedSimpArgs false
set_option linter.unusedVariables false
set_option maxRecDepth 100000
attribute [local go_sem] Oper.semAt_some

/-- The blocks that K names lie as they lay; no block has gone. -/
def Kept (K : Nat → Prop) (A B : World) : Prop := A.heap.size ≤ B.heap.size ∧ ∀ k, K k → B.heap[k]? = A.heap[k]?
theorem Kept.refl (K : Nat → Prop) (A : World) : Kept K A A := ⟨Nat.le_refl _, fun _ _ => rfl⟩
theorem Kept.trans {K : Nat → Prop} {A B C : World} (h : Kept K A B) (k : Kept K B C) : Kept K A C := ⟨Nat.le_trans h.1 k.1, fun i hi => (k.2 i hi).trans (h.2 i hi)⟩
theorem Kept.setCell {K : Nat → Prop} {A B : World} (h : Kept K A B) {p : Addr} (hp : ¬ K p.block) (u : Value) : Kept K A (B.setCell p u) :=
  h.trans ⟨by simp [World.setCell], fun k hk => Below.heap_setCell _ _ _ _ (fun e => hp (e ▸ hk))⟩
def fvl (x : Fld) : Value := .agg #[.string ⟨x.s.toArray⟩, .bool x.q]
def sLen : Value → Nat
  | .string s => s.size
  | _ => 0
theorem grown_set (W : World) (p : Addr) (u : Value) : W.grownBy (W.setCell p u) (some p.block) :=
  ⟨rfl, rfl, rfl, by simp [World.setCell], fun k _ hk => Below.heap_setCell W p u k (fun e => hk (by rw [e]))⟩
theorem grown_none {A B : World} (h : Bl A B) : A.grownBy B none := ⟨h.os, h.tape, h.output, h.size, fun k hk _ => h.block k hk⟩
theorem EscTab.kept {A B : World} (h : EscTab A) (k : B.heap[2]? = A.heap[2]?) : EscTab B := ⟨fun i hi => by rw [World.cell?_of_block (w := A) (a := ⟨2, i, none⟩) k]; exact h.at_ i hi⟩
theorem ext_two (r : ByteArray) (m : Nat) : ((r.extract m r.size).extract 1 (r.size - m)).data.toList = r.data.toList.drop (m + 1) := by
  have e : r.size - m = (r.extract m r.size).size := by simp
  rw [e, ext_dropW, ext_dropW, List.drop_drop]
/-- A block of two cells. -/
def Two (W : World) (B : Nat) (a b : Value) : Prop := W.heap[B]? = some (.cells #[a, b] 71 (0, 0))
theorem Two.bl {W W' : World} {B : Nat} {a b : Value} (h : Two W B a b) (k : Bl W W') : Two W' B a b := by
  unfold Two at *
  rw [k.block B (Array.getElem?_eq_some_iff.1 h).1]; exact h
theorem Two.c0 {W : World} {B : Nat} {a b : Value} (h : Two W B a b) : W.cell? ⟨B, 0, none⟩ = some a := by rw [Lib.cell_of_heap h]; rfl
theorem Two.c1 {W : World} {B : Nat} {a b : Value} (h : Two W B a b) : W.cell? ⟨B, 1, none⟩ = some b := by rw [Lib.cell_of_heap h]; rfl
theorem Two.f {W : World} {B : Nat} {a b : Value} (h : Two W B a b) (i : Nat) : W.frozen? ⟨B, i, none⟩ = false := Lib.frozen_of_heap h i
theorem Two.new (W : World) (a b : Value) : Two (W.alloc (.cells #[a, b] 71)) W.heap.size a b := World.alloc_heap_new W _
theorem Two.set0 {W : World} {B : Nat} {a b : Value} (h : Two W B a b) (u : Value) : Two (W.setCell ⟨B, 0, none⟩ u) B u b := by
  unfold Two at *
  obtain ⟨hlt, he⟩ := Array.getElem?_eq_some_iff.1 h
  simp only [World.setCell, Array.getElem?_modify, if_true]
  rw [h]; rfl
theorem Two.set1 {W : World} {B : Nat} {a b : Value} (h : Two W B a b) (u : Value) : Two (W.setCell ⟨B, 1, none⟩ u) B a u := by
  unfold Two at *
  simp only [World.setCell, Array.getElem?_modify, if_true]
  rw [h]; rfl

def FrF (y Bn Bf : Nat) (r : ByteArray) (v5 : Value) (a : Act) : Prop := ∃ u2 u6 u7 u8 u9 u10 u11 u12 u13 u14 u15 u16 u17 u18 u19 u20 u21 u22 u23 u24 u25 u26 u27 u28 u29 u30 u31 u32 u33 u34 u35 u36 u37 u38 u39 u40 u41 u42 u43 u44 u45 u46 u47 u48 u49 u50 u51 u52 u53 u54 u55 u56 : Value, a = { tmps := #[.func (.yield y) #[] #[], .pointer (some ⟨Bn, 0, none⟩), u2, .string r, .pointer (some ⟨Bf, 0, none⟩), v5, u6, u7, u8, u9, u10, u11, u12, u13, u14, u15, u16, u17, u18, u19, u20, u21, u22, u23, u24, u25, u26, u27, u28, u29, u30, u31, u32, u33, u34, u35, u36, u37, u38, u39, u40, u41, u42, u43, u44, u45, u46, u47, u48, u49, u50, u51, u52, u53, u54, u55, u56], defers := [] }
/-- What holds between the jumps. -/
structure FI (Bf : Nat) (J : List (Fld × Bool) → World → Prop) (whole : List (Fld × Bool)) (pre : List (Fld × Bool)) (r : ByteArray) (wr : World) : Prop where
  j : J pre wr
  all : pre ++ fseq r.data.toList = whole
  tab : EscTab wr
  size : Bf < wr.heap.size
  small : r.size ≤ 100000
  ne : 2 ≠ Bf
def AbF (Bf : Nat) (J : List (Fld × Bool) → World → Prop) : Prop := ∀ pre A B row, J pre A → A.grownBy B row → (∀ r, row = some r → r = Bf) → J pre B
theorem FI.bl {Bf : Nat} {J : List (Fld × Bool) → World → Prop} {whole pre : List (Fld × Bool)} {r : ByteArray} {A B : World} (h : FI Bf J whole pre r A) (hJ : AbF Bf J) (k : Bl A B) : FI Bf J whole pre r B :=
  ⟨hJ _ _ _ none h.j (grown_none k) (fun r e => by cases e), h.all, h.tab.bl k, Nat.lt_of_lt_of_le h.size k.size, h.small, h.ne⟩
theorem FI.set {Bf : Nat} {J : List (Fld × Bool) → World → Prop} {whole pre : List (Fld × Bool)} {r : ByteArray} {A : World} (h : FI Bf J whole pre r A) (hJ : AbF Bf J) (i : Nat) (u : Value) : FI Bf J whole pre r (A.setCell ⟨Bf, i, none⟩ u) :=
  ⟨hJ _ _ _ (some Bf) h.j (grown_set A ⟨Bf, i, none⟩ u) (fun r e => by cases e; rfl), h.all, h.tab.kept (Below.heap_setCell A ⟨Bf, i, none⟩ u _ h.ne), by simpa [World.setCell] using h.size, h.small, h.ne⟩
theorem fi_pre {Bf : Nat} {J : List (Fld × Bool) → World → Prop} {whole pre tl : List (Fld × Bool)} {x : Fld × Bool} {r : ByteArray} {A : World} (h : FI Bf J whole pre r A) (e : fseq r.data.toList = x :: tl) : pre ++ [x] <+: whole :=
  ⟨tl, by rw [← h.all, e]; simp⟩
theorem fi_end {Bf : Nat} {J : List (Fld × Bool) → World → Prop} {whole pre : List (Fld × Bool)} {x : Fld × Bool} {r : ByteArray} {A : World} (h : FI Bf J whole pre r A) (e : fseq r.data.toList = [x]) : pre ++ [x] = whole := by rw [← h.all, e]
set_option maxHeartbeats 8000000 in
theorem fields1 (n : Nat) (hn : 2 ≤ n) (y Bn Bf : Nat) (s : ByteArray) (hs : s.size ≤ 100000)
    (J Jx : List (Fld × Bool) → World → Prop) (hJ : AbF Bf J)
    (hY : ∀ pre x W, J pre W → Bf < W.heap.size → pre ++ [x] <+: fseq s.data.toList → YieldAt Fence.wide (n - 1) Tryz.prog y #[fvl x.1, .bool x.2] W fun e W' =>
      (e = .returned (.bool true) ∧ J (pre ++ [x]) W' ∧ Kept (fun k => k = Bf ∨ k = 2) W W') ∨ (e = .returned (.bool false) ∧ Jx (pre ++ [x]) W'))
    (W : World) (hW : W.heap.size = Bf) (c0 : W.cell? ⟨Bn, 0, none⟩ = some (.string s)) (hE : EscTab W) (h0 : J [] W) :
    CallsIn Fence.wide n Tryz.prog 54 #[.func (.yield y) #[] #[], .pointer (some ⟨Bn, 0, none⟩)] W fun e W' => (∃ v, e = .returned v) ∧
      ((∃ ys, ys = fseq s.data.toList ∧ J ys W') ∨ (∃ pre, pre <+: fseq s.data.toList ∧ Jx pre W')) := by
  refine callsIn_of_wp Tryz.func54 rfl trivial ?_ rfl
  simp only [Tryz.ntmps54, List.size_toArray, List.length_cons, List.length_nil, Nat.reduceAdd, Nat.reduceSub, Array.replicate_succ, Array.replicate_zero, List.push_toArray, List.append_toArray, List.nil_append, List.cons_append]
  have hn1 : 1 ≤ n := by omega
  have hn2 : 1 ≤ n - 1 := by omega
  have hmix : Tryz.prog.follows .mixedOrders = true := by kernel_rfl
  have HY := Lib.hid hY
  have HJ := Lib.hid hJ
  clear hY hJ
  gi_wp2
  refine wpIn_scope2 (fun a wr => ∃ (r : ByteArray) (m : Nat) (x : Fld) (pre : List (Fld × Bool)), FrF y Bn Bf r (.int .i64 m) a ∧ head1 r.data.toList = some (x, m) ∧ FI Bf J (fseq s.data.toList) pre r wr ∧ Two wr Bf (.string ⟨x.s.toArray⟩) (.bool x.q))
    (fun a wr => ∃ (r : ByteArray) (v : Value) (pre : List (Fld × Bool)), FrF y Bn Bf r v a ∧ FI Bf J (fseq s.data.toList) pre r wr ∧ ∃ p q, Two wr Bf p q)
    (fun a _ => sLen (a.tmps.getD 3 undef)) rfl rfl ?found ?pass ?first
  case found =>
    clear h0 hE c0
    rintro a wr ⟨r, m, x, pre, ⟨w2, w6, w7, w8, w9, w10, w11, w12, w13, w14, w15, w16, w17, w18, w19, w20, w21, w22, w23, w24, w25, w26, w27, w28, w29, w30, w31, w32, w33, w34, w35, w36, w37, w38, w39, w40, w41, w42, w43, w44, w45, w46, w47, w48, w49, w50, w51, w52, w53, w54, w55, w56, rfl⟩, hh, hj, h2⟩
    obtain ⟨hm1, hm2⟩ := head1_len hh
    have hm2 : m ≤ r.size := by simpa using hm2
    have c0 := h2.c0
    have c1 := h2.c1
    have i1 : (0 : Int) ≤ (m : Int) := by omega
    have i2 : (m : Int) ≤ (r.size : Int) := by omega
    have hd0 := ext_dropW r m
    cases hd : r.data.toList.drop m with
    | nil =>
      have e := fseq_end hh hd
      rw [hd] at hd0
      have hem : (r.extract m r.size).toList.isEmpty = true := by rw [toL, hd0]; rfl
      have hem2 : (r.extract m r.size).toList = [] := by rw [toL, hd0]
      obtain ⟨fn, tmps, assign, body, hy, hR⟩ := HY.out pre (x, true) wr hj.j hj.size (fi_pre hj e)
      have HR := Lib.hid hR
      clear hR
      unfold fvl at hy
      simp only at hy
      clear hd hd0 hh
      gi_wp2
      refine (HR.out).mono ?_
      rintro e W3 (⟨rfl, hJ3, hk3⟩ | ⟨rfl, hJx3⟩)
      · gi_wp2
        refine jmp_ret (bodyPost_ret (results_none rfl _ _ _) rfl ?_)
        exact ⟨⟨_, rfl⟩, .inl ⟨_, rfl, by rw [← fi_end hj e]; exact hJ3⟩⟩
      · gi_wp2
        refine jmp_ret (bodyPost_ret (results_none rfl _ _ _) rfl ?_)
        exact ⟨⟨_, rfl⟩, .inr ⟨_, fi_pre hj e, hJx3⟩⟩
    | cons c t =>
      rw [hd] at hd0
      have hem : (r.extract m r.size).toList.isEmpty = false := by rw [toL, hd0]; rfl
      have hsz : 0 < (r.extract m r.size).size := by
        have := congrArg List.length hd0
        simp at this; simp; omega
      have hix : (r.extract m r.size)[0]'hsz = c := by
        have := str_get hsz
        rw [hd0] at this
        simpa using this.symm
      have hsi : (0 : Int) < ((r.extract m r.size).size : Int) := by omega
      have hsj : 0 < r.size - m := by simpa using hsz
      have i3 : (1 : Int) ≤ ((r.extract m r.size).size : Int) := by omega
      by_cases hc : c = 32
      · subst hc
        have e := fseq_sp hh hd
        have e32 : ((((r.extract m r.size)[0]'hsz).toNat : Int) != 32) = false := by rw [hix]; rfl
        have hd2 : r.data.toList.drop (m + 1) = t := by rw [← List.drop_drop, hd]; rfl
        have HD := Lib.hid hd2
        clear hd2
        obtain ⟨fn, tmps, assign, body, hy, hR⟩ := HY.out pre (x, true) wr hj.j hj.size (fi_pre hj e)
        have HR := Lib.hid hR
        clear hR
        unfold fvl at hy
        simp only at hy
        clear hd hd0 hh hix
        gi_wp2
        refine (HR.out).mono ?_
        rintro e W3 (⟨rfl, hJ3, hk3⟩ | ⟨rfl, hJx3⟩)
        · have hT3 := hj.tab.kept (hk3.2 _ (.inr rfl))
          have h23 : Two W3 Bf (.string ⟨x.s.toArray⟩) (.bool x.q) := (hk3.2 Bf (.inl rfl)).trans h2
          have hs3 : Bf < W3.heap.size := Nat.lt_of_lt_of_le hj.size hk3.1
          have hall : pre ++ [(x, true)] ++ fseq t = fseq s.data.toList := by rw [← hj.all, e]; simp
          have hsm := hj.small
          have hne := hj.ne
          have HA := Lib.hid hall
          clear e hall
          gi_wp2
          refine wpIn_goto ?_
          refine .inr ⟨rfl, ⟨_, _, pre ++ [(x, true)], ⟨_, _, _, _, _, _, _, _, _, _, _, _, _, _, _, _, _, _, _, _, _, _, _, _, _, _, _, _, _, _, _, _, _, _, _, _, _, _, _, _, _, _, _, _, _, _, _, _, _, _, _, _, rfl⟩, ⟨hJ3, ?_, hT3, hs3, ?_, hne⟩, _, _, h23⟩, ?_⟩
          · rw [ext_two, HD.out]; exact HA.out
          · simp; omega
          · simp [sLen]; omega
        · gi_wp2
          refine jmp_ret (bodyPost_ret (results_none rfl _ _ _) rfl ?_)
          exact ⟨⟨_, rfl⟩, .inr ⟨_, fi_pre hj e, hJx3⟩⟩
      · have e := fseq_bad hh hd hc
        have e32 : ((((r.extract m r.size)[0]'hsz).toNat : Int) != 32) = true := by rw [hix]; exact u8_bne (d := 32) hc
        obtain ⟨fn, tmps, assign, body, hy, hR⟩ := HY.out pre badF wr hj.j hj.size (fi_pre hj e)
        rw [show fvl badF.1 = .agg #[.string ⟨#[]⟩, .bool false] from rfl, show badF.2 = false from rfl] at hy
        have HR := Lib.hid hR
        clear hR
        clear hd hd0 hh hix
        gi_wp2
        refine (HR.out).mono ?_
        rintro e W3 (⟨rfl, hJ3, hk3⟩ | ⟨rfl, hJx3⟩)
        · gi_wp2
          refine jmp_ret (bodyPost_ret (results_none rfl _ _ _) rfl ?_)
          exact ⟨⟨_, rfl⟩, .inl ⟨_, rfl, by rw [← fi_end hj e]; exact hJ3⟩⟩
        · gi_wp2
          refine jmp_ret (bodyPost_ret (results_none rfl _ _ _) rfl ?_)
          exact ⟨⟨_, rfl⟩, .inr ⟨_, fi_pre hj e, hJx3⟩⟩
  case pass =>
    rintro hfound a wr ⟨r, v, pre, ⟨w2, w6, w7, w8, w9, w10, w11, w12, w13, w14, w15, w16, w17, w18, w19, w20, w21, w22, w23, w24, w25, w26, w27, w28, w29, w30, w31, w32, w33, w34, w35, w36, w37, w38, w39, w40, w41, w42, w43, w44, w45, w46, w47, w48, w49, w50, w51, w52, w53, w54, w55, w56, rfl⟩, hj, p, q, h2⟩
    have HF := Lib.hid hfound
    clear hfound h0 hE c0
    have hU := fun w h => woUnq r (hj.small) w h _ rfl
    cases hu : unq1 r.data.toList with
    | some p1 =>
      obtain ⟨t, m⟩ := p1
      have hm := unq1_len hu
      have hm0 : (0 : Int) < (m : Int) := by omega
      have hh : head1 r.data.toList = some (⟨t, true⟩, m) := by unfold head1; rw [hu]
      unfold uqR at hU
      rw [hu] at hU
      simp only at hU
      have HU := Lib.hid hU
      clear hU hu hm
      gi_wp2
      refine ⟨trivial, ?_⟩
      refine (callsIn_wide.2 (HU.out _ hj.tab)).mono ?_; rintro e w1 ⟨rfl, hb1⟩
      have hj1 := ((hj.bl HJ.out hb1).set HJ.out 0 (.string ⟨t.toArray⟩)).set HJ.out 1 (.bool true)
      have h21 := h2.bl hb1
      have h22 := (h21.set0 (.string ⟨t.toArray⟩)).set1 (.bool true)
      have c0 := h21.c0
      have c1 := h21.c1
      have f0 := h21.f 0
      have f1 := h21.f 1
      have HT := Lib.hid h22
      have HJ1 := Lib.hid hj1
      have HH := Lib.hid hh
      clear h2 h21 h22 hj1 hb1 hj hh
      gi_wp2
      refine wpIn_goto ?_
      exact .inl ⟨rfl, ⟨r, m, ⟨t, true⟩, pre, ⟨_, _, _, _, _, _, _, _, _, _, _, _, _, _, _, _, _, _, _, _, _, _, _, _, _, _, _, _, _, _, _, _, _, _, _, _, _, _, _, _, _, _, _, _, _, _, _, _, _, _, _, _, rfl⟩, HH.out, HJ1.out, HT.out⟩, Nat.le_refl _⟩
    | none =>
      unfold uqR at hU
      rw [hu] at hU
      simp only at hU
      have HU := Lib.hid hU
      have hC := fun w => woCut r 32 (Nat.le_trans hj.small (by omega)) w
      have hcw : (cutL 32 r.data.toList).1 = wordOf r.data.toList := rfl
      rw [hcw] at hC
      obtain ⟨x2, hx2⟩ : ∃ x, (⟨(cutL 32 r.data.toList).2.1.toArray⟩ : ByteArray) = x := ⟨_, rfl⟩
      obtain ⟨x3, hx3⟩ : ∃ x, (cutL 32 r.data.toList).2.2 = x := ⟨_, rfl⟩
      rw [hx2, hx3] at hC
      clear hx2 hx3 hcw
      obtain ⟨sw, hsw⟩ : ∃ x, (⟨(wordOf r.data.toList).toArray⟩ : ByteArray) = x := ⟨_, rfl⟩
      have hsl : sw.data.toList = wordOf r.data.toList := by rw [← hsw]
      have hsz : (wordOf r.data.toList).length = sw.size := by rw [← hsl]; simp
      have hwl : sw.size ≤ r.size := by
        have := congrArg List.length (word_drop r.data.toList).1
        rw [List.length_append, hsz] at this
        simp at this; omega
      have hB := fun w => woBare sw (by have := hj.small; omega) w
      have hh : head1 r.data.toList = bare1 r.data.toList := by unfold head1; rw [hu]
      unfold bare1 at hh
      rw [← hsl] at hh
      rw [hsw] at hC
      have HC := Lib.hid hC
      clear hU hC hu
      cases hbw : bareW sw.data.toList with
      | false =>
        rw [hbw] at hB hh
        rw [if_neg (by simp)] at hh
        have e := fseq_none hh
        have HB := Lib.hid hB
        clear hh hB hbw hsl hsz hsw
        gi_wp2
        refine ⟨trivial, ?_⟩
        refine (callsIn_wide.2 (HU.out _ hj.tab)).mono ?_; rintro e w1 ⟨rfl, hb1⟩
        have hj1 := ((hj.bl HJ.out hb1).set HJ.out 0 (.string ⟨[].toArray⟩)).set HJ.out 1 (.bool false)
        have h21 := h2.bl hb1
        have h22 := (h21.set0 (.string ⟨[].toArray⟩)).set1 (.bool false)
        have c0 := h21.c0
        have c1 := h21.c1
        have f0 := h21.f 0
        have f1 := h21.f 1
        gi_wp2
        refine ⟨trivial, ?_⟩
        refine (callsIn_wide.2 (HC.out _)).mono ?_; rintro e w2 ⟨rfl, hd2⟩
        have h23 := h22.bl (.of_dr hd2)
        have hj2 := hj1.bl HJ.out (.of_dr hd2)
        have hj3 := hj2.set HJ.out 0 (.string sw)
        have h24 := h23.set0 (.string sw)
        clear c0 c1 f0 f1
        have c0 := h23.c0
        have c1 := h23.c1
        have f0 := h23.f 0
        have f1 := h23.f 1
        clear h21 h22 h23 h2
        gi_wp2
        refine ⟨trivial, ?_⟩
        refine (callsIn_wide.2 (HB.out _)).mono ?_; rintro e w3 ⟨rfl, hb3⟩
        have hj4 := hj3.bl HJ.out hb3
        have hj := hj4
        obtain ⟨fn, tmps, assign, body, hy, hR⟩ := HY.out pre badF w3 hj.j hj.size (fi_pre hj e)
        rw [show fvl badF.1 = .agg #[.string ⟨#[]⟩, .bool false] from rfl, show badF.2 = false from rfl] at hy
        have HR := Lib.hid hR
        clear hR
        clear hj1 hj2 hj3 hb1 hb3 hd2
        gi_wp2
        refine (HR.out).mono ?_
        rintro e W3 (⟨rfl, hJ3, hk3⟩ | ⟨rfl, hJx3⟩)
        · gi_wp2
          refine jmp_ret (bodyPost_ret (results_none rfl _ _ _) rfl ?_)
          exact ⟨⟨_, rfl⟩, .inl ⟨_, rfl, by rw [← fi_end hj e]; exact hJ3⟩⟩
        · gi_wp2
          refine jmp_ret (bodyPost_ret (results_none rfl _ _ _) rfl ?_)
          exact ⟨⟨_, rfl⟩, .inr ⟨_, fi_pre hj e, hJx3⟩⟩
      | true =>
        rw [hbw] at hB hh
        rw [if_pos rfl, show sw.data.toList.length = sw.size by simp] at hh
        have HB := Lib.hid hB
        have HH := Lib.hid hh
        clear hh hB hbw hsl hsz hsw
        gi_wp2
        refine ⟨trivial, ?_⟩
        refine (callsIn_wide.2 (HU.out _ hj.tab)).mono ?_; rintro e w1 ⟨rfl, hb1⟩
        have hj1 := ((hj.bl HJ.out hb1).set HJ.out 0 (.string ⟨[].toArray⟩)).set HJ.out 1 (.bool false)
        have h21 := h2.bl hb1
        have h22 := (h21.set0 (.string ⟨[].toArray⟩)).set1 (.bool false)
        have c0 := h21.c0
        have c1 := h21.c1
        have f0 := h21.f 0
        have f1 := h21.f 1
        gi_wp2
        refine ⟨trivial, ?_⟩
        refine (callsIn_wide.2 (HC.out _)).mono ?_; rintro e w2 ⟨rfl, hd2⟩
        have h23 := h22.bl (.of_dr hd2)
        have hj2 := hj1.bl HJ.out (.of_dr hd2)
        have hj3 := hj2.set HJ.out 0 (.string sw)
        have h24 := h23.set0 (.string sw)
        clear c0 c1 f0 f1
        have c0 := h23.c0
        have c1 := h23.c1
        have f0 := h23.f 0
        have f1 := h23.f 1
        clear h21 h22 h23 h2
        gi_wp2
        refine ⟨trivial, ?_⟩
        refine (callsIn_wide.2 (HB.out _)).mono ?_; rintro e w3 ⟨rfl, hb3⟩
        have hj4 := hj3.bl HJ.out hb3
        have h5 : Two w3 Bf (.string ⟨sw.data.toList.toArray⟩) (.bool false) := by rw [← str_list]; exact h24.bl hb3
        have H5 := Lib.hid h5
        have HJ4 := Lib.hid hj4
        clear hj hj1 hj2 hj3 hj4 hb1 hb3 hd2 h5 h24
        gi_wp2
        rename_i K hK
        refine wpIn_label ?_
        refine hK _ _ (wpIn_mono (HF.out _ _ ⟨r, sw.size, ⟨sw.data.toList, false⟩, pre, ⟨_, _, _, _, _, _, _, _, _, _, _, _, _, _, _, _, _, _, _, _, _, _, _, _, _, _, _, _, _, _, _, _, _, _, _, _, _, _, _, _, _, _, _, _, _, _, _, _, _, _, _, _, rfl⟩, HH.out, HJ4.out, H5.out⟩) (jmp_mono (fun _ _ h => h.elim) (fun _ _ h => h)))
  case first =>
    intro hpass
    have HP := Lib.hid hpass
    clear hpass
    have hne : 2 ≠ Bf := by have := lt_of_cell (hE.at_ 0 (by omega)); simp at this; omega
    have ht2 : Two (W.alloc (.cells #[.string ⟨#[]⟩, .bool false] 71)) Bf (.string ⟨#[]⟩) (.bool false) := hW ▸ Two.new W _ _
    gi_wp2
    rename_i K hK
    refine wpIn_label ?_
    refine hK _ _ (HP.out _ _ ⟨s, _, [], ⟨_, _, _, _, _, _, _, _, _, _, _, _, _, _, _, _, _, _, _, _, _, _, _, _, _, _, _, _, _, _, _, _, _, _, _, _, _, _, _, _, _, _, _, _, _, _, _, _, _, _, _, _, rfl⟩, ⟨?_, rfl, hE.bl (by repeat (first | assumption | exact Bl.refl _ | apply Bl.drewN | apply Bl.drew | apply Bl.alloc | (refine Bl.dr ?_ (by assumption)) | (refine Bl.trans ?_ (by assumption)))), ?_, hs, hne⟩, _, _, ht2⟩)
    · exact HJ.out [] W _ none h0 (grown_none (by repeat (first | assumption | exact Bl.refl _ | apply Bl.drewN | apply Bl.drew | apply Bl.alloc | (refine Bl.dr ?_ (by assumption)) | (refine Bl.trans ?_ (by assumption))))) (fun r e => by cases e)
    · simp; omega
end Go.Proofs.YtidclkojekodpaaGreatDoor

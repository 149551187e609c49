
/-
  Contracts of handles: Parse.
-/
import Derived.Test.YtidclkojekodpaaGreatDoorHpB
import Derived.Test.YtidclkojekodpaaGreatDoorHnD
import Derived.Test.YtidclkojekodpaaGreatDoorWlB
import Derived.Maps.AppendAt
import Derived.Laws.AppendOwn
namespace Go.Proofs.YtidclkojekodpaaGreatDoor
open Go.RowKit
set_option linter.unusedSimpArgs false
set_option linter.unusedVariables false
set_option maxRecDepth 100000

/-! ### A block of two cells; what stays when it alone turns -/
def B2 (t : TypeId) (W : World) (B : Nat) (a b : Value) : Prop := W.heap[B]? = some (.cells #[a, b] t (0, 0))
theorem B2.bl {t : TypeId} {W W' : World} {B : Nat} {a b : Value} (h : B2 t W B a b) (k : Bl W W') : B2 t W' B a b := by
  unfold B2 at *
  rw [k.block B (Array.getElem?_eq_some_iff.1 h).1]; exact h
theorem B2.c0 {t : TypeId} {W : World} {B : Nat} {a b : Value} (h : B2 t W B a b) : W.cell? ⟨B, 0, none⟩ = some a := by rw [Lib.cell_of_heap h]; rfl
theorem B2.c1 {t : TypeId} {W : World} {B : Nat} {a b : Value} (h : B2 t W B a b) : W.cell? ⟨B, 1, none⟩ = some b := by rw [Lib.cell_of_heap h]; rfl
theorem B2.f {t : TypeId} {W : World} {B : Nat} {a b : Value} (h : B2 t W B a b) (i : Nat) : W.frozen? ⟨B, i, none⟩ = false := Lib.frozen_of_heap h i
theorem B2.new (t : TypeId) (W : World) (a b : Value) : B2 t (W.alloc (.cells #[a, b] t)) W.heap.size a b := World.alloc_heap_new W _
theorem B2.set0 {t : TypeId} {W : World} {B : Nat} {a b : Value} (h : B2 t W B a b) (u : Value) : B2 t (W.setCell ⟨B, 0, none⟩ u) B u b := by
  unfold B2 at *
  simp only [World.setCell, Array.getElem?_modify, if_true]
  rw [h]; rfl
theorem B2.set1 {t : TypeId} {W : World} {B : Nat} {a b : Value} (h : B2 t W B a b) (u : Value) : B2 t (W.setCell ⟨B, 1, none⟩ u) B a u := by
  unfold B2 at *
  simp only [World.setCell, Array.getElem?_modify, if_true]
  rw [h]; rfl
theorem B2.grown {t : TypeId} {W W' : World} {B : Nat} {a b v : Value} (h : B2 t W B a b) (hg : W.grownBy W' v.ownBlock) (hne : ∀ k, v.ownBlock = some k → k ≠ B) : B2 t W' B a b := by
  unfold B2 at *
  rw [hg.block B (Array.getElem?_eq_some_iff.1 h).1 (fun e => hne B e.symm rfl)]; exact h
theorem B2.lt {t : TypeId} {W : World} {B : Nat} {a b : Value} (h : B2 t W B a b) : B < W.heap.size := (Array.getElem?_eq_some_iff.1 h).1
theorem B2.other {t : TypeId} {W : World} {B b off : Nat} {x y u : Value} (h : B2 t W B x y) (hc : W.cell? ⟨b, off, none⟩ = some u) (h0 : u ≠ x) (h1 : u ≠ y) : b ≠ B := by
  rintro rfl
  match off, hc with
  | 0, hc => rw [h.c0] at hc; injection hc with hc; exact h0 hc.symm
  | 1, hc => rw [h.c1] at hc; injection hc with hc; exact h1 hc.symm
  | n + 2, hc => rw [Lib.cell_of_heap h] at hc; simp at hc
def KpT (T : Nat) (w0 w : World) : Prop := w0.heap.size ≤ w.heap.size ∧ ∀ k, k < w0.heap.size → k ≠ T → w.heap[k]? = w0.heap[k]?
theorem KpT.refl (T : Nat) (w : World) : KpT T w w := ⟨Nat.le_refl _, fun _ _ _ => rfl⟩
theorem KpT.bl {T : Nat} {w0 w w' : World} (h : KpT T w0 w) (k : Bl w w') : KpT T w0 w' := ⟨Nat.le_trans h.1 k.size, fun j hj hne => (k.block j (Nat.lt_of_lt_of_le hj h.1)).trans (h.2 j hj hne)⟩
theorem KpT.set {T : Nat} {w0 w : World} (h : KpT T w0 w) (i : Nat) (u : Value) : KpT T w0 (w.setCell ⟨T, i, none⟩ u) := ⟨by simpa [World.setCell] using h.1, fun j hj hne => (Below.heap_setCell w ⟨T, i, none⟩ u j hne).trans (h.2 j hj hne)⟩
theorem KpT.grown {T : Nat} {w0 w w' : World} {v : Value} (h : KpT T w0 w) (hg : w.grownBy w' v.ownBlock) (hb : ∀ k, v.ownBlock = some k → w0.heap.size ≤ k) : KpT T w0 w' :=
  ⟨Nat.le_trans h.1 hg.size, fun j hj hne => (hg.block j (Nat.lt_of_lt_of_le hj h.1) (fun e => by have := hb j e.symm; omega)).trans (h.2 j hj hne)⟩
theorem KpT.cell {T : Nat} {w0 w : World} (h : KpT T w0 w) {p : Addr} {u : Value} (hp : w0.cell? p = some u) (hne : p.block ≠ T) : w.cell? p = some u := by
  rw [World.cell?_of_block (h.2 p.block (lt_of_cell hp) hne)]; exact hp
theorem slotCells_snoc (l : List Slot) (x : Slot) : slotCells (l ++ [x]) = slotCells l ++ [.int .i64 x.gen, .bool x.used] := by simp [slotCells]
/-- A table, a line, an error as a result. -/
def ParV (r : Tb × Int × Int) (w : World) (v : Value) : Prop := ∃ a c, v = .tuple #[r.1.v a c, .int .i64 r.2.1, .int .i64 r.2.2] ∧ TOk w a c r.1
theorem tgo_step {i : Nat} {t u : Tb} {s : List UInt8} {l : List (List UInt8)} {k : Nat} (hk : l[k]? = some s) (h : tstep i t s = some u) : tgo i t (l.drop k) = tgo (i + 1) u (l.drop (k + 1)) := by
  obtain ⟨h1, h2⟩ := List.getElem?_eq_some_iff.1 hk
  rw [List.drop_eq_getElem_cons h1, h2, tgo, h]
theorem tgo_stop {i : Nat} {t : Tb} {s : List UInt8} {l : List (List UInt8)} {k : Nat} (hk : l[k]? = some s) (h : tstep i t s = none) : tgo i t (l.drop k) = (tnil, (i : Int) + 1, 6) := by
  obtain ⟨h1, h2⟩ := List.getElem?_eq_some_iff.1 hk
  rw [List.drop_eq_getElem_cons h1, h2, tgo, h]
/-- The slots' numbers and the bound, while a text is read. -/
structure TGo (t : Tb) (k : Nat) : Prop where
  len : t.slots.length ≤ k
  lo : 0 ≤ t.most
  hi : t.most ≤ 1000000000
  gens : ∀ s ∈ t.slots, 0 ≤ s.gen ∧ s.gen ≤ 1000000000
theorem tgo_nil : TGo tnil 0 := ⟨by simp [tnil], by simp [tnil], by simp [tnil], by simp [tnil]⟩
theorem own_tok {w : World} {base : Nat} {v : Value} {t : Tb} {k : Nat} (h : w.ownsRow base 35 2 v t.slots.length (slotCells t.slots)) (hg : TGo t k) : ∃ a c, v = .slice a t.slots.length c ∧ TOk w a c t := by
  obtain ⟨a, c, rfl, h1, h2, h3⟩ := own_slots h (fun s hs => by have := hg.gens s hs; unfold Slot.ok; omega)
  exact ⟨a, c, rfl, h1, h2, h3, by have := hg.lo; omega, by have := hg.hi; omega⟩
set_option maxHeartbeats 16000000 in
theorem hnParse (s : ByteArray) (hs : s.size ≤ 100000) (w : World) (hE : WEnv w) : Calls Tryz.prog 8 #[.string s] w (RM w (ParV (tparse s.data.toList))) := by
  obtain ⟨i0, hi, hz0, hz1, hz2⟩ := info_parts inf_slot
  have H1 := Lib.hid (fun w => woLines s w (by omega))
  have HRow := Lib.hid (fun x (hx : ByteArray.size x ≤ 100000) w h => hnRow x hx w h)
  obtain ⟨res, hres⟩ : ∃ r, tparse s.data.toList = r := ⟨_, rfl⟩
  rw [hres]
  have hpn := tparse_nil (s := s.data.toList)
  have htp : tparse s.data.toList = if (wlines s.data.toList).2 ≠ 0 then (tnil, 0, (wlines s.data.toList).2) else if (wlines s.data.toList).1 = [] then (tnil, 1, 6) else tgo 0 tnil (wlines s.data.toList).1 := rfl
  rw [hres] at hpn htp
  have hsl : ∀ x ∈ (wlines s.data.toList).1, x.length ≤ s.size := by
    intro x hx
    unfold wlines at hx
    split at hx
    · cases hx
    · split at hx
      · cases hx
      · split at hx
        · cases hx
        · split at hx
          · cases hx
          · have := spl_len _ _ x hx
            rw [← Lib.size_eq] at this
            simpa using this
  generalize wlines s.data.toList = r at H1 hpn htp hsl
  obtain ⟨Ls, en⟩ := r
  simp only at hpn htp hsl
  have HE := Lib.hid hE
  have HPn := Lib.hid hpn
  have HTp := Lib.hid htp
  have HSl := Lib.hid hsl
  clear hE hpn htp hsl hres
  go_enter Tryz.func8, Tryz.ntmps8
  go_wp2_with fail
  refine (H1.out _).mono ?_; rintro e wL ⟨v, rfl, ⟨sa, sc, LL, rfl, hS, hLs, hn5⟩, hb1⟩
  replace hLs : LL.map (·.data.toList) = Ls := hLs
  have hbL : Bl w wL := ((Bl.refl w).alloc _).trans hb1
  have hB2 : B2 24 wL w.heap.size (.int .i64 0) (.slice none 0 0) := (B2.new _ _ _ _).bl hb1
  have hTl := hB2.lt
  have hSize : ∀ x ∈ LL, x.size ≤ 100000 := by
    intro x hx
    have h1 : x.data.toList ∈ Ls := by rw [← hLs]; exact List.mem_map_of_mem hx
    have := HSl.out _ h1
    rw [← Lib.size_eq] at this; omega
  clear hb1
  by_cases hen : en = 0
  · subst hen
    have HLs := Lib.hid hLs
    by_cases hl0 : LL = []
    · have hls0 : Ls = [] := by rw [← hLs, hl0]; rfl
      have hst : tstep 0 tnil [] = none := by unfold tstep; rw [row_nil]; rfl
      have hr : res = (tnil, 1, 6) := by
        rw [HPn.out rfl hls0, tgo, hst]; rfl
      subst hr
      subst hl0
      have h1 := fun w h => HRow.out (⟨#[]⟩ : ByteArray) (by decide) w h
      rw [show (⟨#[]⟩ : ByteArray).data.toList = [] from rfl, row_nil] at h1
      have HR1 := Lib.hid h1
      clear hls0 hst hS hLs h1
      go_wp2_with fail
      go_loopg [28] 0 (fun g ix wr => ix = .int .i64 0 ∧ wr = wL.alloc (.cells #[.string ⟨#[]⟩] 9) ∧ g = 0)
      case atStart => exact ⟨rfl, rfl, rfl⟩
      case round =>
        obtain ⟨rfl, rfl, hg⟩ := hrel
        clear hg
        have hbL2 : Bl w (wL.alloc (.cells #[.string ⟨#[]⟩] 9)) := hbL.alloc _
        have hB3 := hB2.bl ((Bl.refl wL).alloc (.cells #[.string ⟨#[]⟩] 9))
        go_wp2_with fail
        refine (HR1.out _ (HE.out.bl hbL2)).mono ?_; rintro e w5 ⟨rfl, hbr⟩
        have h2 := hB3.bl hbr
        have hb5 := hbL2.trans hbr
        have c0 := h2.c0
        have c1 := h2.c1
        have f0 := h2.f 0
        have f1 := h2.f 1
        clear hB2 hB3 hbL2 hbr
        go_wp2_with fail
        have g2 := (B2.set1 (B2.set0 h2 (.int .i64 0)) (.slice none 0 0))
        have r0 := g2.c0
        have r1 := g2.c1
        refine bodyPost_ret (v := .tuple #[.agg #[.int .i64 0, .slice none 0 0], .int .i64 (1), .int .i64 (6)]) (by simp [results, Tryz.results8, go_sem, r0, r1]) rfl ?_
        exact RM.mk ⟨none, 0, rfl, tnil_ok _⟩ (((hb5).setCell _ (Nat.le_refl _) _).setCell _ (Nat.le_refl _) _)
    · have hlz : LL.length ≠ 0 := fun h => hl0 (List.length_eq_zero_iff.1 h)
      have z1 : ((LL.length : Int) == 0) = false := by rw [beq_eq_false_iff_ne]; omega
      have hgo : res = tgo 0 tnil (Ls.drop 0) := by
        have h1 := HTp.out
        rw [if_neg (by simp), if_neg (by intro e; rw [e] at hLs; exact hl0 (List.map_eq_nil_iff.1 hLs))] at h1
        exact h1
      have hStr := hS
      clear hl0 hlz hS hLs
      have HR := Lib.hid hgo
      have HSt := Lib.hid hStr
      have HSz := Lib.hid hSize
      have H20 := Lib.hid hB2
      have HTl := Lib.hid hTl
      clear hgo hStr hSize hB2 hTl
      go_wp2_with fail
      go_loopg [28] LL.length (fun g ix wr => ∃ (k : Nat) (t : Tb) (v : Value), ix = .int .i64 k ∧ k ≤ LL.length ∧ res = tgo k t (Ls.drop k) ∧ TGo t k ∧ B2 24 wr w.heap.size (.int .i64 t.most) v ∧ wr.ownsRow wL.heap.size 35 2 v t.slots.length (slotCells t.slots) ∧ KpT w.heap.size wL wr ∧ Bl w wr ∧ g = LL.length - k)
      case atStart => exact ⟨0, tnil, .slice none 0 0, rfl, Nat.zero_le _, HR.out, tgo_nil, H20.out, own_nil _ _ _ _, KpT.refl _ _, hbL, rfl⟩
      case round =>
        clear hbL HR
        obtain ⟨k, t, v, rfl, hk, hgo, htg, hb2, hown, hkp, hbw, hg⟩ := hrel
        have GG := Lib.hid hg
        have HR := Lib.hid hgo
        have HG := Lib.hid htg
        have HO := Lib.hid hown
        clear hg hgo htg hown
        by_cases hkl : k < LL.length
        · obtain ⟨q, hq⟩ : ∃ q, LL[k]? = some q := ⟨_, List.getElem?_eq_getElem hkl⟩
          obtain ⟨b, off, rfl, hat⟩ := HSt.out.get hkl
          have hd := hat k q hq
          have hbT := H20.out.other hd (by simp) (by simp)
          have d0 := hkp.cell hd hbT
          have hqs := HSz.out q (List.mem_of_getElem? hq)
          have HK := Lib.hid (show Ls[k]? = some q.data.toList by rw [← HLs.out, List.getElem?_map, hq]; rfl)
          have H1 := Lib.hid (fun w h => HRow.out q hqs w h)
          obtain ⟨r, hr⟩ : ∃ r, rowR q.data.toList = r := ⟨_, rfl⟩
          have hrg := row_range q.data.toList
          rw [hr] at H1 hrg
          obtain ⟨wd, n, is⟩ := r
          simp only at hrg
          have HRng := Lib.hid hrg
          obtain ⟨W, hW⟩ : ∃ W : ByteArray, (⟨wd.toArray⟩ : ByteArray) = W := ⟨_, rfl⟩
          have hwd : wd = W.data.toList := by rw [← hW]
          subst hwd
          rw [hW] at H1
          have HRr := Lib.hid hr
          clear hq hat hd hbT hr hrg hW
          go_wp2_with fail
          refine (H1.out _ (HE.out.bl hbw)).mono ?_; rintro e w5 ⟨rfl, hbr⟩
          have h2 := hb2.bl hbr
          have hb5 := hbw.trans hbr
          clear hb2 d0 H1
          cases is with
          | false =>
            have hst : tstep k t q.data.toList = none := by unfold tstep; rw [HRr.out]; rfl
            have hr := (HR.out).trans (tgo_stop HK.out hst)
            subst hr
            clear hst
            have c0 := h2.c0
            have c1 := h2.c1
            have f0 := h2.f 0
            have f1 := h2.f 1
            go_wp2_with fail
            have g2 := (B2.set1 (B2.set0 h2 (.int .i64 0)) (.slice none 0 0))
            have r0 := g2.c0
            have r1 := g2.c1
            refine bodyPost_ret (v := .tuple #[.agg #[.int .i64 0, .slice none 0 0], .int .i64 (((k : Int) + 1)), .int .i64 (6)]) (by simp [results, Tryz.results8, go_sem, r0, r1]) rfl ?_
            exact RM.mk ⟨none, 0, rfl, tnil_ok _⟩ (((hb5).setCell _ (Nat.le_refl _) _).setCell _ (Nat.le_refl _) _)
          | true =>
            by_cases hk0 : k = 0
            · have k1 : ((k : Int) == 0) = true := by rw [hk0]; rfl
              have k2 : decide (0 < k) = false := by rw [hk0]; rfl
              have k3 : decide ((0 : Int) < (k : Int)) = false := by rw [hk0]; rfl
              by_cases hwt : W.data.toList = tableW
              · have e1 : (W.toList == [116, 97, 98, 108, 101]) = true := by rw [toL, hwt]; rfl
                have hst : tstep k t q.data.toList = some ⟨n, t.slots⟩ := by
                  unfold tstep; rw [HRr.out]; simp only [Bool.true_eq_false, if_false]; rw [if_pos hk0, if_pos hwt]
                have HR2 := Lib.hid ((HR.out).trans (tgo_step HK.out hst))
                have c0 := h2.c0
                have c1 := h2.c1
                have f0 := h2.f 0
                have f1 := h2.f 1
                have HTT := Lib.hid (show TGo ⟨n, t.slots⟩ (k + 1) from ⟨by have := HG.out.len; simp only; omega, HRng.out.1, HRng.out.2, HG.out.gens⟩)
                have H2 := Lib.hid (h2.set0 (.int .i64 n))
                have HK8 := Lib.hid ((hkp.bl hbr).set 0 (.int .i64 n))
                have hb8 := hb5.setCell ⟨w.heap.size, 0, none⟩ (Nat.le_refl _) (.int .i64 n)
                have HW := Lib.hid (own_set (own_bl HO.out hbr) ⟨w.heap.size, 0, none⟩ HTl.out (.int .i64 n))
                clear hst hwt hk0 h2 hb5 hbr hkp hbw
                go_wp2_with fail
                go_roundg (LL.length - (k + 1))
                case rel => exact ⟨k + 1, ⟨n, t.slots⟩, _, by go_num, by omega, HR2.out, HTT.out, H2.out, HW.out, HK8.out, hb8, rfl⟩
                case measure => rw [GG.out]; omega
              · have e1 : (W.toList == [116, 97, 98, 108, 101]) = false := by rw [toL, beq_eq_false_iff_ne]; exact hwt
                have hst : tstep k t q.data.toList = none := by
                  unfold tstep; rw [HRr.out]; simp only [Bool.true_eq_false, if_false]; rw [if_pos hk0, if_neg hwt]
                clear hwt hk0
                have hr := (HR.out).trans (tgo_stop HK.out hst)
                subst hr
                clear hst
                have c0 := h2.c0
                have c1 := h2.c1
                have f0 := h2.f 0
                have f1 := h2.f 1
                go_wp2_with fail
                have g2 := (B2.set1 (B2.set0 h2 (.int .i64 0)) (.slice none 0 0))
                have r0 := g2.c0
                have r1 := g2.c1
                refine bodyPost_ret (v := .tuple #[.agg #[.int .i64 0, .slice none 0 0], .int .i64 (((k : Int) + 1)), .int .i64 (6)]) (by simp [results, Tryz.results8, go_sem, r0, r1]) rfl ?_
                exact RM.mk ⟨none, 0, rfl, tnil_ok _⟩ (((hb5).setCell _ (Nat.le_refl _) _).setCell _ (Nat.le_refl _) _)
            · have k1 : ((k : Int) == 0) = false := by rw [beq_eq_false_iff_ne]; omega
              have k2 : decide (0 < k) = true := by rw [decide_eq_true_eq]; omega
              have k3 : decide ((0 : Int) < (k : Int)) = true := by rw [decide_eq_true_eq]; omega
              by_cases hwu : W.data.toList = wordB true
              · have e1 : (W.toList == [117, 115, 101, 100]) = true := by rw [toL, hwu]; rfl
                have hst : tstep k t q.data.toList = some ⟨t.most, t.slots ++ [⟨n, true⟩]⟩ := by
                  unfold tstep; rw [HRr.out]; simp only [Bool.true_eq_false, if_false]; rw [if_neg hk0, if_pos hwu]
                clear hwu hk0
                have HR2 := Lib.hid ((HR.out).trans (tgo_step HK.out hst))
                clear hst
                have hown5 := own_bl HO.out hbr
                have hT : w.heap.size < wL.heap.size := HTl.out
                have hTT : TGo ⟨t.most, t.slots ++ [(⟨n, true⟩ : Slot)]⟩ (k + 1) := by
                  have hg := HG.out
                  refine ⟨by simp; exact hg.len, hg.lo, hg.hi, fun s hs => ?_⟩
                  rcases List.mem_append.1 hs with hs | hs
                  · exact hg.gens s hs
                  · rw [List.mem_singleton.1 hs]; exact HRng.out
                have HTT := Lib.hid hTT
                have hgl := HG.out.len
                have c0 := h2.c0
                have c1 := h2.c1
                have f0 := h2.f 0
                have f1 := h2.f 1
                have hsz5 := (hkp.bl hbr).1
                clear hTT
                go_wp2_with (at_builtin; refine wpList_append_own _ rfl _ _ 22 rfl wL.heap.size 35 i0 (.agg #[.int .i64 0, .bool false]) 2 16 Tryz.underlying22 hi hz0 hz1 hz2 rfl (by decide) _ _ _ rfl (hown5.alloc _) ⟨_, 0, none⟩ 1 1 [.int .i64 n, .bool true] rfl rfl ?c1a ?c2a ?c3a ?c4a ?c5a ?_)
                case c1a => exact multi_new _ _ _
                case c2a => intro u hu; simp at hu; rcases hu with rfl | rfl <;> rfl
                case c3a => unfold maxLen; omega
                case c4a => omega
                case c5a => simp; omega
                intro v' w6 hown6 hgrow _
                have hb6 := grown_bl (hb5.alloc _) (hown5.alloc _) hgrow (by omega)
                have hk6 := ((hkp.bl hbr).bl ((Bl.refl _).alloc _)).grown hgrow (fun j hj => (hown5.lt j hj).1)
                have h26 := (h2.bl ((Bl.refl _).alloc _)).grown hgrow (fun j hj => by have := (hown5.lt j hj).1; omega)
                have hown7 : w6.ownsRow wL.heap.size 35 2 v' (t.slots ++ [(⟨n, true⟩ : Slot)]).length (slotCells (t.slots ++ [(⟨n, true⟩ : Slot)])) := by
                  rw [slotCells_snoc, List.length_append]; exact hown6
                obtain ⟨oa, oc, rfl, -, -, -⟩ := own_form hown7
                have hown8 := own_set hown7 (⟨w.heap.size, 1, none⟩ : Addr) (by simp only; omega) (.slice oa (t.slots ++ [(⟨n, true⟩ : Slot)]).length oc)
                have HW := Lib.hid hown8
                have hln : (t.slots ++ [(⟨n, true⟩ : Slot)]).length = t.slots.length + 1 := by simp
                have h28 := h26.set1 (.slice oa (t.slots ++ [(⟨n, true⟩ : Slot)]).length oc)
                have H2 := Lib.hid h28
                have hk8 := hk6.set 1 (.slice oa (t.slots ++ [(⟨n, true⟩ : Slot)]).length oc)
                have HK8 := Lib.hid hk8
                have hb8 := hb6.setCell (⟨w.heap.size, 1, none⟩ : Addr) (Nat.le_refl _) (.slice oa (t.slots ++ [(⟨n, true⟩ : Slot)]).length oc)
                obtain ⟨ln, hll⟩ : ∃ x, (t.slots ++ [(⟨n, true⟩ : Slot)]).length = x := ⟨_, rfl⟩
                rw [hll] at HW H2 HK8 hb8 ⊢
                have HLl := Lib.hid hll
                clear hln hll
                have c0 := h26.c0
                have c1 := h26.c1
                have f0 := h26.f 0
                have f1 := h26.f 1
                clear hown6 hown7 hown8 hgrow hown5 hk6 hb6 h28 hk8 h2 hb5 hbr hkp hbw
                go_wp2_with fail
                go_roundg (LL.length - (k + 1))
                case rel => exact ⟨k + 1, ⟨t.most, t.slots ++ [(⟨n, true⟩ : Slot)]⟩, _, by go_num, by omega, HR2.out, HTT.out, H2.out, (by simp only [HLl.out]; exact HW.out), HK8.out, hb8, rfl⟩
                case measure => rw [GG.out]; omega
              · have e1 : (W.toList == [117, 115, 101, 100]) = false := by rw [toL, beq_eq_false_iff_ne]; exact hwu
                by_cases hwf : W.data.toList = wordB false
                · have e2 : (W.toList == [102, 114, 101, 101]) = true := by rw [toL, hwf]; rfl
                  have hst : tstep k t q.data.toList = some ⟨t.most, t.slots ++ [⟨n, false⟩]⟩ := by
                    unfold tstep; rw [HRr.out]; simp only [Bool.true_eq_false, if_false]; rw [if_neg hk0, if_neg hwu, if_pos hwf]
                  clear hwu hwf hk0
                  have HR2 := Lib.hid ((HR.out).trans (tgo_step HK.out hst))
                  clear hst
                  have hown5 := own_bl HO.out hbr
                  have hT : w.heap.size < wL.heap.size := HTl.out
                  have hTT : TGo ⟨t.most, t.slots ++ [(⟨n, false⟩ : Slot)]⟩ (k + 1) := by
                    have hg := HG.out
                    refine ⟨by simp; exact hg.len, hg.lo, hg.hi, fun s hs => ?_⟩
                    rcases List.mem_append.1 hs with hs | hs
                    · exact hg.gens s hs
                    · rw [List.mem_singleton.1 hs]; exact HRng.out
                  have HTT := Lib.hid hTT
                  have hgl := HG.out.len
                  have c0 := h2.c0
                  have c1 := h2.c1
                  have f0 := h2.f 0
                  have f1 := h2.f 1
                  have hsz5 := (hkp.bl hbr).1
                  clear hTT
                  go_wp2_with (at_builtin; refine wpList_append_own _ rfl _ _ 22 rfl wL.heap.size 35 i0 (.agg #[.int .i64 0, .bool false]) 2 16 Tryz.underlying22 hi hz0 hz1 hz2 rfl (by decide) _ _ _ rfl (hown5.alloc _) ⟨_, 0, none⟩ 1 1 [.int .i64 n, .bool false] rfl rfl ?c1b ?c2b ?c3b ?c4b ?c5b ?_)
                  case c1b => exact multi_new _ _ _
                  case c2b => intro u hu; simp at hu; rcases hu with rfl | rfl <;> rfl
                  case c3b => unfold maxLen; omega
                  case c4b => omega
                  case c5b => simp; omega
                  intro v' w6 hown6 hgrow _
                  have hb6 := grown_bl (hb5.alloc _) (hown5.alloc _) hgrow (by omega)
                  have hk6 := ((hkp.bl hbr).bl ((Bl.refl _).alloc _)).grown hgrow (fun j hj => (hown5.lt j hj).1)
                  have h26 := (h2.bl ((Bl.refl _).alloc _)).grown hgrow (fun j hj => by have := (hown5.lt j hj).1; omega)
                  have hown7 : w6.ownsRow wL.heap.size 35 2 v' (t.slots ++ [(⟨n, false⟩ : Slot)]).length (slotCells (t.slots ++ [(⟨n, false⟩ : Slot)])) := by
                    rw [slotCells_snoc, List.length_append]; exact hown6
                  obtain ⟨oa, oc, rfl, -, -, -⟩ := own_form hown7
                  have hown8 := own_set hown7 (⟨w.heap.size, 1, none⟩ : Addr) (by simp only; omega) (.slice oa (t.slots ++ [(⟨n, false⟩ : Slot)]).length oc)
                  have HW := Lib.hid hown8
                  have hln : (t.slots ++ [(⟨n, false⟩ : Slot)]).length = t.slots.length + 1 := by simp
                  have h28 := h26.set1 (.slice oa (t.slots ++ [(⟨n, false⟩ : Slot)]).length oc)
                  have H2 := Lib.hid h28
                  have hk8 := hk6.set 1 (.slice oa (t.slots ++ [(⟨n, false⟩ : Slot)]).length oc)
                  have HK8 := Lib.hid hk8
                  have hb8 := hb6.setCell (⟨w.heap.size, 1, none⟩ : Addr) (Nat.le_refl _) (.slice oa (t.slots ++ [(⟨n, false⟩ : Slot)]).length oc)
                  obtain ⟨ln, hll⟩ : ∃ x, (t.slots ++ [(⟨n, false⟩ : Slot)]).length = x := ⟨_, rfl⟩
                  rw [hll] at HW H2 HK8 hb8 ⊢
                  have HLl := Lib.hid hll
                  clear hln hll
                  have c0 := h26.c0
                  have c1 := h26.c1
                  have f0 := h26.f 0
                  have f1 := h26.f 1
                  clear hown6 hown7 hown8 hgrow hown5 hk6 hb6 h28 hk8 h2 hb5 hbr hkp hbw
                  go_wp2_with fail
                  go_roundg (LL.length - (k + 1))
                  case rel => exact ⟨k + 1, ⟨t.most, t.slots ++ [(⟨n, false⟩ : Slot)]⟩, _, by go_num, by omega, HR2.out, HTT.out, H2.out, (by simp only [HLl.out]; exact HW.out), HK8.out, hb8, rfl⟩
                  case measure => rw [GG.out]; omega
                · have e2 : (W.toList == [102, 114, 101, 101]) = false := by rw [toL, beq_eq_false_iff_ne]; exact hwf
                  have hst : tstep k t q.data.toList = none := by
                    unfold tstep; rw [HRr.out]; simp only [Bool.true_eq_false, if_false]; rw [if_neg hk0, if_neg hwu, if_neg hwf]
                  clear hwu hwf hk0
                  have hr := (HR.out).trans (tgo_stop HK.out hst)
                  subst hr
                  clear hst
                  have c0 := h2.c0
                  have c1 := h2.c1
                  have f0 := h2.f 0
                  have f1 := h2.f 1
                  go_wp2_with fail
                  have g2 := (B2.set1 (B2.set0 h2 (.int .i64 0)) (.slice none 0 0))
                  have r0 := g2.c0
                  have r1 := g2.c1
                  refine bodyPost_ret (v := .tuple #[.agg #[.int .i64 0, .slice none 0 0], .int .i64 (((k : Int) + 1)), .int .i64 (6)]) (by simp [results, Tryz.results8, go_sem, r0, r1]) rfl ?_
                  exact RM.mk ⟨none, 0, rfl, tnil_ok _⟩ (((hb5).setCell _ (Nat.le_refl _) _).setCell _ (Nat.le_refl _) _)
        · obtain rfl : k = LL.length := by omega
          obtain ⟨ta, tc, rfl, htok⟩ := own_tok HO.out HG.out
          have HTok := Lib.hid htok
          have hck := hnCheck ta tc t wr htok
          obtain ⟨ck, hce⟩ : ∃ x, (tchk t).2 = x := ⟨_, rfl⟩
          rw [hce] at hck
          unfold Tb.v at hck
          have HCk := Lib.hid hck
          have HCe := Lib.hid hce
          have c0 := hb2.c0
          have c1 := hb2.c1
          clear htok hck hce
          go_wp2_with fail
          refine HCk.out.mono ?_; rintro e w5 ⟨rfl, hbr⟩
          have h2 := hb2.bl hbr
          have hb5 := hbw.trans hbr
          have hr := HR.out
          rw [List.drop_of_length_le (by rw [← HLs.out, List.length_map]; exact Nat.le_refl _), tgo, HCe.out] at hr
          have c0 := h2.c0
          have c1 := h2.c1
          have f0 := h2.f 0
          have f1 := h2.f 1
          clear hb2 hbw HCk HTok
          by_cases hcz : ck = 0
          · rw [if_neg (by simpa using hcz)] at hr
            subst hr
            subst hcz
            have hown9 := own_set (own_set (own_bl HO.out hbr) (⟨w.heap.size, 0, none⟩ : Addr) HTl.out (.int .i64 t.most)) (⟨w.heap.size, 1, none⟩ : Addr) HTl.out (.slice ta t.slots.length tc)
            have HO9 := Lib.hid hown9
            clear hown9
            go_wp2_with fail
            have g2 := (B2.set1 (B2.set0 h2 (.int .i64 t.most)) (.slice ta t.slots.length tc))
            have r0 := g2.c0
            have r1 := g2.c1
            refine bodyPost_ret (v := .tuple #[.agg #[.int .i64 t.most, .slice ta t.slots.length tc], .int .i64 0, .int .i64 0]) (by simp [results, Tryz.results8, go_sem, r0, r1]) rfl ?_
            refine RM.mk ⟨ta, tc, rfl, ?_⟩ ((hb5.setCell _ (Nat.le_refl _) _).setCell _ (Nat.le_refl _) _)
            obtain ⟨a', c', e, h⟩ := own_tok HO9.out HG.out
            injection e with e1 _ e2
            subst e1 e2
            exact h
          · rw [if_pos hcz] at hr
            subst hr
            have t1 : (ck != 0) = true := by rw [bne_iff_ne]; exact hcz
            clear hcz
            go_wp2_with fail
            have g2 := (B2.set1 (B2.set0 h2 (.int .i64 0)) (.slice none 0 0))
            have r0 := g2.c0
            have r1 := g2.c1
            refine bodyPost_ret (v := .tuple #[.agg #[.int .i64 0, .slice none 0 0], .int .i64 (0), .int .i64 (ck)]) (by simp [results, Tryz.results8, go_sem, r0, r1]) rfl ?_
            exact RM.mk ⟨none, 0, rfl, tnil_ok _⟩ (((hb5).setCell _ (Nat.le_refl _) _).setCell _ (Nat.le_refl _) _)
  · have hr := HTp.out
    rw [if_pos hen] at hr
    subst hr
    have t1 : (en != 0) = true := by rw [bne_iff_ne]; exact hen
    have c0 := hB2.c0
    have c1 := hB2.c1
    have f0 := hB2.f 0
    have f1 := hB2.f 1
    clear hen hS hLs
    go_wp2_with fail
    have g2 := (B2.set1 (B2.set0 hB2 (.int .i64 0)) (.slice none 0 0))
    have r0 := g2.c0
    have r1 := g2.c1
    refine bodyPost_ret (v := .tuple #[.agg #[.int .i64 0, .slice none 0 0], .int .i64 (0), .int .i64 (en)]) (by simp [results, Tryz.results8, go_sem, r0, r1]) rfl ?_
    exact RM.mk ⟨none, 0, rfl, tnil_ok _⟩ (((hbL).setCell _ (Nat.le_refl _) _).setCell _ (Nat.le_refl _) _)
end Go.Proofs.YtidclkojekodpaaGreatDoor

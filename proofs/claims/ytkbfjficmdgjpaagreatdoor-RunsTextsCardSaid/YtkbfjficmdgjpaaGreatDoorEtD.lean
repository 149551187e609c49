
/-
  The program's reading of a line: type assertions, a map of two words.
-/
import Derived.Test.YtkbfjficmdgjpaaGreatDoorEtB
import Derived.Test.YtkbfjficmdgjpaaGreatDoorEtC
import Derived.Test.YtkbfjficmdgjpaaGreatDoorWoL
import Derived.Test.YtkbfjficmdgjpaaGreatDoorEntA
import Derived.Maps.Own
import Derived.Maps.OwnOps
namespace Go.Proofs.YtkbfjficmdgjpaaGreatDoor
open Go.RowKit Go.Sort Go.Maps Go.WideMaps
set_option linter.unusedSimpArgs false
set_option linter.unusedVariables false
set_option maxRecDepth 100000

theorem bareLaw : Keyed Tryz.prog 110 := string_keyed Tryz.underlying110
theorem zeroI (w : World) : (zeroValue 3).run Tryz.prog w = .ok (.int .i64 0) w := by kernel_rfl
theorem taBB (s : ByteArray) (w : World) : (Instr.typeAssert (.iface 110 (.string s)) 113 110 true).run Tryz.prog w = .ok (.tuple #[.string s, .bool true]) w := by kernel_rfl
theorem taTB (s : ByteArray) (w : World) : (Instr.typeAssert (.iface 115 (.string s)) 113 110 true).run Tryz.prog w = .ok (.tuple #[.string ⟨#[]⟩, .bool false]) w := by kernel_rfl
theorem taBT (s : ByteArray) (w : World) : (Instr.typeAssert (.iface 110 (.string s)) 113 115 true).run Tryz.prog w = .ok (.tuple #[.string ⟨#[]⟩, .bool false]) w := by kernel_rfl
theorem taTT (s : ByteArray) (w : World) : (Instr.typeAssert (.iface 115 (.string s)) 113 115 true).run Tryz.prog w = .ok (.tuple #[.string s, .bool true]) w := by kernel_rfl
/-- The words of a line and how many fields it has. -/
def D2 : DataW Unit := ((DataW.map []).put (.string putW) (.lit (.int .i64 4))).put (.string delW) (.lit (.int .i64 3))
def manyF (k : List UInt8) : Int := if k = putW then 4 else if k = delW then 3 else 0
theorem d2_at (k : List UInt8) : D2.atKey (.string k) (.lit (.int .i64 0)) = .lit (.int .i64 (manyF k)) := by
  unfold manyF
  by_cases h1 : k = putW
  · subst h1; rw [if_pos rfl]; rfl
  · rw [if_neg h1]
    by_cases h2 : k = delW
    · subst h2; rw [if_pos rfl]; rfl
    · rw [if_neg h2]
      have e1 : (putW == k) = false := by rw [beq_eq_false_iff_ne]; exact fun e => h1 e.symm
      have e2 : (delW == k) = false := by rw [beq_eq_false_iff_ne]; exact fun e => h2 e.symm
      have hD : D2 = .map [(.string delW, .lit (.int .i64 3)), (.string putW, .lit (.int .i64 4))] := rfl
      rw [hD]
      unfold DataW.atKey
      simp [Lit.sameKey, e1, e2]
theorem manyF_eq {k : List UInt8} {c : Int} (h : D2.atKey (.string k) (.lit (.int .i64 0)) = .lit (.int .i64 c)) : c = manyF k := by
  rw [d2_at] at h; injection h with h; injection h with _ h; exact h.symm
/-- The map is made, filled, looked into. -/
theorem mapFacts (W : World) (s : ByteArray) (hs : s.size ≤ maxLen) : ∃ wA wB, (Instr.mapUpdate 114 (.map (some W.heap.size)) (.string ⟨#[112, 117, 116]⟩) (.int .i64 4)).run Tryz.prog (W.alloc (.map #[] 0)) = .ok () wA ∧
    (Instr.mapUpdate 114 (.map (some W.heap.size)) (.string ⟨#[100, 101, 108]⟩) (.int .i64 3)).run Tryz.prog wA = .ok () wB ∧
    (Instr.lookup 114 (.map (some W.heap.size)) (.string s) false).run Tryz.prog wB = .ok (.int .i64 (manyF s.data.toList)) wB ∧ Bl W wB := by
  have h0 : (W.alloc (.map #[] 0)).ownsMap Tryz.prog 110 (plainElem (H := Unit) Tryz.prog 3) W.heap.size 0 (.map []) := World.ownsMap_made _ _ _ _
  obtain ⟨wA, r1, h1, g1⟩ := h0.update (key := .string ⟨#[112, 117, 116]⟩) (val := .int .i64 4) bareLaw Tryz.underlying114 (by unfold maxLen; omega) (keyOf_string_mk Tryz.underlying110 (by unfold maxLen; decide)) (plainElem_int Tryz.underlying3 (by decide))
  obtain ⟨wB, r2, h2, g2⟩ := h1.update (key := .string ⟨#[100, 101, 108]⟩) (val := .int .i64 3) bareLaw Tryz.underlying114 (by unfold maxLen; omega) (keyOf_string_mk Tryz.underlying110 (by unfold maxLen; decide)) (plainElem_int Tryz.underlying3 (by decide))
  obtain ⟨c, r3, hat, _⟩ := h2.lookup_int bareLaw Tryz.underlying114 Tryz.underlying3 (zeroI _) (keyOf_string_mk Tryz.underlying110 hs)
  have hc : c = manyF s.data.toList := manyF_eq hat
  subst hc
  refine ⟨wA, wB, r1, r2, r3, ?_⟩
  have hb : Bl W (W.alloc (.map #[] 0)) := (Bl.refl W).alloc _
  exact (hb.grown g1 (fun k e => by cases e; exact Nat.le_refl _)).grown g2 (fun k e => by cases e; exact Nat.le_refl _)
theorem pfs_form (s : List UInt8) : ∃ f m, pfs s = f :: m := by
  rcases pfG_form (s.length + 1) [] s with h | ⟨m, h⟩
  · exact ⟨_, _, h⟩
  · exact ⟨_, _, h⟩
theorem ifv_bs (f : Fld) (h : f.q = false) (b : ByteArray) (hb : ⟨f.s.toArray⟩ = b) : ifv f = .iface 110 (.string b) := by unfold ifv; rw [h, hb]; rfl
theorem ifv_ts (f : Fld) (h : f.q = true) (b : ByteArray) (hb : ⟨f.s.toArray⟩ = b) : ifv f = .iface 115 (.string b) := by unfold ifv; rw [h, hb]; rfl
theorem pfG_len : ∀ (f : Nat) (acc : List Fld) (t : List UInt8) (n : Nat), t.length ≤ n → (∀ x ∈ acc, x.s.length ≤ n) → ∀ x ∈ pfG f acc t, x.s.length ≤ n
  | 0, acc, t, n, ht, ha => by simp [pfG]
  | f + 1, acc, t, n, ht, ha => by
    have h1 : (pf1 t).s.length ≤ n := by
      unfold pf1
      split
      · simp only
        have hl : (t.take (pend t)).length ≤ n := by rw [List.length_take]; omega
        unfold unqR
        cases hu : unq1 (t.take (pend t)) with
        | none => simp
        | some p =>
          obtain ⟨v, k⟩ := p
          have e1 := unq1_small hu
          have e2 := (unq1_len hu).2
          simp only
          split
          · simp only; omega
          · simp
      · simp only [List.length_take]; omega
    have h2 : ∀ x ∈ acc ++ [pf1 t], x.s.length ≤ n := by
      intro x hx
      rcases List.mem_append.1 hx with hx | hx
      · exact ha x hx
      · rcases List.mem_singleton.1 hx with rfl; exact h1
    rw [pfG_succ]
    split
    · exact h2
    · rename_i c r hd
      split
      · refine pfG_len f _ r n ?_ h2
        have := congrArg List.length hd
        rw [List.length_drop, List.length_cons] at this
        omega
      · simp
theorem pfs_len (s : List UInt8) : ∀ f ∈ pfs s, f.s.length ≤ s.length := pfG_len _ _ s _ (Nat.le_refl _) (by simp)
/-! ### What a line's fields read as -/
theorem pp_q {f : Fld} {m : List Fld} (h : f.q = true) : pparse (f :: m) = (e0, 6) := by
  obtain ⟨k, q⟩ := f
  simp only at h; subst h
  unfold pparse
  split
  · rename_i e; simp at e
  · rename_i e; simp at e
  · rfl
theorem pp_no {f : Fld} {m : List Fld} (h1 : f.s ≠ putW) (h2 : f.s ≠ delW) : pparse (f :: m) = (e0, 6) := by
  obtain ⟨k, q⟩ := f
  simp only at h1 h2
  unfold pparse
  split
  · rename_i e; simp only [List.cons.injEq, Fld.mk.injEq] at e; rw [if_neg (by rw [← e.1.1]; exact h2)]
  · rename_i e; simp only [List.cons.injEq, Fld.mk.injEq] at e; rw [if_neg (by rw [← e.1.1]; exact h1)]
  · rfl
theorem pp_put {f : Fld} {m : List Fld} (h1 : f.s = putW) (h : m.length ≠ 3) : pparse (f :: m) = (e0, 6) := by
  obtain ⟨k, q⟩ := f
  simp only at h1; subst h1
  unfold pparse
  split
  · rename_i e; simp only [List.cons.injEq, Fld.mk.injEq] at e; rw [if_neg (by rw [← e.1.1]; decide)]
  · rename_i e; simp only [List.cons.injEq, Fld.mk.injEq] at e; rw [e.2] at h; simp at h
  · rfl
theorem pp_del {f : Fld} {m : List Fld} (h1 : f.s = delW) (h : m.length ≠ 2) : pparse (f :: m) = (e0, 6) := by
  obtain ⟨k, q⟩ := f
  simp only at h1; subst h1
  unfold pparse
  split
  · rename_i e; simp only [List.cons.injEq, Fld.mk.injEq] at e; rw [e.2] at h; simp at h
  · rename_i e; simp only [List.cons.injEq, Fld.mk.injEq] at e; rw [if_neg (by rw [← e.1.1]; decide)]
  · rfl
theorem pp_put3 {f f1 f2 f3 : Fld} (h0 : f.q = false) (h1 : f.s = putW) : pparse [f, f1, f2, f3] = if f1.q = true ∧ f2.q = true ∧ f3.q = false then pfin false f1.s f2.s f3.s else (e0, 6) := by
  obtain ⟨k, q⟩ := f
  simp only at h0 h1; subst h0 h1
  obtain ⟨a, qa⟩ := f1
  obtain ⟨b, qb⟩ := f2
  obtain ⟨c, qc⟩ := f3
  cases qa <;> cases qb <;> cases qc <;> simp [pparse]
theorem pp_del2 {f f1 f2 : Fld} (h0 : f.q = false) (h1 : f.s = delW) : pparse [f, f1, f2] = if f1.q = true ∧ f2.q = false then pfin true f1.s [] f2.s else (e0, 6) := by
  obtain ⟨k, q⟩ := f
  simp only at h0 h1; subst h0 h1
  obtain ⟨a, qa⟩ := f1
  obtain ⟨b, qb⟩ := f2
  cases qa <;> cases qb <;> simp [pparse]
set_option maxHeartbeats 1000000 in
theorem textPlain (s : ByteArray) (w : World) : Calls Tryz.prog 76 #[.string s] w (RB w (.string s)) := by
  go_enter Tryz.func76, Tryz.ntmps76
  go_wp2_with fail
  go_ret
  exact RB.mk rfl (by repeat (first | assumption | exact Bl.refl _ | apply Bl.drewN | apply Bl.drew | apply Bl.alloc | (refine Bl.dr ?_ (by assumption)) | (refine Bl.trans ?_ (by assumption))))
def RowC (W : World) (g : Nat) (xs : List Value) : Prop := ∀ (j : Nat) (u : Value), xs[j]? = some u → W.cell? ⟨g, j, none⟩ = some u
theorem RowC.bl {W W' : World} {g : Nat} {xs : List Value} (h : RowC W g xs) (k : Bl W W') : RowC W' g xs := fun j u hu => k.cell (h j u hu)
theorem RowC.set {W : World} {g : Nat} {xs : List Value} (h : RowC W g xs) {B : Nat} (hne : B < g) (i : Nat) (v : Value) : RowC (W.setCell ⟨B, i, none⟩ v) g xs := fun j u hu =>
  (World.cell?_setCell_other W ⟨B, i, none⟩ ⟨g, j, none⟩ v (by intro e; injection e with e; omega)).trans (h j u hu)
theorem bas_of (l : List UInt8) : ∃ b : ByteArray, (⟨l.toArray⟩ : ByteArray) = b ∧ b.data.toList = l := ⟨_, rfl, rfl⟩
set_option maxHeartbeats 8000000 in
theorem entParse (s : ByteArray) (hs : s.size ≤ 100000) (w : World) (hE : WEnv w) : Calls Tryz.prog 50 #[.string s] w (RB w (.tuple #[(pparse (pfs s.data.toList)).1.v, .int .i64 (pparse (pfs s.data.toList)).2])) := by
  obtain ⟨res, hres⟩ : ∃ r, pparse (pfs s.data.toList) = r := ⟨_, rfl⟩
  rw [hres]
  have HF := Lib.hid (fun w h => entFields s hs w h)
  have HE := Lib.hid hE
  obtain ⟨f0, m, hL⟩ := pfs_form s.data.toList
  have hsm : ∀ f ∈ pfs s.data.toList, f.s.length ≤ 100000 := fun f hf => by
    have := pfs_len _ f hf
    rw [← Lib.size_eq] at this; omega
  rw [hL] at hsm hres HF
  have HSm := Lib.hid hsm
  have HRes := Lib.hid hres
  have hmm := @run_makeMap Tryz.prog
  have t1 := taBB
  have t2 := taTB
  have t3 := taBT
  have t4 := taTT
  obtain ⟨b0, hb0, hb0l⟩ := bas_of f0.s
  have hkb : (if f0.q = true then (⟨#[]⟩ : ByteArray) else b0).size ≤ maxLen := by
    have := hsm f0 (by simp)
    split
    · decide
    · rw [Lib.size_eq, hb0l]; unfold maxLen; omega
  have HKb := Lib.hid hkb
  clear hE hL hres hsm hkb
  go_enter Tryz.func50, Tryz.ntmps50
  go_wp2_with fail
  refine (HF.out _ (HE.out.esc.bl (by repeat (first | assumption | exact Bl.refl _ | apply Bl.drewN | apply Bl.drew | apply Bl.alloc | (refine Bl.dr ?_ (by assumption)) | (refine Bl.trans ?_ (by assumption)))))).mono ?_; rintro e w1 ⟨v, rfl, hown, hb1⟩
  have hM1 : Mem w1 (VE w.heap.size e0) := Mem.bl (by simp [Mem, VE, go_sem, e0]) hb1
  have hb := ((Bl.refl w).alloc (.cells #[.string ⟨#[]⟩, .string ⟨#[]⟩, .bool false, .int .i64 0] 35)).trans hb1
  obtain ⟨a, c, rfl, hlc, hcm, hrow⟩ := own_form hown
  obtain ⟨g, rfl, hg1, hg2, hcells⟩ := hrow (by simp)
  have hwg : w.heap.size < g := by simp at hg1; omega
  have d0 := hcells 0 (ifv f0) rfl
  have hc9 : RowC w1 g (List.map ifv (f0 :: m)) := hcells
  obtain ⟨wA, wB, r1, r2, r3, hbB⟩ := mapFacts w1 (if f0.q = true then (⟨#[]⟩ : ByteArray) else b0) HKb.out
  have HMB := Lib.hid (hM1.bl hbB)
  have HBB := Lib.hid (hb.trans hbB)
  have HCB := Lib.hid (hc9.bl hbB)
  clear hM1 hcells hb1 hown hb hc9 hg1 hg2 hrow hlc hcm hbB
  cases hq0 : f0.q with
  | true =>
    rw [ifv_ts f0 hq0 b0 hb0] at d0
    rw [hq0, if_pos rfl] at r3
    have e9 : manyF [] = 0 := rfl
    have hr0 : res = (e0, 6) := HRes.out.symm.trans (pp_q hq0)
    subst hr0
    have hm := HMB.out
    simp only [Mem, VE, List.cons_append, List.nil_append, and_true, e0] at hm
    have hb := HBB.out
    unfold Ent.v e0
    simp only
    go_wp2_with fail
    
    refine bodyPost_ret (v := .tuple #[.agg #[.string ⟨#[]⟩, .string ⟨#[]⟩, .bool false, .int .i64 0], .int .i64 6]) (by simp [results, Tryz.results50, go_sem, *]) rfl ?_
    exact ⟨rfl, (by repeat (first | assumption | exact Bl.refl _ | apply Bl.drewN | apply Bl.drew | apply Bl.alloc | (refine Bl.setCell ?_ _ (by first | (simp; done) | (simp; omega)) _) | (refine Bl.dr ?_ (by assumption)) | (refine Bl.trans ?_ (by assumption))))⟩
  | false =>
    rw [ifv_bs f0 hq0 b0 hb0] at d0
    rw [hq0, if_neg (by simp)] at r3
    by_cases h1 : b0.data.toList = putW
    · have hmany : manyF b0.data.toList = 4 := by unfold manyF; rw [if_pos h1]
      rw [hmany] at r3
      by_cases h4 : m.length = 3
      · obtain ⟨f1, f2, f3, rfl⟩ : ∃ a b c, m = [a, b, c] := by
          match m, h4 with
          | [a, b, c], _ => exact ⟨a, b, c, rfl⟩
        have hres := HRes.out
        rw [pp_put3 hq0 (hb0l.symm.trans h1)] at hres
        obtain ⟨n1, hn1, hn1l⟩ := bas_of f1.s
        obtain ⟨n2, hn2, hn2l⟩ := bas_of f2.s
        obtain ⟨n3, hn3, hn3l⟩ := bas_of f3.s
        have hM2 : Mem (wB.setCell ⟨w.heap.size, 2, none⟩ (.bool false)) (VE w.heap.size { e0 with dead := false }) := Mem.k2 HMB.out false
        have hB2 : Bl w (wB.setCell ⟨w.heap.size, 2, none⟩ (.bool false)) := HBB.out.setCell _ (Nat.le_refl _) _
        have hC2 : RowC (wB.setCell ⟨w.heap.size, 2, none⟩ (.bool false)) g (List.map ifv [f0, f1, f2, f3]) := HCB.out.set hwg 2 _
        have d1 := hC2 1 (ifv f1) rfl
        have d3 := hC2 3 (ifv f3) rfl
        have e8 : (b0.toList == [100, 101, 108]) = false := by rw [toL, h1]; rfl
        have HM2 := Lib.hid hM2
        have HB2 := Lib.hid hB2
        have HC2 := Lib.hid hC2
        have hm0 := HMB.out
        simp only [Mem, VE, List.cons_append, List.nil_append, and_true, e0] at hm0
        clear hM2 hB2 hC2 hmany h1 h4 HRes
        cases hq1 : f1.q with
        | false =>
          rw [ifv_bs f1 hq1 n1 hn1] at d1
          rw [hq1, if_neg (by simp)] at hres
          subst hres
          cases hq3 : f3.q with
          | false =>
            rw [ifv_bs f3 hq3 n3 hn3] at d3
            have hm := (HM2).out
            simp only [Mem, VE, List.cons_append, List.nil_append, and_true, e0] at hm
            unfold Ent.v e0
            simp only
            go_upto_region 10 with fail
            clear hm
            generalize (wB.setCell ⟨w.heap.size, 2, none⟩ (.bool false)) = W2 at *
            have hm := (HM2).out
            simp only [Mem, VE, List.cons_append, List.nil_append, and_true, e0] at hm
            have hb := (HB2).out
            try clear d0
            try clear d1
            try clear d2
            try clear d3
            try clear hm0
            try clear hm2
            try clear hM5 hM6
            try clear r1 r2 r3
            go_wp2_with fail
            
            refine bodyPost_ret (v := .tuple #[.agg #[.string ⟨#[]⟩, .string ⟨#[]⟩, .bool false, .int .i64 0], .int .i64 6]) (by simp [results, Tryz.results50, go_sem, *]) rfl ?_
            exact ⟨rfl, (by repeat (first | assumption | exact Bl.refl _ | apply Bl.drewN | apply Bl.drew | apply Bl.alloc | (refine Bl.setCell ?_ _ (by first | (simp; done) | (simp; omega)) _) | (refine Bl.dr ?_ (by assumption)) | (refine Bl.trans ?_ (by assumption))))⟩
          | true =>
            rw [ifv_ts f3 hq3 n3 hn3] at d3
            have hm := (HM2).out
            simp only [Mem, VE, List.cons_append, List.nil_append, and_true, e0] at hm
            unfold Ent.v e0
            simp only
            go_upto_region 10 with fail
            clear hm
            generalize (wB.setCell ⟨w.heap.size, 2, none⟩ (.bool false)) = W2 at *
            have hm := (HM2).out
            simp only [Mem, VE, List.cons_append, List.nil_append, and_true, e0] at hm
            have hb := (HB2).out
            try clear d0
            try clear d1
            try clear d2
            try clear d3
            try clear hm0
            try clear hm2
            try clear hM5 hM6
            try clear r1 r2 r3
            go_wp2_with fail
            
            refine bodyPost_ret (v := .tuple #[.agg #[.string ⟨#[]⟩, .string ⟨#[]⟩, .bool false, .int .i64 0], .int .i64 6]) (by simp [results, Tryz.results50, go_sem, *]) rfl ?_
            exact ⟨rfl, (by repeat (first | assumption | exact Bl.refl _ | apply Bl.drewN | apply Bl.drew | apply Bl.alloc | (refine Bl.setCell ?_ _ (by first | (simp; done) | (simp; omega)) _) | (refine Bl.dr ?_ (by assumption)) | (refine Bl.trans ?_ (by assumption))))⟩
        | true =>
          rw [ifv_ts f1 hq1 n1 hn1] at d1
          cases hq3 : f3.q with
          | true =>
            rw [ifv_ts f3 hq3 n3 hn3] at d3
            rw [hq3, if_neg (by simp)] at hres
            subst hres
            have hm := (HM2).out
            simp only [Mem, VE, List.cons_append, List.nil_append, and_true, e0] at hm
            unfold Ent.v e0
            simp only
            go_upto_region 10 with fail
            clear hm
            generalize (wB.setCell ⟨w.heap.size, 2, none⟩ (.bool false)) = W2 at *
            have hm := (HM2).out
            simp only [Mem, VE, List.cons_append, List.nil_append, and_true, e0] at hm
            have hb := (HB2).out
            try clear d0
            try clear d1
            try clear d2
            try clear d3
            try clear hm0
            try clear hm2
            try clear hM5 hM6
            try clear r1 r2 r3
            go_wp2_with fail
            
            refine bodyPost_ret (v := .tuple #[.agg #[.string ⟨#[]⟩, .string ⟨#[]⟩, .bool false, .int .i64 0], .int .i64 6]) (by simp [results, Tryz.results50, go_sem, *]) rfl ?_
            exact ⟨rfl, (by repeat (first | assumption | exact Bl.refl _ | apply Bl.drewN | apply Bl.drew | apply Bl.alloc | (refine Bl.setCell ?_ _ (by first | (simp; done) | (simp; omega)) _) | (refine Bl.dr ?_ (by assumption)) | (refine Bl.trans ?_ (by assumption))))⟩
          | false =>
            rw [ifv_bs f3 hq3 n3 hn3] at d3
            have hm2 := HM2.out
            simp only [Mem, VE, List.cons_append, List.nil_append, and_true, e0] at hm2
            go_wp2_with fail
            refine (textPlain n1 _).mono ?_; rintro e w5 ⟨rfl, hb5⟩
            have hM5 := HM2.out.bl hb5
            have hM6 := Mem.k0 hM5 n1
            have hB6 := (HB2.out.trans hb5).setCell ⟨w.heap.size, 0, none⟩ (Nat.le_refl _) (.string n1)
            have d2 := ((HC2.out.bl hb5).set hwg 0 (.string n1)) 2 (ifv f2) rfl
            have HM6 := Lib.hid hM6
            have HB6 := Lib.hid hB6
            have hM7 := Mem.k1 hM6 n2
            have HM7 := Lib.hid hM7
            have HB7 := Lib.hid (hB6.setCell ⟨w.heap.size, 1, none⟩ (Nat.le_refl _) (.string n2))
            clear hM7 hB6 hb5 hm2 hm0 d0 d1 d3 r1 r2 r3
            simp only [Mem, VE, List.cons_append, List.nil_append, and_true, e0] at hM5 hM6
            cases hq2 : f2.q with
            | false =>
              rw [ifv_bs f2 hq2 n2 hn2] at d2
              rw [hq2, if_neg (by simp)] at hres
              subst hres
              have hm := (HM6).out
              simp only [Mem, VE, List.cons_append, List.nil_append, and_true, e0] at hm
              unfold Ent.v e0
              simp only
              go_upto_region 15 with fail
              clear hm
              generalize (w5.setCell ⟨w.heap.size, 0, none⟩ (.string n1)) = W2 at *
              have hm := (HM6).out
              simp only [Mem, VE, List.cons_append, List.nil_append, and_true, e0] at hm
              have hb := (HB6).out
              try clear d0
              try clear d1
              try clear d2
              try clear d3
              try clear hm0
              try clear hm2
              try clear hM5 hM6
              try clear r1 r2 r3
              go_wp2_with fail
              
              refine bodyPost_ret (v := .tuple #[.agg #[.string ⟨#[]⟩, .string ⟨#[]⟩, .bool false, .int .i64 0], .int .i64 6]) (by simp [results, Tryz.results50, go_sem, *]) rfl ?_
              exact ⟨rfl, (by repeat (first | assumption | exact Bl.refl _ | apply Bl.drewN | apply Bl.drew | apply Bl.alloc | (refine Bl.setCell ?_ _ (by first | (simp; done) | (simp; omega)) _) | (refine Bl.dr ?_ (by assumption)) | (refine Bl.trans ?_ (by assumption))))⟩
            | true =>
              rw [ifv_ts f2 hq2 n2 hn2] at d2
              rw [hq1, hq2, hq3, if_pos (by simp), ← hn1l, ← hn2l, ← hn3l] at hres
              have h3s := HSm.out f3 (by simp)
              have h1s := HSm.out f1 (by simp)
              have h2s := HSm.out f2 (by simp)
              have HKs := Lib.hid (show n1.size ≤ maxLen ∧ n2.size ≤ maxLen from ⟨by rw [Lib.size_eq, hn1l]; unfold maxLen; omega, by rw [Lib.size_eq, hn2l]; unfold maxLen; omega⟩)
              have h9 : n3.size ≤ 100000 := by rw [Lib.size_eq, hn3l]; exact h3s
              clear h1s h2s h3s hn1 hn2 hn3 hn1l hn2l hn3l
              have hI := fun w h => woInt n3 1 1000000000 (h9) w h
              obtain ⟨⟨sq, se⟩, hw⟩ : ∃ z, wint (n3).data.toList 1 1000000000 = z := ⟨_, rfl⟩
              rw [hw] at hI
              have HI := Lib.hid hI
              by_cases h6 : se = 6
              · have hr0 : res = (e0, 6) := by rw [← hres]; unfold pfin; rw [hw, if_pos h6]
                subst hr0
                subst h6
                clear hres hw hI
                unfold Ent.v e0
                simp only
                have hm := (HM7).out
                simp only [Mem, VE, List.cons_append, List.nil_append, and_true, e0] at hm
                go_wp2_with fail
                refine (HI.out _ (HE.out.bl (HB7).out)).mono ?_; rintro e w8 ⟨rfl, hb8⟩
                clear hm
                have hm := (HM7).out.bl hb8
                simp only [Mem, VE, List.cons_append, List.nil_append, and_true, e0] at hm
                have hb := (HB7).out.trans hb8
                go_wp2_with fail
                
                refine bodyPost_ret (v := .tuple #[.agg #[.string ⟨#[]⟩, .string ⟨#[]⟩, .bool false, .int .i64 0], .int .i64 6]) (by simp [results, Tryz.results50, go_sem, *]) rfl ?_
                exact ⟨rfl, (by repeat (first | assumption | exact Bl.refl _ | apply Bl.drewN | apply Bl.drew | apply Bl.alloc | (refine Bl.setCell ?_ _ (by first | (simp; done) | (simp; omega)) _) | (refine Bl.dr ?_ (by assumption)) | (refine Bl.trans ?_ (by assumption))))⟩
              · have hrs2 : res = _ := hres.symm.trans (pfin_is (D := false) (key := n1) (val := n2) hw h6)
                have e6 : (se == 6) = false := by rw [beq_eq_false_iff_ne]; exact h6
                have hok : Ent.ok ⟨n1, n2, false, sq⟩ := ⟨HKs.out.1, HKs.out.2, wint_rng hw⟩
                have hC := fun w => entCheck ⟨n1, n2, false, sq⟩ w hok
                obtain ⟨q2, hq2⟩ : ∃ q, echk ⟨n1, n2, false, sq⟩ = q := ⟨_, rfl⟩
                rw [hq2] at hC hrs2
                have HRs2 := Lib.hid hrs2
                unfold Ent.v at hC
                simp only at hC
                have HC := Lib.hid hC
                clear hres hI hw h6 hok hq2 hC hrs2
                have hm := (HM7).out
                simp only [Mem, VE, List.cons_append, List.nil_append, and_true, e0] at hm
                go_wp2_with fail
                refine (HI.out _ (HE.out.bl (HB7).out)).mono ?_; rintro e w8 ⟨rfl, hb8⟩
                clear hm
                have hm8 := (HM7).out.bl hb8
                have hM9 := Mem.k3 hm8 sq
                have hb9 := ((HB7).out.trans hb8).setCell ⟨w.heap.size, 3, none⟩ (Nat.le_refl _) (.int .i64 sq)
                have HM9 := Lib.hid hM9
                simp only [Mem, VE, List.cons_append, List.nil_append, and_true, e0] at hm8 hM9
                go_wp2_with fail
                refine (HC.out _).mono ?_; rintro e w10 ⟨rfl, hb10⟩
                clear hm8 hM9
                have hm := HM9.out.bl hb10
                simp only [Mem, VE, List.cons_append, List.nil_append, and_true, e0] at hm
                have hb := hb9.trans hb10
                have hrs2 := HRs2.out
                by_cases hz : q2 = 0
                · rw [if_neg (by simp [hz])] at hrs2
                  subst hrs2
                  subst hz
                  unfold Ent.v
                  simp only
                  go_wp2_with fail
                  
                  refine bodyPost_ret (v := .tuple #[.agg #[.string n1, .string n2, .bool false, .int .i64 sq], .int .i64 0]) (by simp [results, Tryz.results50, go_sem, *]) rfl ?_
                  exact ⟨rfl, (by repeat (first | assumption | exact Bl.refl _ | apply Bl.drewN | apply Bl.drew | apply Bl.alloc | (refine Bl.setCell ?_ _ (by first | (simp; done) | (simp; omega)) _) | (refine Bl.dr ?_ (by assumption)) | (refine Bl.trans ?_ (by assumption))))⟩
                · have hz1 : (q2 != 0) = true := by rw [bne_iff_ne]; exact hz
                  rw [if_pos hz] at hrs2
                  subst hrs2
                  clear hz
                  unfold Ent.v e0
                  simp only
                  go_wp2_with fail
                  
                  refine bodyPost_ret (v := .tuple #[.agg #[.string ⟨#[]⟩, .string ⟨#[]⟩, .bool false, .int .i64 0], .int .i64 q2]) (by simp [results, Tryz.results50, go_sem, *]) rfl ?_
                  exact ⟨rfl, (by repeat (first | assumption | exact Bl.refl _ | apply Bl.drewN | apply Bl.drew | apply Bl.alloc | (refine Bl.setCell ?_ _ (by first | (simp; done) | (simp; omega)) _) | (refine Bl.dr ?_ (by assumption)) | (refine Bl.trans ?_ (by assumption))))⟩
      · have e1 : ((m.length : Int) + 1 != 4) = true := by rw [bne_iff_ne]; omega
        have hr0 : res = (e0, 6) := HRes.out.symm.trans (pp_put (hb0l.symm.trans h1) h4)
        subst hr0
        have hm := HMB.out
        simp only [Mem, VE, List.cons_append, List.nil_append, and_true, e0] at hm
        have hb := HBB.out
        unfold Ent.v e0
        simp only
        go_wp2_with fail
        
        refine bodyPost_ret (v := .tuple #[.agg #[.string ⟨#[]⟩, .string ⟨#[]⟩, .bool false, .int .i64 0], .int .i64 6]) (by simp [results, Tryz.results50, go_sem, *]) rfl ?_
        exact ⟨rfl, (by repeat (first | assumption | exact Bl.refl _ | apply Bl.drewN | apply Bl.drew | apply Bl.alloc | (refine Bl.setCell ?_ _ (by first | (simp; done) | (simp; omega)) _) | (refine Bl.dr ?_ (by assumption)) | (refine Bl.trans ?_ (by assumption))))⟩
    · by_cases h2 : b0.data.toList = delW
      · have hmany : manyF b0.data.toList = 3 := by unfold manyF; rw [if_neg h1, if_pos h2]
        rw [hmany] at r3
        by_cases h4 : m.length = 2
        · obtain ⟨f1, f2, rfl⟩ : ∃ a b, m = [a, b] := by
            match m, h4 with
            | [a, b], _ => exact ⟨a, b, rfl⟩
          have hres := HRes.out
          rw [pp_del2 hq0 (hb0l.symm.trans h2)] at hres
          obtain ⟨n1, hn1, hn1l⟩ := bas_of f1.s
          obtain ⟨n2, hn2, hn2l⟩ := bas_of f2.s
          have hM2 : Mem (wB.setCell ⟨w.heap.size, 2, none⟩ (.bool true)) (VE w.heap.size { e0 with dead := true }) := Mem.k2 HMB.out true
          have hB2 : Bl w (wB.setCell ⟨w.heap.size, 2, none⟩ (.bool true)) := HBB.out.setCell _ (Nat.le_refl _) _
          have hC2 : RowC (wB.setCell ⟨w.heap.size, 2, none⟩ (.bool true)) g (List.map ifv [f0, f1, f2]) := HCB.out.set hwg 2 _
          have d1 := hC2 1 (ifv f1) rfl
          have d2 := hC2 2 (ifv f2) rfl
          have e8 : (b0.toList == [100, 101, 108]) = true := by rw [toL, h2]; rfl
          have HM2 := Lib.hid hM2
          have HB2 := Lib.hid hB2
          have HC2 := Lib.hid hC2
          have hm0 := HMB.out
          simp only [Mem, VE, List.cons_append, List.nil_append, and_true, e0] at hm0
          clear hM2 hB2 hC2 hmany h1 h2 h4 HRes
          cases hq1 : f1.q with
          | false =>
            rw [ifv_bs f1 hq1 n1 hn1] at d1
            rw [hq1, if_neg (by simp)] at hres
            subst hres
            cases hq2 : f2.q with
            | false =>
              rw [ifv_bs f2 hq2 n2 hn2] at d2
              have hm := (HM2).out
              simp only [Mem, VE, List.cons_append, List.nil_append, and_true, e0] at hm
              unfold Ent.v e0
              simp only
              go_upto_region 10 with fail
              clear hm
              generalize (wB.setCell ⟨w.heap.size, 2, none⟩ (.bool true)) = W2 at *
              have hm := (HM2).out
              simp only [Mem, VE, List.cons_append, List.nil_append, and_true, e0] at hm
              have hb := (HB2).out
              try clear d0
              try clear d1
              try clear d2
              try clear d3
              try clear hm0
              try clear hm2
              try clear hM5 hM6
              try clear r1 r2 r3
              go_wp2_with fail
              
              refine bodyPost_ret (v := .tuple #[.agg #[.string ⟨#[]⟩, .string ⟨#[]⟩, .bool false, .int .i64 0], .int .i64 6]) (by simp [results, Tryz.results50, go_sem, *]) rfl ?_
              exact ⟨rfl, (by repeat (first | assumption | exact Bl.refl _ | apply Bl.drewN | apply Bl.drew | apply Bl.alloc | (refine Bl.setCell ?_ _ (by first | (simp; done) | (simp; omega)) _) | (refine Bl.dr ?_ (by assumption)) | (refine Bl.trans ?_ (by assumption))))⟩
            | true =>
              rw [ifv_ts f2 hq2 n2 hn2] at d2
              have hm := (HM2).out
              simp only [Mem, VE, List.cons_append, List.nil_append, and_true, e0] at hm
              unfold Ent.v e0
              simp only
              go_upto_region 10 with fail
              clear hm
              generalize (wB.setCell ⟨w.heap.size, 2, none⟩ (.bool true)) = W2 at *
              have hm := (HM2).out
              simp only [Mem, VE, List.cons_append, List.nil_append, and_true, e0] at hm
              have hb := (HB2).out
              try clear d0
              try clear d1
              try clear d2
              try clear d3
              try clear hm0
              try clear hm2
              try clear hM5 hM6
              try clear r1 r2 r3
              go_wp2_with fail
              
              refine bodyPost_ret (v := .tuple #[.agg #[.string ⟨#[]⟩, .string ⟨#[]⟩, .bool false, .int .i64 0], .int .i64 6]) (by simp [results, Tryz.results50, go_sem, *]) rfl ?_
              exact ⟨rfl, (by repeat (first | assumption | exact Bl.refl _ | apply Bl.drewN | apply Bl.drew | apply Bl.alloc | (refine Bl.setCell ?_ _ (by first | (simp; done) | (simp; omega)) _) | (refine Bl.dr ?_ (by assumption)) | (refine Bl.trans ?_ (by assumption))))⟩
          | true =>
            rw [ifv_ts f1 hq1 n1 hn1] at d1
            cases hq2 : f2.q with
            | true =>
              rw [ifv_ts f2 hq2 n2 hn2] at d2
              rw [hq2, if_neg (by simp)] at hres
              subst hres
              have hm := (HM2).out
              simp only [Mem, VE, List.cons_append, List.nil_append, and_true, e0] at hm
              unfold Ent.v e0
              simp only
              go_upto_region 10 with fail
              clear hm
              generalize (wB.setCell ⟨w.heap.size, 2, none⟩ (.bool true)) = W2 at *
              have hm := (HM2).out
              simp only [Mem, VE, List.cons_append, List.nil_append, and_true, e0] at hm
              have hb := (HB2).out
              try clear d0
              try clear d1
              try clear d2
              try clear d3
              try clear hm0
              try clear hm2
              try clear hM5 hM6
              try clear r1 r2 r3
              go_wp2_with fail
              
              refine bodyPost_ret (v := .tuple #[.agg #[.string ⟨#[]⟩, .string ⟨#[]⟩, .bool false, .int .i64 0], .int .i64 6]) (by simp [results, Tryz.results50, go_sem, *]) rfl ?_
              exact ⟨rfl, (by repeat (first | assumption | exact Bl.refl _ | apply Bl.drewN | apply Bl.drew | apply Bl.alloc | (refine Bl.setCell ?_ _ (by first | (simp; done) | (simp; omega)) _) | (refine Bl.dr ?_ (by assumption)) | (refine Bl.trans ?_ (by assumption))))⟩
            | false =>
              rw [ifv_bs f2 hq2 n2 hn2] at d2
              have hm2 := HM2.out
              simp only [Mem, VE, List.cons_append, List.nil_append, and_true, e0] at hm2
              go_wp2_with fail
              refine (textPlain n1 _).mono ?_; rintro e w5 ⟨rfl, hb5⟩
              have hM5 := HM2.out.bl hb5
              have hM6 := Mem.k0 hM5 n1
              have hB6 := (HB2.out.trans hb5).setCell ⟨w.heap.size, 0, none⟩ (Nat.le_refl _) (.string n1)
              have HM6 := Lib.hid hM6
              have HB6 := Lib.hid hB6
              clear hB6 hb5 hm2 hm0 d0 d1 d2 r1 r2 r3
              simp only [Mem, VE, List.cons_append, List.nil_append, and_true, e0] at hM5 hM6
              rw [hq1, hq2, if_pos (by simp), ← hn1l, ← hn2l, show ([] : List UInt8) = (⟨#[]⟩ : ByteArray).data.toList from rfl] at hres
              have h2s := HSm.out f2 (by simp)
              have h1s := HSm.out f1 (by simp)
              have HKs := Lib.hid (show n1.size ≤ maxLen ∧ (⟨#[]⟩ : ByteArray).size ≤ maxLen from ⟨by rw [Lib.size_eq, hn1l]; unfold maxLen; omega, by unfold maxLen; decide⟩)
              have h9 : n2.size ≤ 100000 := by rw [Lib.size_eq, hn2l]; exact h2s
              clear h1s h2s hn1 hn2 hn1l hn2l
              have hI := fun w h => woInt n2 1 1000000000 (h9) w h
              obtain ⟨⟨sq, se⟩, hw⟩ : ∃ z, wint (n2).data.toList 1 1000000000 = z := ⟨_, rfl⟩
              rw [hw] at hI
              have HI := Lib.hid hI
              by_cases h6 : se = 6
              · have hr0 : res = (e0, 6) := by rw [← hres]; unfold pfin; rw [hw, if_pos h6]
                subst hr0
                subst h6
                clear hres hw hI
                unfold Ent.v e0
                simp only
                have hm := (HM6).out
                simp only [Mem, VE, List.cons_append, List.nil_append, and_true, e0] at hm
                go_wp2_with fail
                refine (HI.out _ (HE.out.bl (HB6).out)).mono ?_; rintro e w8 ⟨rfl, hb8⟩
                clear hm
                have hm := (HM6).out.bl hb8
                simp only [Mem, VE, List.cons_append, List.nil_append, and_true, e0] at hm
                have hb := (HB6).out.trans hb8
                go_wp2_with fail
                
                refine bodyPost_ret (v := .tuple #[.agg #[.string ⟨#[]⟩, .string ⟨#[]⟩, .bool false, .int .i64 0], .int .i64 6]) (by simp [results, Tryz.results50, go_sem, *]) rfl ?_
                exact ⟨rfl, (by repeat (first | assumption | exact Bl.refl _ | apply Bl.drewN | apply Bl.drew | apply Bl.alloc | (refine Bl.setCell ?_ _ (by first | (simp; done) | (simp; omega)) _) | (refine Bl.dr ?_ (by assumption)) | (refine Bl.trans ?_ (by assumption))))⟩
              · have hrs2 : res = _ := hres.symm.trans (pfin_is (D := true) (key := n1) (val := (⟨#[]⟩ : ByteArray)) hw h6)
                have e6 : (se == 6) = false := by rw [beq_eq_false_iff_ne]; exact h6
                have hok : Ent.ok ⟨n1, (⟨#[]⟩ : ByteArray), true, sq⟩ := ⟨HKs.out.1, HKs.out.2, wint_rng hw⟩
                have hC := fun w => entCheck ⟨n1, (⟨#[]⟩ : ByteArray), true, sq⟩ w hok
                obtain ⟨q2, hq2⟩ : ∃ q, echk ⟨n1, (⟨#[]⟩ : ByteArray), true, sq⟩ = q := ⟨_, rfl⟩
                rw [hq2] at hC hrs2
                have HRs2 := Lib.hid hrs2
                unfold Ent.v at hC
                simp only at hC
                have HC := Lib.hid hC
                clear hres hI hw h6 hok hq2 hC hrs2
                have hm := (HM6).out
                simp only [Mem, VE, List.cons_append, List.nil_append, and_true, e0] at hm
                go_wp2_with fail
                refine (HI.out _ (HE.out.bl (HB6).out)).mono ?_; rintro e w8 ⟨rfl, hb8⟩
                clear hm
                have hm8 := (HM6).out.bl hb8
                have hM9 := Mem.k3 hm8 sq
                have hb9 := ((HB6).out.trans hb8).setCell ⟨w.heap.size, 3, none⟩ (Nat.le_refl _) (.int .i64 sq)
                have HM9 := Lib.hid hM9
                simp only [Mem, VE, List.cons_append, List.nil_append, and_true, e0] at hm8 hM9
                go_wp2_with fail
                refine (HC.out _).mono ?_; rintro e w10 ⟨rfl, hb10⟩
                clear hm8 hM9
                have hm := HM9.out.bl hb10
                simp only [Mem, VE, List.cons_append, List.nil_append, and_true, e0] at hm
                have hb := hb9.trans hb10
                have hrs2 := HRs2.out
                by_cases hz : q2 = 0
                · rw [if_neg (by simp [hz])] at hrs2
                  subst hrs2
                  subst hz
                  unfold Ent.v
                  simp only
                  go_wp2_with fail
                  
                  refine bodyPost_ret (v := .tuple #[.agg #[.string n1, .string (⟨#[]⟩ : ByteArray), .bool true, .int .i64 sq], .int .i64 0]) (by simp [results, Tryz.results50, go_sem, *]) rfl ?_
                  exact ⟨rfl, (by repeat (first | assumption | exact Bl.refl _ | apply Bl.drewN | apply Bl.drew | apply Bl.alloc | (refine Bl.setCell ?_ _ (by first | (simp; done) | (simp; omega)) _) | (refine Bl.dr ?_ (by assumption)) | (refine Bl.trans ?_ (by assumption))))⟩
                · have hz1 : (q2 != 0) = true := by rw [bne_iff_ne]; exact hz
                  rw [if_pos hz] at hrs2
                  subst hrs2
                  clear hz
                  unfold Ent.v e0
                  simp only
                  go_wp2_with fail
                  
                  refine bodyPost_ret (v := .tuple #[.agg #[.string ⟨#[]⟩, .string ⟨#[]⟩, .bool false, .int .i64 0], .int .i64 q2]) (by simp [results, Tryz.results50, go_sem, *]) rfl ?_
                  exact ⟨rfl, (by repeat (first | assumption | exact Bl.refl _ | apply Bl.drewN | apply Bl.drew | apply Bl.alloc | (refine Bl.setCell ?_ _ (by first | (simp; done) | (simp; omega)) _) | (refine Bl.dr ?_ (by assumption)) | (refine Bl.trans ?_ (by assumption))))⟩
        · have e1 : ((m.length : Int) + 1 != 3) = true := by rw [bne_iff_ne]; omega
          have hr0 : res = (e0, 6) := HRes.out.symm.trans (pp_del (hb0l.symm.trans h2) h4)
          subst hr0
          have hm := HMB.out
          simp only [Mem, VE, List.cons_append, List.nil_append, and_true, e0] at hm
          have hb := HBB.out
          unfold Ent.v e0
          simp only
          go_wp2_with fail
          
          refine bodyPost_ret (v := .tuple #[.agg #[.string ⟨#[]⟩, .string ⟨#[]⟩, .bool false, .int .i64 0], .int .i64 6]) (by simp [results, Tryz.results50, go_sem, *]) rfl ?_
          exact ⟨rfl, (by repeat (first | assumption | exact Bl.refl _ | apply Bl.drewN | apply Bl.drew | apply Bl.alloc | (refine Bl.setCell ?_ _ (by first | (simp; done) | (simp; omega)) _) | (refine Bl.dr ?_ (by assumption)) | (refine Bl.trans ?_ (by assumption))))⟩
      · have hmany : manyF b0.data.toList = 0 := by unfold manyF; rw [if_neg h1, if_neg h2]
        rw [hmany] at r3
        have hr0 : res = (e0, 6) := HRes.out.symm.trans (pp_no (fun e => h1 (hb0l.trans e)) (fun e => h2 (hb0l.trans e)))
        subst hr0
        have hm := HMB.out
        simp only [Mem, VE, List.cons_append, List.nil_append, and_true, e0] at hm
        have hb := HBB.out
        unfold Ent.v e0
        simp only
        go_wp2_with fail
        
        refine bodyPost_ret (v := .tuple #[.agg #[.string ⟨#[]⟩, .string ⟨#[]⟩, .bool false, .int .i64 0], .int .i64 6]) (by simp [results, Tryz.results50, go_sem, *]) rfl ?_
        exact ⟨rfl, (by repeat (first | assumption | exact Bl.refl _ | apply Bl.drewN | apply Bl.drew | apply Bl.alloc | (refine Bl.setCell ?_ _ (by first | (simp; done) | (simp; omega)) _) | (refine Bl.dr ?_ (by assumption)) | (refine Bl.trans ?_ (by assumption))))⟩
end Go.Proofs.YtkbfjficmdgjpaaGreatDoor

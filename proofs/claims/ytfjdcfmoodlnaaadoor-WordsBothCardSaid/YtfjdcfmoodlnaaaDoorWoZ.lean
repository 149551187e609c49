
/-
  The law WordsBoth walked.
-/
import Derived.Test.YtfjdcfmoodlnaaaDoorWoY
import Derived.Maps.AppendAt
import Derived.Laws.OwnMore
namespace Go.Proofs.YtfjdcfmoodlnaaaDoor
open Go.RowKit
set_option linter.unusedSimpArgs false
set_option linter.unusedVariables false
set_option maxRecDepth 100000

theorem fldCells_len : ∀ l : List Fld, (fldCells l).length = l.length * 2
  | [] => rfl
  | x :: l => by have := fldCells_len l; simp [fldCells] at *; omega
theorem flds_news {w : World} {ad : Addr} {l : List Fld} (h : Flds w (some ad) l) : ∀ (j : Nat) u, (fldCells l)[j]? = some u → w.cell? (ad.add j) = some u := by
  intro j u hj
  have hlt := (List.getElem?_eq_some_iff.1 hj).1
  rw [fldCells_len] at hlt
  have hi : j / 2 < l.length := by omega
  obtain ⟨b, off, e, hat⟩ := h.get hi
  injection e with e
  subst e
  have hx : l[j / 2]? = some l[j / 2] := List.getElem?_eq_getElem hi
  obtain ⟨c0, c1⟩ := hat _ _ hx
  obtain ⟨d0, d1⟩ := fldCells_get l (j / 2) _ hx
  rw [show (⟨b, off, none⟩ : Addr).add j = ⟨b, off + j, none⟩ by unfold Addr.add; split <;> simp_all]
  have h4 : j % 2 = 0 ∨ j % 2 = 1 := by omega
  rcases h4 with e | e
  · rw [show j / 2 * 2 = j by omega] at c0 d0
    rw [d0] at hj; injection hj with hj; subst hj; exact c0
  · rw [show j / 2 * 2 + 1 = j by omega] at d1
    rw [show off + j / 2 * 2 + 1 = off + j by omega] at c1
    rw [d1] at hj; injection hj with hj; subst hj; exact c1
theorem fldCells_one (l : List Fld) : ∀ u ∈ fldCells l, u.oneCell' = true := by
  intro u hu
  simp only [fldCells, List.mem_flatMap] at hu
  obtain ⟨x, -, hu⟩ := hu
  simp at hu
  rcases hu with rfl | rfl <;> rfl
theorem run_appF {w : World} {base : Nat} {v : Value} {n : Nat} {xs : List Value} {a : Option Addr} {l : List Fld} (c : Nat) (ty : TypeId) (hown : w.ownsRow base 43 2 v n xs) (hE : Flds w a l) (hb : base ≤ w.heap.size) (hn : n + l.length ≤ 5000) :
    ∃ v' w', (Builtin.append_ #[23, 23] ty #[v, .slice a l.length c]).run Tryd.prog w = .ok v' w' ∧ w'.ownsRow base 43 2 v' (n + l.length) (xs ++ fldCells l) ∧ w.grownBy w' v.ownBlock := by
  obtain ⟨i0, hi0, hz0, hz1, hz2⟩ := info_parts inf_fld
  match a, hE with
  | some ad, hE =>
    obtain ⟨v', w', h1, h2, h3, -, -⟩ := run_append_own_at (P := Tryd.prog) w base 23 ty 43 i0 (.agg #[.string ⟨#[]⟩, .bool false]) 2 24 Tryd.underlying23 hi0 hz0 hz1 hz2 rfl (by omega) v n xs hown ad l.length c (fldCells l) (fldCells_len l) (flds_news hE) (fldCells_one l) (by unfold maxLen; omega) (by omega) hb
    exact ⟨v', w', h1, h2, h3⟩
  | none, hE =>
    have hl : l = [] := by
      match l, hE with
      | [], _ => rfl
      | x :: l, hE => obtain ⟨b, off, e, -⟩ := hE.get (k := 0) (by simp); cases e
    subst hl
    refine ⟨v, w, ?_, by simpa [fldCells] using hown, ⟨rfl, rfl, rfl, Nat.le_refl _, fun _ _ _ => rfl⟩⟩
    rcases hown.2 with ⟨rfl, rfl⟩ | ⟨g, cap, cur, rfl, _, _, hnc, _⟩
    · simp [Builtin.append_, run_underlying Tryd.underlying23, sizeOf, typeInfo, hi0, Builtin.lenOf, Builtin.firstCells]
    · simp [Builtin.append_, run_underlying Tryd.underlying23, sizeOf, typeInfo, hi0, Builtin.lenOf, Builtin.firstCells, hnc, storeCells]
theorem wpList_appF {w : World} {ops : Array Oper} {rest : List Oper} {o : Oper} {a : Act} {Q : Exit → Act → World → Prop} (hw : Region.wanted o (yielded ops a.tmps) = true) (s x : Operand)
    (ho : o.op = .call { callee := .builtin .append, args := #[s, x], argTypes := #[23, 23] })
    (base : Nat) (v : Value) (n : Nat) (xs : List Value) (hs : a.eval s = v) (hown : w.ownsRow base 43 2 v n xs)
    (ad : Option Addr) (c : Nat) (l : List Fld) (hx : a.eval x = .slice ad l.length c) (hE : Flds w ad l) (hb : base ≤ w.heap.size) (hn : n + l.length ≤ 5000)
    (h : ∀ v' w', w'.ownsRow base 43 2 v' (n + l.length) (xs ++ fldCells l) → w.grownBy w' v.ownBlock → wpList Tryd.prog ops Q rest (a.put o.dst v') w') :
    wpList Tryd.prog ops Q (o :: rest) a w := by
  refine wpList_step fun K hK => ?_
  rw [if_pos hw]
  obtain ⟨v', w', hr, h2, h3⟩ := run_appF c o.type hown hE hb hn
  unfold Oper.wp execOp
  simp only [ho, resolve, invoke, builtin, Sem.run_bind, Sem.run_pure, Result.andThen_ok, List.map_toArray, List.map_cons, List.map_nil, hs, hx, hr]
  exact hK _ _ (h v' w' h2 h3)
theorem own0F (w : World) (n : Nat) (h : w.heap.size = n) : (w.alloc (Obj.cells #[] 43)).ownsRow n 43 2 (.slice (some ⟨n, 0, none⟩) 0 0) 0 [] := by
  subst h
  exact World.ownsRow_lit w #[] 0 (Nat.le_refl _) (Nat.zero_le _) (by simp)
theorem fldCells_app (l k : List Fld) : fldCells (l ++ k) = fldCells l ++ fldCells k := by simp [fldCells]

/-! ### Plain -/
theorem tooL_app (l m : List Fld) : tooL (l ++ m) = (tooL l || tooL m) := by simp [tooL]
theorem wjoin_ok {l : List Fld} (h : (wjoin l).2 = 0) : l.length ≤ 64 ∧ tooL l = false ∧ l.all Fld.val = true ∧ (joinW l).length ≤ 8192 ∧ (wjoin l).1 = joinW l := by
  unfold wjoin at h ⊢
  split at h
  · simp at h
  · rename_i h1
    split at h
    · simp at h
    · rename_i h2
      split at h
      · simp at h
      · rename_i h3
        split at h
        · simp at h
        · rename_i h4
          rw [if_neg h1, if_neg h2, if_neg h3, if_neg h4]
          exact ⟨by omega, by simpa using h2, by simpa using h3, by omega, rfl⟩
theorem wjoin_of {l : List Fld} (h1 : l.length ≤ 64) (h2 : tooL l = false) (h3 : l.all Fld.val = true) (h4 : (joinW l).length ≤ 8192) : wjoin l = (joinW l, 0) := by
  unfold wjoin
  rw [if_neg (by omega), if_neg (by simp [h2]), if_neg (by simp [h3]), if_neg (by omega)]
theorem wjoin_both {l m : List Fld} (hl : l ≠ []) (hm : m ≠ []) (h : (wjoin (l ++ m)).2 = 0) : (wjoin l).2 = 0 ∧ (wjoin m).2 = 0 := by
  obtain ⟨h1, h2, h3, h4, -⟩ := wjoin_ok h
  rw [List.length_append] at h1
  rw [tooL_app, Bool.or_eq_false_iff] at h2
  rw [List.all_append, Bool.and_eq_true] at h3
  rw [join_app _ _ hl hm, List.length_append, List.length_cons] at h4
  exact ⟨by rw [wjoin_of (by omega) h2.1 h3.1 (by omega)], by rw [wjoin_of (by omega) h2.2 h3.2 (by omega)]⟩
theorem wjoin_long {l m : List Fld} (hl : l ≠ []) (hm : m ≠ []) (h1 : (wjoin l).2 = 0) (h2 : (wjoin m).2 = 0) (h : 64 < l.length + m.length ∨ 8192 < (wjoin l).1.length + 1 + (wjoin m).1.length) : wjoin (l ++ m) = ([], 3) := by
  obtain ⟨a1, a2, a3, a4, a5⟩ := wjoin_ok h1
  obtain ⟨b1, b2, b3, b4, b5⟩ := wjoin_ok h2
  rw [a5, b5] at h
  unfold wjoin
  by_cases g : 64 < (l ++ m).length
  · rw [if_pos g]
  · rw [if_neg g, if_neg (by simp [tooL_app, a2, b2]), if_neg (by simp only [List.all_append, a3, b3]; simp), if_pos]
    rw [List.length_append] at g
    rw [join_app _ _ hl hm, List.length_append, List.length_cons]
    omega
theorem wjoin_fit {l m : List Fld} (hl : l ≠ []) (hm : m ≠ []) (h1 : (wjoin l).2 = 0) (h2 : (wjoin m).2 = 0) (h : l.length + m.length ≤ 64) (h' : (wjoin l).1.length + 1 + (wjoin m).1.length ≤ 8192) : wjoin (l ++ m) = ((wjoin l).1 ++ 32 :: (wjoin m).1, 0) := by
  obtain ⟨a1, a2, a3, a4, a5⟩ := wjoin_ok h1
  obtain ⟨b1, b2, b3, b4, b5⟩ := wjoin_ok h2
  rw [a5, b5] at h' ⊢
  rw [wjoin_of (by rw [List.length_append]; exact h) (by rw [tooL_app, a2, b2]; rfl) (by rw [List.all_append, a3, b3]; rfl) (by rw [join_app _ _ hl hm, List.length_append, List.length_cons]; omega), join_app _ _ hl hm]
theorem wjoin_len (l : List Fld) : (wjoin l).1.length ≤ 8192 := by
  unfold wjoin
  split
  · simp
  · split
    · simp
    · split
      · simp
      · split
        · simp
        · simp only; omega
theorem own_flds {B : Nat} {l : List Fld} {w : World} {v : Value} (h : w.ownsRow B 43 2 v l.length (fldCells l)) : ∃ a c, v = .slice a l.length c ∧ Flds w a l := by
  obtain ⟨a, c, rfl, h1, -, -⟩ := ownF_is h
  exact ⟨a, c, rfl, h1⟩
set_option maxHeartbeats 8000000 in
theorem lawBoth (a : Option Addr) (c : Nat) (l : List Fld) (b : Option Addr) (d : Nat) (m : List Fld) (w : World) (hF : Flds w a l) (hln : l.length ≤ maxLen) (hG : Flds w b m) (hmn : m.length ≤ maxLen) (hE : WEnv w) : Calls Tryd.prog 7 #[.slice a l.length c, .slice b m.length d] w (RB w (.bool true)) := by
  have HE := Lib.hid hE
  have HF := Lib.hid hF
  have HG := Lib.hid hG
  have H1 := Lib.hid (fun w h => lawFar a c l w h hln)
  have H2 := Lib.hid (fun w h => lawFar b d m w h hmn)
  have H3 := Lib.hid (fun w h k => woJoin a c l w h k hln)
  have H4 := Lib.hid (fun w h k => woJoin b d m w h k hmn)
  have hj : ∀ (a : Option Addr) (c : Nat) (w : World), EscTab w → Flds w a (l ++ m) → l.length + m.length ≤ maxLen → Calls Tryd.prog 24 #[.slice a (l.length + m.length) c] w (RB w (.tuple #[.string ⟨(wjoin (l ++ m)).1.toArray⟩, .int .i64 (wjoin (l ++ m)).2])) := by
    intro a c w h k hn
    have := woJoin a c (l ++ m) w h k (by rw [List.length_append]; exact hn)
    rw [List.length_append] at this
    exact this
  have H5 := Lib.hid hj
  clear hj
  have HP : Hid (l ≠ [] → m ≠ [] → (wjoin (l ++ m)).2 = 0 → (wjoin l).2 = 0 ∧ (wjoin m).2 = 0) := Lib.hid (fun hl hm h => wjoin_both hl hm h)
  have HL : Hid (l ≠ [] → m ≠ [] → (wjoin l).2 = 0 → (wjoin m).2 = 0 → (64 < l.length + m.length ∨ 8192 < (wjoin l).1.length + 1 + (wjoin m).1.length) → wjoin (l ++ m) = ([], 3)) := Lib.hid (fun hl hm h1 h2 h => wjoin_long hl hm h1 h2 h)
  have HQ : Hid (l ≠ [] → m ≠ [] → (wjoin l).2 = 0 → (wjoin m).2 = 0 → l.length + m.length ≤ 64 → (wjoin l).1.length + 1 + (wjoin m).1.length ≤ 8192 → wjoin (l ++ m) = ((wjoin l).1 ++ 32 :: (wjoin m).1, 0)) := Lib.hid (fun hl hm h1 h2 h h' => wjoin_fit hl hm h1 h2 h h')
  have B1 := wjoin_len l
  have B2 := wjoin_len m
  generalize wjoin (l ++ m) = r3 at H5 HP HL HQ
  generalize wjoin l = r1 at H3 HP HL HQ B1
  generalize wjoin m = r2 at H4 HP HL HQ B2
  obtain ⟨jl, el⟩ := r1
  obtain ⟨jm, em⟩ := r2
  obtain ⟨jc, ec⟩ := r3
  simp only at H3 H4 H5 HP HL HQ B1 B2
  obtain ⟨ql, hql⟩ : ∃ q : ByteArray, (⟨jl.toArray⟩ : ByteArray) = q := ⟨_, rfl⟩
  obtain ⟨qm, hqm⟩ : ∃ q : ByteArray, (⟨jm.toArray⟩ : ByteArray) = q := ⟨_, rfl⟩
  obtain ⟨qc, hqc⟩ : ∃ q : ByteArray, (⟨jc.toArray⟩ : ByteArray) = q := ⟨_, rfl⟩
  rw [hql] at H3; rw [hqm] at H4; rw [hqc] at H5
  have hsl : ql.size = jl.length := by rw [← hql]; rfl
  have hsm : qm.size = jm.length := by rw [← hqm]; rfl
  have QL := Lib.hid hql
  have QM := Lib.hid hqm
  have QC := Lib.hid hqc
  rw [← hsl] at B1
  rw [← hsm] at B2
  have BB1 := Lib.hid B1
  have BB2 := Lib.hid B2
  have SL := Lib.hid hsl
  have SM := Lib.hid hsm
  clear hE hF hG hln hmn hql hqm hqc hsl hsm B1 B2
  go_enter Tryd.func7, Tryd.ntmps7
  go_wp2_with fail
  refine (H1.out _ HF.out).mono ?_; rintro e w1 ⟨fl, rfl, hfl, hb1⟩
  have FL := Lib.hid hfl
  clear hfl
  cases fl
  · go_wp2_with fail
    refine (H2.out _ (HG.out.bl hb1)).mono ?_; rintro e w2 ⟨fm, rfl, hfm, hb2⟩
    have FM := Lib.hid hfm
    have hb : Bl w w2 := hb1.trans hb2
    clear hfm hb1 hb2
    cases fm
    · by_cases hl0 : l = []
      · subst hl0
        go_wp2_with fail
        refine (lawShown _ (HE.out.bl hb)).mono ?_; rintro e w8 ⟨rfl, hb8⟩
        go_wp2_with fail
        go_ret
        exact RB.mk rfl (hb.trans hb8)
      · have HL0 := Lib.hid hl0
        by_cases hm0 : m = []
        · subst hm0
          go_wp2_with fail
          refine (lawShown _ (HE.out.bl hb)).mono ?_; rintro e w8 ⟨rfl, hb8⟩
          go_wp2_with fail
          go_ret
          exact RB.mk rfl (hb.trans hb8)
        · have HM0 := Lib.hid hm0
          have i34 : ¬ (((l.length : Int) == 0) = true ∨ ((m.length : Int) == 0) = true) := by simp [hl0, hm0]
          clear hl0 hm0
          go_wp2_with fail
          refine (H3.out _ (HE.out.bl hb).esc (HF.out.bl hb)).mono ?_; rintro e w3 ⟨rfl, hb3⟩
          have hb := hb.trans hb3
          clear hb3
          go_wp2_with fail
          refine (H4.out _ (HE.out.bl hb).esc (HG.out.bl hb)).mono ?_; rintro e w4 ⟨rfl, hb4⟩
          have hb := hb.trans hb4
          clear hb4
          have hbB : Bl w (w4.alloc (Obj.cells #[] 43)) := hb.alloc _
          have hF0 := HF.out.bl hbB
          have ho0 := own0F w4 w4.heap.size rfl
          go_wp2_with (at_builtin; refine wpList_appF ?hw _ _ rfl w4.heap.size (.slice (some ⟨w4.heap.size, 0, none⟩) 0 0) 0 [] rfl ho0 a c l rfl hF0 (by simp) (by have := (FL.out trivial).1; omega) ?_)
          intro v1 wA hA1 hg1
          have hbA : Bl w wA := grown_bl hbB ho0 hg1 (by have := hb.size; omega)
          have hG0 := HG.out.bl hbA
          have hs1 : w4.heap.size ≤ wA.heap.size := by have := hg1.size; simp at this; omega
          clear ho0 hg1 hF0 hbB
          obtain ⟨g, n, q, rfl⟩ : ∃ g n q, v1 = .slice g n q := by obtain ⟨g, q, e, _⟩ := own_form hA1; exact ⟨g, _, q, e⟩
          go_wp2_with (at_builtin; (refine wpList_appF ?hw2 _ _ rfl w4.heap.size (.slice g n q) l.length (fldCells l) rfl hA1 b d m rfl hG0 hs1 (by have := (FL.out trivial).1; have := (FM.out trivial).1; omega) ?_))
          intro v2 wB hB1 hg2
          have hbB : Bl w wB := grown_bl hbA hA1 hg2 (by have := hb.size; omega)
          rw [← fldCells_app, ← List.length_append] at hB1
          obtain ⟨a5, c5, rfl, hF5⟩ := own_flds hB1
          have H55 := H5.out a5 c5
          have HF5 := Lib.hid hF5
          have H56 := Lib.hid H55
          clear hA1 hg2 hG0 hB1 hF5 hbA H55
          go_wp2_with fail
          refine (H56.out _ (HE.out.bl hbB).esc HF5.out (by have := (FL.out trivial).1; have := (FM.out trivial).1; unfold maxLen; omega)).mono ?_; rintro e w5 ⟨rfl, hb5⟩
          have hb := hbB.trans hb5
          clear hb5 hbB
          have HPn := Lib.hid (HP.out HL0.out HM0.out)
          have HLn := Lib.hid (HL.out HL0.out HM0.out)
          have HQn := Lib.hid (HQ.out HL0.out HM0.out)
          clear HP HL HQ HL0 HM0 i34 H1 H2 H3 H4 H5 H56 HF HG HF5
          have b1 := BB1.out
          have b2 := BB2.out
          have b3 := (FL.out trivial).1
          have b4 := (FM.out trivial).1
          have n1 : wrap64 ((l.length : Int) + (m.length : Int)) = (l.length : Int) + (m.length : Int) := by unfold wrap64; omega
          have n2 : wrap64 ((ql.size : Int) + 1) = (ql.size : Int) + 1 := by unfold wrap64; omega
          have n3 : wrap64 ((ql.size : Int) + 1 + (qm.size : Int)) = (ql.size : Int) + 1 + (qm.size : Int) := by unfold wrap64; omega
          by_cases hel : el = 0
          · by_cases hem : em = 0
            · subst hel hem
              by_cases hlg : 64 < l.length + m.length
              · have hc := HLn.out rfl rfl (.inl hlg)
                obtain ⟨rfl, rfl⟩ := Prod.mk.inj hc
                obtain rfl := QC.out
                have i5 : (64 : Int) < (l.length : Int) + (m.length : Int) := by omega
                clear hc hlg
                go_wp2_with fail
                refine (lawShown _ (HE.out.bl hb)).mono ?_; rintro e w8 ⟨rfl, hb8⟩
                go_wp2_with fail
                go_ret
                exact RB.mk rfl (hb.trans hb8)
              · have i5 : ¬ (64 : Int) < (l.length : Int) + (m.length : Int) := by omega
                by_cases hbg : 8192 < ql.size + 1 + qm.size
                · have hc := HLn.out rfl rfl (.inr (by rw [← SL.out, ← SM.out]; exact hbg))
                  obtain ⟨rfl, rfl⟩ := Prod.mk.inj hc
                  obtain rfl := QC.out
                  have i6 : (8192 : Int) < (ql.size : Int) + 1 + (qm.size : Int) := by omega
                  clear hc hlg hbg
                  go_wp2_with fail
                  refine (lawShown _ (HE.out.bl hb)).mono ?_; rintro e w8 ⟨rfl, hb8⟩
                  go_wp2_with fail
                  go_ret
                  exact RB.mk rfl (hb.trans hb8)
                · have hc := HQn.out rfl rfl (by omega) (by rw [← SL.out, ← SM.out]; omega)
                  obtain ⟨rfl, rfl⟩ := Prod.mk.inj hc
                  obtain rfl : qc = ql ++ ⟨#[32]⟩ ++ qm := by rw [← QC.out, ← QL.out, ← QM.out, apS, apS]; simp
                  have i6 : ¬ (8192 : Int) < (ql.size : Int) + 1 + (qm.size : Int) := by omega
                  clear hc hlg hbg
                  go_wp2_with fail
                  refine (lawShown _ (HE.out.bl hb)).mono ?_; rintro e w8 ⟨rfl, hb8⟩
                  go_wp2_with fail
                  go_ret
                  exact RB.mk rfl (hb.trans hb8)
            · have i5 : ¬ ec = 0 := fun h => hem (HPn.out h).2
              go_wp2_with fail
              refine (lawShown _ (HE.out.bl hb)).mono ?_; rintro e w8 ⟨rfl, hb8⟩
              go_wp2_with fail
              go_ret
              exact RB.mk (show Value.bool (ec != 0) = .bool true by simp [i5]) (hb.trans hb8)
          · have i5 : ¬ ec = 0 := fun h => hel (HPn.out h).1
            go_wp2_with fail
            refine (lawShown _ (HE.out.bl hb)).mono ?_; rintro e w8 ⟨rfl, hb8⟩
            go_wp2_with fail
            go_ret
            exact RB.mk (show Value.bool (ec != 0) = .bool true by simp [i5]) (hb.trans hb8)
    · go_wp2_with fail
      refine (lawShown _ (HE.out.bl hb)).mono ?_; rintro e w8 ⟨rfl, hb8⟩
      go_wp2_with fail
      go_ret
      exact RB.mk rfl (hb.trans hb8)
  · go_wp2_with fail
    refine (lawShown _ (HE.out.bl hb1)).mono ?_; rintro e w8 ⟨rfl, hb8⟩
    go_wp2_with fail
    go_ret
    exact RB.mk rfl (hb1.trans hb8)
end Go.Proofs.YtfjdcfmoodlnaaaDoor

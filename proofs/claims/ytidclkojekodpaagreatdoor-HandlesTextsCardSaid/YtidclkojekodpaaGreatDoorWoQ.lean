
/-
  Contracts of words: the reference's Split.
-/
import Derived.Test.YtidclkojekodpaaGreatDoorWoP
namespace Go.Proofs.YtidclkojekodpaaGreatDoor
open Go.RowKit
set_option linter.unusedSimpArgs false
set_option linter.unusedVariables false
set_option maxRecDepth 100000

theorem word_at {t : List UInt8} {m : Nat} (h : ∀ (i : Nat) c, i < m → t[i]? = some c → c ≠ 32) (he : t.length ≤ m ∨ t[m]? = some 32) (hm : m ≤ t.length) : wordOf t = t.take m := by
  have e : t = t.take m ++ t.drop m := (List.take_append_drop m t).symm
  have hw : ∀ c ∈ t.take m, c ≠ 32 := by
    intro c hc
    obtain ⟨j, hj, rfl⟩ := List.getElem_of_mem hc
    have hj2 : j < m := by simp at hj; omega
    refine h j _ hj2 ?_
    rw [List.getElem_take]
    exact List.getElem?_eq_getElem _
  have hr : t.drop m = [] ∨ ∃ s, t.drop m = 32 :: s := by
    rcases he with he | he
    · exact .inl (List.drop_eq_nil_of_le he)
    · exact .inr ⟨_, drop_head he⟩
  have := word_stop hw hr
  rwa [← e] at this
/-- What has been split up to a place. -/
def SpS (l : List UInt8) (k : Nat) (pre : List Fld) : Prop := pre.map (fun x => (x, true)) ++ fseq (l.drop k) = fseq l
theorem sps_start (l : List UInt8) : SpS l 0 [] := by unfold SpS; simp
theorem sps_bad {l : List UInt8} {k : Nat} {pre : List Fld} (h : SpS l k pre) (hb : fseq (l.drop k) = [badF]) : splitW l = none := by
  unfold SpS at h
  rw [splitW_seq, ← h, hb, if_neg (by simp [badF])]
theorem sps_end {l : List UInt8} {k : Nat} {pre : List Fld} {x : Fld} (h : SpS l k pre) (hb : fseq (l.drop k) = [(x, true)]) : splitW l = some (pre ++ [x]) := by
  unfold SpS at h
  rw [splitW_seq, ← h, hb, if_pos (by simp [List.all_eq_true])]
  simp [List.map_map, Function.comp_def]
theorem sps_step {l r : List UInt8} {k n : Nat} {pre : List Fld} {x : Fld} (h : SpS l k pre) (hh : head1 (l.drop k) = some (x, n)) (hd : l.drop (k + n) = 32 :: r) : SpS l (k + n + 1) (pre ++ [x]) := by
  unfold SpS at *
  have h2 := fseq_sp hh (by rw [List.drop_drop]; exact hd)
  have h3 : l.drop (k + n + 1) = r := by rw [← List.drop_drop, hd]; rfl
  rw [h3, List.map_append, ← h, h2]; simp
theorem sps_len {l : List UInt8} {k : Nat} {pre : List Fld} (h : SpS l k pre) : pre.length ≤ l.length + 1 := by
  unfold SpS at h
  have h1 := fseq_len l
  rw [← h, List.length_append, List.length_map] at h1
  omega
/-- The inner loop's end: a bare field. -/
def Bare (l : List UInt8) (k m : Nat) : Prop := ∀ (i : Nat) c, i < m → (l.drop k)[i]? = some c → c ≠ 32
theorem own_lt {w : World} {base : Nat} {e : TypeId} {size : Nat} {v : Value} {n : Nat} {xs : List Value} (h : w.ownsRow base e size v n xs) : ∀ k, v.ownBlock = some k → k < w.heap.size := by
  intro k hk
  rcases h.2 with ⟨rfl, _⟩ | ⟨g, cap, cur, rfl, hb, hg, _⟩
  · cases hk
  · simp [Value.ownBlock] at hk
    subst hk
    exact (Array.getElem?_eq_some_iff.1 hg).1
theorem own_set2 {w : World} {base : Nat} {e : TypeId} {size : Nat} {v : Value} {n : Nat} {xs : List Value} (h : w.ownsRow base e size v n xs) (a : Addr) (u : Value) (hne : ∀ k, v.ownBlock = some k → k ≠ a.block) : (w.setCell a u).ownsRow base e size v n xs := by
  obtain ⟨hl, h⟩ := h
  refine ⟨hl, ?_⟩
  rcases h with h | ⟨g, cap, cur, rfl, hb, hg, r⟩
  · exact .inl h
  · exact .inr ⟨g, cap, cur, rfl, hb, (Below.heap_setCell w a u g (hne g (by simp [Value.ownBlock]))).trans hg, r⟩
theorem Two.grown {W W' : World} {B : Nat} {a b v : Value} (h : Two W B a b) (hg : W.grownBy W' v.ownBlock) (hne : ∀ k, v.ownBlock = some k → k ≠ B) : Two W' B a b := by
  unfold Two at *
  rw [hg.block B (Array.getElem?_eq_some_iff.1 h).1 (fun e => hne B e.symm rfl)]; exact h
theorem Two.alloc {W : World} {B : Nat} {a b : Value} (h : Two W B a b) (o : Obj) : Two (W.alloc o) B a b := h.bl ((Bl.refl W).alloc o)
set_option maxHeartbeats 8000000 in
theorem refSplit (s : ByteArray) (hs : s.size ≤ 100000) (w : World) : Calls Tryz.prog 32 #[.string s] w (RM w (SplV (wsplit s.data.toList))) := by
  obtain ⟨i0, hi, hz0, hz1, hz2⟩ := info_parts inf_fld
  have hsl : s.data.toList.length = s.size := by simp
  by_cases h1 : 8192 < s.size
  · have hres : wsplit s.data.toList = ([], 3) := by unfold wsplit; rw [if_pos (by simpa using h1)]
    rw [hres]
    have i1 : (8192 : Int) < (s.size : Int) := by omega
    clear hres hsl
    go_enter Tryz.func32, Tryz.ntmps32
    go_wp2_with fail
    go_ret2
    exact RM.mk ⟨_, rfl, fldsIs_nil _⟩ (by repeat (first | assumption | exact Bl.refl _ | apply Bl.drewN | apply Bl.drew | apply Bl.alloc | (refine Bl.setCell ?_ _ (by first | (simp; done) | (simp; omega)) _) | (refine Bl.dr ?_ (by assumption)) | (refine Bl.trans ?_ (by assumption))))
  · by_cases h0 : s.data.toList = []
    · have hres : wsplit s.data.toList = ([], 0) := by unfold wsplit; rw [if_neg (by simpa using h1), if_pos h0]
      rw [hres]
      have i1 : ¬ (8192 : Int) < (s.size : Int) := by omega
      have hem : s.toList.isEmpty = true := by rw [toL, h0]; rfl
      have hem2 : s.toList = [] := by rw [toL, h0]
      clear hres h0 hsl
      go_enter Tryz.func32, Tryz.ntmps32
      go_wp2_with fail
      go_ret2
      exact RM.mk ⟨_, rfl, fldsIs_nil _⟩ (by repeat (first | assumption | exact Bl.refl _ | apply Bl.drewN | apply Bl.drew | apply Bl.alloc | (refine Bl.setCell ?_ _ (by first | (simp; done) | (simp; omega)) _) | (refine Bl.dr ?_ (by assumption)) | (refine Bl.trans ?_ (by assumption))))
    · have hspl : wsplit s.data.toList = match splitW s.data.toList with
          | none => ([], 6)
          | some fs => if tooL fs = true ∨ 64 < fs.length then ([], 3) else (fs, 0) := by unfold wsplit; rw [if_neg (by simpa using h1), if_neg h0]; rfl
      have i1 : ¬ (8192 : Int) < (s.size : Int) := by omega
      have hsz : 0 < s.size := by
        rcases Nat.eq_zero_or_pos s.size with h | h
        · exact absurd (by rw [← List.length_eq_zero_iff]; simpa using h) h0
        · exact h
      have hem : s.toList.isEmpty = false := by
        rw [toL]
        cases e : s.data.toList with
        | nil => exact absurd e h0
        | cons _ _ => rfl
      obtain ⟨res, hres⟩ : ∃ r, wsplit s.data.toList = r := ⟨_, rfl⟩
      rw [hres] at hspl ⊢
      have HR := Lib.hid hspl
      clear hspl hres h0 hsl
      go_enter Tryz.func32, Tryz.ntmps32
      go_wp2_with fail
      go_loopg [4, 5, 6] (s.size) (fun g v lg i wr => ∃ (k : Nat) (pre : List Fld), k ≤ s.size ∧ i = .int .i64 k ∧ lg = .bool (tooL pre) ∧ wr.ownsRow w.heap.size 71 2 v pre.length (fldCells pre) ∧ Bl w wr ∧ SpS s.data.toList k pre ∧ g = s.size - k)
      case atStart => exact ⟨0, [], by omega, rfl, rfl, by simpa [fldCells] using own_nil _ _ _ _, Bl.refl _, sps_start _, by omega⟩
      case round =>
        obtain ⟨k, pre, hk, rfl, rfl, hown, hbw, hst, hg⟩ := hrel
        have G := Lib.hid hg
        have HS := Lib.hid hst
        have HO := Lib.hid hown
        have hpl := sps_len hst
        have hpl2 : pre.length ≤ 8193 := by simp at hpl; omega
        obtain ⟨tl, htl⟩ : ∃ tl, tooL pre = tl := ⟨_, rfl⟩
        rw [htl]
        have HT := Lib.hid htl
        clear hg hst hown hpl htl
        have k0 : (0 : Int) ≤ (k : Int) := by omega
        have k1 : (k : Int) ≤ (s.size : Int) := by omega
        have hQ := fun w => refQuoted (s.extract k s.size) (by simp; omega) w _ rfl
        rw [ext_dropW] at hQ
        unfold uqR at hQ
        cases hu : unq1 (s.data.toList.drop k) with
        | some p =>
          obtain ⟨t, m⟩ := p
          rw [hu] at hQ
          simp only at hQ
          have hm := unq1_len hu
          have hkm : k + m ≤ s.size := by have := hm.2; simp at this; omega
          have hm1 := hm.1
          have hh : head1 (s.data.toList.drop k) = some (⟨t, true⟩, m) := by unfold head1; rw [hu]
          have m0 : (((m : Nat) : Int) == 0) = false := by rw [beq_eq_false_iff_ne]; omega
          obtain ⟨ts, hts⟩ : ∃ ts : ByteArray, (⟨t.toArray⟩ : ByteArray) = ts := ⟨_, rfl⟩
          have htl : ts.size = t.length := by rw [← hts]; rfl
          rw [hts] at hQ
          have HQ := Lib.hid hQ
          have HH := Lib.hid hh
          have HTS := Lib.hid hts
          clear hQ hu hm hh hts
          go_wp2_with fail
          refine (HQ.out _).mono ?_; rintro e w1 ⟨rfl, hb1⟩
          have hbA := (hbw.trans hb1).alloc (.cells #[.string ts, .bool true] 71)
          obtain ⟨wA, hwA⟩ : ∃ x, w1.alloc (.cells #[.string ts, .bool true] 71) = x := ⟨_, rfl⟩
          have hownA := own_bl (own_bl HO.out hb1) ((Bl.refl w1).alloc (.cells #[.string ts, .bool true] 71))
          have h9 := Two.new w1 (.string ts) (.bool true)
          have hne : ∀ q, u4.ownBlock = some q → q ≠ w1.heap.size := fun q hq => Nat.ne_of_lt (Nat.lt_of_lt_of_le (own_lt HO.out q hq) hb1.size)
          rw [hwA] at hbA hownA h9
          have hszA := hbA.size
          clear hb1
          have e0 := h9.c0
          have e1 := h9.c1
          obtain ⟨lb, hlb⟩ : ∃ b, decide ((2000 : Int) < ((ts).size : Int)) = b := ⟨_, rfl⟩
          have htoo : tooL (pre ++ [(⟨t, true⟩ : Fld)]) = (tl || lb) := by
            rw [tooL_snoc, HT.out, ← hlb]
            congr 1
            rw [Bool.eq_iff_iff, decide_eq_true_eq, decide_eq_true_eq]
            show 2000 < ((⟨t, true⟩ : Fld)).s.length ↔ _
            rw [← htl]; omega
          have HTo := Lib.hid htoo
          clear htoo htl
          go_wp2_with (at_builtin; refine wpList_append_own _ rfl _ _ 67 rfl w.heap.size 71 i0 (.agg #[.string ⟨#[]⟩, .bool false]) 2 24 Tryz.underlying67 hi hz0 hz1 hz2 rfl (by decide) _ _ _ rfl (hownA.alloc _) ⟨wA.heap.size, 0, none⟩ 1 1 [.string ts, .bool true] rfl rfl ?c1 ?c2 ?c3 ?c4 ?c5 ?_)
          case c1 => exact multi_new _ _ _
          case c2 => intro u hu; simp at hu; rcases hu with rfl | rfl <;> rfl
          case c3 => unfold maxLen; omega
          case c4 => omega
          case c5 => simp; omega
          intro v' w3 hown2 hgrow _
          have hb3 := grown_bl (hbA.alloc _) (hownA.alloc _) hgrow (Nat.le_refl _)
          have h93 := (h9.alloc _).grown hgrow hne
          have e0 := h93.c0
          have e1 := h93.c1
          have hown3 : w3.ownsRow w.heap.size 71 2 v' (pre ++ [(⟨t, true⟩ : Fld)]).length (fldCells (pre ++ [(⟨t, true⟩ : Fld)])) := by
            rw [fldCells_snoc, List.length_append, HTS.out]; exact hown2
          have HW := Lib.hid hown3
          have hpl3 : (pre ++ [(⟨t, true⟩ : Fld)]).length ≤ 8194 := by rw [List.length_append, List.length_singleton]; omega
          obtain ⟨oa, oc, rfl, -⟩ := own_form hown3
          clear hown2 hown3 hgrow hownA h9 hbA
          have k2 : (k : Int) + (m : Int) ≤ (s.size : Int) := by omega
          obtain ⟨lt, hlt⟩ : ∃ b, (tl || lb) = b := ⟨_, rfl⟩
          have HLt := Lib.hid (HTo.out.trans hlt)
          obtain ⟨pl, hpl⟩ : ∃ n, (pre ++ [(⟨t, true⟩ : Fld)]).length = n := ⟨_, rfl⟩
          have HPl := Lib.hid hpl
          rw [hpl] at hpl3 ⊢
          clear hpl
          have htl3 : tl = true ∧ lt = true ∨ tl = false ∧ lt = lb := by
            cases tl
            · right; exact ⟨rfl, by rw [← hlt]; rfl⟩
            · left; exact ⟨rfl, by rw [← hlt]; rfl⟩
          clear hlt
          by_cases hend : k + m = s.size
          · have hd : s.data.toList.drop (k + m) = [] := List.drop_eq_nil_of_le (by simp; omega)
            have hfs := fseq_end HH.out (by rw [List.drop_drop]; exact hd)
            have hr := HR.out
            rw [sps_end HS.out hfs] at hr
            simp only at hr
            rw [HLt.out, HPl.out] at hr
            have e9 : ((k : Int) + (m : Int) == (s.size : Int)) = true := by rw [beq_iff_eq]; omega
            clear hfs hd hend
            by_cases h64 : 64 < pl
            · have d64 : decide ((64 : Int) < (pl : Int)) = true := by rw [decide_eq_true_eq]; omega
              rw [if_pos (.inr h64)] at hr
              subst hr
              cases lt
              all_goals
                rcases htl3 with ⟨rfl, ht3⟩ | ⟨rfl, rfl⟩
                all_goals first
                  | (cases ht3; done)
                  | (go_wp2_with fail; go_ret2; exact RM.mk ⟨_, rfl, fldsIs_nil _⟩ hb3)
            · have d64 : decide ((64 : Int) < (pl : Int)) = false := by rw [decide_eq_false_iff_not]; omega
              cases lt
              · rw [if_neg (by simp; omega)] at hr
                subst hr
                rcases htl3 with ⟨rfl, ht3⟩ | ⟨rfl, rfl⟩
                · cases ht3
                · go_wp2_with fail
                  go_ret2
                  exact RM.mk ⟨_, by rfl, by have hx := ownF_is HW.out; rwa [HPl.out] at hx⟩ hb3
              · rw [if_pos (.inl rfl)] at hr
                subst hr
                rcases htl3 with ⟨rfl, ht3⟩ | ⟨rfl, rfl⟩
                all_goals (go_wp2_with fail; go_ret2; exact RM.mk ⟨_, rfl, fldsIs_nil _⟩ hb3)
          · have e9 : ((k : Int) + (m : Int) == (s.size : Int)) = false := by rw [beq_eq_false_iff_ne]; omega
            have hkl : k + m < s.size := by omega
            have k3 : (k : Int) + (m : Int) < (s.size : Int) := by omega
            have k4 : (0 : Int) ≤ (k : Int) + (m : Int) := by omega
            have hx := str_get hkl
            have hd := drop_head hx
            generalize hc : s[k + m]'hkl = c at hx hd
            by_cases h32 : c = 32
            · subst h32
              have HS2 := Lib.hid (sps_step HS.out HH.out hd)
              clear hd hx
              rcases htl3 with ⟨rfl, rfl⟩ | ⟨rfl, rfl⟩
              all_goals
                go_wp2_with fail
                go_roundg (s.size - (k + m + 1))
                (case rel => exact ⟨k + m + 1, pre ++ [(⟨t, true⟩ : Fld)], by omega, by go_num, by rw [HLt.out], by rw [← HPl.out]; exact HW.out, hb3, HS2.out, rfl⟩)
                (case measure => rw [G.out]; omega)
            · have e32 : ((c.toNat : Int) != 32) = true := u8_bne (d := 32) h32
              have hr := HR.out
              rw [sps_bad HS.out (fseq_bad HH.out (by rw [List.drop_drop]; exact hd) h32)] at hr
              simp only at hr
              subst hr
              clear hd hx h32
              rcases htl3 with ⟨rfl, rfl⟩ | ⟨rfl, rfl⟩
              all_goals (go_wp2_with fail; go_ret2; exact RM.mk ⟨_, rfl, fldsIs_nil _⟩ hb3)
        | none =>
          rw [hu] at hQ
          simp only at hQ
          have HQ := Lib.hid hQ
          have HU := Lib.hid hu
          clear hQ hu
          go_wp2_with fail
          refine (HQ.out _).mono ?_; rintro e w1 ⟨rfl, hb1⟩
          have hb0 := (hbw.trans hb1).alloc (.cells #[.string ⟨#[]⟩, .bool true] 71)
          obtain ⟨w0, hw0⟩ : ∃ x, w1.alloc (.cells #[.string ⟨#[]⟩, .bool true] 71) = x := ⟨_, rfl⟩
          have hown0 := own_bl (own_bl HO.out hb1) ((Bl.refl w1).alloc (.cells #[.string ⟨#[]⟩, .bool true] 71))
          have h90 := Two.new w1 (.string ⟨#[]⟩) (.bool true)
          have hne : ∀ q, u4.ownBlock = some q → q ≠ w1.heap.size := fun q hq => Nat.ne_of_lt (Nat.lt_of_lt_of_le (own_lt HO.out q hq) hb1.size)
          have hle1 : w.heap.size ≤ w1.heap.size := Nat.le_trans hbw.size hb1.size
          rw [hw0] at hb0 hown0 h90
          clear hb1 hbw
          go_wp2_with fail
          clear hw0
          go_loopg [8] (s.size - k) (fun g n wr2 => ∃ i : Nat, i ≤ s.size - k ∧ n = .int .i64 i ∧ Bl w0 wr2 ∧ Bare s.data.toList k i ∧ g = s.size - k - i)
          case atStart => exact ⟨0, by omega, rfl, Bl.refl _, by intro j c hj; omega, by omega⟩
          case round =>
            obtain ⟨i, hik, rfl, hb4, hbr, hg2⟩ := hrel
            have G2 := Lib.hid hg2
            have HB := Lib.hid hbr
            clear hg2 hbr
            have q0 : (0 : Int) ≤ (k : Int) + (i : Int) := by omega
            by_cases hlt : k + i < s.size
            · have hx := str_get hlt
              have q1 : decide ((k : Int) + (i : Int) < (s.size : Int)) = true := by rw [decide_eq_true_eq]; omega
              have q2 : (k : Int) + (i : Int) < (s.size : Int) := by omega
              generalize hc : s[k + i]'hlt = c at hx
              have hx2 : (s.data.toList.drop k)[i]? = some c := by rw [List.getElem?_drop]; exact hx
              by_cases h32 : c = 32
              · subst h32
                have HX2 := Lib.hid hx2
                have h94 := h90.bl hb4
                have hown4 := own_bl hown0 hb4
                have hbw4 : Bl w wr := hb0.trans hb4
                have e0 := h94.c0
                have e1 := h94.c1
                have f0 := h94.f 0
                have f1 := h94.f 1
                clear hx hx2
                have hwd := word_at HB.out (.inr HX2.out) (by simp; omega)
                have hmr : i ≤ s.size - k := hik
                obtain ⟨sx, hsx⟩ : ∃ x, s.extract k (k + i) = x := ⟨_, rfl⟩
                have hsxl : sx.data.toList = wordOf (s.data.toList.drop k) := by rw [← hsx, ext_mid, Nat.add_sub_cancel_left, hwd]
                have hsxs : sx.size = i := by
                  have := congrArg List.length hsxl
                  rw [hwd] at this
                  simp at this; omega
                have hB := fun w => refBare sx (by omega) w
                have hh : head1 (s.data.toList.drop k) = bare1 (s.data.toList.drop k) := by unfold head1; rw [HU.out]
                unfold bare1 at hh
                rw [← hsxl] at hh
                rw [show sx.data.toList.length = sx.size by simp] at hh
                have n1 : (k : Int) ≤ (k : Int) + (i : Int) := by omega
                have n2 : (k : Int) + (i : Int) ≤ (s.size : Int) := by omega
                clear hwd hsxl hmr
                cases hbb : bareW sx.data.toList with
                | false =>
                  rw [hbb] at hB hh
                  rw [if_neg (by simp)] at hh
                  have hr := HR.out
                  rw [sps_bad HS.out (fseq_none hh)] at hr
                  simp only at hr
                  subst hr
                  have HBr := Lib.hid hB
                  clear hB hh hbb hsxs
                  go_wp2_with fail
                  refine (HBr.out _).mono ?_; rintro e w5 ⟨rfl, hb5⟩
                  go_wp2_with fail
                  go_ret2
                  exact RM.mk ⟨_, rfl, fldsIs_nil _⟩ (by repeat (first | assumption | exact Bl.refl _ | apply Bl.drewN | apply Bl.drew | apply Bl.alloc | (refine Bl.setCell ?_ _ (by first | (simp; done) | (simp; omega)) _) | (refine Bl.dr ?_ (by assumption)) | (refine Bl.trans ?_ (by assumption))))
                | true =>
                  rw [hbb] at hB hh
                  rw [if_pos rfl] at hh
                  have hm1 := head1_len hh
                  have HBr := Lib.hid hB
                  obtain ⟨m, hm⟩ : ∃ m, sx.size = m := ⟨_, rfl⟩
                  have him : i = m := by omega
                  subst him
                  rw [hm] at hh
                  have HH := Lib.hid hh
                  have htl : sx.size = sx.data.toList.length := by simp
                  obtain ⟨m, hm2⟩ : ∃ m, i = m := ⟨_, rfl⟩
                  have hkm : k + i ≤ s.size := by omega
                  subst hm2
                  have hm1 := hm1.1
                  clear hB hh hbb hsxs hm
                  go_wp2_with fail
                  refine (HBr.out _).mono ?_; rintro e wA ⟨rfl, hb5⟩
                  have hbA : Bl w wA := (by repeat (first | assumption | exact Bl.refl _ | apply Bl.drewN | apply Bl.drew | apply Bl.alloc | (refine Bl.setCell ?_ _ (by first | (simp; done) | (simp; omega)) _) | (refine Bl.dr ?_ (by assumption)) | (refine Bl.trans ?_ (by assumption))))
                  have hownA := own_bl (own_set2 (own_set2 hown4 ⟨w1.heap.size, 0, none⟩ (.string sx) hne) ⟨w1.heap.size, 1, none⟩ (.bool false) hne) hb5
                  have h9 := ((h94.set0 (.string sx)).set1 (.bool false)).bl hb5
                  have hszA := hbA.size
                  obtain ⟨m, hm2⟩ : ∃ m, m = i := ⟨_, rfl⟩
                  subst hm2
                  clear hb5 h94 hown4 hb4 hsx
                  have e0 := h9.c0
                  have e1 := h9.c1
                  obtain ⟨lb, hlb⟩ : ∃ b, decide ((2000 : Int) < ((sx).size : Int)) = b := ⟨_, rfl⟩
                  have htoo : tooL (pre ++ [(⟨sx.data.toList, false⟩ : Fld)]) = (tl || lb) := by
                    rw [tooL_snoc, HT.out, ← hlb]
                    congr 1
                    rw [Bool.eq_iff_iff, decide_eq_true_eq, decide_eq_true_eq]
                    show 2000 < ((⟨sx.data.toList, false⟩ : Fld)).s.length ↔ _
                    rw [← htl]; omega
                  have HTo := Lib.hid htoo
                  clear htoo htl
                  go_wp2_with (at_builtin; refine wpList_append_own _ rfl _ _ 67 rfl w.heap.size 71 i0 (.agg #[.string ⟨#[]⟩, .bool false]) 2 24 Tryz.underlying67 hi hz0 hz1 hz2 rfl (by decide) _ _ _ rfl (hownA.alloc _) ⟨wA.heap.size, 0, none⟩ 1 1 [.string sx, .bool false] rfl rfl ?c1 ?c2 ?c3 ?c4 ?c5 ?_)
                  case c1 => exact multi_new _ _ _
                  case c2 => intro u hu; simp at hu; rcases hu with rfl | rfl <;> rfl
                  case c3 => unfold maxLen; omega
                  case c4 => omega
                  case c5 => simp; omega
                  intro v' w3 hown2 hgrow _
                  have hb3 := grown_bl (hbA.alloc _) (hownA.alloc _) hgrow (Nat.le_refl _)
                  have h93 := (h9.alloc _).grown hgrow hne
                  have e0 := h93.c0
                  have e1 := h93.c1
                  have hown3 : w3.ownsRow w.heap.size 71 2 v' (pre ++ [(⟨sx.data.toList, false⟩ : Fld)]).length (fldCells (pre ++ [(⟨sx.data.toList, false⟩ : Fld)])) := by
                    rw [fldCells_snoc, List.length_append, ← str_list sx]; exact hown2
                  have HW := Lib.hid hown3
                  have hpl3 : (pre ++ [(⟨sx.data.toList, false⟩ : Fld)]).length ≤ 8194 := by rw [List.length_append, List.length_singleton]; omega
                  obtain ⟨oa, oc, rfl, -⟩ := own_form hown3
                  clear hown2 hown3 hgrow hownA h9 hbA
                  have k2 : (k : Int) + (m : Int) ≤ (s.size : Int) := by omega
                  obtain ⟨lt, hlt⟩ : ∃ b, (tl || lb) = b := ⟨_, rfl⟩
                  have HLt := Lib.hid (HTo.out.trans hlt)
                  obtain ⟨pl, hpl⟩ : ∃ n, (pre ++ [(⟨sx.data.toList, false⟩ : Fld)]).length = n := ⟨_, rfl⟩
                  have HPl := Lib.hid hpl
                  rw [hpl] at hpl3 ⊢
                  clear hpl
                  have htl3 : tl = true ∧ lt = true ∨ tl = false ∧ lt = lb := by
                    cases tl
                    · right; exact ⟨rfl, by rw [← hlt]; rfl⟩
                    · left; exact ⟨rfl, by rw [← hlt]; rfl⟩
                  clear hlt
                  have hend : ¬ k + m = s.size := by omega
                  have e9 : ((k : Int) + (m : Int) == (s.size : Int)) = false := by rw [beq_eq_false_iff_ne]; omega
                  have hkl : k + m < s.size := by omega
                  have k3 : (k : Int) + (m : Int) < (s.size : Int) := by omega
                  have k4 : (0 : Int) ≤ (k : Int) + (m : Int) := by omega
                  have hx := str_get hkl
                  have hd := drop_head hx
                  generalize hc : s[k + m]'hkl = c at hx hd
                  have h32 : c = 32 := by have hq := HX2.out; rw [List.getElem?_drop, hx] at hq; injection hq
                  subst h32
                  have HS2 := Lib.hid (sps_step HS.out HH.out hd)
                  clear hd hx
                  rcases htl3 with ⟨rfl, rfl⟩ | ⟨rfl, rfl⟩
                  all_goals
                    go_wp2_with fail
                    go_roundg (s.size - (k + m + 1))
                    (case rel => exact ⟨k + m + 1, pre ++ [(⟨sx.data.toList, false⟩ : Fld)], by omega, by go_num, by rw [HLt.out], by rw [← HPl.out]; exact HW.out, hb3, HS2.out, rfl⟩)
                    (case measure => rw [G.out]; omega)
              · have e32 : ((c.toNat : Int) != 32) = true := u8_bne (d := 32) h32
                have HX2 := Lib.hid hx2
                have HN := Lib.hid h32
                clear hx hx2 h32
                go_wp2_with fail
                go_roundg (s.size - k - (i + 1))
                case rel =>
                  refine ⟨i + 1, by omega, by go_num, hb4, fun j d hj hd => ?_, rfl⟩
                  by_cases e : j = i
                  · subst e; rw [HX2.out] at hd; injection hd with hd; subst hd; exact HN.out
                  · exact HB.out j d (by omega) hd
                case measure => rw [G2.out]; omega
            · have q1 : decide ((k : Int) + (i : Int) < (s.size : Int)) = false := by rw [decide_eq_false_iff_not]; omega
              have h94 := h90.bl hb4
              have hown4 := own_bl hown0 hb4
              have hbw4 : Bl w wr := hb0.trans hb4
              have e0 := h94.c0
              have e1 := h94.c1
              have f0 := h94.f 0
              have f1 := h94.f 1
              have hwd := word_at HB.out (.inl (by simp; omega)) (by simp; omega)
              have hmr : i ≤ s.size - k := hik
              obtain ⟨sx, hsx⟩ : ∃ x, s.extract k (k + i) = x := ⟨_, rfl⟩
              have hsxl : sx.data.toList = wordOf (s.data.toList.drop k) := by rw [← hsx, ext_mid, Nat.add_sub_cancel_left, hwd]
              have hsxs : sx.size = i := by
                have := congrArg List.length hsxl
                rw [hwd] at this
                simp at this; omega
              have hB := fun w => refBare sx (by omega) w
              have hh : head1 (s.data.toList.drop k) = bare1 (s.data.toList.drop k) := by unfold head1; rw [HU.out]
              unfold bare1 at hh
              rw [← hsxl] at hh
              rw [show sx.data.toList.length = sx.size by simp] at hh
              have n1 : (k : Int) ≤ (k : Int) + (i : Int) := by omega
              have n2 : (k : Int) + (i : Int) ≤ (s.size : Int) := by omega
              clear hwd hsxl hmr
              cases hbb : bareW sx.data.toList with
              | false =>
                rw [hbb] at hB hh
                rw [if_neg (by simp)] at hh
                have hr := HR.out
                rw [sps_bad HS.out (fseq_none hh)] at hr
                simp only at hr
                subst hr
                have HBr := Lib.hid hB
                clear hB hh hbb hsxs
                go_wp2_with fail
                refine (HBr.out _).mono ?_; rintro e w5 ⟨rfl, hb5⟩
                go_wp2_with fail
                go_ret2
                exact RM.mk ⟨_, rfl, fldsIs_nil _⟩ (by repeat (first | assumption | exact Bl.refl _ | apply Bl.drewN | apply Bl.drew | apply Bl.alloc | (refine Bl.setCell ?_ _ (by first | (simp; done) | (simp; omega)) _) | (refine Bl.dr ?_ (by assumption)) | (refine Bl.trans ?_ (by assumption))))
              | true =>
                rw [hbb] at hB hh
                rw [if_pos rfl] at hh
                have hm1 := head1_len hh
                have HBr := Lib.hid hB
                obtain ⟨m, hm⟩ : ∃ m, sx.size = m := ⟨_, rfl⟩
                have him : i = m := by omega
                subst him
                rw [hm] at hh
                have HH := Lib.hid hh
                have htl : sx.size = sx.data.toList.length := by simp
                obtain ⟨m, hm2⟩ : ∃ m, i = m := ⟨_, rfl⟩
                have hkm : k + i ≤ s.size := by omega
                subst hm2
                have hm1 := hm1.1
                clear hB hh hbb hsxs hm
                go_wp2_with fail
                refine (HBr.out _).mono ?_; rintro e wA ⟨rfl, hb5⟩
                have hbA : Bl w wA := (by repeat (first | assumption | exact Bl.refl _ | apply Bl.drewN | apply Bl.drew | apply Bl.alloc | (refine Bl.setCell ?_ _ (by first | (simp; done) | (simp; omega)) _) | (refine Bl.dr ?_ (by assumption)) | (refine Bl.trans ?_ (by assumption))))
                have hownA := own_bl (own_set2 (own_set2 hown4 ⟨w1.heap.size, 0, none⟩ (.string sx) hne) ⟨w1.heap.size, 1, none⟩ (.bool false) hne) hb5
                have h9 := ((h94.set0 (.string sx)).set1 (.bool false)).bl hb5
                have hszA := hbA.size
                obtain ⟨m, hm2⟩ : ∃ m, m = i := ⟨_, rfl⟩
                subst hm2
                clear hb5 h94 hown4 hb4 hsx
                have e0 := h9.c0
                have e1 := h9.c1
                obtain ⟨lb, hlb⟩ : ∃ b, decide ((2000 : Int) < ((sx).size : Int)) = b := ⟨_, rfl⟩
                have htoo : tooL (pre ++ [(⟨sx.data.toList, false⟩ : Fld)]) = (tl || lb) := by
                  rw [tooL_snoc, HT.out, ← hlb]
                  congr 1
                  rw [Bool.eq_iff_iff, decide_eq_true_eq, decide_eq_true_eq]
                  show 2000 < ((⟨sx.data.toList, false⟩ : Fld)).s.length ↔ _
                  rw [← htl]; omega
                have HTo := Lib.hid htoo
                clear htoo htl
                go_wp2_with (at_builtin; refine wpList_append_own _ rfl _ _ 67 rfl w.heap.size 71 i0 (.agg #[.string ⟨#[]⟩, .bool false]) 2 24 Tryz.underlying67 hi hz0 hz1 hz2 rfl (by decide) _ _ _ rfl (hownA.alloc _) ⟨wA.heap.size, 0, none⟩ 1 1 [.string sx, .bool false] rfl rfl ?c1 ?c2 ?c3 ?c4 ?c5 ?_)
                case c1 => exact multi_new _ _ _
                case c2 => intro u hu; simp at hu; rcases hu with rfl | rfl <;> rfl
                case c3 => unfold maxLen; omega
                case c4 => omega
                case c5 => simp; omega
                intro v' w3 hown2 hgrow _
                have hb3 := grown_bl (hbA.alloc _) (hownA.alloc _) hgrow (Nat.le_refl _)
                have h93 := (h9.alloc _).grown hgrow hne
                have e0 := h93.c0
                have e1 := h93.c1
                have hown3 : w3.ownsRow w.heap.size 71 2 v' (pre ++ [(⟨sx.data.toList, false⟩ : Fld)]).length (fldCells (pre ++ [(⟨sx.data.toList, false⟩ : Fld)])) := by
                  rw [fldCells_snoc, List.length_append, ← str_list sx]; exact hown2
                have HW := Lib.hid hown3
                have hpl3 : (pre ++ [(⟨sx.data.toList, false⟩ : Fld)]).length ≤ 8194 := by rw [List.length_append, List.length_singleton]; omega
                obtain ⟨oa, oc, rfl, -⟩ := own_form hown3
                clear hown2 hown3 hgrow hownA h9 hbA
                have k2 : (k : Int) + (m : Int) ≤ (s.size : Int) := by omega
                obtain ⟨lt, hlt⟩ : ∃ b, (tl || lb) = b := ⟨_, rfl⟩
                have HLt := Lib.hid (HTo.out.trans hlt)
                obtain ⟨pl, hpl⟩ : ∃ n, (pre ++ [(⟨sx.data.toList, false⟩ : Fld)]).length = n := ⟨_, rfl⟩
                have HPl := Lib.hid hpl
                rw [hpl] at hpl3 ⊢
                clear hpl
                have htl3 : tl = true ∧ lt = true ∨ tl = false ∧ lt = lb := by
                  cases tl
                  · right; exact ⟨rfl, by rw [← hlt]; rfl⟩
                  · left; exact ⟨rfl, by rw [← hlt]; rfl⟩
                clear hlt
                have hend : k + m = s.size := by omega
                have hd : s.data.toList.drop (k + m) = [] := List.drop_eq_nil_of_le (by simp; omega)
                have hfs := fseq_end HH.out (by rw [List.drop_drop]; exact hd)
                have hr := HR.out
                rw [sps_end HS.out hfs] at hr
                simp only at hr
                rw [HLt.out, HPl.out] at hr
                have e9 : ((k : Int) + (m : Int) == (s.size : Int)) = true := by rw [beq_iff_eq]; omega
                clear hfs hd hend
                by_cases h64 : 64 < pl
                · have d64 : decide ((64 : Int) < (pl : Int)) = true := by rw [decide_eq_true_eq]; omega
                  rw [if_pos (.inr h64)] at hr
                  subst hr
                  cases lt
                  all_goals
                    rcases htl3 with ⟨rfl, ht3⟩ | ⟨rfl, rfl⟩
                    all_goals first
                      | (cases ht3; done)
                      | (go_wp2_with fail; go_ret2; exact RM.mk ⟨_, rfl, fldsIs_nil _⟩ hb3)
                · have d64 : decide ((64 : Int) < (pl : Int)) = false := by rw [decide_eq_false_iff_not]; omega
                  cases lt
                  · rw [if_neg (by simp; omega)] at hr
                    subst hr
                    rcases htl3 with ⟨rfl, ht3⟩ | ⟨rfl, rfl⟩
                    · cases ht3
                    · go_wp2_with fail
                      go_ret2
                      exact RM.mk ⟨_, by rfl, by have hx := ownF_is HW.out; rwa [HPl.out] at hx⟩ hb3
                  · rw [if_pos (.inl rfl)] at hr
                    subst hr
                    rcases htl3 with ⟨rfl, ht3⟩ | ⟨rfl, rfl⟩
                    all_goals (go_wp2_with fail; go_ret2; exact RM.mk ⟨_, rfl, fldsIs_nil _⟩ hb3)
end Go.Proofs.YtidclkojekodpaaGreatDoor

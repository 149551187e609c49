
/-
  The fields of a line, as the program of entries takes them: a row of interface values.
-/
import Derived.Test.YtkbfjficmdgjpaaGreatDoorEtA
import Derived.Test.YtkbfjficmdgjpaaGreatDoorWoI
namespace Go.Proofs.YtkbfjficmdgjpaaGreatDoor
open Go.RowKit Go.Sort
set_option linter.unusedSimpArgs false
set_option linter.unusedVariables false
set_option maxRecDepth 100000

/-! ### Plain -/
theorem index_word : ∀ t : List UInt8, Lib.indexByte (t ++ [32]) 32 = ((wordOf t).length : Int)
  | [] => by simp [Lib.indexByte, wordOf]
  | c :: t => by
    have ih := index_word t
    unfold wordOf at ih ⊢
    by_cases h : c = 32
    · subst h; simp [Lib.indexByte]
    · have h' : (c != 32) = true := by simp [h]
      rw [List.takeWhile_cons, if_pos h', List.length_cons, List.cons_append]
      unfold Lib.indexByte
      rw [if_neg (by simpa using h), ih, if_neg (by simp)]
      simp
/-! ### The row -/
def ifv (x : Fld) : Value := .iface (if x.q = true then 115 else 110) (.string ⟨x.s.toArray⟩)
theorem inf_field : (Tryz.prog.info? 113).map (fun i => (i.zero, i.size, i.bytes)) = some (some .nilIface, 1, 16) := by kernel_rfl
theorem pf1_of {t : List UInt8} {m : Nat} {v : List UInt8} {e : Int} (hm : pend t = m) (hu : unqR (t.take m) = (v, e)) : pf1 t = if e = 0 then ⟨v, true⟩ else ⟨t.take m, false⟩ := by
  unfold pf1; rw [hm, hu]
/-- One more field, and what comes behind it. -/
theorem pfG_nil {t : List UInt8} {m f : Nat} {A : List Fld} (hm : pend t = m) (hf : t.length < f) (hd : t.drop m = []) : pfG f A t = A ++ [pf1 t] := by
  obtain ⟨g, rfl⟩ : ∃ g, f = g + 1 := ⟨f - 1, by omega⟩
  exact pfG_one g A t (by rw [hm]; exact hd)
theorem pfG_next {t r : List UInt8} {m f : Nat} {A : List Fld} (hm : pend t = m) (hf : t.length < f) (hd : t.drop m = 32 :: r) : pfG f A t = pfG (r.length + 1) (A ++ [pf1 t]) r := by
  obtain ⟨g, rfl⟩ : ∃ g, f = g + 1 := ⟨f - 1, by omega⟩
  rw [pfG_sp g A t r (by rw [hm]; exact hd)]
  have hl := congrArg List.length hd
  simp only [List.length_drop, List.length_cons] at hl
  exact pfG_fuel _ _ _ _ (by omega) (by omega)
theorem pfG_bad {t r : List UInt8} {m f : Nat} {A : List Fld} {c : UInt8} (hm : pend t = m) (hf : t.length < f) (hd : t.drop m = c :: r) (hc : c ≠ 32) : pfG f A t = [⟨[], false⟩] := by
  obtain ⟨g, rfl⟩ : ∃ g, f = g + 1 := ⟨f - 1, by omega⟩
  exact pfG_no g A t r c (by rw [hm]; exact hd) hc
theorem ifv_t (v : ByteArray) : ifv ⟨v.data.toList, true⟩ = .iface 115 (.string v) := by unfold ifv; simp
theorem ifv_b (v : ByteArray) : ifv ⟨v.data.toList, false⟩ = .iface 110 (.string v) := by unfold ifv; simp
theorem own_snocF {w : World} {B : Nat} {v : Value} {A : List Fld} {x : Fld} {u : Value} (h : w.ownsRow B 113 1 v (A.length + 1) (A.map ifv ++ [u])) (hu : ifv x = u) : w.ownsRow B 113 1 v (A ++ [x]).length ((A ++ [x]).map ifv) :=
  own_cast h (by simp) (by simp [hu])
theorem own_one (w : World) : (w.alloc (Obj.cells #[.iface 110 (.string ⟨#[]⟩)] 113)).ownsRow w.heap.size 113 1 (.slice (some ⟨w.heap.size, 0, none⟩) 1 1) ([⟨[], false⟩] : List Fld).length (([⟨[], false⟩] : List Fld).map ifv) :=
  World.ownsRow_lit w #[.iface 110 (.string ⟨#[]⟩)] 1 (Nat.le_refl _) (by unfold maxLen; omega) (by simp)
theorem ext_two2 (r : ByteArray) (m : Nat) : ((r.extract m r.size).extract 1 (r.size - m)).data.toList = r.data.toList.drop (m + 1) := by
  have e : r.size - m = (r.extract m r.size).size := by simp
  rw [e, ext_dropW, ext_dropW, List.drop_drop]
/-! ### The walk -/
set_option maxHeartbeats 16000000 in
theorem entFields (s : ByteArray) (hs : s.size ≤ 100000) (w : World) (hE : EscTab w) : Calls Tryz.prog 75 #[.string s] w (RM w (fun w' v => w'.ownsRow w.heap.size 113 1 v (pfs s.data.toList).length ((pfs s.data.toList).map ifv))) := by
  obtain ⟨i0, hin, hz0, hz1, hz2⟩ := info_parts inf_field
  have HEsc := Lib.hid hE
  have HIx := Lib.hid (fun (r : ByteArray) w => (Tryz.strings_IndexByte (r ++ ⟨#[32]⟩) 32 w).mono fun e w' ⟨he, hw⟩ => (show RB w (.int .i64 ((wordOf r.data.toList).length : Nat)) e w' from ⟨by rw [he, app_list]; exact congrArg _ (ival (index_word _)), hw ▸ Bl.refl _⟩))
  have HPx := Lib.hid (fun (r : ByteArray) w => (Tryz.strings_HasPrefix r ⟨#[34]⟩ w).mono fun e w' ⟨he, hw⟩ => (show RB w (.bool (Lib.hasPrefix r.data.toList [34])) e w' from ⟨he, hw ▸ Bl.refl _⟩))
  clear hE
  go_enter Tryz.func75, Tryz.ntmps75
  go_wp2_with fail
  go_loopg [2, 3] s.size (fun g v1 v2 wr => ∃ (r : ByteArray) (A : List Fld), v2 = .string r ∧ Hid (wr.ownsRow w.heap.size 113 1 v1 A.length (A.map ifv) ∧ pfG (r.data.toList.length + 1) A r.data.toList = pfs s.data.toList ∧ r.size ≤ 100000 ∧ A.length + r.size ≤ s.size ∧ g = r.size) ∧ Bl w wr)
  case atStart => exact ⟨s, [], rfl, Lib.hid ⟨own_nil _ _ _ _, rfl, hs, by simp, rfl⟩, Bl.refl _⟩
  case round =>
    obtain ⟨r, A, rfl, H, hb⟩ := hrel
    have HG := Lib.hid H.out.2.1
    have hr9 : r.size ≤ 100000 := H.out.2.2.1
    have hA9 : A.length ≤ 100000 := by have := H.out.2.2.2.1; omega
    have hrl : r.data.toList.length = r.size := (Lib.size_eq r).symm
    have HRl := Lib.hid hrl
    obtain ⟨hp, hhp⟩ : ∃ b, Lib.hasPrefix r.data.toList [34] = b := ⟨_, rfl⟩
    have hP := fun w => HPx.out r w
    rw [hhp] at hP
    have HP0 := Lib.hid hP
    obtain ⟨k, hk⟩ : ∃ k, (wordOf r.data.toList).length = k := ⟨_, rfl⟩
    have hI := fun w => HIx.out r w
    rw [hk] at hI
    have HI := Lib.hid hI
    clear hP hI hrl
    cases hp with
    | false =>
      have hpe : pend r.data.toList = k := by
        rw [pend_word (fun r' e => by rw [e] at hhp; simp [Lib.hasPrefix] at hhp), hk]
      have hkr : k ≤ r.size := by have := pend_le r.data.toList; rw [hpe, HRl.out] at this; exact this
      obtain ⟨m, hm⟩ : ∃ m, m = k := ⟨_, rfl⟩
      subst hm
      have HPm := Lib.hid hpe
      have hmr := hkr
      clear hpe hkr hhp hk
      go_wp2_with fail
      refine (HI.out _).mono ?_; rintro e w1 ⟨rfl, hb1⟩
      go_wp2_with fail
      refine (HP0.out _).mono ?_; rintro e w2 ⟨rfl, hb2⟩
      have hbw3 := hb1.trans hb2
      have hb2 := hb.trans hbw3
      clear hb1
      obtain ⟨p, hp⟩ : ∃ p, r.extract 0 (m) = p := ⟨_, rfl⟩
      obtain ⟨q, hq⟩ : ∃ q, r.extract (m) r.size = q := ⟨_, rfl⟩
      have hpl : p.data.toList = r.data.toList.take (m) := by rw [← hp]; exact ext_takeW r (m) hmr
      have hql : q.data.toList = r.data.toList.drop (m) := by rw [← hq]; exact ext_dropW r (m)
      have hps : p.size ≤ 100000 := by rw [← hp, ByteArray.size_extract]; have := H.out.2.2.1; omega
      have hU := fun w h => woUnquote p hps w h
      rw [hpl] at hU
      obtain ⟨⟨uv, ue⟩, hup⟩ : ∃ z, unqR (r.data.toList.take (m)) = z := ⟨_, rfl⟩
      rw [hup] at hU
      have hpf := pf1_of HPm.out hup
      have HQ := Lib.hid (And.intro hq hql)
      have HP := Lib.hid hp
      have HU := Lib.hid hU
      have i7 : (((m) : Nat) : Int) ≤ (r.size : Int) := by omega
      have i8 : (0 : Int) ≤ (((m) : Nat) : Int) := by omega
      by_cases he : ue = 0
      · subst he
        rw [if_pos rfl] at hpf
        have HF := Lib.hid (show ifv (pf1 r.data.toList) = .iface 115 (.string ⟨uv.toArray⟩) by rw [hpf]; rfl)
        clear hpf hup hU hps hpl hql hp hq
        go_wp2_with fail
        rw [HP.out]
        refine (HU.out _ (HEsc.out.bl hb2)).mono ?_; rintro e w3 ⟨rfl, hb3⟩
        have hbw4 := hbw3.trans hb3
        have hb3 := hb2.trans hb3
        have hs3 := hb3.size
        have HOw := Lib.hid (own_bl H.out.1 hbw4)
        go_wp2_with (at_builtin; refine wpList_append_own _ rfl _ _ 108 rfl w.heap.size 113 i0 .nilIface 1 16 Tryz.underlying108 hin hz0 hz1 hz2 rfl (by decide) _ _ _ rfl (World.ownsRow.alloc HOw.out _) ⟨w3.heap.size, 0, none⟩ 1 1 [.iface 115 (.string ⟨uv.toArray⟩)] rfl rfl ?c1ay ?c2ay ?c3ay ?c4ay ?c5ay ?_)
        case c1ay => exact one_new _ _ _
        case c2ay => intro u hu; simp at hu; subst hu; rfl
        case c3ay => unfold maxLen; omega
        case c4ay => omega
        case c5ay => simp; omega
        intro v' w4 hown4 hgrow _
        have hb4 := grown_bl (hb3.alloc _) (World.ownsRow.alloc HOw.out _) hgrow (Nat.le_refl _)
        have HO4 := Lib.hid (own_snocF (x := pf1 r.data.toList) hown4 HF.out)
        clear hown4 hgrow
        cases hd : r.data.toList.drop (m) with
        | nil =>
          have hql := HQ.out.2
          rw [hd] at hql
          have hem : (r.extract (m) r.size).toList.isEmpty = true := by rw [toL, HQ.out.1, hql]; rfl
          have hem2 : (r.extract (m) r.size).toList = [] := by rw [toL, HQ.out.1, hql]
          have HFin := Lib.hid (pfG_nil (A := A) HPm.out (Nat.lt_succ_self _) hd)
          clear hd hql
          go_wp2_with fail
          go_ret
          refine RM.mk ?_ hb4
          rw [← HG.out, HFin.out]; exact HO4.out
        | cons c t =>
          have hql := HQ.out.2
          rw [hd] at hql
          have hem : (r.extract (m) r.size).toList.isEmpty = false := by rw [toL, HQ.out.1, hql]; rfl
          have hq0 : 0 < (r.extract (m) r.size).size := by rw [HQ.out.1, Lib.size_eq, hql]; simp
          have hix : (r.extract (m) r.size)[0]'hq0 = c := byte_eq hq0 (by rw [HQ.out.1, hql]; rfl)
          have hqi : (0 : Int) < ((r.extract (m) r.size).size : Int) := by omega
          have hsj : 0 < r.size - (m) := by simpa using hq0
          by_cases hc : c = 32
          · subst hc
            have e1 : (((((r.extract (m) r.size)[0]'hq0).toNat : Nat) : Int) != 32) = false := by rw [hix]; rfl
            have hqi1 : (1 : Int) ≤ ((r.extract (m) r.size).size : Int) := by omega
            have hn := pfG_next (A := A) HPm.out (Nat.lt_succ_self _) hd
            have hrl : ((r.extract (m) r.size).extract 1 (r.size - (m))).data.toList = t := by rw [ext_two2, ← List.drop_drop, hd]; rfl
            have HFin := Lib.hid (And.intro hn hrl)
            have hle := congrArg List.length hd
            simp only [List.length_drop, List.length_cons] at hle
            have hrs : ((r.extract (m) r.size).extract 1 (r.size - (m))).size = t.length := by rw [Lib.size_eq, hrl]
            have HLe := Lib.hid (And.intro hrs (And.intro hle HRl.out))
            clear hd hql hn hrl hix hrs hle
            go_wp2_with fail
            go_roundg t.length
            case rel => 
              refine ⟨_, A ++ [pf1 r.data.toList], rfl, Lib.hid ⟨HO4.out, ?_, ?_, ?_, ?_⟩, hb4⟩
              · rw [HFin.out.2, ← HFin.out.1]; exact HG.out
              · rw [HLe.out.1]; have := HLe.out.2; omega
              · rw [HLe.out.1]; have := HLe.out.2; have := H.out.2.2.2.1; simp; omega
              · exact HLe.out.1.symm
            case measure => have := HLe.out.2; have := H.out.2.2.2.2; omega
          · have e1 : (((((r.extract (m) r.size)[0]'hq0).toNat : Nat) : Int) != 32) = true := by rw [hix]; exact u8_bne (d := 32) hc
            have HFin := Lib.hid (pfG_bad (A := A) HPm.out (Nat.lt_succ_self _) hd hc)
            have hbn := own_one w4
            clear hd hql hix hc
            go_wp2_with fail
            go_ret
            refine RM.mk ?_ (hb4.alloc _)
            rw [← HG.out, HFin.out]; exact own_base (own_one w4) hb4.size
      · have i9 : (ue == 0) = false := by rw [beq_eq_false_iff_ne]; exact he
        rw [if_neg he] at hpf
        have HF := Lib.hid (show ifv (pf1 r.data.toList) = .iface 110 (.string p) by rw [hpf, ← hpl]; exact ifv_b p)
        clear hpf hup hU hps hpl hql hp hq he
        go_wp2_with fail
        rw [HP.out]
        refine (HU.out _ (HEsc.out.bl hb2)).mono ?_; rintro e w3 ⟨rfl, hb3⟩
        have hbw4 := hbw3.trans hb3
        have hb3 := hb2.trans hb3
        have hs3 := hb3.size
        have HOw := Lib.hid (own_bl H.out.1 hbw4)
        go_wp2_with (at_builtin; refine wpList_append_own _ rfl _ _ 108 rfl w.heap.size 113 i0 .nilIface 1 16 Tryz.underlying108 hin hz0 hz1 hz2 rfl (by decide) _ _ _ rfl (World.ownsRow.alloc HOw.out _) ⟨w3.heap.size, 0, none⟩ 1 1 [.iface 110 (.string p)] rfl rfl ?c1by ?c2by ?c3by ?c4by ?c5by ?_)
        case c1by => exact one_new _ _ _
        case c2by => intro u hu; simp at hu; subst hu; rfl
        case c3by => unfold maxLen; omega
        case c4by => omega
        case c5by => simp; omega
        intro v' w4 hown4 hgrow _
        have hb4 := grown_bl (hb3.alloc _) (World.ownsRow.alloc HOw.out _) hgrow (Nat.le_refl _)
        have HO4 := Lib.hid (own_snocF (x := pf1 r.data.toList) hown4 HF.out)
        clear hown4 hgrow
        cases hd : r.data.toList.drop (m) with
        | nil =>
          have hql := HQ.out.2
          rw [hd] at hql
          have hem : (r.extract (m) r.size).toList.isEmpty = true := by rw [toL, HQ.out.1, hql]; rfl
          have hem2 : (r.extract (m) r.size).toList = [] := by rw [toL, HQ.out.1, hql]
          have HFin := Lib.hid (pfG_nil (A := A) HPm.out (Nat.lt_succ_self _) hd)
          clear hd hql
          go_wp2_with fail
          go_ret
          refine RM.mk ?_ hb4
          rw [← HG.out, HFin.out]; exact HO4.out
        | cons c t =>
          have hql := HQ.out.2
          rw [hd] at hql
          have hem : (r.extract (m) r.size).toList.isEmpty = false := by rw [toL, HQ.out.1, hql]; rfl
          have hq0 : 0 < (r.extract (m) r.size).size := by rw [HQ.out.1, Lib.size_eq, hql]; simp
          have hix : (r.extract (m) r.size)[0]'hq0 = c := byte_eq hq0 (by rw [HQ.out.1, hql]; rfl)
          have hqi : (0 : Int) < ((r.extract (m) r.size).size : Int) := by omega
          have hsj : 0 < r.size - (m) := by simpa using hq0
          by_cases hc : c = 32
          · subst hc
            have e1 : (((((r.extract (m) r.size)[0]'hq0).toNat : Nat) : Int) != 32) = false := by rw [hix]; rfl
            have hqi1 : (1 : Int) ≤ ((r.extract (m) r.size).size : Int) := by omega
            have hn := pfG_next (A := A) HPm.out (Nat.lt_succ_self _) hd
            have hrl : ((r.extract (m) r.size).extract 1 (r.size - (m))).data.toList = t := by rw [ext_two2, ← List.drop_drop, hd]; rfl
            have HFin := Lib.hid (And.intro hn hrl)
            have hle := congrArg List.length hd
            simp only [List.length_drop, List.length_cons] at hle
            have hrs : ((r.extract (m) r.size).extract 1 (r.size - (m))).size = t.length := by rw [Lib.size_eq, hrl]
            have HLe := Lib.hid (And.intro hrs (And.intro hle HRl.out))
            clear hd hql hn hrl hix hrs hle
            go_wp2_with fail
            go_roundg t.length
            case rel => 
              refine ⟨_, A ++ [pf1 r.data.toList], rfl, Lib.hid ⟨HO4.out, ?_, ?_, ?_, ?_⟩, hb4⟩
              · rw [HFin.out.2, ← HFin.out.1]; exact HG.out
              · rw [HLe.out.1]; have := HLe.out.2; omega
              · rw [HLe.out.1]; have := HLe.out.2; have := H.out.2.2.2.1; simp; omega
              · exact HLe.out.1.symm
            case measure => have := HLe.out.2; have := H.out.2.2.2.2; omega
          · have e1 : (((((r.extract (m) r.size)[0]'hq0).toNat : Nat) : Int) != 32) = true := by rw [hix]; exact u8_bne (d := 32) hc
            have HFin := Lib.hid (pfG_bad (A := A) HPm.out (Nat.lt_succ_self _) hd hc)
            have hbn := own_one w4
            clear hd hql hix hc
            go_wp2_with fail
            go_ret
            refine RM.mk ?_ (hb4.alloc _)
            rw [← HG.out, HFin.out]; exact own_base (own_one w4) hb4.size
    | true =>
      obtain ⟨tl, htl⟩ : ∃ tl, r.data.toList = 34 :: tl := by
        cases hrr : r.data.toList with
        | nil => rw [hrr] at hhp; simp [Lib.hasPrefix] at hhp
        | cons c tl => rw [hrr] at hhp; simp [Lib.hasPrefix] at hhp; exact ⟨tl, by rw [hhp]⟩
      have hpd : pend r.data.toList = (match qs tl with | some n => n + 1 | none => tl.length + 1) := by rw [htl, pend_cons, if_pos rfl]; cases qs tl <;> rfl
      have hd1 : r.data.toList.drop 1 = tl := by rw [htl]; rfl
      have htz : tl.length + 1 = r.size := by rw [← HRl.out, htl]; rfl
      have HT := Lib.hid (And.intro hpd (And.intro hd1 htz))
      have hr1 : 1 ≤ r.size := by omega
      clear htl hpd hd1 htz hhp hk
      go_wp2_with fail
      refine (HI.out _).mono ?_; rintro e w1 ⟨rfl, hb1⟩
      go_wp2_with fail
      refine (HP0.out _).mono ?_; rintro e w2 ⟨rfl, hb2⟩
      have hbw3 := hb1.trans hb2
      have hb2 := hb.trans hbw3
      clear hb1
      go_wp2_with fail
      go_loopg [4] r.size (fun g v wr2 => ∃ i : Nat, v = .int .i64 i ∧ Hid (1 ≤ i ∧ i ≤ r.size + 1 ∧ g = r.size + 1 - i ∧ qs tl = (qs (r.data.toList.drop i)).map (· + (i - 1))) ∧ wr2 = w2)
      case atStart => exact ⟨1, rfl, Lib.hid ⟨Nat.le_refl _, by omega, rfl, by rw [HT.out.2.1]; simp⟩, rfl⟩
      case round =>
        obtain ⟨i, rfl, HJ, rfl⟩ := hrel
        have hi9 : i ≤ 100001 := by have := HJ.out; omega
        by_cases hi : i < r.size
        · obtain ⟨d, hd⟩ : ∃ d, r.data.toList[i]? = some d := ⟨_, List.getElem?_eq_getElem (by simpa using hi)⟩
          have hdi := byte_eq hi hd
          have i1 : (i : Int) < (r.size : Int) := by omega
          have i2 : (0 : Int) ≤ (i : Int) := by omega
          by_cases h34 : d = 34
          · have e2 : (((r[i]'hi).toNat : Int) != 34) = false := by rw [hdi, h34]; rfl
            subst h34
            have hq := HJ.out.2.2.2
            rw [qs_at34 hd] at hq
            have hq2 : qs tl = some i := by rw [hq]; simp; have := HJ.out.1; omega
            have hpe := HT.out.1
            rw [hq2] at hpe
            obtain ⟨m, hm⟩ : ∃ m, m = i + 1 := ⟨_, rfl⟩
            have HPm := Lib.hid (show pend r.data.toList = m from hpe.trans hm.symm)
            have hmr : m ≤ r.size := by omega
            have i3 : min ((i : Int) + 1) (r.size : Int) = (m : Int) := by omega
            clear hd hq hq2 hdi hpe hm
            obtain ⟨p, hp⟩ : ∃ p, r.extract 0 (m) = p := ⟨_, rfl⟩
            obtain ⟨q, hq⟩ : ∃ q, r.extract (m) r.size = q := ⟨_, rfl⟩
            have hpl : p.data.toList = r.data.toList.take (m) := by rw [← hp]; exact ext_takeW r (m) hmr
            have hql : q.data.toList = r.data.toList.drop (m) := by rw [← hq]; exact ext_dropW r (m)
            have hps : p.size ≤ 100000 := by rw [← hp, ByteArray.size_extract]; have := H.out.2.2.1; omega
            have hU := fun w h => woUnquote p hps w h
            rw [hpl] at hU
            obtain ⟨⟨uv, ue⟩, hup⟩ : ∃ z, unqR (r.data.toList.take (m)) = z := ⟨_, rfl⟩
            rw [hup] at hU
            have hpf := pf1_of HPm.out hup
            have HQ := Lib.hid (And.intro hq hql)
            have HP := Lib.hid hp
            have HU := Lib.hid hU
            have i7 : (((m) : Nat) : Int) ≤ (r.size : Int) := by omega
            have i8 : (0 : Int) ≤ (((m) : Nat) : Int) := by omega
            by_cases he : ue = 0
            · subst he
              rw [if_pos rfl] at hpf
              have HF := Lib.hid (show ifv (pf1 r.data.toList) = .iface 115 (.string ⟨uv.toArray⟩) by rw [hpf]; rfl)
              clear hpf hup hU hps hpl hql hp hq
              go_wp2_with fail
              rw [HP.out]
              refine (HU.out _ (HEsc.out.bl hb2)).mono ?_; rintro e w3 ⟨rfl, hb3⟩
              have hbw4 := hbw3.trans hb3
              have hb3 := hb2.trans hb3
              have hs3 := hb3.size
              have HOw := Lib.hid (own_bl H.out.1 hbw4)
              go_wp2_with (at_builtin; refine wpList_append_own _ rfl _ _ 108 rfl w.heap.size 113 i0 .nilIface 1 16 Tryz.underlying108 hin hz0 hz1 hz2 rfl (by decide) _ _ _ rfl (World.ownsRow.alloc HOw.out _) ⟨w3.heap.size, 0, none⟩ 1 1 [.iface 115 (.string ⟨uv.toArray⟩)] rfl rfl ?c1az ?c2az ?c3az ?c4az ?c5az ?_)
              case c1az => exact one_new _ _ _
              case c2az => intro u hu; simp at hu; subst hu; rfl
              case c3az => unfold maxLen; omega
              case c4az => omega
              case c5az => simp; omega
              intro v' w4 hown4 hgrow _
              have hb4 := grown_bl (hb3.alloc _) (World.ownsRow.alloc HOw.out _) hgrow (Nat.le_refl _)
              have HO4 := Lib.hid (own_snocF (x := pf1 r.data.toList) hown4 HF.out)
              clear hown4 hgrow
              cases hd : r.data.toList.drop (m) with
              | nil =>
                have hql := HQ.out.2
                rw [hd] at hql
                have hem : (r.extract (m) r.size).toList.isEmpty = true := by rw [toL, HQ.out.1, hql]; rfl
                have hem2 : (r.extract (m) r.size).toList = [] := by rw [toL, HQ.out.1, hql]
                have HFin := Lib.hid (pfG_nil (A := A) HPm.out (Nat.lt_succ_self _) hd)
                clear hd hql
                go_wp2_with fail
                go_ret
                refine RM.mk ?_ hb4
                rw [← HG.out, HFin.out]; exact HO4.out
              | cons c t =>
                have hql := HQ.out.2
                rw [hd] at hql
                have hem : (r.extract (m) r.size).toList.isEmpty = false := by rw [toL, HQ.out.1, hql]; rfl
                have hq0 : 0 < (r.extract (m) r.size).size := by rw [HQ.out.1, Lib.size_eq, hql]; simp
                have hix : (r.extract (m) r.size)[0]'hq0 = c := byte_eq hq0 (by rw [HQ.out.1, hql]; rfl)
                have hqi : (0 : Int) < ((r.extract (m) r.size).size : Int) := by omega
                have hsj : 0 < r.size - (m) := by simpa using hq0
                by_cases hc : c = 32
                · subst hc
                  have e1 : (((((r.extract (m) r.size)[0]'hq0).toNat : Nat) : Int) != 32) = false := by rw [hix]; rfl
                  have hqi1 : (1 : Int) ≤ ((r.extract (m) r.size).size : Int) := by omega
                  have hn := pfG_next (A := A) HPm.out (Nat.lt_succ_self _) hd
                  have hrl : ((r.extract (m) r.size).extract 1 (r.size - (m))).data.toList = t := by rw [ext_two2, ← List.drop_drop, hd]; rfl
                  have HFin := Lib.hid (And.intro hn hrl)
                  have hle := congrArg List.length hd
                  simp only [List.length_drop, List.length_cons] at hle
                  have hrs : ((r.extract (m) r.size).extract 1 (r.size - (m))).size = t.length := by rw [Lib.size_eq, hrl]
                  have HLe := Lib.hid (And.intro hrs (And.intro hle HRl.out))
                  clear hd hql hn hrl hix hrs hle
                  go_wp2_with fail
                  go_roundg t.length
                  case rel => 
                    refine ⟨_, A ++ [pf1 r.data.toList], rfl, Lib.hid ⟨HO4.out, ?_, ?_, ?_, ?_⟩, hb4⟩
                    · rw [HFin.out.2, ← HFin.out.1]; exact HG.out
                    · rw [HLe.out.1]; have := HLe.out.2; omega
                    · rw [HLe.out.1]; have := HLe.out.2; have := H.out.2.2.2.1; simp; omega
                    · exact HLe.out.1.symm
                  case measure => have := HLe.out.2; have := H.out.2.2.2.2; omega
                · have e1 : (((((r.extract (m) r.size)[0]'hq0).toNat : Nat) : Int) != 32) = true := by rw [hix]; exact u8_bne (d := 32) hc
                  have HFin := Lib.hid (pfG_bad (A := A) HPm.out (Nat.lt_succ_self _) hd hc)
                  have hbn := own_one w4
                  clear hd hql hix hc
                  go_wp2_with fail
                  go_ret
                  refine RM.mk ?_ (hb4.alloc _)
                  rw [← HG.out, HFin.out]; exact own_base (own_one w4) hb4.size
            · have i9 : (ue == 0) = false := by rw [beq_eq_false_iff_ne]; exact he
              rw [if_neg he] at hpf
              have HF := Lib.hid (show ifv (pf1 r.data.toList) = .iface 110 (.string p) by rw [hpf, ← hpl]; exact ifv_b p)
              clear hpf hup hU hps hpl hql hp hq he
              go_wp2_with fail
              rw [HP.out]
              refine (HU.out _ (HEsc.out.bl hb2)).mono ?_; rintro e w3 ⟨rfl, hb3⟩
              have hbw4 := hbw3.trans hb3
              have hb3 := hb2.trans hb3
              have hs3 := hb3.size
              have HOw := Lib.hid (own_bl H.out.1 hbw4)
              go_wp2_with (at_builtin; refine wpList_append_own _ rfl _ _ 108 rfl w.heap.size 113 i0 .nilIface 1 16 Tryz.underlying108 hin hz0 hz1 hz2 rfl (by decide) _ _ _ rfl (World.ownsRow.alloc HOw.out _) ⟨w3.heap.size, 0, none⟩ 1 1 [.iface 110 (.string p)] rfl rfl ?c1bz ?c2bz ?c3bz ?c4bz ?c5bz ?_)
              case c1bz => exact one_new _ _ _
              case c2bz => intro u hu; simp at hu; subst hu; rfl
              case c3bz => unfold maxLen; omega
              case c4bz => omega
              case c5bz => simp; omega
              intro v' w4 hown4 hgrow _
              have hb4 := grown_bl (hb3.alloc _) (World.ownsRow.alloc HOw.out _) hgrow (Nat.le_refl _)
              have HO4 := Lib.hid (own_snocF (x := pf1 r.data.toList) hown4 HF.out)
              clear hown4 hgrow
              cases hd : r.data.toList.drop (m) with
              | nil =>
                have hql := HQ.out.2
                rw [hd] at hql
                have hem : (r.extract (m) r.size).toList.isEmpty = true := by rw [toL, HQ.out.1, hql]; rfl
                have hem2 : (r.extract (m) r.size).toList = [] := by rw [toL, HQ.out.1, hql]
                have HFin := Lib.hid (pfG_nil (A := A) HPm.out (Nat.lt_succ_self _) hd)
                clear hd hql
                go_wp2_with fail
                go_ret
                refine RM.mk ?_ hb4
                rw [← HG.out, HFin.out]; exact HO4.out
              | cons c t =>
                have hql := HQ.out.2
                rw [hd] at hql
                have hem : (r.extract (m) r.size).toList.isEmpty = false := by rw [toL, HQ.out.1, hql]; rfl
                have hq0 : 0 < (r.extract (m) r.size).size := by rw [HQ.out.1, Lib.size_eq, hql]; simp
                have hix : (r.extract (m) r.size)[0]'hq0 = c := byte_eq hq0 (by rw [HQ.out.1, hql]; rfl)
                have hqi : (0 : Int) < ((r.extract (m) r.size).size : Int) := by omega
                have hsj : 0 < r.size - (m) := by simpa using hq0
                by_cases hc : c = 32
                · subst hc
                  have e1 : (((((r.extract (m) r.size)[0]'hq0).toNat : Nat) : Int) != 32) = false := by rw [hix]; rfl
                  have hqi1 : (1 : Int) ≤ ((r.extract (m) r.size).size : Int) := by omega
                  have hn := pfG_next (A := A) HPm.out (Nat.lt_succ_self _) hd
                  have hrl : ((r.extract (m) r.size).extract 1 (r.size - (m))).data.toList = t := by rw [ext_two2, ← List.drop_drop, hd]; rfl
                  have HFin := Lib.hid (And.intro hn hrl)
                  have hle := congrArg List.length hd
                  simp only [List.length_drop, List.length_cons] at hle
                  have hrs : ((r.extract (m) r.size).extract 1 (r.size - (m))).size = t.length := by rw [Lib.size_eq, hrl]
                  have HLe := Lib.hid (And.intro hrs (And.intro hle HRl.out))
                  clear hd hql hn hrl hix hrs hle
                  go_wp2_with fail
                  go_roundg t.length
                  case rel => 
                    refine ⟨_, A ++ [pf1 r.data.toList], rfl, Lib.hid ⟨HO4.out, ?_, ?_, ?_, ?_⟩, hb4⟩
                    · rw [HFin.out.2, ← HFin.out.1]; exact HG.out
                    · rw [HLe.out.1]; have := HLe.out.2; omega
                    · rw [HLe.out.1]; have := HLe.out.2; have := H.out.2.2.2.1; simp; omega
                    · exact HLe.out.1.symm
                  case measure => have := HLe.out.2; have := H.out.2.2.2.2; omega
                · have e1 : (((((r.extract (m) r.size)[0]'hq0).toNat : Nat) : Int) != 32) = true := by rw [hix]; exact u8_bne (d := 32) hc
                  have HFin := Lib.hid (pfG_bad (A := A) HPm.out (Nat.lt_succ_self _) hd hc)
                  have hbn := own_one w4
                  clear hd hql hix hc
                  go_wp2_with fail
                  go_ret
                  refine RM.mk ?_ (hb4.alloc _)
                  rw [← HG.out, HFin.out]; exact own_base (own_one w4) hb4.size
          · have e2 : (((r[i]'hi).toNat : Int) != 34) = true := by rw [hdi]; exact u8_bne (d := 34) h34
            by_cases h92 : d = 92
            · have e1 : (((r[i]'hi).toNat : Int) == 92) = true := by rw [hdi, h92]; rfl
              subst h92
              have hq := HJ.out.2.2.2
              rw [qs_at92 hd, map_add _ _ _ (i + 2 - 1) (by have := HJ.out.1; omega)] at hq
              have HQ := Lib.hid hq
              have HMs := Lib.hid (show r.size + 1 - (i + 2) < gk by have := HJ.out; omega)
              clear hd hq hdi h34
              go_wp2_with fail
              go_roundg (r.size + 1 - (i + 2))
              case rel => exact ⟨i + 2, by go_num, Lib.hid ⟨by omega, by omega, rfl, HQ.out⟩, rfl⟩
              case measure => exact HMs.out
            · have e1 : (((r[i]'hi).toNat : Int) == 92) = false := by rw [hdi]; exact byte_f (d := 92) h92
              have hq := HJ.out.2.2.2
              rw [qs_at hd h34 h92, map_add _ _ _ (i + 1 - 1) (by have := HJ.out.1; omega)] at hq
              have HQ := Lib.hid hq
              have HMs := Lib.hid (show r.size + 1 - (i + 1) < gk by have := HJ.out; omega)
              clear hd hq hdi h92 h34
              go_wp2_with fail
              go_roundg (r.size + 1 - (i + 1))
              case rel => exact ⟨i + 1, by go_num, Lib.hid ⟨by omega, by omega, rfl, HQ.out⟩, rfl⟩
              case measure => exact HMs.out
        · have hq := HJ.out.2.2.2
          rw [List.drop_of_length_le (by simpa using hi)] at hq
          have hq2 : qs tl = none := by rw [hq]; rfl
          have hpe := HT.out.1
          rw [hq2] at hpe
          obtain ⟨m, hm⟩ : ∃ m, m = r.size := ⟨_, rfl⟩
          have HPm := Lib.hid (show pend r.data.toList = m by rw [hpe, hm]; exact HT.out.2.2)
          have hmr : m ≤ r.size := by omega
          have i1 : ¬ (i : Int) < (r.size : Int) := by omega
          have i3 : min ((i : Int) + 1) (r.size : Int) = (m : Int) := by omega
          have HMz := Lib.hid hm
          clear hq hq2 hpe hi hm
          obtain ⟨p, hp⟩ : ∃ p, r.extract 0 (m) = p := ⟨_, rfl⟩
          obtain ⟨q, hq⟩ : ∃ q, r.extract (m) r.size = q := ⟨_, rfl⟩
          have hpl : p.data.toList = r.data.toList.take (m) := by rw [← hp]; exact ext_takeW r (m) hmr
          have hql : q.data.toList = r.data.toList.drop (m) := by rw [← hq]; exact ext_dropW r (m)
          have hps : p.size ≤ 100000 := by rw [← hp, ByteArray.size_extract]; have := H.out.2.2.1; omega
          have hU := fun w h => woUnquote p hps w h
          rw [hpl] at hU
          obtain ⟨⟨uv, ue⟩, hup⟩ : ∃ z, unqR (r.data.toList.take (m)) = z := ⟨_, rfl⟩
          rw [hup] at hU
          have hpf := pf1_of HPm.out hup
          have HQ := Lib.hid (And.intro hq hql)
          have HP := Lib.hid hp
          have HU := Lib.hid hU
          have i7 : (((m) : Nat) : Int) ≤ (r.size : Int) := by omega
          have i8 : (0 : Int) ≤ (((m) : Nat) : Int) := by omega
          by_cases he : ue = 0
          · subst he
            rw [if_pos rfl] at hpf
            have HF := Lib.hid (show ifv (pf1 r.data.toList) = .iface 115 (.string ⟨uv.toArray⟩) by rw [hpf]; rfl)
            clear hpf hup hU hps hpl hql hp hq
            go_wp2_with fail
            rw [HP.out]
            refine (HU.out _ (HEsc.out.bl hb2)).mono ?_; rintro e w3 ⟨rfl, hb3⟩
            have hbw4 := hbw3.trans hb3
            have hb3 := hb2.trans hb3
            have hs3 := hb3.size
            have HOw := Lib.hid (own_bl H.out.1 hbw4)
            go_wp2_with (at_builtin; refine wpList_append_own _ rfl _ _ 108 rfl w.heap.size 113 i0 .nilIface 1 16 Tryz.underlying108 hin hz0 hz1 hz2 rfl (by decide) _ _ _ rfl (World.ownsRow.alloc HOw.out _) ⟨w3.heap.size, 0, none⟩ 1 1 [.iface 115 (.string ⟨uv.toArray⟩)] rfl rfl ?c1av ?c2av ?c3av ?c4av ?c5av ?_)
            case c1av => exact one_new _ _ _
            case c2av => intro u hu; simp at hu; subst hu; rfl
            case c3av => unfold maxLen; omega
            case c4av => omega
            case c5av => simp; omega
            intro v' w4 hown4 hgrow _
            have hb4 := grown_bl (hb3.alloc _) (World.ownsRow.alloc HOw.out _) hgrow (Nat.le_refl _)
            have HO4 := Lib.hid (own_snocF (x := pf1 r.data.toList) hown4 HF.out)
            clear hown4 hgrow
            have hd : r.data.toList.drop (m) = [] := List.drop_of_length_le (by rw [HMz.out, HRl.out]; exact Nat.le_refl _)
            have hql := HQ.out.2
            rw [hd] at hql
            have hem : (r.extract (m) r.size).toList.isEmpty = true := by rw [toL, HQ.out.1, hql]; rfl
            have hem2 : (r.extract (m) r.size).toList = [] := by rw [toL, HQ.out.1, hql]
            have HFin := Lib.hid (pfG_nil (A := A) HPm.out (Nat.lt_succ_self _) hd)
            clear hd hql
            go_wp2_with fail
            go_ret
            refine RM.mk ?_ hb4
            rw [← HG.out, HFin.out]; exact HO4.out
          · have i9 : (ue == 0) = false := by rw [beq_eq_false_iff_ne]; exact he
            rw [if_neg he] at hpf
            have HF := Lib.hid (show ifv (pf1 r.data.toList) = .iface 110 (.string p) by rw [hpf, ← hpl]; exact ifv_b p)
            clear hpf hup hU hps hpl hql hp hq he
            go_wp2_with fail
            rw [HP.out]
            refine (HU.out _ (HEsc.out.bl hb2)).mono ?_; rintro e w3 ⟨rfl, hb3⟩
            have hbw4 := hbw3.trans hb3
            have hb3 := hb2.trans hb3
            have hs3 := hb3.size
            have HOw := Lib.hid (own_bl H.out.1 hbw4)
            go_wp2_with (at_builtin; refine wpList_append_own _ rfl _ _ 108 rfl w.heap.size 113 i0 .nilIface 1 16 Tryz.underlying108 hin hz0 hz1 hz2 rfl (by decide) _ _ _ rfl (World.ownsRow.alloc HOw.out _) ⟨w3.heap.size, 0, none⟩ 1 1 [.iface 110 (.string p)] rfl rfl ?c1bv ?c2bv ?c3bv ?c4bv ?c5bv ?_)
            case c1bv => exact one_new _ _ _
            case c2bv => intro u hu; simp at hu; subst hu; rfl
            case c3bv => unfold maxLen; omega
            case c4bv => omega
            case c5bv => simp; omega
            intro v' w4 hown4 hgrow _
            have hb4 := grown_bl (hb3.alloc _) (World.ownsRow.alloc HOw.out _) hgrow (Nat.le_refl _)
            have HO4 := Lib.hid (own_snocF (x := pf1 r.data.toList) hown4 HF.out)
            clear hown4 hgrow
            have hd : r.data.toList.drop (m) = [] := List.drop_of_length_le (by rw [HMz.out, HRl.out]; exact Nat.le_refl _)
            have hql := HQ.out.2
            rw [hd] at hql
            have hem : (r.extract (m) r.size).toList.isEmpty = true := by rw [toL, HQ.out.1, hql]; rfl
            have hem2 : (r.extract (m) r.size).toList = [] := by rw [toL, HQ.out.1, hql]
            have HFin := Lib.hid (pfG_nil (A := A) HPm.out (Nat.lt_succ_self _) hd)
            clear hd hql
            go_wp2_with fail
            go_ret
            refine RM.mk ?_ hb4
            rw [← HG.out, HFin.out]; exact HO4.out
end Go.Proofs.YtkbfjficmdgjpaaGreatDoor


/-
  The law WordsInverse walked.
-/
import Derived.Test.YtfjdcfmoodlnaaaGreatDoorWoY
import Derived.Test.YtfjdcfmoodlnaaaGreatDoorWpO
import Derived.Test.YtfjdcfmoodlnaaaGreatDoorWpG
import Derived.Deep.DeepCutAuto
namespace Go.Proofs.YtfjdcfmoodlnaaaGreatDoor
open Go.RowKit
set_option linter.unusedSimpArgs false
set_option linter.unusedVariables false
set_option maxRecDepth 100000

theorem wlist_nums {l : List Int} {t : List UInt8} (h : wlist l = (t, 0)) : l.length ≤ 500 ∧ ∀ (j : Nat) x, l[j]? = some x → -9223372036854775808 ≤ x ∧ x ≤ 9223372036854775807 := by
  unfold wlist at h
  split at h
  · injection h with _ h; cases h
  · rename_i h5
    split at h
    · injection h with _ h; cases h
    · rename_i hn
      refine ⟨by omega, fun j x hx => ?_⟩
      have : l.all numB = true := by simpa using hn
      have := numB_iff (List.all_eq_true.1 this x (List.mem_of_getElem? hx))
      omega
theorem wlist_len (l : List Int) : (wlist l).1.length ≤ 100000 := by
  cases h : wlist l with
  | mk t e =>
    unfold wlist at h
    split at h
    · injection h with h _; subst h; simp
    · rename_i h5
      split at h
      · injection h with h _; subst h; simp
      · rename_i hn
        split at h
        · injection h with h _; subst h; simp
        · split at h
          · injection h with h _; subst h; simp
          · injection h with h _
            subst h
            have hb : ∀ x ∈ l, 0 ≤ x ∧ x ≤ 1000000000 := by
              intro x hx
              have : l.all numB = true := by simpa using hn
              exact numB_iff (List.all_eq_true.1 this x hx)
            have hrf : ∀ (r : List Int) (a b : Int), 0 ≤ a → a ≤ 1000000000 → 0 ≤ b → b ≤ 1000000000 → (∀ x ∈ r, 0 ≤ x ∧ x ≤ 1000000000) → ∀ q, (txtG q (runsF a b r)).length ≤ 61 * (r.length + 1) := by
              intro r
              induction r with
              | nil =>
                intro a b ha ha2 hb hb2 _ q
                have := runT_len ha ha2 hb hb2
                simp only [runsF, txtG]
                cases q <;> simp <;> omega
              | cons c r ih =>
                intro a b ha ha2 hb hb2 hr q
                have hc := hr c (by simp)
                have hr2 : ∀ x ∈ r, 0 ≤ x ∧ x ≤ 1000000000 := fun x hx => hr x (by simp [hx])
                simp only [runsF]
                split
                · have := ih a c ha ha2 hc.1 hc.2 hr2 q
                  simp; omega
                · have h1 := ih c c hc.1 hc.2 hc.1 hc.2 hr2 true
                  have h2 := runT_len ha ha2 hb hb2
                  simp only [txtG]
                  cases q <;> simp <;> omega
            show (txtG false (runsL l)).length ≤ _
            cases l with
            | nil => simp [runsL, txtG]
            | cons c r =>
              have hc := hb c (by simp)
              have := hrf r c c hc.1 hc.2 hc.1 hc.2 (fun x hx => hb x (by simp [hx])) false
              simp at h5
              simp only [runsL]; omega
theorem wjoin_most (l : List Fld) : (wjoin l).1.length ≤ 8192 := by
  unfold wjoin
  split
  · simp
  · split
    · simp
    · split
      · simp
      · split
        · simp
        · simp only; omega
set_option maxHeartbeats 8000000 in
theorem lawInverse (s : ByteArray) (a : Option Addr) (c : Nat) (l : List Fld) (b : Option Addr) (d : Nat) (L : List Int) (n : Int) (w : World) (hF : Flds w a l) (hln : l.length ≤ maxLen) (hN : Nums w b L) (hLn : L.length ≤ maxLen) (hb64 : ∀ (j : Nat) x, L[j]? = some x → -9223372036854775808 ≤ x ∧ x ≤ 9223372036854775807) (hn0 : -9223372036854775808 ≤ n) (hn1 : n ≤ 9223372036854775807) (hE : WEnv w) :
    Calls Tryz.prog 5 #[.string s, .slice a l.length c, .agg #[.slice b L.length d, .int .i64 n]] w (RB w (.bool true)) := by
  have HE := Lib.hid hE
  have HF := Lib.hid hF
  have HN := Lib.hid hN
  have HB := Lib.hid hb64
  have HFar := Lib.hid (fun w h => lawFar a c l w h hln)
  clear hE hF hN hb64
  by_cases h3 : 3000 < s.size
  · have d1 : decide ((3000 : Int) < (s.size : Int)) = true := by rw [decide_eq_true_eq]; omega
    clear h3 hln hLn
    go_enter Tryz.func5, Tryz.ntmps5
    have c0 : (w.alloc (.cells #[.slice b L.length d, .int .i64 n] 39)).cell? ⟨w.heap.size, 0, none⟩ = some (.slice b L.length d) := by simp [go_sem]
    have hb0 : Bl w (w.alloc (.cells #[.slice b L.length d, .int .i64 n] 39)) := (by repeat (first | assumption | exact Bl.refl _ | apply Bl.drewN | apply Bl.drew | apply Bl.alloc | (refine Bl.dr ?_ (by assumption)) | (refine Bl.trans ?_ (by assumption))))
    go_wp2_with fail
    refine (lawShown _ (HE.out.bl hb0)).mono ?_; rintro e w8 ⟨rfl, hb8⟩
    go_wp2_with fail
    go_ret
    exact RB.mk rfl (Bl.trans hb0 hb8)
  · have d1 : decide ((3000 : Int) < (s.size : Int)) = false := by rw [decide_eq_false_iff_not]; omega
    go_enter Tryz.func5, Tryz.ntmps5
    have c0 : (w.alloc (.cells #[.slice b L.length d, .int .i64 n] 39)).cell? ⟨w.heap.size, 0, none⟩ = some (.slice b L.length d) := by simp [go_sem]
    have hb0 : Bl w (w.alloc (.cells #[.slice b L.length d, .int .i64 n] 39)) := (by repeat (first | assumption | exact Bl.refl _ | apply Bl.drewN | apply Bl.drew | apply Bl.alloc | (refine Bl.dr ?_ (by assumption)) | (refine Bl.trans ?_ (by assumption))))
    go_wp2_with fail
    refine (HFar.out _ (HF.out.bl hb0)).mono ?_; rintro e w1 ⟨fb, rfl, hfar, hb1⟩
    have hb01 := hb0.trans hb1
    have c0 := hb1.cell c0
    cases fb with
    | true =>
      clear hfar
      go_wp2_with fail
      refine (lawShown _ (HE.out.bl hb01)).mono ?_; rintro e w8 ⟨rfl, hb8⟩
      go_wp2_with fail
      go_ret
      exact RB.mk rfl (Bl.trans hb01 hb8)
    | false =>
      obtain ⟨h70, hall⟩ := hfar rfl
      have HAll := Lib.hid hall
      clear hfar hall
      by_cases h510 : 510 < L.length
      · have d2 : decide ((510 : Int) < (L.length : Int)) = true := by rw [decide_eq_true_eq]; omega
        clear h510
        go_wp2_with fail
        refine (lawShown _ (HE.out.bl hb01)).mono ?_; rintro e w8 ⟨rfl, hb8⟩
        go_wp2_with fail
        go_ret
        exact RB.mk rfl (Bl.trans hb01 hb8)
      · have d2 : decide ((510 : Int) < (L.length : Int)) = false := by rw [decide_eq_false_iff_not]; omega
        have c1 : w1.cell? ⟨w.heap.size, 1, none⟩ = some (.int .i64 n) := hb1.cell (by simp [go_sem])
        have HC := Lib.hid (And.intro c0 c1)
        clear hb0 hb1 c1
        have H1 := Lib.hid (fun w h => woSplit s (by omega) w h)
        obtain ⟨r, hr⟩ : ∃ r, wsplit s.data.toList = r := ⟨_, rfl⟩
        rw [hr] at H1
        obtain ⟨fl, en⟩ := r
        have HR := Lib.hid hr
        clear hr
        go_wp2_with fail
        clear c0
        refine (H1.out _ (HE.out.bl hb01).esc).mono ?_; rintro e w2 ⟨v, rfl, ⟨vl, rfl, a2, c2, rfl, hF2, hc1, hc2⟩, hb2⟩
        have hb02 := hb01.trans hb2
        have HF2 := Lib.hid hF2
        clear hF2
        have hb1 : Bl w1 w2 := hb2
        clear hb2
        simp only at hc1 hc2
        go_upto_if 45 with fail
        go_cut [] (fun wx => Bl w1 wx)
        case first =>
          by_cases hen : en = 0
          · subst hen
            have hj := split_joinR HR.out
            have H2 := Lib.hid (fun w h k => woJoin a2 c2 fl w h k (Nat.le_trans hc1 hc2))
            rw [hj] at H2
            have hss : (⟨s.data.toList.toArray⟩ : ByteArray) = s := (str_list s).symm
            rw [hss] at H2
            have e1 : (s.toList != s.toList) = false := by simp
            clear hj hss
            go_wp2_with fail
            refine (H2.out _ (HE.out.bl hb02).esc HF2.out).mono ?_; rintro e w3 ⟨rfl, hb3⟩
            go_wp2_with fail
            go_meet
            exact hb1.trans hb3
          · have e1 : (en == 0) = false := by rw [beq_eq_false_iff_ne]; exact hen
            clear hen
            go_wp2_with fail
            go_meet
            exact hb1
        case rest =>
          have hbx : Bl w wc := hb01.trans hcut
          have hbr : Bl w1 wc := hcut
          clear hcut hb1 hb02 HR H1 HF2
          have H1 := Lib.hid (fun w h k => woJoin a c l w h k hln)
          obtain ⟨r, hr⟩ : ∃ r, wjoin l = r := ⟨_, rfl⟩
          have hjl := wjoin_most l
          rw [hr] at H1 hjl
          obtain ⟨tl, en⟩ := r
          have HR := Lib.hid hr
          obtain ⟨t, ht⟩ : ∃ t : ByteArray, (⟨tl.toArray⟩ : ByteArray) = t := ⟨_, rfl⟩
          have htl : tl = t.data.toList := by rw [← ht]
          have hts : t.size ≤ 8192 := by rw [Lib.size_eq, ← htl]; exact hjl
          subst htl
          rw [ht] at H1
          clear hr ht hjl
          go_wp2_with fail
          refine (H1.out _ (HE.out.bl hbx).esc (HF.out.bl hbx)).mono ?_; rintro e w2 ⟨rfl, hb2⟩
          have hbx2 := hbx.trans hb2
          have hbr2 := hbr.trans hb2
          clear hb2 hbx hbr
          go_upto_if 64 with fail
          go_cut [] (fun wx => Bl w1 wx)
          case first =>
            by_cases hen : en = 0
            · subst hen
              have hj := join_splitR HR.out
              have H2 := Lib.hid (fun w h => woSplit t (by omega) w h)
              rw [hj] at H2
              clear hj
              go_wp2_with fail
              refine (H2.out _ (HE.out.bl hbx2).esc).mono ?_; rintro e w3 ⟨v, rfl, ⟨vl, rfl, a3, c3, rfl, hF3, -, -⟩, hb3⟩
              have HF3 := Lib.hid hF3
              clear hF3
              have hF4 := HF.out.bl (hbx2.trans hb3)
              have HF4 := Lib.hid hF4
              clear hF4
              go_wp2_with fail
              refine (refSame _ _ _ _ l _ HF3.out HF4.out (by omega)).mono ?_; rintro e w4 ⟨rfl, hb4⟩
              go_wp2_with fail
              go_meet
              exact (hbr2.trans hb3).trans hb4
            · have e1 : (en == 0) = false := by rw [beq_eq_false_iff_ne]; exact hen
              clear hen
              go_wp2_with fail
              go_meet
              exact hbr2
          case rest =>
            have hbx : Bl w wc := hb01.trans hcut
            have hbr : Bl w1 wc := hcut
            clear hcut hbx2 hbr2 HR H1 hts HF
            have H1 := Lib.hid (fun w h => woQuote s (by omega) w h)
            have hql := quote_len s.data.toList
            obtain ⟨q, hq⟩ : ∃ q : ByteArray, (⟨(quoteW s.data.toList).toArray⟩ : ByteArray) = q := ⟨_, rfl⟩
            have hqd : q.data.toList = quoteW s.data.toList := by rw [← hq]
            rw [hq] at H1
            rw [← hqd, ← Lib.size_eq, ← Lib.size_eq] at hql
            have H2 := Lib.hid (fun w h => woUnquote q (by omega) w h)
            rw [hqd, unq_quoteW, show (⟨(s.data.toList, (0 : Int)).1.toArray⟩ : ByteArray) = s from (str_list s).symm] at H2
            have H3 := Lib.hid (fun w h => woUnquote s (by omega) w h)
            obtain ⟨r, hr⟩ : ∃ r, unqR s.data.toList = r := ⟨_, rfl⟩
            rw [hr] at H3
            obtain ⟨vl, en⟩ := r
            have hvl : vl.length ≤ s.size := by
              unfold unqR at hr
              cases hu : unq1 s.data.toList with
              | none => rw [hu] at hr; injection hr with hr _; subst hr; simp
              | some p =>
                obtain ⟨x, m⟩ := p
                rw [hu] at hr
                simp only at hr
                split at hr
                · injection hr with hr _
                  subst hr
                  obtain ⟨h1, h2⟩ := unq1_inv hu
                  have h9 := congrArg List.length h1
                  rw [List.length_append, ← Lib.size_eq] at h9
                  have h8 : x.length ≤ (quoteW x).length := by
                    unfold quoteW
                    have : ∀ y : List UInt8, y.length ≤ (y.flatMap escW).length := by
                      intro y
                      induction y with
                      | nil => simp
                      | cons z y ih =>
                        have := escW_pos z
                        rw [List.flatMap_cons, List.length_append, List.length_cons]; omega
                    have := this x
                    simp only [List.length_cons, List.length_append, List.length_nil]; omega
                  omega
                · injection hr with hr _; subst hr; simp
            obtain ⟨v, hv⟩ : ∃ v : ByteArray, (⟨vl.toArray⟩ : ByteArray) = v := ⟨_, rfl⟩
            have hvd : vl = v.data.toList := by rw [← hv]
            subst hvd
            rw [hv] at H3
            rw [← Lib.size_eq] at hvl
            have HR := Lib.hid hr
            clear hq hqd hql hr hv
            go_wp2_with fail
            refine (H1.out _ (HE.out.bl hbx).esc).mono ?_; rintro e w2 ⟨rfl, hb2⟩
            have hbx := hbx.trans hb2
            have hbr := hbr.trans hb2
            clear hb2
            go_wp2_with fail
            refine (H2.out _ (HE.out.bl hbx).esc).mono ?_; rintro e w3 ⟨rfl, hb3⟩
            have hbx := hbx.trans hb3
            have hbr := hbr.trans hb3
            clear hb3
            go_wp2_with fail
            refine (H3.out _ (HE.out.bl hbx).esc).mono ?_; rintro e w4 ⟨rfl, hb4⟩
            have hbx := hbx.trans hb4
            have hbr := hbr.trans hb4
            clear hb4 H1 H2 H3
            go_upto_region 15 with fail
            go_cut [105] (fun z wx => z = .bool false ∧ Bl w1 wx)
            case first =>
              have e1 : (s.toList != s.toList) = false := by simp
              by_cases hen : en = 0
              · subst hen
                have hj := quote_unqR HR.out
                have H4 := Lib.hid (fun w h => woQuote v (by omega) w h)
                rw [hj, ← str_list s] at H4
                clear hj
                go_wp2_with fail
                refine (H4.out _ (HE.out.bl hbx).esc).mono ?_; rintro e w5 ⟨rfl, hb5⟩
                go_wp2_with fail
                go_meet
                exact ⟨rfl, hbr.trans hb5⟩
              · have e2 : (en == 0) = false := by rw [beq_eq_false_iff_ne]; exact hen
                clear hen
                go_wp2_with fail
                go_meet
                exact ⟨rfl, hbr⟩
            case rest =>
              obtain ⟨rfl, hbr2⟩ := hcut
              have hbx2 : Bl w wc := hb01.trans hbr2
              clear hbx hbr HR hvl
              have H1 := Lib.hid (fun w h k => woList b d L w h k HB.out (by omega))
              have hll := wlist_len L
              obtain ⟨r, hr⟩ : ∃ r, wlist L = r := ⟨_, rfl⟩
              rw [hr] at H1 hll
              obtain ⟨tl, en⟩ := r
              have HR := Lib.hid hr
              obtain ⟨t, ht⟩ : ∃ t : ByteArray, (⟨tl.toArray⟩ : ByteArray) = t := ⟨_, rfl⟩
              have htl : tl = t.data.toList := by rw [← ht]
              subst htl
              rw [ht] at H1
              rw [← Lib.size_eq] at hll
              have c0 := hbr2.cell HC.out.1
              clear hr ht
              go_wp2_with fail
              refine (H1.out _ (HE.out.bl hbx2) (HN.out.bl hbx2)).mono ?_; rintro e w2 ⟨rfl, hb2⟩
              have hbx := hbx2.trans hb2
              have hbr := hbr2.trans hb2
              clear hb2 hbx2 hbr2 c0
              go_upto_if 113 with fail
              go_cut [] (fun wx => Bl w1 wx)
              case first =>
                by_cases hen : en = 0
                · subst hen
                  have hj := list_parse HR.out
                  have H2 := Lib.hid (fun w h => woParse t hll w h)
                  rw [hj] at H2
                  clear hj
                  go_wp2_with fail
                  refine (H2.out _ (HE.out.bl hbx)).mono ?_; rintro e w3 ⟨v, rfl, ⟨a3, c3, rfl, hM⟩, hb3⟩
                  have HM := Lib.hid hM
                  have hbx3 := hbx.trans hb3
                  have hbr3 := hbr.trans hb3
                  have c0 := hbr3.cell HC.out.1
                  clear hM hb3
                  go_wp2_with fail
                  refine (lawSameN _ _ _ _ L _ HM.out (HN.out.bl hbx3) (by omega)).mono ?_; rintro e w4 ⟨rfl, hb4⟩
                  go_wp2_with fail
                  go_meet
                  exact hbr3.trans hb4
                · have e1 : (en == 0) = false := by rw [beq_eq_false_iff_ne]; exact hen
                  clear hen
                  go_wp2_with fail
                  go_meet
                  exact hbr
              case rest =>
                have hbx2 : Bl w wc := hb01.trans hcut
                have hbr2 : Bl w1 wc := hcut
                clear hcut hbx hbr HR H1 hll
                have H1 := Lib.hid (fun w h => woParse s (by omega) w h)
                obtain ⟨r, hr⟩ : ∃ r, wparse s.data.toList = r := ⟨_, rfl⟩
                rw [hr] at H1
                obtain ⟨m, en⟩ := r
                have HR := Lib.hid hr
                clear hr
                go_wp2_with fail
                refine (H1.out _ (HE.out.bl hbx2)).mono ?_; rintro e w2 ⟨v, rfl, ⟨a3, c3, rfl, hM⟩, hb2⟩
                have HM := Lib.hid hM
                have hbx := hbx2.trans hb2
                have hbr := hbr2.trans hb2
                clear hb2 hbx2 hbr2 hM
                go_upto_if 134 with fail
                go_cut [] (fun wx => Bl w1 wx)
                case first =>
                  by_cases hen : en = 0
                  · subst hen
                    have hj := parse_list HR.out
                    obtain ⟨hm5, hm64⟩ := wlist_nums hj
                    have H2 := Lib.hid (fun w h k => woList a3 c3 m w h k hm64 (by omega))
                    rw [hj, show (⟨(s.data.toList, (0 : Int)).1.toArray⟩ : ByteArray) = s from (str_list s).symm] at H2
                    have e1 : (s.toList != s.toList) = false := by simp
                    clear hj hm64
                    go_wp2_with fail
                    refine (H2.out _ (HE.out.bl hbx) HM.out).mono ?_; rintro e w3 ⟨rfl, hb3⟩
                    go_wp2_with fail
                    go_meet
                    exact hbr.trans hb3
                  · have e1 : (en == 0) = false := by rw [beq_eq_false_iff_ne]; exact hen
                    clear hen
                    go_wp2_with fail
                    go_meet
                    exact hbr
                case rest =>
                  have hbx2 : Bl w wc := hb01.trans hcut
                  have hbr2 : Bl w1 wc := hcut
                  clear hcut hbx hbr HR H1 HM
                  have hli := itoa_len n hn0 hn1
                  obtain ⟨q, hq⟩ : ∃ q : ByteArray, (⟨(Lib.itoa n).toArray⟩ : ByteArray) = q := ⟨_, rfl⟩
                  have hqd : q.data.toList = Lib.itoa n := by rw [← hq]
                  have hqs : q.size ≤ 100 := by rw [Lib.size_eq, hqd]; exact hli
                  have h1 := fun y : BW wc => woDigits n hn0 hn1 y.w (HE.out.bl (hbx2.trans y.h))
                  rw [hq] at h1
                  have h2 := fun y : BW wc => woInt q n n (by omega) y.w (HE.out.bl (hbx2.trans y.h))
                  rw [hqd, int_digits n hn0 hn1] at h2
                  have H1 := Lib.hid h1
                  have H2 := Lib.hid h2
                  have c1 := fun y : BW wc => (hbr2.trans y.h).cell HC.out.2
                  clear hq hqd hqs h1 h2 hli
                  go_wp2_with fail
                  
                  refine wp_region_quiet_bw wc (by kernel_rfl) (by kernel_rfl) (Bl.refl wc) ?_
                  repeat (go_big_quiet_step ((first | (go_at_call 20; exact quietB (H1.out _)) | (go_at_call 12; exact quietB (H2.out _)))))
                  refine wpQuiet_nil ?_
                  intro wq hw'
                  have hwq : Bl wc wq := by obtain ⟨x, hx⟩ := hw'; rw [hx]; exact x.h
                  clear hw'
                  have hbx := hbx2.trans hwq
                  have hbr := hbr2.trans hwq
                  clear hbx2 hbr2 hwq H1 H2 c1
                  have H1 := Lib.hid (fun w h => woInt s (-9223372036854775808) 9223372036854775807 (by omega) w h)
                  obtain ⟨r, hr⟩ : ∃ r, wint s.data.toList (-9223372036854775808) 9223372036854775807 = r := ⟨_, rfl⟩
                  rw [hr] at H1
                  obtain ⟨k, en⟩ := r
                  have HR := Lib.hid hr
                  clear hr
                  go_wp2_with fail
                  refine (H1.out _ (HE.out.bl hbx)).mono ?_; rintro e w2 ⟨rfl, hb2⟩
                  have hbx := hbx.trans hb2
                  have hbr := hbr.trans hb2
                  have c1 := hbr.cell HC.out.2
                  clear hb2
                  by_cases hen : en = 0
                  · subst hen
                    obtain ⟨hj, k0, k1⟩ := digits_int HR.out
                    have H2 := Lib.hid (fun w h => woDigits k k0 k1 w h)
                    rw [hj, ← str_list s] at H2
                    have e1 : (s.toList == s.toList) = true := by simp
                    clear hj
                    go_wp2_with fail
                    refine (H2.out _ (HE.out.bl hbx)).mono ?_; rintro e w3 ⟨rfl, hb3⟩
                    have hbx := hbx.trans hb3
                    clear hb3
                    go_wp2_with fail
                    refine (lawShown _ (HE.out.bl hbx)).mono ?_; rintro e w8 ⟨rfl, hb8⟩
                    go_wp2_with fail
                    go_ret
                    exact RB.mk rfl (Bl.trans hbx hb8)
                  · have e1 : (en != 0) = true := by rw [bne_iff_ne]; exact hen
                    clear hen
                    go_wp2_with fail
                    refine (lawShown _ (HE.out.bl hbx)).mono ?_; rintro e w8 ⟨rfl, hb8⟩
                    go_wp2_with fail
                    go_ret
                    exact RB.mk rfl (Bl.trans hbx hb8)
end Go.Proofs.YtfjdcfmoodlnaaaGreatDoor

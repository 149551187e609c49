
/-
  The law EntriesLayers walked.
-/
import Derived.Test.YtbdiiopmjaeaaaaDoorLeE
import Derived.Test.YtbdiiopmjaeaaaaDoorEqA
namespace Go.Proofs.YtbdiiopmjaeaaaaDoor
open Go.RowKit Go.Sort
set_option linter.unusedSimpArgs false
set_option linter.unusedVariables false
set_option maxRecDepth 100000

/-! ### Plain -/
theorem eover_bad {o f : List Ent} (h : (eover o f).2 ≠ 0) : (eover o f).1 = [] := by
  unfold eover at h ⊢
  split
  · rfl
  · rename_i h1; rw [if_neg h1] at h
    split
    · rfl
    · rename_i h2; rw [if_neg h2] at h
      split
      · rfl
      · rename_i h3; rw [if_neg h3] at h; exact absurd rfl h
theorem eover_good {o f : List Ent} (h : (eover o f).2 = 0) : (clchk o).2 = 0 ∧ (clchk f).2 = 0 ∧ (eover o f).1 = emerge o f := by
  unfold eover at h ⊢
  split at h
  · rename_i h1; exact absurd h h1
  · rename_i h1
    split at h
    · rename_i h2; exact absurd h h2
    · rename_i h2
      split at h
      · cases h
      · rename_i h3
        rw [if_neg h1, if_neg h2, if_neg h3]
        exact ⟨by omega, by omega, rfl⟩
theorem efar_len {l : List Ent} (h : efar l = false) (k : (clchk l).2 = 0) : l.length ≤ 60 := by
  have h5 := ((clchk_ok l).1 k).1
  unfold efar at h
  split at h
  · rw [Bool.or_eq_false_iff, decide_eq_false_iff_not] at h
    omega
  · omega
theorem eover_of {o f : List Ent} (h1 : (clchk o).2 = 0) (h2 : (clchk f).2 = 0) (h : (emerge o f).length ≤ 5000) : eover o f = (emerge o f, 0) := by
  unfold eover; rw [if_neg (by simp [h1]), if_neg (by simp [h2]), if_neg (by omega)]
theorem emerge_chk {o f : List Ent} (h1 : (clchk o).2 = 0) (h2 : (clchk f).2 = 0) (h : (emerge o f).length ≤ 5000) : (clchk (emerge o f)).2 = 0 := by
  obtain ⟨_, a, b⟩ := (clchk_ok o).1 h1
  obtain ⟨_, c, d⟩ := (clchk_ok f).1 h2
  exact (clchk_ok _).2 ⟨h, fun x hx => (emerge_from _ o f (Nat.le_refl _) x hx).elim (a x) (c x), emerge_asc b d⟩
theorem atGo_key : ∀ (l : List Ent) (i : Nat) (s : ByteArray), (∃ y ∈ l, y.key = s) → 0 ≤ atGo i s l
  | [], _, _, ⟨_, h, _⟩ => by cases h
  | x :: l, i, s, ⟨y, h, e⟩ => by
    unfold atGo
    by_cases hx : x.key = s
    · rw [if_pos (by rw [hx])]; omega
    · rw [if_neg (fun e => hx (str_ext e))]
      refine atGo_key l (i + 1) s ⟨y, ?_, e⟩
      rcases List.mem_cons.1 h with rfl | h
      · exact absurd e hx
      · exact h
/-- What the law asks. -/
structure LyOK (x y z XY YZ : List Ent) : Prop where
  lx : x.length ≤ 60
  ly : y.length ≤ 60
  lz : z.length ≤ 60
  lm : XY.length ≤ 120
  ln : YZ.length ≤ 120
  left : ∃ P, eover XY z = (P, 0) ∧ eover x YZ = (P, 0) ∧ P.length ≤ 180 ∧ ∀ e ∈ P, (e ∈ x ∨ e ∈ y) ∨ e ∈ z
  own : eover x x = (x, 0)
  nl : eover [] x = (x, 0)
  nr : eover x [] = (x, 0)
  fnd : ∀ e ∈ x ++ y, (fnd XY e.key).2 = 0
  new : enewest (x ++ y) = (newest (x ++ y), 0)
  same : (∀ a ∈ x, ∀ b ∈ y, a.seq < b.seq) → newest (x ++ y) = XY
theorem lyOK {x y z XY YZ : List Ent} (fx : efar x = false) (fy : efar y = false) (fz : efar z = false) (h1 : eover x y = (XY, 0)) (h2 : eover y z = (YZ, 0)) : LyOK x y z XY YZ := by
  obtain ⟨cx, cy, e1⟩ := eover_good (o := x) (f := y) (by rw [h1])
  obtain ⟨-, cz, e2⟩ := eover_good (o := y) (f := z) (by rw [h2])
  rw [h1] at e1
  rw [h2] at e2
  simp only at e1 e2
  subst e1 e2
  have lx := efar_len fx cx
  have ly := efar_len fy cy
  have lz := efar_len fz cz
  obtain ⟨_, ax, bx⟩ := (clchk_ok x).1 cx
  obtain ⟨_, ay, bY⟩ := (clchk_ok y).1 cy
  obtain ⟨_, az, bz⟩ := (clchk_ok z).1 cz
  have lm := emerge_len _ x y (Nat.le_refl _)
  have ln := emerge_len _ y z (Nat.le_refl _)
  have lp := emerge_len _ (emerge x y) z (Nat.le_refl _)
  have lq := emerge_len _ x (emerge y z) (Nat.le_refl _)
  have cxy := emerge_chk cx cy (by omega)
  have cyz := emerge_chk cy cz (by omega)
  have hn : (clchk []).2 = 0 := rfl
  have ee := emerge_assoc bx bY bz
  refine ⟨lx, ly, lz, by omega, by omega, ⟨_, eover_of cxy cz (by omega), by rw [eover_of cx cyz (by omega), ← ee], by omega, fun e he => ?_⟩, ?_, ?_, ?_, fun e he => ?_, ?_, fun h => emerge_newest bx bY h⟩
  · rcases emerge_from _ _ _ (Nat.le_refl _) e he with h | h
    · exact .inl (emerge_from _ _ _ (Nat.le_refl _) e h)
    · exact .inr h
  · rw [eover_of cx cx (by rw [emerge_self bx]; omega), emerge_self bx]
  · rw [eover_of hn cx (by rw [emerge_nil1]; omega), emerge_nil1]
  · rw [eover_of cx hn (by rw [emerge_nil2]; omega), emerge_nil2]
  · have hok : echk e = 0 := by
      rcases List.mem_append.1 he with h | h
      · exact ax e h
      · exact ay e h
    have hk : kchk e.key = 0 := by
      have := (echk_ok hok).1
      unfold kchk
      rw [if_neg (by omega)]
    have hat := atGo_key (emerge x y) 0 e.key ((emerge_key bx bY e.key).2 (by
      rcases List.mem_append.1 he with h | h
      · exact .inl ⟨e, h, rfl⟩
      · exact .inr ⟨e, h, rfl⟩))
    unfold Go.Proofs.YtbdiiopmjaeaaaaDoor.fnd
    rw [if_neg (by simp [cxy]), if_neg (by simp [hk]), if_neg (by omega)]
  · have ha : eall (x ++ y) = 0 := (eall_iff _).2 (fun e he => by
      rcases List.mem_append.1 he with h | h
      · exact ax e h
      · exact ay e h)
    unfold enewest
    rw [if_neg (by simp; omega), if_neg (by simp [ha])]
/-! ### The walk -/
theorem newest_le' (l : List Ent) : (newest l).length ≤ l.length := by
  have := cmpct_le (isort ocmp l)
  rw [isort_len] at this; exact this
def nwr (x y : List Ent) (n : Nat) : Prop := ∀ i z, i < n → x[i]? = some z → ∀ v ∈ y, z.seq < v.seq
theorem nwr_all {x y : List Ent} {n : Nat} (h : nwr x y n) (hn : x.length ≤ n) : ∀ a ∈ x, ∀ b ∈ y, a.seq < b.seq := by
  intro a ha b hb
  obtain ⟨i, hi, e⟩ := List.getElem_of_mem ha
  exact h i a (by omega) (by rw [List.getElem?_eq_getElem hi, e]) b hb
set_option maxHeartbeats 16000000 in
theorem lawLayersE (a b c : Option Addr) (ca cb cc : Nat) (x y z : List Ent) (w : World) (hx : Ents w a x) (hy : Ents w b y) (hz : Ents w c z) (hn1 : x.length ≤ maxLen) (hn2 : y.length ≤ maxLen) (hn3 : z.length ≤ maxLen) (hc1 : x.length ≤ ca) (hc2 : y.length ≤ cb) (hc3 : z.length ≤ cc) (hE : PEnv w) :
    Calls Tryd.prog 9 #[.slice a x.length ca, .slice b y.length cb, .slice c z.length cc] w (RB w (.bool true)) := by
  obtain ⟨i0, hin, hz0, hz1, hz2⟩ := info_parts inf_ent
  have hF1 := fun w h => lawFarE a ca x w h hn1
  have hF2 := fun w h => lawFarE b cb y w h hn2
  have hF3 := fun w h => lawFarE c cc z w h hn3
  have hO1 := fun w h k => entOver a b ca cb x y w h k hn1 hn2 hc1 hc2
  have hO2 := fun w h k => entOver b c cb cc y z w h k hn2 hn3 hc2 hc3
  have hMok := fun e h => (eover_mem (x := e) (o := x) (f := y) h).elim (hx.ok e) (hy.ok e)
  have hNok := fun e h => (eover_mem (x := e) (o := y) (f := z) h).elim (hy.ok e) (hz.ok e)
  have hbm := eover_bad (o := x) (f := y)
  have hbn := eover_bad (o := y) (f := z)
  obtain ⟨f1, hf1⟩ : ∃ b, efar x = b := ⟨_, rfl⟩
  obtain ⟨f2, hf2⟩ : ∃ b, efar y = b := ⟨_, rfl⟩
  obtain ⟨f3, hf3⟩ : ∃ b, efar z = b := ⟨_, rfl⟩
  obtain ⟨⟨XY, e1⟩, hp1⟩ : ∃ p, eover x y = p := ⟨_, rfl⟩
  obtain ⟨⟨YZ, e2⟩, hp2⟩ : ∃ p, eover y z = p := ⟨_, rfl⟩
  rw [hf1] at hF1
  rw [hf2] at hF2
  rw [hf3] at hF3
  rw [hp1] at hO1 hMok hbm
  rw [hp2] at hO2 hNok hbn
  simp only at hMok hNok hbm hbn
  have HF1 := Lib.hid hF1
  have HF2 := Lib.hid hF2
  have HF3 := Lib.hid hF3
  have HO1 := Lib.hid hO1
  have HO2 := Lib.hid hO2
  have HMok := Lib.hid hMok
  have HNok := Lib.hid hNok
  have HBad := Lib.hid (And.intro hbm hbn)
  have HP := Lib.hid (And.intro hf1 (And.intro hf2 (And.intro hf3 (And.intro hp1 hp2))))
  have HEx := Lib.hid hx
  have HEy := Lib.hid hy
  have HEz := Lib.hid hz
  have HE := Lib.hid hE
  have HN := Lib.hid (And.intro hn1 (And.intro hn2 (And.intro hn3 (And.intro hc1 (And.intro hc2 hc3)))))
  have HAw := Lib.hid (fun w h => awakeE w h)
  clear hF1 hF2 hF3 hO1 hO2 hMok hNok hbm hbn hf1 hf2 hf3 hp1 hp2 hx hy hz hE hn1 hn2 hn3 hc1 hc2 hc3
  cases f1 with
  | true =>
    go_enter Tryd.func9, Tryd.ntmps9
    go_wp2_with fail
    refine (HF1.out _ HEx.out).mono ?_; rintro ee w1 ⟨rfl, hb1⟩
    go_wp2_with fail
    refine (HAw.out _ (HE.out.bl hb1)).mono ?_; rintro ee w2 ⟨rfl, hb2⟩
    go_wp2_with fail
    go_ret
    exact RB.mk rfl (hb1.trans hb2)
  | false =>
    cases f2 with
    | true =>
      go_enter Tryd.func9, Tryd.ntmps9
      go_wp2_with fail
      refine (HF1.out _ HEx.out).mono ?_; rintro ee w1 ⟨rfl, hb1⟩
      go_wp2_with fail
      refine (HF2.out _ (HEy.out.bl hb1)).mono ?_; rintro ee w2 ⟨rfl, hb2⟩
      have hb1 := hb1.trans hb2
      clear hb2
      go_wp2_with fail
      refine (HAw.out _ (HE.out.bl hb1)).mono ?_; rintro ee w2 ⟨rfl, hb2⟩
      go_wp2_with fail
      go_ret
      exact RB.mk rfl (hb1.trans hb2)
    | false =>
      cases f3 with
      | true =>
        go_enter Tryd.func9, Tryd.ntmps9
        go_wp2_with fail
        refine (HF1.out _ HEx.out).mono ?_; rintro ee w1 ⟨rfl, hb1⟩
        go_wp2_with fail
        refine (HF2.out _ (HEy.out.bl hb1)).mono ?_; rintro ee w2 ⟨rfl, hb2⟩
        have hb1 := hb1.trans hb2
        clear hb2
        go_wp2_with fail
        refine (HF3.out _ (HEz.out.bl hb1)).mono ?_; rintro ee w3 ⟨rfl, hb3⟩
        have hb1 := hb1.trans hb3
        clear hb3
        go_wp2_with fail
        refine (HAw.out _ (HE.out.bl hb1)).mono ?_; rintro ee w2 ⟨rfl, hb2⟩
        go_wp2_with fail
        go_ret
        exact RB.mk rfl (hb1.trans hb2)
      | false =>
        by_cases h1 : e1 = 0
        · subst h1
          by_cases h2 : e2 = 0
          · subst h2
            have hK := lyOK HP.out.1 HP.out.2.1 HP.out.2.2.1 HP.out.2.2.2.1 HP.out.2.2.2.2
            obtain ⟨P, hq1, hq2, hPl, hPm⟩ := hK.left
            have hM5 : maxLen = 1048576 * 8192 ∨ True := .inr trivial
            have hlx := hK.lx
            have hly := hK.ly
            have mx : ∀ n, n ≤ 1000 → n ≤ maxLen := fun n h => by unfold maxLen; omega
            have hO3 := fun am cm w h k hcm => entOver am c cm cc XY z w h k (mx _ (by have := hK.lm; omega)) HN.out.2.2.1 hcm HN.out.2.2.2.2.2
            have hO4 := fun an cn w h k hcn => entOver a an ca cn x YZ w h k HN.out.1 (mx _ (by have := hK.ln; omega)) HN.out.2.2.2.1 hcn
            have hO5 := fun w h => entOver a a ca ca x x w h h HN.out.1 HN.out.1 HN.out.2.2.2.1 HN.out.2.2.2.1
            have hO6 : ∀ w, Ents w a x → Calls Tryd.prog 26 #[.slice none 0 0, .slice a x.length ca] w (RM w (OutE w.heap.size (eover [] x))) := fun w h => entOver none a 0 ca [] x w (ents_none w) h (by simp) HN.out.1 (by simp) HN.out.2.2.2.1
            have hO7 : ∀ w, Ents w a x → Calls Tryd.prog 26 #[.slice a x.length ca, .slice none 0 0] w (RM w (OutE w.heap.size (eover x []))) := fun w h => entOver a none ca 0 x [] w h (ents_none w) HN.out.1 (by simp) HN.out.2.2.2.1 (by simp)
            rw [hq1] at hO3
            rw [hq2] at hO4
            rw [hK.own] at hO5
            rw [hK.nl] at hO6
            rw [hK.nr] at hO7
            have hPok : ∀ e ∈ P, e.ok := fun e he => (hPm e he).elim (fun h => h.elim (HEx.out.ok e) (HEy.out.ok e)) (HEz.out.ok e)
            have hSP := fun a b c d w h k => refSameE a b c d P P w h k (mx _ (by omega)) (mx _ (by omega))
            have hSX := fun a b c d w h k => refSameE a b c d x x w h k HN.out.1 HN.out.1
            have hSM := fun a b c d w h k => refSameE a b c d XY XY w h k (mx _ (by have := hK.lm; omega)) (mx _ (by have := hK.lm; omega))
            rw [decide_eq_true rfl] at hSP hSX hSM
            have hFd := fun am cm s w h hs => entFind am cm XY s w h (mx _ (by have := hK.lm; omega)) hs
            have hNw := fun ab cb w h => entNewest ab cb (x ++ y) w h (mx _ (by simp; omega))
            rw [hK.new] at hNw
            have HO3 := Lib.hid hO3
            have HO4 := Lib.hid hO4
            have HO5 := Lib.hid hO5
            have HO6 := Lib.hid hO6
            have HO7 := Lib.hid hO7
            have HPok := Lib.hid hPok
            have HSP := Lib.hid hSP
            have HSX := Lib.hid hSX
            have HSM := Lib.hid hSM
            have HFd := Lib.hid hFd
            have HNw := Lib.hid hNw
            have HK := Lib.hid hK
            clear hO3 hO4 hO5 hO6 hO7 hPok hSP hSX hSM hFd hNw hK hq1 hq2 hPl hPm mx hM5
            go_enter Tryd.func9, Tryd.ntmps9
            go_wp2_with fail
            refine (HF1.out _ HEx.out).mono ?_; rintro ee w1 ⟨rfl, hb1⟩
            go_wp2_with fail
            refine (HF2.out _ (HEy.out.bl hb1)).mono ?_; rintro ee w2 ⟨rfl, hb2⟩
            have hb1 := hb1.trans hb2
            clear hb2
            go_wp2_with fail
            refine (HF3.out _ (HEz.out.bl hb1)).mono ?_; rintro ee w3 ⟨rfl, hb3⟩
            have hb1 := hb1.trans hb3
            clear hb3
            go_wp2_with fail
            refine (HO1.out _ (HEx.out.bl hb1) (HEy.out.bl hb1)).mono ?_; rintro ee wM ⟨v, rfl, ⟨v4, rfl, hO⟩, q1⟩
            obtain ⟨aM, cM, rfl, hS, hcl, -⟩ := hO.ents HMok.out
            have HM := Lib.hid (And.intro hS hcl)
            have hb1 := hb1.trans q1
            clear hO hS hcl
            go_wp2_with fail
            refine (HO2.out _ (HEy.out.bl hb1) (HEz.out.bl hb1)).mono ?_; rintro ee wN ⟨v, rfl, ⟨v4, rfl, hO⟩, q2⟩
            obtain ⟨aN, cN, rfl, hS, hcl, -⟩ := hO.ents HNok.out
            have HNn := Lib.hid (And.intro hS hcl)
            have hb1 := hb1.trans q2
            clear hO hS hcl
            go_wp2_with fail
            refine (HO3.out _ _ _ (HM.out.1.bl q2) (HEz.out.bl hb1) HM.out.2).mono ?_; rintro ee wP ⟨v, rfl, ⟨v4, rfl, hO⟩, q3⟩
            obtain ⟨aP, cP, rfl, hS, hcl, -⟩ := hO.ents HPok.out
            have HPp := Lib.hid (And.intro hS hcl)
            have hb1 := hb1.trans q3
            clear hO hS hcl
            go_wp2_with fail
            refine (HO4.out _ _ _ (HEx.out.bl hb1) (HNn.out.1.bl q3) HNn.out.2).mono ?_; rintro ee wQ ⟨v, rfl, ⟨v4, rfl, hO⟩, q4⟩
            obtain ⟨aQ, cQ, rfl, hS, hcl, -⟩ := hO.ents HPok.out
            have HQ := Lib.hid (And.intro hS hcl)
            have hb1 := hb1.trans q4
            clear hO hS hcl
            go_wp2_with fail
            refine (HO5.out _ (HEx.out.bl hb1)).mono ?_; rintro ee wO ⟨v, rfl, ⟨v4, rfl, hO⟩, q5⟩
            obtain ⟨aO, cO, rfl, hS, hcl, -⟩ := hO.ents HEx.out.ok
            have HOw := Lib.hid (And.intro hS hcl)
            have hb1 := hb1.trans q5
            clear hO hS hcl
            go_wp2_with fail
            refine (HO6.out _ (HEx.out.bl hb1)).mono ?_; rintro ee wL ⟨v, rfl, ⟨v4, rfl, hO⟩, q6⟩
            obtain ⟨aL, cL, rfl, hS, hcl, -⟩ := hO.ents HEx.out.ok
            have HLf := Lib.hid (And.intro hS hcl)
            have hb1 := hb1.trans q6
            clear hO hS hcl
            go_wp2_with fail
            refine (HO7.out _ (HEx.out.bl hb1)).mono ?_; rintro ee wR ⟨v, rfl, ⟨v4, rfl, hO⟩, q7⟩
            obtain ⟨aR, cR, rfl, hS, hcl, -⟩ := hO.ents HEx.out.ok
            have HRt := Lib.hid (And.intro hS hcl)
            have hb1 := hb1.trans q7
            clear hO hS hcl
            have HSa := Lib.hid (HPp.out.1.bl (((q4.trans q5).trans q6).trans q7))
            have HSb := Lib.hid (HQ.out.1.bl ((q5.trans q6).trans q7))
            have HSc := Lib.hid (HOw.out.1.bl (q6.trans q7))
            have HSd := Lib.hid (HLf.out.1.bl q7)
            have HMM := Lib.hid (HM.out.1.bl (((((q2.trans q3).trans q4).trans q5).trans q6).trans q7))
            clear q1 q2 q3 q4 q5 q6 q7
            go_wp2_with fail
            refine (HSP.out _ _ _ _ _ HSa.out HSb.out).mono ?_; rintro ee w41 ⟨rfl, r1⟩
            go_wp2_with fail
            refine (HSX.out _ _ _ _ _ (HSc.out.bl r1) (HEx.out.bl (hb1.trans r1))).mono ?_; rintro ee w42 ⟨rfl, r2⟩
            have r2 := r1.trans r2
            go_wp2_with fail
            refine (HSX.out _ _ _ _ _ (HSd.out.bl r2) (HEx.out.bl (hb1.trans r2))).mono ?_; rintro ee w43 ⟨rfl, r3⟩
            have r3 := r2.trans r3
            go_wp2_with fail
            refine (HSX.out _ _ _ _ _ (HRt.out.1.bl r3) (HEx.out.bl (hb1.trans r3))).mono ?_; rintro ee w44 ⟨rfl, r4⟩
            have r4 := r3.trans r4
            have hb1 := hb1.trans r4
            have HM4 := Lib.hid (HMM.out.bl r4)
            clear r1 r2 r3 r4 HSa HSb HSc HSd HRt HLf HOw HQ HPp HNn HM HMM
            have ho0 := own0E w44 w44.heap.size rfl
            go_wp2_with (at_builtin; refine wpList_appE ?hw _ _ rfl w44.heap.size (.slice (some ⟨w44.heap.size, 0, none⟩) 0 0) 0 [] rfl ho0 a ca x rfl (Ents.bl (HEx.out.bl hb1) ((Bl.refl _).alloc _)) (by simp) (by omega) ?_)
            intro v1 wA hA1 hg1
            have hbA : Bl w44 wA := grown_bl ((Bl.refl _).alloc _) ho0 hg1 (Nat.le_refl _)
            have hsA := hbA.size
            clear ho0 hg1
            go_wp2_with (at_builtin; refine wpList_appE ?hw2 _ _ rfl w44.heap.size _ _ _ rfl hA1 b cb y rfl (HEy.out.bl (hb1.trans hbA)) hsA (by omega) ?_)
            intro v2 wB hB2 hg2
            have hbB : Bl w44 wB := grown_bl hbA hA1 hg2 (Nat.le_refl _)
            obtain ⟨L, hL⟩ : ∃ L, L = x ++ y := ⟨_, rfl⟩
            have hLok : ∀ e ∈ L, e.ok := fun e he => (List.mem_append.1 (hL ▸ he)).elim (HEx.out.ok e) (HEy.out.ok e)
            have hLl : L.length = x.length + y.length := by rw [hL]; simp
            obtain ⟨aB, cB, rfl, hEB, -, -⟩ := own_ents (l := L) (own_cast hB2 (by first | (rw [hLl]; done) | (rw [hLl]; simp)) (by rw [hL]; simp [entCells])) hLok
            have hNw2 := HNw.out
            rw [← hL] at hNw2
            have HNw2 := Lib.hid hNw2
            have HL := Lib.hid (And.intro hL (And.intro hLok hLl))
            have hL9 : L.length ≤ 120 := by omega
            have HB := Lib.hid hEB
            have hb2 := hb1.trans hbB
            have HM5 := Lib.hid (HM4.out.bl hbB)
            clear hA1 hg2 hB2 hbA hsA hEB hb1 hbB HM4 hL hLok hLl hNw2
            obtain ⟨W5, hW5⟩ : ∃ z, z = wB := ⟨_, rfl⟩
            rw [← hW5] at hb2 HB HM5 ⊢
            clear hW5
            go_wp2_with fail
            go_loopg [19, 21] L.length (fun g v1 v2 wr => ∃ (bb : Bool) (n : Nat), v1 = .bool bb ∧ v2 = .int .i64 n ∧ Hid ((bb = true → nwr x y n) ∧ n ≤ L.length ∧ g = L.length - n) ∧ Bl W5 wr)
            case atStart => exact ⟨true, 0, rfl, rfl, Lib.hid ⟨fun _ i z hi => by omega, by omega, rfl⟩, Bl.refl _⟩
            case round =>
              obtain ⟨bb, n, rfl, rfl, H, hbr⟩ := hrel
              by_cases hn : n < L.length
              · obtain ⟨e, he⟩ : ∃ e, L[n]? = some e := ⟨_, List.getElem?_eq_getElem hn⟩
                obtain ⟨g1, o1, rfl, hat⟩ := HB.out.get hn
                obtain ⟨k0, k1, k2, k3⟩ := (hat n e he).bl hbr
                have hem := List.mem_of_getElem? he
                have hfz := HK.out.fnd e (HL.out.1 ▸ hem)
                have hFk := fun w h => HFd.out aM cM e.key w h (HL.out.2.1 e hem).1
                obtain ⟨⟨fi, fe⟩, hfp⟩ : ∃ p, fnd XY e.key = p := ⟨_, rfl⟩
                rw [hfp] at hfz hFk
                simp only at hfz hFk
                subst hfz
                have HFk := Lib.hid hFk
                have HMo := Lib.hid (show L.length - (n + 1) < gk by have := H.out; omega)
                clear he hat hem hfp hFk
                go_wp2_with fail
                refine (HFk.out _ (HM5.out.bl hbr)).mono ?_; rintro ee w51 ⟨rfl, s1⟩
                have hbw := hb2.trans (hbr.trans s1)
                have hbr1 := hbr.trans s1
                clear k0 k1 k2 k3 s1 hbr
                go_wp2_with fail
                go_loopg [19, 24] y.length (fun g v1 v2 wr2 => ∃ (bc : Bool) (k : Nat), v1 = .bool bc ∧ v2 = .int .i64 k ∧ Hid ((bc = true → nwr x y n ∧ ∀ z, x[n]? = some z → ∀ j v, j < k → y[j]? = some v → z.seq < v.seq) ∧ k ≤ y.length ∧ g = y.length - k) ∧ Bl w51 wr2)
                case atStart => exact ⟨bb, 0, rfl, rfl, Lib.hid ⟨fun h => ⟨H.out.1 h, fun _ _ _ _ hj => by omega⟩, by omega, rfl⟩, Bl.refl _⟩
                case round =>
                  obtain ⟨bc, k, rfl, rfl, H2, hbs⟩ := hrel
                  have hk9 : k ≤ 60 := by have := H2.out.2.1; omega
                  by_cases hk : k < y.length
                  · by_cases hnx : n < x.length
                    · obtain ⟨z, hz⟩ : ∃ z, x[n]? = some z := ⟨_, List.getElem?_eq_getElem hnx⟩
                      obtain ⟨v, hv⟩ : ∃ v, y[k]? = some v := ⟨_, List.getElem?_eq_getElem hk⟩
                      obtain ⟨gx, ox, rfl, hatx⟩ := HEx.out.get hnx
                      obtain ⟨gy, oy, rfl, haty⟩ := HEy.out.get hk
                      have z3 := ((hatx n z hz).bl (hbw.trans hbs)).seq
                      have v3 := ((haty k v hv).bl (hbw.trans hbs)).seq
                      have z3' := @BW.cell wr _ _ z3
                      have v3' := @BW.cell wr _ _ v3
                      have HZ := Lib.hid (And.intro hz hv)
                      have HMs := Lib.hid (show y.length - (k + 1) < gk by have := H2.out; omega)
                      clear hz hv hatx haty
                      cases bc with
                      | false =>
                        go_wp2_with fail
                        
                        refine wp_region_quiet_bw wr (by kernel_rfl) (by kernel_rfl) (Bl.refl wr) ?_
                        repeat (go_big_quiet_step (fail))
                        refine wpQuiet_nil ?_
                        intro wq hw'
                        have hwq : Bl wr wq := by obtain ⟨x, hx⟩ := hw'; rw [hx]; exact x.h
                        clear hw'
                        clear z3' v3' z3 v3
                        go_wp2_with fail
                        go_roundg (y.length - (k + 1))
                        case rel => exact ⟨false, k + 1, rfl, by go_num, Lib.hid ⟨fun h => (by cases h), by omega, rfl⟩, hbs.trans hwq⟩
                        case measure => exact HMs.out
                      | true =>
                        by_cases hq : z.seq < v.seq
                        · have d1 : decide (z.seq < v.seq) = true := by rw [decide_eq_true_eq]; exact hq
                          have HQ := Lib.hid hq
                          clear hq
                          go_wp2_with fail
                          
                          refine wp_region_quiet_bw wr (by kernel_rfl) (by kernel_rfl) (Bl.refl wr) ?_
                          repeat (go_big_quiet_step (fail))
                          refine wpQuiet_nil ?_
                          intro wq hw'
                          have hwq : Bl wr wq := by obtain ⟨x, hx⟩ := hw'; rw [hx]; exact x.h
                          clear hw'
                          clear z3' v3' z3 v3
                          go_wp2_with fail
                          go_roundg (y.length - (k + 1))
                          case rel =>
                            refine ⟨true, k + 1, rfl, by go_num, Lib.hid ⟨fun _ => ⟨(H2.out.1 (by simp)).1, fun z' hz' j v' hj hv' => ?_⟩, by omega, rfl⟩, hbs.trans hwq⟩
                            rcases Nat.lt_or_ge j k with h | h
                            · exact (H2.out.1 (by simp)).2 z' hz' j v' h hv'
                            · obtain rfl : j = k := by omega
                              rw [HZ.out.1] at hz'; injection hz' with hz'
                              rw [HZ.out.2] at hv'; injection hv' with hv'
                              rw [← hz', ← hv']; exact HQ.out
                          case measure => exact HMs.out
                        · have d1 : decide (z.seq < v.seq) = false := by rw [decide_eq_false_iff_not]; exact hq
                          clear hq
                          go_wp2_with fail
                          
                          refine wp_region_quiet_bw wr (by kernel_rfl) (by kernel_rfl) (Bl.refl wr) ?_
                          repeat (go_big_quiet_step (fail))
                          refine wpQuiet_nil ?_
                          intro wq hw'
                          have hwq : Bl wr wq := by obtain ⟨x, hx⟩ := hw'; rw [hx]; exact x.h
                          clear hw'
                          clear z3' v3' z3 v3
                          go_wp2_with fail
                          go_roundg (y.length - (k + 1))
                          case rel => exact ⟨false, k + 1, rfl, by go_num, Lib.hid ⟨fun h => (by cases h), by omega, rfl⟩, hbs.trans hwq⟩
                          case measure => exact HMs.out
                    · have hst : bc = true → nwr x y (n + 1) := fun h i z hi hz => by
                        have h1 := (List.getElem?_eq_some_iff.1 hz).1
                        exact (H2.out.1 h).1 i z (by omega) hz
                      have HSt := Lib.hid hst
                      have i9 : ¬ (n : Int) < (x.length : Int) := by omega
                      clear hst
                      go_wp2_with fail
                      go_roundg (L.length - (n + 1))
                      case rel => exact ⟨bc, n + 1, rfl, by go_num, Lib.hid ⟨HSt.out, by omega, rfl⟩, hbr1.trans hbs⟩
                      case measure => exact HMo.out
                  · have hst : bc = true → nwr x y (n + 1) := fun h i z hi hz v hv => by
                      rcases Nat.lt_or_ge i n with h1 | h1
                      · exact (H2.out.1 h).1 i z h1 hz v hv
                      · obtain rfl : i = n := by omega
                        obtain ⟨j, hj, e⟩ := List.getElem_of_mem hv
                        exact (H2.out.1 h).2 z hz j v (by omega) (by rw [List.getElem?_eq_getElem hj, e])
                    have HSt := Lib.hid hst
                    have i9 : ¬ (k : Int) < (y.length : Int) := by omega
                    clear hst
                    go_wp2_with fail
                    go_roundg (L.length - (n + 1))
                    case rel => exact ⟨bc, n + 1, rfl, by go_num, Lib.hid ⟨HSt.out, by omega, rfl⟩, hbr1.trans hbs⟩
                    case measure => exact HMo.out
              · have hend : bb = true → newest L = XY := fun h => by
                  rw [HL.out.1]
                  exact HK.out.same (nwr_all (H.out.1 h) (by have := HL.out.2.2; omega))
                have HEnd := Lib.hid hend
                have i9 : ¬ (n : Int) < (L.length : Int) := by omega
                have hbw := hb2.trans hbr
                have HM6 := Lib.hid (HM5.out.bl hbr)
                have HB6 := Lib.hid (HB.out.bl hbr)
                clear hend H hn hbr HM5 HB
                go_wp2_with fail
                refine (HNw2.out _ _ _ HB6.out).mono ?_; rintro ee w61 ⟨v, rfl, ⟨s, rfl, hO⟩, r1⟩
                obtain ⟨aT, cT, rfl, hT, -, -⟩ := hO.ents (fun e he => HL.out.2.1 e (newest_mem he))
                have HT := Lib.hid hT
                have hbw := hbw.trans r1
                clear hO hT
                cases bb with
                | false =>
                  go_wp2_with fail
                  refine (HAw.out _ (HE.out.bl hbw)).mono ?_; rintro ee w62 ⟨rfl, r2⟩
                  go_wp2_with fail
                  go_ret
                  exact RB.mk rfl (hbw.trans r2)
                | true =>
                  have heq := HEnd.out rfl
                  have hl1 := newest_le' L
                  have hSm := refSameE aT aM cT cM (newest L) XY w61 HT.out (HM6.out.bl r1) (by unfold maxLen; omega) (by have := HK.out.lm; unfold maxLen; omega)
                  rw [decide_eq_true heq] at hSm
                  have HSame := Lib.hid hSm
                  clear heq hl1 hSm r1
                  go_wp2_with fail
                  refine HSame.out.mono ?_; rintro ee w63 ⟨rfl, r3⟩
                  have hbw := hbw.trans r3
                  go_wp2_with fail
                  refine (HAw.out _ (HE.out.bl hbw)).mono ?_; rintro ee w62 ⟨rfl, r2⟩
                  go_wp2_with fail
                  go_ret
                  exact RB.mk rfl (hbw.trans r2)
          · have hNil : YZ = [] := HBad.out.2 h2
            subst hNil
            have i2 : (e2 != 0) = true := by rw [bne_iff_ne]; exact h2
            have i3 : (e2 == 0) = false := by rw [beq_eq_false_iff_ne]; exact h2
            clear h2
            go_enter Tryd.func9, Tryd.ntmps9
            go_wp2_with fail
            refine (HF1.out _ HEx.out).mono ?_; rintro ee w1 ⟨rfl, hb1⟩
            go_wp2_with fail
            refine (HF2.out _ (HEy.out.bl hb1)).mono ?_; rintro ee w2 ⟨rfl, hb2⟩
            have hb1 := hb1.trans hb2
            clear hb2
            go_wp2_with fail
            refine (HF3.out _ (HEz.out.bl hb1)).mono ?_; rintro ee w3 ⟨rfl, hb3⟩
            have hb1 := hb1.trans hb3
            clear hb3
            go_wp2_with fail
            refine (HO1.out _ (HEx.out.bl hb1) (HEy.out.bl hb1)).mono ?_; rintro ee wM ⟨v, rfl, ⟨v4, rfl, hO⟩, q1⟩
            obtain ⟨aM, cM, rfl, hS, hcl, -⟩ := hO.ents HMok.out
            have HM := Lib.hid (And.intro hS hcl)
            have hb1 := hb1.trans q1
            clear hO hS hcl
            go_wp2_with fail
            refine (HO2.out _ (HEy.out.bl hb1) (HEz.out.bl hb1)).mono ?_; rintro ee wN ⟨v, rfl, ⟨v4, rfl, hO⟩, q2⟩
            obtain ⟨aN, cN, rfl, hS, hcl, -⟩ := hO.ents HNok.out
            have HNn := Lib.hid (And.intro hS hcl)
            have hb1 := hb1.trans q2
            clear hO hS hcl
            clear q1 q2
            go_wp2_with fail
            refine (HAw.out _ (HE.out.bl hb1)).mono ?_; rintro ee w2 ⟨rfl, hb2⟩
            go_wp2_with fail
            go_ret
            exact RB.mk rfl (hb1.trans hb2)
        · have hNil : XY = [] := HBad.out.1 h1
          subst hNil
          have i2 : (e1 != 0) = true := by rw [bne_iff_ne]; exact h1
          have i3 : (e1 == 0) = false := by rw [beq_eq_false_iff_ne]; exact h1
          clear h1
          by_cases h2 : e2 = 0
          · subst h2
            go_enter Tryd.func9, Tryd.ntmps9
            go_wp2_with fail
            refine (HF1.out _ HEx.out).mono ?_; rintro ee w1 ⟨rfl, hb1⟩
            go_wp2_with fail
            refine (HF2.out _ (HEy.out.bl hb1)).mono ?_; rintro ee w2 ⟨rfl, hb2⟩
            have hb1 := hb1.trans hb2
            clear hb2
            go_wp2_with fail
            refine (HF3.out _ (HEz.out.bl hb1)).mono ?_; rintro ee w3 ⟨rfl, hb3⟩
            have hb1 := hb1.trans hb3
            clear hb3
            go_wp2_with fail
            refine (HO1.out _ (HEx.out.bl hb1) (HEy.out.bl hb1)).mono ?_; rintro ee wM ⟨v, rfl, ⟨v4, rfl, hO⟩, q1⟩
            obtain ⟨aM, cM, rfl, hS, hcl, -⟩ := hO.ents HMok.out
            have HM := Lib.hid (And.intro hS hcl)
            have hb1 := hb1.trans q1
            clear hO hS hcl
            go_wp2_with fail
            refine (HO2.out _ (HEy.out.bl hb1) (HEz.out.bl hb1)).mono ?_; rintro ee wN ⟨v, rfl, ⟨v4, rfl, hO⟩, q2⟩
            obtain ⟨aN, cN, rfl, hS, hcl, -⟩ := hO.ents HNok.out
            have HNn := Lib.hid (And.intro hS hcl)
            have hb1 := hb1.trans q2
            clear hO hS hcl
            clear q1 q2
            go_wp2_with fail
            refine (HAw.out _ (HE.out.bl hb1)).mono ?_; rintro ee w2 ⟨rfl, hb2⟩
            go_wp2_with fail
            go_ret
            exact RB.mk rfl (hb1.trans hb2)
          · have hNil : YZ = [] := HBad.out.2 h2
            subst hNil
            have i4 : (e2 != 0) = true := by rw [bne_iff_ne]; exact h2
            have i5 : (e2 == 0) = false := by rw [beq_eq_false_iff_ne]; exact h2
            clear h2
            go_enter Tryd.func9, Tryd.ntmps9
            go_wp2_with fail
            refine (HF1.out _ HEx.out).mono ?_; rintro ee w1 ⟨rfl, hb1⟩
            go_wp2_with fail
            refine (HF2.out _ (HEy.out.bl hb1)).mono ?_; rintro ee w2 ⟨rfl, hb2⟩
            have hb1 := hb1.trans hb2
            clear hb2
            go_wp2_with fail
            refine (HF3.out _ (HEz.out.bl hb1)).mono ?_; rintro ee w3 ⟨rfl, hb3⟩
            have hb1 := hb1.trans hb3
            clear hb3
            go_wp2_with fail
            refine (HO1.out _ (HEx.out.bl hb1) (HEy.out.bl hb1)).mono ?_; rintro ee wM ⟨v, rfl, ⟨v4, rfl, hO⟩, q1⟩
            obtain ⟨aM, cM, rfl, hS, hcl, -⟩ := hO.ents HMok.out
            have HM := Lib.hid (And.intro hS hcl)
            have hb1 := hb1.trans q1
            clear hO hS hcl
            go_wp2_with fail
            refine (HO2.out _ (HEy.out.bl hb1) (HEz.out.bl hb1)).mono ?_; rintro ee wN ⟨v, rfl, ⟨v4, rfl, hO⟩, q2⟩
            obtain ⟨aN, cN, rfl, hS, hcl, -⟩ := hO.ents HNok.out
            have HNn := Lib.hid (And.intro hS hcl)
            have hb1 := hb1.trans q2
            clear hO hS hcl
            clear q1 q2
            go_wp2_with fail
            refine (HAw.out _ (HE.out.bl hb1)).mono ?_; rintro ee w2 ⟨rfl, hb2⟩
            go_wp2_with fail
            go_ret
            exact RB.mk rfl (hb1.trans hb2)
end Go.Proofs.YtbdiiopmjaeaaaaDoor


/-
  The law EntriesKnown walked.
-/
import Derived.Test.YtbdiiopmjaeaaaaDoorLeF
namespace Go.Proofs.YtbdiiopmjaeaaaaDoor
open Go.RowKit Go.Sort
set_option linter.unusedSimpArgs false
set_option linter.unusedVariables false
set_option maxRecDepth 100000

theorem kn_cmp : ecmp xA xC = (-1, 0) := by kernel_rfl
theorem kn_wins : ewins xA xC = (eNil, 6) := by kernel_rfl
theorem kn_live : elive [xB, xC] = ([xC], 0) := by kernel_rfl
theorem kn_o1 : eover [xA, xC] [xB] = ([xB, xC], 0) := by
  have e : emerge [xA, xC] [xB] = [xB, xC] := by rw [emerge_cons, if_neg (by decide +kernel), if_pos (by kernel_rfl), emerge_nil2]
  rw [eover_of (by kernel_rfl) (by kernel_rfl) (by rw [e]; decide), e]
theorem kn_o2 : eover [xB] [xA, xC] = ([xA, xC], 0) := by
  have e : emerge [xB] [xA, xC] = [xA, xC] := by rw [emerge_cons, if_neg (by decide +kernel), if_pos (by kernel_rfl), emerge_nil1]
  rw [eover_of (by kernel_rfl) (by kernel_rfl) (by rw [e]; decide), e]
theorem ents1 (W : World) (n : Nat) (hn : W.heap.size = n) (x : Ent) (hx : x.ok) : Ents (W.alloc (.cells #[.string x.key, .string x.val, .bool x.dead, .int .i64 x.seq] 23)) (some ⟨n, 0, none⟩) [x] := by
  subst hn
  refine ⟨by intro z hz; simp at hz; subst hz; assumption, fun _ => ⟨_, 0, rfl, fun i z hz => ?_⟩⟩
  match i, hz with
  | 0, hz => simp at hz; subst hz; constructor <;> simp [go_sem]
set_option maxHeartbeats 16000000 in
theorem lawKnownE (w : World) (hE : PEnv w) : Calls Tryd.prog 8 #[] w (RB w (.bool true)) := by
  have hA := fun w => lawA w
  have hB := fun w => lawB w
  have hC := fun w => lawC w
  have m5 : ∀ n, n ≤ 1000 → n ≤ maxLen := fun n h => by unfold maxLen; omega
  have hCmp := fun w => entCompare xA xC w xA_ok xC_ok
  have hWin := fun w => entWins xA xC w xA_ok xC_ok
  have hLv := fun a w h => entLive a 2 [xB, xC] w h (m5 _ (by simp))
  have hO1 := fun a b w h k => entOver a b 2 1 [xA, xC] [xB] w h k (m5 _ (by simp)) (m5 _ (by simp)) (by simp) (by simp)
  have hO2 := fun a b w h k => entOver a b 1 2 [xB] [xA, xC] w h k (m5 _ (by simp)) (m5 _ (by simp)) (by simp) (by simp)
  have hEb := fun W n hn => ents1 W n hn xB xB_ok
  have hEc := fun W n hn => ents1 W n hn xC xC_ok
  have hEbc := fun W n hn => ents2 W n hn xB xC xB_ok xC_ok
  have hEac := fun W n hn => ents2 W n hn xA xC xA_ok xC_ok
  have hS1 : ∀ a c b w, Ents w a [xC] → Ents w b [xC] → Calls Tryd.prog 21 #[.slice a 1 c, .slice b 1 1] w (RB w (.bool true)) := fun a c b w h k => by
    have := refSameE a b c 1 [xC] [xC] w h k (m5 _ (by simp)) (m5 _ (by simp))
    rw [decide_eq_true rfl] at this; exact this
  have hS2 : ∀ a c b w, Ents w a [xB, xC] → Ents w b [xB, xC] → Calls Tryd.prog 21 #[.slice a 2 c, .slice b 2 2] w (RB w (.bool true)) := fun a c b w h k => by
    have := refSameE a b c 2 [xB, xC] [xB, xC] w h k (m5 _ (by simp)) (m5 _ (by simp))
    rw [decide_eq_true rfl] at this; exact this
  have hS3 : ∀ a c b w, Ents w a [xA, xC] → Ents w b [xA, xC] → Calls Tryd.prog 21 #[.slice a 2 c, .slice b 2 2] w (RB w (.bool true)) := fun a c b w h k => by
    have := refSameE a b c 2 [xA, xC] [xA, xC] w h k (m5 _ (by simp)) (m5 _ (by simp))
    rw [decide_eq_true rfl] at this; exact this
  rw [kn_cmp] at hCmp
  rw [kn_wins] at hWin
  rw [kn_live] at hLv
  rw [kn_o1] at hO1
  rw [kn_o2] at hO2
  have HLv := Lib.hid hLv
  have HO1 := Lib.hid hO1
  have HO2 := Lib.hid hO2
  have HS1 := Lib.hid hS1
  have HS2 := Lib.hid hS2
  have HS3 := Lib.hid hS3
  have ok1 : ∀ z ∈ [xC], z.ok := by intro z hz; simp at hz; rcases hz with rfl; exact xC_ok
  have ok2 : ∀ z ∈ [xB, xC], z.ok := by intro z hz; simp at hz; rcases hz with rfl | rfl; exact xB_ok; exact xC_ok
  have ok3 : ∀ z ∈ [xA, xC], z.ok := by intro z hz; simp at hz; rcases hz with rfl | rfl; exact xA_ok; exact xC_ok
  have HK1 := Lib.hid ok1
  have HK2 := Lib.hid ok2
  have HK3 := Lib.hid ok3
  have HAw := Lib.hid (fun w h => awakeE w h)
  have HE := Lib.hid hE
  simp only [xA, xB, xC, Ent.v, eNil] at hA hB hC hCmp hWin hEb hEc hEbc hEac
  have HA := Lib.hid hA
  have HB := Lib.hid hB
  have HC := Lib.hid hC
  have HCm := Lib.hid hCmp
  have HWi := Lib.hid hWin
  have HEb := Lib.hid hEb
  have HEc := Lib.hid hEc
  have HEbc := Lib.hid hEbc
  have HEac := Lib.hid hEac
  clear hA hB hC hCmp hWin hLv hO1 hO2 hEb hEc hEbc hEac hS1 hS2 hS3 ok1 ok2 ok3 m5 hE
  go_enter Tryd.func8, Tryd.ntmps8
  go_wp2_with fail
  refine (HA.out _).mono ?_; rintro ee w1 ⟨rfl, b1⟩
  go_wp2_with fail
  refine (HC.out _).mono ?_; rintro ee w2 ⟨rfl, b2⟩
  go_wp2_with fail
  refine (HCm.out _).mono ?_; rintro ee w3 ⟨rfl, b3⟩
  have hb := (b1.trans b2).trans b3
  clear b1 b2 b3
  go_wp2_with fail
  refine (HA.out _).mono ?_; rintro ee w4 ⟨rfl, b4⟩
  go_wp2_with fail
  refine (HC.out _).mono ?_; rintro ee w5 ⟨rfl, b5⟩
  go_wp2_with fail
  refine (HWi.out _).mono ?_; rintro ee w6 ⟨rfl, b6⟩
  have hb := ((hb.trans b4).trans b5).trans b6
  clear b4 b5 b6
  obtain ⟨W0, hW0⟩ : ∃ z, w6.alloc (.cells #[.string ⟨#[]⟩, .string ⟨#[]⟩, .bool false, .int .i64 0] 23) = z := ⟨_, rfl⟩
  have hb0 : Bl w W0 := hW0 ▸ hb.alloc _
  have HW0 := Lib.hid hW0
  clear hb hW0
  go_wp2_with fail
  rw [HW0.out]
  refine (HB.out _).mono ?_; rintro ee w7 ⟨rfl, b7⟩
  go_wp2_with fail
  refine (HC.out _).mono ?_; rintro ee w8 ⟨rfl, b8⟩
  go_wp2_with fail
  refine (HLv.out _ _ (HEbc.out _ _ rfl)).mono ?_; rintro ee w9 ⟨v, rfl, ⟨s, rfl, hO⟩, b9⟩
  obtain ⟨aL, cL, rfl, hL, -, -⟩ := hO.ents HK1.out
  have HL := Lib.hid hL
  have hb := ((hb0.trans (b7.trans b8)).alloc _).trans b9
  clear hO hL b7 b8 b9 hb0
  go_wp2_with fail
  refine (HA.out _).mono ?_; rintro ee w10 ⟨rfl, b10⟩
  go_wp2_with fail
  refine (HC.out _).mono ?_; rintro ee w11 ⟨rfl, b11⟩
  have b12 := (b10.trans b11).alloc (.cells #[.string ⟨#[97]⟩, .string ⟨#[49]⟩, .bool false, .int .i64 5, .string ⟨#[98]⟩, .string ⟨#[50]⟩, .bool false, .int .i64 6] 23)
  have HP1 := Lib.hid (HEac.out w11 w11.heap.size rfl)
  go_wp2_with fail
  refine (HB.out _).mono ?_; rintro ee w13 ⟨rfl, b13⟩
  go_wp2_with fail
  refine (HO1.out _ _ _ ((HP1.out.bl b13).bl ((Bl.refl _).alloc _)) (HEb.out _ _ rfl)).mono ?_; rintro ee w14 ⟨v, rfl, ⟨s, rfl, hO⟩, b14⟩
  obtain ⟨aP, cP, rfl, hP, -, -⟩ := hO.ents HK2.out
  have HP := Lib.hid hP
  have b15 := ((b12.trans b13).alloc _).trans b14
  have HL2 := Lib.hid (HL.out.bl b15)
  have hb := hb.trans b15
  clear hO hP b10 b11 b12 b13 b14 b15 HL HP1
  go_wp2_with fail
  refine (HB.out _).mono ?_; rintro ee w16 ⟨rfl, b16⟩
  have b17 := b16.alloc (.cells #[.string ⟨#[97]⟩, .string ⟨#[]⟩, .bool true, .int .i64 7] 23)
  have HP1 := Lib.hid (HEb.out w16 w16.heap.size rfl)
  go_wp2_with fail
  refine (HA.out _).mono ?_; rintro ee w18 ⟨rfl, b18⟩
  go_wp2_with fail
  refine (HC.out _).mono ?_; rintro ee w19 ⟨rfl, b19⟩
  go_wp2_with fail
  refine (HO2.out _ _ _ ((HP1.out.bl (b18.trans b19)).bl ((Bl.refl _).alloc _)) (HEac.out _ _ rfl)).mono ?_; rintro ee w20 ⟨v, rfl, ⟨s, rfl, hO⟩, b20⟩
  obtain ⟨aQ, cQ, rfl, hQ, -, -⟩ := hO.ents HK3.out
  have HQ := Lib.hid hQ
  have b21 := ((b17.trans (b18.trans b19)).alloc _).trans b20
  have HL3 := Lib.hid (HL2.out.bl b21)
  have HP3 := Lib.hid (HP.out.bl b21)
  have hb := hb.trans b21
  clear hO hQ b16 b17 b18 b19 b20 b21 HL2 HP HP1
  go_wp2_with fail
  refine (HC.out _).mono ?_; rintro ee w22 ⟨rfl, b22⟩
  go_wp2_with fail
  refine (HS1.out _ _ _ _ ((HL3.out.bl b22).bl ((Bl.refl _).alloc _)) (HEc.out _ _ rfl)).mono ?_; rintro ee w23 ⟨rfl, b23⟩
  have b24 := (b22.alloc _).trans b23
  clear b22 b23
  go_wp2_with fail
  refine (HB.out _).mono ?_; rintro ee w25 ⟨rfl, b25⟩
  go_wp2_with fail
  refine (HC.out _).mono ?_; rintro ee w26 ⟨rfl, b26⟩
  go_wp2_with fail
  refine (HS2.out _ _ _ _ ((((HP3.out.bl b24).bl b25).bl b26).bl ((Bl.refl _).alloc _)) (HEbc.out _ _ rfl)).mono ?_; rintro ee w27 ⟨rfl, b27⟩
  have b28 := (((b24.trans b25).trans b26).alloc _).trans b27
  clear b24 b25 b26 b27
  go_wp2_with fail
  refine (HA.out _).mono ?_; rintro ee w29 ⟨rfl, b29⟩
  go_wp2_with fail
  refine (HC.out _).mono ?_; rintro ee w30 ⟨rfl, b30⟩
  go_wp2_with fail
  refine (HS3.out _ _ _ _ ((((HQ.out.bl b28).bl b29).bl b30).bl ((Bl.refl _).alloc _)) (HEac.out _ _ rfl)).mono ?_; rintro ee w31 ⟨rfl, b31⟩
  have hb := hb.trans ((((b28.trans b29).trans b30).alloc _).trans b31)
  clear b28 b29 b30 b31
  go_wp2_with fail
  refine (HAw.out _ (HE.out.bl hb)).mono ?_; rintro ee w32 ⟨rfl, b32⟩
  go_wp2_with fail
  go_ret
  exact RB.mk rfl (hb.trans b32)
end Go.Proofs.YtbdiiopmjaeaaaaDoor

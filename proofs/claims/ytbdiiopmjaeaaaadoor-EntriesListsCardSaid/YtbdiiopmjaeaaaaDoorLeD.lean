
/-
  The law EntriesLists walked.
-/
import Derived.Test.YtbdiiopmjaeaaaaDoorEvC
import Derived.Test.YtbdiiopmjaeaaaaDoorEsO
import Derived.Test.YtbdiiopmjaeaaaaDoorEqA
import Derived.Test.YtbdiiopmjaeaaaaDoorEqB
namespace Go.Proofs.YtbdiiopmjaeaaaaDoor
open Go.RowKit Go.Sort
set_option linter.unusedSimpArgs false
set_option linter.unusedVariables false
set_option maxRecDepth 100000

theorem elive_mem {l : List Ent} {x : Ent} (h : x ∈ (elive l).1) : x ∈ l := by
  unfold elive at h
  split at h
  · cases h
  · exact (List.mem_filter.1 h).1
theorem elive_len (l : List Ent) : (elive l).1.length ≤ l.length := by
  unfold elive
  split
  · simp
  · exact List.length_filter_le _ _
set_option maxHeartbeats 8000000 in
theorem lawListsE (a : Option Addr) (c : Nat) (l : List Ent) (s : ByteArray) (w : World) (hl : Ents w a l) (hn : l.length ≤ maxLen) (hs : s.size ≤ maxLen) (hE : PEnv w) : Calls Tryd.prog 7 #[.slice a l.length c, .string s] w (RB w (.bool true)) := by
  have hF := fun w h => lawFarE a c l w h hn
  have hAw := fun w h => awakeE w h
  have hC := fun w h => entCheckList a c l w h hn
  have hRC := fun w h => refCheckList a c l w h hn
  have hL := fun w h => entLive a c l w h hn
  have hRL := fun w h => refLiveE a c l w h hn
  have hFd := fun w h => entFind a c l s w h hn hs
  have hRF := fun w h => refFind a c l s w h hn hs
  have hPok := fun x h => hl.ok x (elive_mem h)
  have hPl := Nat.le_trans (elive_len l) hn
  obtain ⟨f, hf⟩ : ∃ b, efar l = b := ⟨_, rfl⟩
  obtain ⟨⟨i, e⟩, hp⟩ : ∃ p, clchk l = p := ⟨_, rfl⟩
  obtain ⟨⟨P, g⟩, hq⟩ : ∃ p, elive l = p := ⟨_, rfl⟩
  obtain ⟨⟨j, k⟩, hr⟩ : ∃ p, fnd l s = p := ⟨_, rfl⟩
  rw [hf] at hF
  rw [hp] at hC hRC
  rw [hq] at hL hRL hPok hPl
  rw [hr] at hFd hRF
  simp only at hPok hPl hC hRC hFd hRF
  have hSm := fun a b c d w h h2 => refSameE a b c d P P w h h2 hPl hPl
  rw [decide_eq_true rfl] at hSm
  have HF := Lib.hid hF
  have HAw := Lib.hid hAw
  have HC := Lib.hid hC
  have HRC := Lib.hid hRC
  have HL := Lib.hid hL
  have HRL := Lib.hid hRL
  have HFd := Lib.hid hFd
  have HRF := Lib.hid hRF
  have HPok := Lib.hid hPok
  have HSm := Lib.hid hSm
  have HE := Lib.hid hE
  have HEl := Lib.hid hl
  clear hF hAw hC hRC hL hRL hFd hRF hPok hSm hE hl hf hp hq hr hPl
  cases f with
  | true =>
    go_enter Tryd.func7, Tryd.ntmps7
    go_wp2_with fail
    refine (HF.out _ HEl.out).mono ?_; rintro ee w1 ⟨rfl, hb1⟩
    go_wp2_with fail
    refine (HAw.out _ (HE.out.bl hb1)).mono ?_; rintro ee w2 ⟨rfl, hb2⟩
    go_wp2_with fail
    go_ret
    exact RB.mk rfl (hb1.trans hb2)
  | false =>
    by_cases h1 : 100 < s.size
    · have i1 : (100 : Int) < (s.size : Int) := by omega
      clear h1
      go_enter Tryd.func7, Tryd.ntmps7
      go_wp2_with fail
      refine (HF.out _ HEl.out).mono ?_; rintro ee w1 ⟨rfl, hb1⟩
      go_wp2_with fail
      refine (HAw.out _ (HE.out.bl hb1)).mono ?_; rintro ee w2 ⟨rfl, hb2⟩
      go_wp2_with fail
      go_ret
      exact RB.mk rfl (hb1.trans hb2)
    · have i1 : ¬ (100 : Int) < (s.size : Int) := by omega
      clear h1
      go_enter Tryd.func7, Tryd.ntmps7
      go_wp2_with fail
      refine (HF.out _ HEl.out).mono ?_; rintro ee w1 ⟨rfl, hb1⟩
      go_wp2_with fail
      refine (HC.out _ (HEl.out.bl hb1)).mono ?_; rintro ee w2 ⟨rfl, hb2⟩
      have hb2 := hb1.trans hb2
      clear hb1
      go_wp2_with fail
      refine (HRC.out _ (HEl.out.bl hb2)).mono ?_; rintro ee w3 ⟨rfl, hb3⟩
      have hb3 := hb2.trans hb3
      clear hb2
      go_wp2_with fail
      refine (HL.out _ (HEl.out.bl hb3)).mono ?_; rintro ee w4 ⟨v, rfl, ⟨v4, rfl, hO⟩, hb4⟩
      obtain ⟨aP, cP, rfl, hSP, -, -⟩ := hO.ents HPok.out
      have HSP := Lib.hid hSP
      have hb4 := hb3.trans hb4
      clear hb3 hO hSP
      go_wp2_with fail
      refine (HRL.out _ (HEl.out.bl hb4)).mono ?_; rintro ee w5 ⟨v, rfl, ⟨v5, rfl, hO⟩, hb5⟩
      obtain ⟨aQ, cQ, rfl, hSQ, -, -⟩ := hO.ents HPok.out
      have HSQ := Lib.hid hSQ
      have HSP5 := Lib.hid (HSP.out.bl hb5)
      have hb5 := hb4.trans hb5
      clear hb4 hO hSQ
      go_wp2_with fail
      refine (HSm.out _ _ _ _ _ HSP5.out HSQ.out).mono ?_; rintro ee w6 ⟨rfl, hb6⟩
      have hb6 := hb5.trans hb6
      clear hb5
      go_wp2_with fail
      refine (HFd.out _ (HEl.out.bl hb6)).mono ?_; rintro ee w7 ⟨rfl, hb7⟩
      have hb7 := hb6.trans hb7
      clear hb6
      go_wp2_with fail
      refine (HRF.out _ (HEl.out.bl hb7)).mono ?_; rintro ee w8 ⟨rfl, hb8⟩
      have hb1 := hb7.trans hb8
      clear hb7 hb8
      go_wp2_with fail
      refine (HAw.out _ (HE.out.bl hb1)).mono ?_; rintro ee w2 ⟨rfl, hb2⟩
      go_wp2_with fail
      go_ret
      exact RB.mk rfl (hb1.trans hb2)
end Go.Proofs.YtbdiiopmjaeaaaaDoor

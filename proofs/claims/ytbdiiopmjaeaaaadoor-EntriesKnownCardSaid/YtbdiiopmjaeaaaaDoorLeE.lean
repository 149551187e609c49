
/-
  The law EntriesSorts walked.
-/
import Derived.Test.YtbdiiopmjaeaaaaDoorEvD
import Derived.Test.YtbdiiopmjaeaaaaDoorEvF
import Derived.Test.YtbdiiopmjaeaaaaDoorEsO
import Derived.Test.YtbdiiopmjaeaaaaDoorEqB
namespace Go.Proofs.YtbdiiopmjaeaaaaDoor
open Go.RowKit Go.Sort
set_option linter.unusedSimpArgs false
set_option linter.unusedVariables false
set_option maxRecDepth 100000

theorem esort_le (l : List Ent) : (esort l).1.length ≤ l.length := by
  unfold esort
  split
  · simp
  · split
    · simp
    · rw [isort_len]; omega
theorem enewest_mem' {l : List Ent} {x : Ent} (h : x ∈ (enewest l).1) : x ∈ l := by
  unfold enewest at h
  split at h
  · cases h
  · split at h
    · cases h
    · exact newest_mem h
theorem enewest_le (l : List Ent) : (enewest l).1.length ≤ l.length := by
  rw [enewest_of]
  exact Nat.le_trans (cmpct_le _) (esort_le l)
theorem emerge_from : ∀ (n : Nat) (o f : List Ent), o.length + f.length ≤ n → ∀ x ∈ emerge o f, x ∈ o ∨ x ∈ f
  | _, [], f, _, x, h => by rw [emerge_nil1] at h; exact .inr h
  | _, z :: o, [], _, x, h => by rw [emerge_nil2] at h; exact .inl h
  | 0, z :: o, y :: f, h, _, _ => by simp at h
  | n + 1, z :: o, y :: f, hn, x, h => by
    simp only [List.length_cons] at hn
    have h1 := emerge_from n o (y :: f) (by simp only [List.length_cons]; omega) x
    have h2 := emerge_from n o f (by omega) x
    have h3 := emerge_from n (z :: o) f (by simp only [List.length_cons]; omega) x
    rw [emerge_cons] at h
    split at h
    · rcases List.mem_cons.1 h with rfl | h
      · simp
      · rcases h1 h with h | h
        · exact .inl (by simp [h])
        · exact .inr h
    · split at h
      · rcases List.mem_cons.1 h with rfl | h
        · simp
        · rcases h2 h with h | h
          · exact .inl (by simp [h])
          · exact .inr (by simp [h])
      · rcases List.mem_cons.1 h with rfl | h
        · simp
        · rcases h3 h with h | h
          · exact .inl h
          · exact .inr (by simp [h])
theorem eover_mem {o f : List Ent} {x : Ent} (h : x ∈ (eover o f).1) : x ∈ o ∨ x ∈ f := by
  unfold eover at h
  split at h
  · cases h
  · split at h
    · cases h
    · split at h
      · cases h
      · exact emerge_from _ o f (Nat.le_refl _) x h
theorem eover_le (o f : List Ent) : (eover o f).1.length ≤ 5000 := by
  unfold eover
  split
  · simp
  · split
    · simp
    · split
      · simp
      · simp only; omega
set_option maxHeartbeats 8000000 in
theorem lawSortsE (a b : Option Addr) (c d : Nat) (l m : List Ent) (w : World) (hl : Ents w a l) (hm : Ents w b m) (hn : l.length ≤ maxLen) (hn2 : m.length ≤ maxLen) (hc : l.length ≤ c) (hd : m.length ≤ d) (hE : PEnv w) : Calls Tryd.prog 6 #[.slice a l.length c, .slice b m.length d] w (RB w (.bool true)) := by
  have hF := fun w h => lawFarE a c l w h hn
  have hG := fun w h => lawFarE b d m w h hn2
  have hAw := fun w h => awakeE w h
  have hS := fun w h => entSort a c l w h hn
  have hRS := fun w h => refSortE a c l w h hn
  have hN := fun w h => entNewest a c l w h hn
  have hRN := fun w h => refNewestE a c l w h hn
  have hO := fun w h k => entOver a b c d l m w h k hn hn2 hc hd
  have hRO := fun w h k => refOverE a b c d l m w h k hn hn2
  have hSok := fun x h => hl.ok x (esort_mem h)
  have hNok := fun x h => hl.ok x (enewest_mem' h)
  have hOok := fun x h => (eover_mem h).elim (hl.ok x) (hm.ok x)
  have hSl := Nat.le_trans (esort_le l) hn
  have hNl := Nat.le_trans (enewest_le l) hn
  have hOl : (eover l m).1.length ≤ maxLen := Nat.le_trans (eover_le l m) (by unfold maxLen; omega)
  obtain ⟨f, hf⟩ : ∃ b, efar l = b := ⟨_, rfl⟩
  obtain ⟨f2, hf2⟩ : ∃ b, efar m = b := ⟨_, rfl⟩
  obtain ⟨⟨S, e1⟩, hp⟩ : ∃ p, esort l = p := ⟨_, rfl⟩
  obtain ⟨⟨N, e2⟩, hq⟩ : ∃ p, enewest l = p := ⟨_, rfl⟩
  obtain ⟨⟨V, e3⟩, hr⟩ : ∃ p, eover l m = p := ⟨_, rfl⟩
  rw [hf] at hF
  rw [hf2] at hG
  rw [hp] at hS hRS hSok hSl
  rw [hq] at hN hRN hNok hNl
  rw [hr] at hO hRO hOok hOl
  simp only at hSok hSl hNok hNl hOok hOl
  have hS1 := fun a b c d w h h2 => refSameE a b c d S S w h h2 hSl hSl
  have hS2 := fun a b c d w h h2 => refSameE a b c d N N w h h2 hNl hNl
  have hS3 := fun a b c d w h h2 => refSameE a b c d V V w h h2 hOl hOl
  rw [decide_eq_true rfl] at hS1 hS2 hS3
  have HF := Lib.hid hF
  have HG := Lib.hid hG
  have HAw := Lib.hid hAw
  have HS := Lib.hid hS
  have HRS := Lib.hid hRS
  have HN := Lib.hid hN
  have HRN := Lib.hid hRN
  have HO := Lib.hid hO
  have HRO := Lib.hid hRO
  have HSok := Lib.hid hSok
  have HNok := Lib.hid hNok
  have HOok := Lib.hid hOok
  have HS1 := Lib.hid hS1
  have HS2 := Lib.hid hS2
  have HS3 := Lib.hid hS3
  have HE := Lib.hid hE
  have HEl := Lib.hid hl
  have HEm := Lib.hid hm
  clear hF hG hAw hS hRS hN hRN hO hRO hSok hNok hOok hS1 hS2 hS3 hE hl hm hf hf2 hp hq hr hSl hNl hOl hc hd
  cases f with
  | true =>
    go_enter Tryd.func6, Tryd.ntmps6
    go_wp2_with fail
    refine (HF.out _ HEl.out).mono ?_; rintro ee w1 ⟨rfl, hb1⟩
    go_wp2_with fail
    refine (HAw.out _ (HE.out.bl hb1)).mono ?_; rintro ee w2 ⟨rfl, hb2⟩
    go_wp2_with fail
    go_ret
    exact RB.mk rfl (hb1.trans hb2)
  | false =>
    cases f2 with
    | true =>
      go_enter Tryd.func6, Tryd.ntmps6
      go_wp2_with fail
      refine (HF.out _ HEl.out).mono ?_; rintro ee w1 ⟨rfl, hb1⟩
      go_wp2_with fail
      refine (HG.out _ (HEm.out.bl hb1)).mono ?_; rintro ee w2 ⟨rfl, hb2⟩
      have hb1 := hb1.trans hb2
      clear hb2
      go_wp2_with fail
      refine (HAw.out _ (HE.out.bl hb1)).mono ?_; rintro ee w2 ⟨rfl, hb2⟩
      go_wp2_with fail
      go_ret
      exact RB.mk rfl (hb1.trans hb2)
    | false =>
      go_enter Tryd.func6, Tryd.ntmps6
      go_wp2_with fail
      refine (HF.out _ HEl.out).mono ?_; rintro ee w1 ⟨rfl, hb1⟩
      go_wp2_with fail
      refine (HG.out _ (HEm.out.bl hb1)).mono ?_; rintro ee w2 ⟨rfl, hb2⟩
      have hb := hb1.trans hb2
      clear hb1 hb2
      go_wp2_with fail
      refine (HS.out _ (HEl.out.bl hb)).mono ?_; rintro ee w11 ⟨v, rfl, ⟨v4, rfl, hO⟩, hbA⟩
      obtain ⟨aP, cP, rfl, hSP, -, -⟩ := hO.ents HSok.out
      have HSP := Lib.hid hSP
      have hbA := hb.trans hbA
      clear hb hO hSP
      go_wp2_with fail
      refine (HRS.out _ (HEl.out.bl hbA)).mono ?_; rintro ee w12 ⟨v, rfl, ⟨v5, rfl, hO⟩, hbB⟩
      obtain ⟨aQ, cQ, rfl, hSQ, -, -⟩ := hO.ents HSok.out
      have HSQ := Lib.hid hSQ
      have HSP5 := Lib.hid (HSP.out.bl hbB)
      have hbB := hbA.trans hbB
      clear hbA hO hSQ HSP
      go_wp2_with fail
      refine (HS1.out _ _ _ _ _ HSP5.out HSQ.out).mono ?_; rintro ee w9 ⟨rfl, hb9⟩
      have hb := hbB.trans hb9
      clear hbB hb9 HSP5 HSQ
      go_wp2_with fail
      refine (HN.out _ (HEl.out.bl hb)).mono ?_; rintro ee w21 ⟨v, rfl, ⟨v4, rfl, hO⟩, hbA⟩
      obtain ⟨aP, cP, rfl, hSP, -, -⟩ := hO.ents HNok.out
      have HSP := Lib.hid hSP
      have hbA := hb.trans hbA
      clear hb hO hSP
      go_wp2_with fail
      refine (HRN.out _ (HEl.out.bl hbA)).mono ?_; rintro ee w22 ⟨v, rfl, ⟨v5, rfl, hO⟩, hbB⟩
      obtain ⟨aQ, cQ, rfl, hSQ, -, -⟩ := hO.ents HNok.out
      have HSQ := Lib.hid hSQ
      have HSP5 := Lib.hid (HSP.out.bl hbB)
      have hbB := hbA.trans hbB
      clear hbA hO hSQ HSP
      go_wp2_with fail
      refine (HS2.out _ _ _ _ _ HSP5.out HSQ.out).mono ?_; rintro ee w9 ⟨rfl, hb9⟩
      have hb := hbB.trans hb9
      clear hbB hb9 HSP5 HSQ
      go_wp2_with fail
      refine (HO.out _ (HEl.out.bl hb) (HEm.out.bl hb)).mono ?_; rintro ee w31 ⟨v, rfl, ⟨v4, rfl, hO⟩, hbA⟩
      obtain ⟨aP, cP, rfl, hSP, -, -⟩ := hO.ents HOok.out
      have HSP := Lib.hid hSP
      have hbA := hb.trans hbA
      clear hb hO hSP
      go_wp2_with fail
      refine (HRO.out _ (HEl.out.bl hbA) (HEm.out.bl hbA)).mono ?_; rintro ee w32 ⟨v, rfl, ⟨v5, rfl, hO⟩, hbB⟩
      obtain ⟨aQ, cQ, rfl, hSQ, -, -⟩ := hO.ents HOok.out
      have HSQ := Lib.hid hSQ
      have HSP5 := Lib.hid (HSP.out.bl hbB)
      have hbB := hbA.trans hbB
      clear hbA hO hSQ HSP
      go_wp2_with fail
      refine (HS3.out _ _ _ _ _ HSP5.out HSQ.out).mono ?_; rintro ee w9 ⟨rfl, hb9⟩
      have hb := hbB.trans hb9
      clear hbB hb9 HSP5 HSQ
      have hb1 := hb
      clear hb
      go_wp2_with fail
      refine (HAw.out _ (HE.out.bl hb1)).mono ?_; rintro ee w2 ⟨rfl, hb2⟩
      go_wp2_with fail
      go_ret
      exact RB.mk rfl (hb1.trans hb2)
end Go.Proofs.YtbdiiopmjaeaaaaDoor

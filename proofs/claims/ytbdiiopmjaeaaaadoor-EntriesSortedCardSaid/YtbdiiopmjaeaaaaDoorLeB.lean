
/-
  The law EntriesNewest walked.
-/
import Derived.Test.YtbdiiopmjaeaaaaDoorEqA
import Derived.Test.YtbdiiopmjaeaaaaDoorEqB
namespace Go.Proofs.YtbdiiopmjaeaaaaDoor
open Go.RowKit Go.Sort
set_option linter.unusedSimpArgs false
set_option linter.unusedVariables false
set_option maxRecDepth 100000

/-! ### Plain -/
theorem cmpct_len (l : List Ent) : (cmpct l).length ≤ l.length := by
  have h := keepD_len l.zipIdx none
  have e := congrArg List.length (keepD_cmpct l.zipIdx)
  rw [zip_fst, List.length_map] at e
  rw [List.length_zipIdx] at h
  omega
theorem newest_len (l : List Ent) : (newest l).length ≤ l.length := by
  have := cmpct_len (isort ocmp l)
  rw [isort_len] at this; exact this
theorem atGo_of : ∀ (l : List Ent) (i : Nat) (s : ByteArray) (y : Ent), y ∈ l → y.key = s → ∃ (r : Nat) (z : Ent), atGo i s l = ((i + r : Nat) : Int) ∧ l[r]? = some z ∧ z.key = s
  | [], _, _, _, h, _ => by cases h
  | x :: l, i, s, y, h, e => by
    rw [atGo_cons]
    by_cases hx : x.key = s
    · rw [if_pos (by rw [hx])]
      exact ⟨0, x, by simp, rfl, hx⟩
    · rw [if_neg (fun e => hx (str_ext e))]
      have hy : y ∈ l := by
        rcases List.mem_cons.1 h with rfl | h
        · exact absurd e hx
        · exact h
      obtain ⟨r, z, h1, h2, h3⟩ := atGo_of l (i + 1) s y hy e
      exact ⟨r + 1, z, by rw [h1]; congr 1; omega, by simpa using h2, h3⟩
theorem kchk_of {x : Ent} (h : echk x = 0) : kchk x.key = 0 := by
  have := (echk_ok h).1
  unfold kchk
  rw [if_neg (by omega)]
/-- What the law asks of the newest. -/
structure NewOK (l N : List Ent) : Prop where
  chk : (clchk N).2 = 0
  srt : esort N = (N, 0)
  new : enewest N = (N, 0)
  mem : ∀ x ∈ N, x ∈ l
  fnd : ∀ x ∈ l, ∃ (r : Nat) (z : Ent), fnd N x.key = ((r : Int), 0) ∧ N[r]? = some z ∧ x.seq ≤ z.seq
theorem newOK {l N : List Ent} (h : enewest l = (N, 0)) : NewOK l N := by
  unfold enewest at h
  split at h
  · cases h
  · rename_i h1
    split at h
    · rename_i h2; injection h with _ h; exact absurd h h2
    · rename_i h2
      injection h with h _
      subst h
      have ok := (eall_iff l).1 (by omega)
      have okN : ∀ x ∈ newest l, echk x = 0 := fun x hx => ok x (newest_mem hx)
      have hA := newest_asc l
      have hlen := newest_len l
      have hea := (eall_iff (newest l)).2 okN
      have hcl := (clchk_ok (newest l)).2 ⟨by omega, okN, hA⟩
      refine ⟨hcl, ?_, ?_, fun x hx => newest_mem hx, fun x hx => ?_⟩
      · unfold esort
        rw [if_neg (by omega), if_neg (by omega), isort_of _ (ascK_le hA)]
      · unfold enewest
        rw [if_neg (by omega), if_neg (by omega), newest_of hA]
      · obtain ⟨y, hy, e⟩ := newest_key hx
        obtain ⟨r, z, h3, h4, h5⟩ := atGo_of (newest l) 0 x.key y hy e
        rw [Nat.zero_add] at h3
        refine ⟨r, z, ?_, h4, newest_max (List.mem_of_getElem? h4) hx h5.symm⟩
        unfold Go.Proofs.YtbdiiopmjaeaaaaDoor.fnd
        rw [if_neg (by omega), kchk_of (ok x hx), if_neg (by simp), h3, if_neg (by omega)]
theorem enewest_bad {l N : List Ent} {e : Int} (h : enewest l = (N, e)) (he : e ≠ 0) : N = [] := by
  unfold enewest at h
  split at h
  · injection h with h _; exact h.symm
  · split at h
    · injection h with h _; exact h.symm
    · injection h with _ h; exact absurd h.symm he
/-! ### The walk -/
theorem ok_of_mem {l N : List Ent} (ho : ∀ x ∈ l, x.ok) (h : ∀ x ∈ N, x ∈ l) : ∀ x ∈ N, x.ok := fun x hx => ho x (h x hx)
theorem take_mem {l : List Ent} {k : Nat} {x : Ent} (h : l[k]? = some x) (y : Ent) : y ∈ l.take (k + 1) ↔ y ∈ l.take k ∨ x = y := by
  obtain ⟨hk, rfl⟩ := List.getElem?_eq_some_iff.1 h
  rw [List.take_succ_eq_append_getElem hk, List.mem_append, List.mem_singleton]
  exact or_congr Iff.rfl ⟨fun h => h.symm, fun h => h.symm⟩
set_option maxHeartbeats 16000000 in
theorem lawNewestE (a : Option Addr) (c : Nat) (l : List Ent) (w : World) (hl : Ents w a l) (hn : l.length ≤ maxLen) (hE : PEnv w) : Calls Tryd.prog 5 #[.slice a l.length c] w (RB w (.bool true)) := by
  have hln := hn
  unfold maxLen at hln
  have hF := fun w h => lawFarE a c l w h hn
  have hAw := fun w h => awakeE w h
  have hNw := fun w h => entNewest a c l w h hn
  obtain ⟨f, hf⟩ : ∃ b, efar l = b := ⟨_, rfl⟩
  rw [hf] at hF
  have HF := Lib.hid hF
  have HAw := Lib.hid hAw
  have HE := Lib.hid hE
  have HL := Lib.hid hl
  have HOk := Lib.hid hl.ok
  obtain ⟨⟨N, e⟩, hN⟩ : ∃ p, enewest l = p := ⟨_, rfl⟩
  rw [hN] at hNw
  have HNw := Lib.hid hNw
  have HN := Lib.hid hN
  clear hF hAw hE hl hf hNw hN
  cases f with
  | true =>
    go_enter Tryd.func5, Tryd.ntmps5
    go_wp2_with fail
    refine (HF.out _ HL.out).mono ?_; rintro ee w1 ⟨rfl, hb1⟩
    go_wp2_with fail
    refine (HAw.out _ (HE.out.bl hb1)).mono ?_; rintro ee w2 ⟨rfl, hb2⟩
    go_wp2_with fail
    go_ret
    exact RB.mk rfl (hb1.trans hb2)
  | false =>
    by_cases he : e = 0
    · subst he
      have hok := newOK HN.out
      have hlenN : N.length ≤ 5000 := ((clchk_ok N).1 hok.chk).1
      have hmaxN : N.length ≤ maxLen := by unfold maxLen; omega
      have hCk := fun a c w h => entCheckList a c N w h hmaxN
      have hSr := fun a c w h => entSort a c N w h hmaxN
      have hNn := fun a c w h => entNewest a c N w h hmaxN
      have hSm := fun a b c d w h k => refSameE a b c d N N w h k hmaxN hmaxN
      rw [hok.srt] at hSr
      rw [hok.new] at hNn
      obtain ⟨⟨ck, z⟩, hck⟩ : ∃ p, clchk N = p := ⟨_, rfl⟩
      have hz : z = 0 := by have := hok.chk; rw [hck] at this; exact this
      subst hz
      rw [hck] at hCk
      rw [decide_eq_true rfl] at hSm
      have hFn := fun a c s w h hs => entFind a c N s w h hmaxN hs
      have HCk := Lib.hid hCk
      have HSr := Lib.hid hSr
      have HNn := Lib.hid hNn
      have HSm := Lib.hid hSm
      have HFn := Lib.hid hFn
      have HON := Lib.hid (ok_of_mem HOk.out hok.mem)
      have HOK := Lib.hid hok
      have HlenN := Lib.hid hlenN
      clear hCk hSr hNn hSm hFn hok hck
      go_enter Tryd.func5, Tryd.ntmps5
      go_wp2_with fail
      refine (HF.out _ HL.out).mono ?_; rintro ee w1 ⟨rfl, hb1⟩
      go_wp2_with fail
      refine (HNw.out _ (HL.out.bl hb1)).mono ?_; rintro ee w2 ⟨v, rfl, ⟨s, rfl, hO⟩, hb2⟩
      obtain ⟨aN, cN, rfl, hSN, -, -⟩ := hO.ents HON.out
      have HEN := Lib.hid hSN
      have hb := hb1.trans hb2
      clear hO hSN hb1 hb2
      go_wp2_with fail
      refine (HCk.out _ _ _ HEN.out).mono ?_; rintro ee w3 ⟨rfl, hb3⟩
      go_wp2_with fail
      refine (HSr.out _ _ _ (HEN.out.bl hb3)).mono ?_; rintro ee w4 ⟨v, rfl, ⟨s, rfl, hO⟩, hb4⟩
      obtain ⟨aS, cS, rfl, hSS, -, -⟩ := hO.ents HON.out
      have HES := Lib.hid hSS
      have hq := hb3.trans hb4
      clear hO hSS hb3 hb4
      go_wp2_with fail
      refine (HNn.out _ _ _ (HEN.out.bl hq)).mono ?_; rintro ee w5 ⟨v, rfl, ⟨s, rfl, hO⟩, hb5⟩
      obtain ⟨aM, cM, rfl, hSM, -, -⟩ := hO.ents HON.out
      have HEM := Lib.hid hSM
      have hq5 := hq.trans hb5
      clear hO hSM
      go_wp2_with fail
      refine (HSm.out _ _ _ _ _ (HES.out.bl hb5) (HEN.out.bl hq5)).mono ?_; rintro ee w6 ⟨rfl, hb6⟩
      have hq6 := hq5.trans hb6
      clear hb5 hq
      go_wp2_with fail
      refine (HSm.out _ _ _ _ _ (HEM.out.bl hb6) (HEN.out.bl hq6)).mono ?_; rintro ee w7 ⟨rfl, hb7⟩
      have hq7 := hq6.trans hb7
      have HEN7 := Lib.hid (HEN.out.bl hq7)
      have hbw := hb.trans hq7
      have HL7 := Lib.hid (HL.out.bl hbw)
      clear hq5 hq6 hb6 hb7 hq7 hb HES HEM HEN
      go_wp2_with fail
      go_loopg [9] N.length (fun g v wr => ∃ i : Nat, v = .int .i64 i ∧ Hid (i ≤ N.length ∧ g = N.length - i) ∧ Bl w7 wr)
      case atStart => exact ⟨0, rfl, Lib.hid ⟨by omega, rfl⟩, Bl.refl _⟩
      case round =>
        obtain ⟨i, rfl, H, hb⟩ := hrel
        by_cases hi : i < N.length
        · obtain ⟨x, hx⟩ : ∃ x, N[i]? = some x := ⟨_, List.getElem?_eq_getElem hi⟩
          have hxl : x ∈ l := HOK.out.mem x (List.mem_of_getElem? hx)
          have HXl := Lib.hid hxl
          obtain ⟨g1, o1, rfl, hat⟩ := HEN7.out.get hi
          have hxe := (hat i x hx).bl hb
          have HXe := Lib.hid hxe
          have HMo := Lib.hid (show N.length - (i + 1) < gk by have := H.out; omega)
          clear hx hxl hat hxe
          go_wp2_with fail
          go_loopg [10, 11] l.length (fun g v1 v2 wr2 => ∃ b : Bool, ∃ k : Nat, v1 = .bool b ∧ v2 = .int .i64 k ∧ Hid ((b = true ↔ x ∈ l.take k) ∧ k ≤ l.length ∧ g = l.length - k) ∧ Bl wr wr2)
          case atStart => exact ⟨false, 0, rfl, rfl, Lib.hid ⟨by simp, by omega, rfl⟩, Bl.refl _⟩
          case round =>
            obtain ⟨b, k, rfl, rfl, H2, hb2⟩ := hrel
            by_cases hk : k < l.length
            · obtain ⟨y, hy⟩ : ∃ y, l[k]? = some y := ⟨_, List.getElem?_eq_getElem hk⟩
              obtain ⟨g2, o2, rfl, hat⟩ := HL7.out.get hk
              obtain ⟨y0, y1, y2, y3⟩ := ((hat k y hy).bl hb).bl hb2
              obtain ⟨x0, x1, x2, x3⟩ := HXe.out.bl hb2
              have htk := take_mem hy x
              have HT := Lib.hid htk
              have HMs := Lib.hid (show l.length - (k + 1) < gk by have := H2.out; omega)
              clear hat hy htk
              cases b with
              | true =>
                go_wp2_with fail
                go_quiet (fail)
                go_wp2_with fail
                go_roundg (l.length - (k + 1))
                case rel =>
                  refine ⟨true, k + 1, rfl, by go_num, Lib.hid ⟨?_, by omega, rfl⟩, (by repeat (first | assumption | exact Bl.refl _ | apply Bl.drewN | apply Bl.drew | apply Bl.alloc | (refine Bl.dr ?_ (by assumption)) | (refine Bl.trans ?_ (by assumption))))⟩
                  exact ⟨fun _ => HT.out.2 (.inl (H2.out.1.1 (by simp))), fun _ => rfl⟩
                case measure => exact HMs.out
              | false =>
                have hno : ¬ x ∈ l.take k := fun h => by have := H2.out.1.2 h; cases this
                have HNo := Lib.hid hno
                clear hno
                by_cases he : y = x
                · subst he
                  go_wp2_with fail
                  go_quiet (fail)
                  go_wp2_with fail
                  go_roundg (l.length - (k + 1))
                  case rel =>
                    refine ⟨true, k + 1, rfl, by go_num, Lib.hid ⟨?_, by omega, rfl⟩, (by repeat (first | assumption | exact Bl.refl _ | apply Bl.drewN | apply Bl.drew | apply Bl.alloc | (refine Bl.dr ?_ (by assumption)) | (refine Bl.trans ?_ (by assumption))))⟩
                    exact ⟨fun _ => HT.out.2 (.inr (by simp)), fun _ => rfl⟩
                  case measure => exact HMs.out
                · have HNe := Lib.hid he
                  rcases ent_parts he with p0 | ⟨p0, p1⟩ | ⟨p0, p1, p2⟩ | ⟨p0, p1, p2, p3⟩
                  · clear he
                    go_wp2_with fail
                    go_quiet (fail)
                    go_wp2_with fail
                    go_roundg (l.length - (k + 1))
                    case rel =>
                      refine ⟨false, k + 1, rfl, by go_num, Lib.hid ⟨?_, by omega, rfl⟩, (by repeat (first | assumption | exact Bl.refl _ | apply Bl.drewN | apply Bl.drew | apply Bl.alloc | (refine Bl.dr ?_ (by assumption)) | (refine Bl.trans ?_ (by assumption))))⟩
                      exact ⟨fun h => (by cases h), fun h => ((HT.out.1 h).elim HNo.out HNe.out).elim⟩
                    case measure => exact HMs.out
                  · clear he
                    go_wp2_with fail
                    go_quiet (fail)
                    go_wp2_with fail
                    go_roundg (l.length - (k + 1))
                    case rel =>
                      refine ⟨false, k + 1, rfl, by go_num, Lib.hid ⟨?_, by omega, rfl⟩, (by repeat (first | assumption | exact Bl.refl _ | apply Bl.drewN | apply Bl.drew | apply Bl.alloc | (refine Bl.dr ?_ (by assumption)) | (refine Bl.trans ?_ (by assumption))))⟩
                      exact ⟨fun h => (by cases h), fun h => ((HT.out.1 h).elim HNo.out HNe.out).elim⟩
                    case measure => exact HMs.out
                  · clear he
                    go_wp2_with fail
                    go_quiet (fail)
                    go_wp2_with fail
                    go_roundg (l.length - (k + 1))
                    case rel =>
                      refine ⟨false, k + 1, rfl, by go_num, Lib.hid ⟨?_, by omega, rfl⟩, (by repeat (first | assumption | exact Bl.refl _ | apply Bl.drewN | apply Bl.drew | apply Bl.alloc | (refine Bl.dr ?_ (by assumption)) | (refine Bl.trans ?_ (by assumption))))⟩
                      exact ⟨fun h => (by cases h), fun h => ((HT.out.1 h).elim HNo.out HNe.out).elim⟩
                    case measure => exact HMs.out
                  · clear he
                    go_wp2_with fail
                    go_quiet (fail)
                    go_wp2_with fail
                    go_roundg (l.length - (k + 1))
                    case rel =>
                      refine ⟨false, k + 1, rfl, by go_num, Lib.hid ⟨?_, by omega, rfl⟩, (by repeat (first | assumption | exact Bl.refl _ | apply Bl.drewN | apply Bl.drew | apply Bl.alloc | (refine Bl.dr ?_ (by assumption)) | (refine Bl.trans ?_ (by assumption))))⟩
                      exact ⟨fun h => (by cases h), fun h => ((HT.out.1 h).elim HNo.out HNe.out).elim⟩
                    case measure => exact HMs.out
            · have hbt : b = true := H2.out.1.2 (by rw [List.take_of_length_le (by omega)]; exact HXl.out)
              subst hbt
              have hk' : ¬ (k : Int) < (l.length : Int) := by omega
              go_wp2_with fail
              go_roundg (N.length - (i + 1))
              case rel => exact ⟨i + 1, by go_num, Lib.hid ⟨by omega, rfl⟩, hb.trans hb2⟩
              case measure => exact HMo.out
        · have hi' : ¬ (i : Int) < (N.length : Int) := by omega
          go_wp2_with fail
          go_loopg [12] l.length (fun g v wr2 => ∃ k : Nat, v = .int .i64 k ∧ Hid (k ≤ l.length ∧ g = l.length - k) ∧ Bl w7 wr2)
          case atStart => exact ⟨0, rfl, Lib.hid ⟨by omega, rfl⟩, hb⟩
          case round =>
            clear hb
            obtain ⟨k, rfl, H2, hb⟩ := hrel
            by_cases hk : k < l.length
            · obtain ⟨y, hy⟩ : ∃ y, l[k]? = some y := ⟨_, List.getElem?_eq_getElem hk⟩
              obtain ⟨r, z, hfn, hz, hsq⟩ := HOK.out.fnd y (List.mem_of_getElem? hy)
              obtain ⟨g2, o2, rfl, hat⟩ := HL7.out.get hk
              obtain ⟨y0, y1, y2, y3⟩ := (hat k y hy).bl hb
              have hr := (List.getElem?_eq_some_iff.1 hz).1
              obtain ⟨g1, o1, rfl, hatN⟩ := HEN7.out.get hr
              have hzN := hatN r z hz
              have hyo := (HOk.out y (List.mem_of_getElem? hy)).1
              have hFn := fun w h => HFn.out (some ⟨g1, o1, none⟩) cN y.key w h hyo
              rw [hfn] at hFn
              have HFk := Lib.hid hFn
              have HZ := Lib.hid hzN
              have HMs := Lib.hid (show l.length - (k + 1) < gk by have := H2.out; omega)
              have HC := Lib.hid (fun W (h : Bl wr W) => (⟨h.cell y0, h.cell y1, h.cell y2, h.cell y3⟩ : EntAt W g2 (o2 + k * 4) y))
              have i1 : ¬ (r : Int) < 0 := by omega
              have i2 : ¬ (N.length : Int) ≤ (r : Int) := by omega
              have i3 : ¬ z.seq < y.seq := by omega
              have d1 : decide ((r : Int) < 0) = false := by rw [decide_eq_false_iff_not]; exact i1
              have d2 : decide (N.length ≤ r) = false := by rw [decide_eq_false_iff_not]; omega
              clear hfn hz hsq hat hy hFn hzN hyo hatN
              go_wp2_with fail
              refine (HFk.out _ (HEN7.out.bl hb)).mono ?_; rintro ee w8 ⟨rfl, hb8⟩
              obtain ⟨q0, q1, q2, q3⟩ := HC.out _ hb8
              obtain ⟨z0, z1, z2, z3⟩ := HZ.out.bl (hb.trans hb8)
              go_wp2_with fail
              go_quiet (fail)
              go_wp2_with fail
              go_roundg (l.length - (k + 1))
              case rel => exact ⟨k + 1, by go_num, Lib.hid ⟨by omega, rfl⟩, (hb.trans hb8).drewN _⟩
              case measure => exact HMs.out
            · have hk' : ¬ (k : Int) < (l.length : Int) := by omega
              go_wp2_with fail
              refine (HAw.out _ (HE.out.bl (hbw.trans hb))).mono ?_; rintro ee w8 ⟨rfl, hb8⟩
              go_wp2_with fail
              go_ret
              exact RB.mk rfl ((hbw.trans hb).trans hb8)
    · have hNil := enewest_bad HN.out he
      subst hNil
      have e1 : (e != 0) = true := by rw [bne_iff_ne]; exact he
      clear he
      go_enter Tryd.func5, Tryd.ntmps5
      go_wp2_with fail
      refine (HF.out _ HL.out).mono ?_; rintro ee w1 ⟨rfl, hb1⟩
      go_wp2_with fail
      refine (HNw.out _ (HL.out.bl hb1)).mono ?_; rintro ee w2 ⟨v, rfl, ⟨s, rfl, hO⟩, hb2⟩
      obtain ⟨aN, cN, rfl, hSN, -, -⟩ := hO.ents (by simp)
      have hb := hb1.trans hb2
      clear hO hSN hb1 hb2
      go_wp2_with fail
      refine (HAw.out _ (HE.out.bl hb)).mono ?_; rintro ee w3 ⟨rfl, hb3⟩
      go_wp2_with fail
      go_ret
      exact RB.mk rfl (hb.trans hb3)
end Go.Proofs.YtbdiiopmjaeaaaaDoor

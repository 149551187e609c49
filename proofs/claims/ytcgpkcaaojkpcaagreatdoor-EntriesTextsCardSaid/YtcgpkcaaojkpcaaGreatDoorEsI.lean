
/-
  The stable sort of a row of entries.
-/
import Derived.Test.YtcgpkcaaojkpcaaGreatDoorEsG
namespace Go.Proofs.YtcgpkcaaojkpcaaGreatDoor
open Go.RowKit Go.Sort
set_option linter.unusedSimpArgs false
set_option linter.unusedVariables false
set_option maxRecDepth 100000

theorem dsort_srt {B : List DE} (h : Asc B) : Srt ocmp (isort dcmp B) := isort_srt ocmp_pre h
theorem asc_right {A B : List DE} (h : Asc (A ++ B)) : Asc B := (List.pairwise_append.1 h).2.1
theorem asc_left {A B : List DE} (h : Asc (A ++ B)) : Asc A := (List.pairwise_append.1 h).1
/-- A row whose first part is done, in blocks of bs, the rest as it came. -/
def Done (bs : Nat) (D0 S T0 : List DE) (a : Nat) : Prop := a = S.length ∧ (∃ S0, D0 = S0 ++ T0 ∧ S0.length = a) ∧ ∀ T, Blk ocmp bs T0 T → Blk ocmp bs D0 (S ++ T)
theorem Done.start (bs : Nat) (D0 : List DE) : Done bs D0 [] D0 0 := ⟨rfl, ⟨[], rfl, rfl⟩, fun T h => by simpa using h⟩
theorem Done.asc {bs a : Nat} {D0 S T0 : List DE} (h : Done bs D0 S T0 a) (ha : Asc D0) : Asc T0 := by
  obtain ⟨_, ⟨S0, e, _⟩, _⟩ := h
  rw [e] at ha; exact asc_right ha
theorem Done.len {bs a : Nat} {D0 S T0 : List DE} (h : Done bs D0 S T0 a) : D0.length = a + T0.length := by
  obtain ⟨_, ⟨S0, e, l⟩, _⟩ := h
  rw [e, List.length_append, l]
theorem Done.step {bs a : Nat} {D0 S A0 T0 M : List DE} (h : Done bs D0 S (A0 ++ T0) a) (hl : M.length = bs) (hp : M.Perm A0) (hs : Srt ocmp M) : Done bs D0 (S ++ M) T0 (a + bs) := by
  obtain ⟨h1, ⟨S0, e, l⟩, h3⟩ := h
  refine ⟨by simp; omega, ⟨S0 ++ A0, by rw [e]; simp, by rw [List.length_append, l, ← hp.length_eq, hl]⟩, fun T hT => ?_⟩
  rw [List.append_assoc]
  exact h3 _ (.cons hl hp hs hT)
set_option maxHeartbeats 8000000 in
theorem slStable (w0 : World) (blk off cap n : Nat) (D0 : List DE) (hn : n = D0.length) (hm : n ≤ 400000) (hA : Asc D0) (w : World) (S : RW w0 blk off D0.toArray w) :
    Calls Tryz.prog 73 #[.slice (some ⟨blk, off, none⟩) n cap, .int .i64 n, byV] w fun e w' => e = .returned (.tuple #[]) ∧ ∃ D : List DE, D.map Prod.fst = isort ocmp (D0.map Prod.fst) ∧ RW w0 blk off D.toArray w' := by
  have HS := Lib.hid S
  have HA := Lib.hid hA
  have HN := Lib.hid hn
  have HIn := Lib.hid (fun X B Y a b ha hb hn w S => slInsertion w0 blk off cap n X B Y a b ha hb hn (by omega) w S)
  have HMg := Lib.hid (fun X L R Y a m b w h1 h2 h3 h4 h5 h6 h7 h8 h9 S => slSymMerge w0 blk off cap n (by omega) X L R Y a m b w h1 h2 h3 h4 h5 h6 h7 h8 h9 S)
  unfold MergeAt at HMg
  unfold byV at HIn HMg ⊢
  clear S hA hn
  go_enter Tryz.func73, Tryz.ntmps73
  go_wp2_with fail
  go_loopg [7, 8] n (fun g v1 v2 wr => ∃ a b : Nat, v1 = .int .i64 a ∧ v2 = .int .i64 b ∧ Hid (b = a + 20 ∧ a ≤ n ∧ g = n - a ∧ ∃ S T0, Done 20 D0 S T0 a ∧ RW w0 blk off (S ++ T0).toArray wr))
  case atStart => exact ⟨0, 20, rfl, rfl, Lib.hid ⟨rfl, by omega, rfl, [], D0, Done.start _ _, HS.out⟩⟩
  case round =>
    clear HS
    obtain ⟨a, b, rfl, rfl, H⟩ := hrel
    obtain ⟨hb, han, hg, S, T0, hD, hS⟩ := H.out
    have hlen := hD.len
    have hn := HN.out
    by_cases hbn : b ≤ n
    · obtain ⟨A0, T1, hT, hAl⟩ : ∃ A0 T1, T0 = A0 ++ T1 ∧ A0.length = 20 := ⟨T0.take 20, T0.drop 20, (List.take_append_drop 20 T0).symm, by rw [List.length_take]; omega⟩
      subst hT
      have hasc := asc_left (hD.asc HA.out)
      have e1 := HIn.out S A0 T1 a b hD.1 (by omega) (by simp at hlen; omega) wr (by simpa only [List.append_assoc] using hS)
      have E1 := Lib.hid e1
      have HD := Lib.hid (hD.step (M := isort dcmp A0) (by rw [isort_len]; exact hAl) (isort_perm A0) (dsort_srt hasc))
      have ha2 : a ≤ 1000000 := by omega
      have hb2 : b ≤ 1000000 := by omega
      have HMs := Lib.hid (And.intro hb (show n - (a + 20) < gk by omega))
      clear hb han hg hD hS hlen hn e1 hasc hAl H
      go_wp2_with fail
      refine E1.out.mono ?_; rintro e w1 ⟨rfl, hS1⟩
      have HS1 := Lib.hid hS1
      clear hS1
      go_wp2_with fail
      go_roundg (n - (a + 20))
      case rel =>
        have hb := HMs.out.1
        exact ⟨b, b + 20, rfl, by go_num, Lib.hid ⟨rfl, hbn, by omega, _, T1, by rw [hb]; exact HD.out, HS1.out⟩⟩
      case measure => exact HMs.out.2
    · have e1 := HIn.out S T0 [] a n hD.1 (by omega) (by simp) wr (by simpa only [List.append_nil] using hS)
      rw [List.append_nil] at e1
      have E1 := Lib.hid e1
      have hT20 : T0.length ≤ 20 := by omega
      have HD := Lib.hid (hD.2.2 (isort dcmp T0) (.last (by rw [isort_len]; exact hT20) (isort_perm T0) (dsort_srt (hD.asc HA.out))))
      have hbn' : ¬ (b : Int) ≤ (n : Int) := by omega
      have ha2 : a ≤ 1000000 := by omega
      clear hb han hg hD hS hlen hn e1 hT20 H hbn
      go_wp2_with fail
      refine E1.out.mono ?_; rintro e w1 ⟨rfl, hS1⟩
      have HS1 := Lib.hid (show RW w0 blk off (S ++ isort dcmp T0).toArray w1 from hS1)
      generalize S ++ isort dcmp T0 = D1 at HD HS1
      clear hS1 E1
      go_wp2_with fail
      go_loopg [6] n (fun g v1 wr => ∃ bs : Nat, v1 = .int .i64 bs ∧ Hid (20 ≤ bs ∧ bs ≤ 2 * n + 20 ∧ n - bs ≤ g ∧ ∃ D, Blk ocmp bs D0 D ∧ RW w0 blk off D.toArray wr))
      case atStart => exact ⟨20, rfl, Lib.hid ⟨by omega, by omega, by omega, D1, HD.out, HS1.out⟩⟩
      case round =>
        clear HS1 HD
        obtain ⟨bs, rfl, H⟩ := hrel
        obtain ⟨hb1, hb2, hg, D, hD, hS⟩ := H.out
        have hn := HN.out
        by_cases hlt : bs < n
        · have hb3 : bs ≤ 1000000 := by omega
          have HD := Lib.hid hD
          have HS := Lib.hid hS
          have HMo := Lib.hid (And.intro hb1 (show n - 2 * bs < gk by omega))
          clear hb1 hb2 hg hD hS hn H
          go_wp2_with fail
          go_loopg [7, 8] n (fun g v1 v2 wr => ∃ a b : Nat, v1 = .int .i64 a ∧ v2 = .int .i64 b ∧ Hid (b = a + 2 * bs ∧ a ≤ n ∧ g = n - a ∧ ∃ S T0 T, Done (2 * bs) D0 S T0 a ∧ Blk ocmp bs T0 T ∧ RW w0 blk off (S ++ T).toArray wr))
          case atStart => exact ⟨0, 2 * bs, rfl, by go_num, Lib.hid ⟨by omega, by omega, rfl, [], D0, D, Done.start _ _, HD.out, HS.out⟩⟩
          case round =>
            clear HS HD
            obtain ⟨a, b, rfl, rfl, H⟩ := hrel
            obtain ⟨hb, han, hg, S, T0, T, hD, hB, hS⟩ := H.out
            have hlen := hD.len
            have hTl := hB.perm.length_eq
            have hn := HN.out
            have hasc := hD.asc HA.out
            have hbs := HMo.out.1
            by_cases hbn : b ≤ n
            · obtain ⟨A0, A, T1, U1, e1, e2, l1, p1, s1, hB1⟩ := hB.first_le (by omega)
              subst e1 e2
              have hT1 := hB1.perm.length_eq
              simp only [List.length_append] at hTl hlen
              obtain ⟨B0, B, T2, U2, e3, e4, l2, p2, s2, hB2⟩ := hB1.first_le (by omega)
              subst e3 e4
              have hT2 := hB2.perm.length_eq
              simp only [List.length_append] at hTl hlen
              have q1 := HMg.out S A B U2 a (a + bs) b wr (by omega) (by omega) hD.1 (by omega) (by omega) (by omega) s1 s2 (asc_cross (asc_left (by rw [← List.append_assoc] at hasc; exact hasc)) p1 p2) (by simpa only [List.append_assoc] using hS)
              have hd : ∀ M : List DE, M.Perm (A ++ B) → Srt ocmp M → Done (2 * bs) D0 (S ++ M) T2 (a + 2 * bs) := fun M hp hs =>
                Done.step (A0 := A0 ++ B0) (by rw [List.append_assoc]; exact hD) (by rw [hp.length_eq, List.length_append]; omega) (hp.trans (p1.append p2)) hs
              push_cast at q1
              have E1 := Lib.hid q1
              have HDn := Lib.hid (And.intro hd hB2)
              have ha2 : a ≤ 1000000 := by omega
              have hb4 : b ≤ 1000000 := by omega
              have HMs := Lib.hid (And.intro hb (show n - (a + 2 * bs) < gk by omega))
              clear hb han hg hD hB hS hlen hTl hn hasc hbs l1 p1 s1 hB1 hT1 l2 p2 s2 hB2 hT2 q1 hd H
              go_wp2_with fail
              refine E1.out.mono ?_; rintro e w1 ⟨rfl, M, hp, hs, hS1⟩
              have HS1 := Lib.hid (And.intro hp (And.intro hs hS1))
              clear hp hs hS1
              go_wp2_with fail
              go_roundg (n - (a + 2 * bs))
              case rel =>
                have hb := HMs.out.1
                exact ⟨b, b + 2 * bs, rfl, by go_num, Lib.hid ⟨rfl, hbn, by omega, _, T2, U2, by rw [hb]; exact HDn.out.1 M HS1.out.1 HS1.out.2.1, HDn.out.2, HS1.out.2.2⟩⟩
              case measure => exact HMs.out.2
            · have hbn' : ¬ (b : Int) ≤ (n : Int) := by omega
              have ha2 : a ≤ 1000000 := by omega
              by_cases hmn : a + bs < n
              · obtain ⟨A0, A, T1, U1, e1, e2, l1, p1, s1, hB1⟩ := hB.first (by omega)
                subst e1 e2
                have hT1 := hB1.perm.length_eq
                simp only [List.length_append] at hTl hlen
                have q1 := HMg.out S A U1 [] a (a + bs) n wr (by omega) (by omega) hD.1 (by omega) (by omega) (by simp) s1 (hB1.whole (by omega)) (asc_cross hasc p1 hB1.perm) (by simpa only [List.append_assoc, List.append_nil] using hS)
                have hd : ∀ M : List DE, M.Perm (A ++ U1) → Srt ocmp M → Blk ocmp (2 * bs) D0 (S ++ M) := fun M hp hs =>
                  hD.2.2 M (.last (by rw [hp.length_eq, List.length_append]; omega) (hp.trans (p1.append hB1.perm)) hs)
                push_cast at q1
                have E1 := Lib.hid q1
                have HDn := Lib.hid hd
                have hmn' : (a : Int) + (bs : Int) < (n : Int) := by omega
                have HMs := Lib.hid (And.intro hlt HMo.out)
                clear hb han hg hD hB hS hlen hTl hn hasc hbs l1 p1 s1 hB1 hT1 q1 hd H hmn
                go_wp2_with fail
                refine E1.out.mono ?_; rintro e w1 ⟨rfl, M, hp, hs, hS1⟩
                have HS1 := Lib.hid (And.intro hp (And.intro hs hS1))
                clear hp hs hS1
                go_wp2_with fail
                go_roundg (n - 2 * bs)
                case rel =>
                  have hb1 := HMs.out.2.1
                  have hb2 := HMs.out.1
                  exact ⟨2 * bs, by go_num, Lib.hid ⟨by omega, by omega, by omega, _, HDn.out M HS1.out.1 HS1.out.2.1, by simpa only [List.append_nil] using HS1.out.2.2⟩⟩
                case measure => exact HMo.out.2
              · have hd : Blk ocmp (2 * bs) D0 (S ++ T) := hD.2.2 T (hB.short (by omega))
                have HDn := Lib.hid hd
                have HS1 := Lib.hid hS
                have hmn' : ¬ (a : Int) + (bs : Int) < (n : Int) := by omega
                have HMs := Lib.hid (And.intro hlt HMo.out)
                clear hb han hg hD hB hS hlen hTl hn hasc hbs hd H hmn
                go_wp2_with fail
                go_roundg (n - 2 * bs)
                case rel =>
                  have hb1 := HMs.out.2.1
                  have hb2 := HMs.out.1
                  exact ⟨2 * bs, by go_num, Lib.hid ⟨by omega, by omega, by omega, _, HDn.out, HS1.out⟩⟩
                case measure => exact HMo.out.2
        · have hlt' : ¬ (bs : Int) < (n : Int) := by omega
          have hDl := hD.perm.length_eq
          have hfin : ∃ D : List DE, D.map Prod.fst = isort ocmp (D0.map Prod.fst) ∧ RW w0 blk off D.toArray wr := ⟨D, stable_end ocmp_pre HA.out hD.perm (hD.whole (by omega)), hS⟩
          have HF := Lib.hid hfin
          have hb3 : bs ≤ 1000000 := by omega
          clear hb1 hb2 hg hD hS hn H hfin hDl
          go_wp2_with fail
          go_end0
          exact ⟨rfl, HF.out⟩
end Go.Proofs.YtcgpkcaaojkpcaaGreatDoor


/-
  Contracts of words: quoted forms are read.
-/
import Derived.Test.YtkbfjficmdgjpaaGreatDoorWoG
namespace Go.Proofs.YtkbfjficmdgjpaaGreatDoor
open Go.RowKit
set_option linter.unusedSimpArgs false
set_option linter.unusedVariables false
set_option maxRecDepth 100000

def uqR (l : List UInt8) : List UInt8 × Int := match unq1 l with
  | some (t, n) => (t, (n : Nat))
  | none => ([], 0)
theorem drop_head {l : List UInt8} {k : Nat} {c : UInt8} (h : l[k]? = some c) : l.drop k = c :: l.drop (k + 1) := by
  obtain ⟨hk, hz⟩ := List.getElem?_eq_some_iff.1 h
  rw [List.drop_eq_getElem_cons hk, hz]
theorem ext_dropW (r : ByteArray) (n : Nat) : (r.extract n r.size).data.toList = r.data.toList.drop n := by
  rw [ByteArray.data_extract]; simp
  rw [List.take_of_length_le (by simp)]
/-- What has been read up to a place. -/
def UqS (l : List UInt8) (k : Nat) (acc : List UInt8) : Prop := unq (l.drop 1) = (unq (l.drop k)).map (fun p => (acc ++ p.1, k - 1 + p.2))
theorem uqs_start (l : List UInt8) : UqS l 1 [] := by
  unfold UqS; cases unq (l.drop 1) <;> simp
theorem uqs_step {l acc : List UInt8} {k n : Nat} {c x : UInt8} (h : UqS l k acc) (hk : 1 ≤ k) (hc : l[k]? = some c) (h34 : c ≠ 34) (hd : dec1 (l.drop k) = some (x, n)) : UqS l (k + n) (acc ++ [x]) := by
  unfold UqS at *
  rw [h]
  rw [drop_head hc] at hd ⊢
  rw [unq_step h34 hd, ← drop_head hc, List.drop_drop]
  cases unq (l.drop (k + n)) with
  | none => rfl
  | some p => simp; omega
theorem uqs_bad {l acc : List UInt8} {k : Nat} {c : UInt8} (h : UqS l k acc) (hc : l[k]? = some c) (h34 : c ≠ 34) (hd : dec1 (l.drop k) = none) : unq (l.drop 1) = none := by
  unfold UqS at h
  rw [h]
  rw [drop_head hc] at hd ⊢
  rw [unq_bad h34 hd]; rfl
theorem uqs_end {l acc : List UInt8} {k : Nat} (h : UqS l k acc) (hk : 1 ≤ k) (hc : l[k]? = some 34) : unq (l.drop 1) = some (acc, k) := by
  unfold UqS at h
  rw [h, drop_head hc, unq_end]
  simp; omega
theorem uqs_out {l acc : List UInt8} {k : Nat} (h : UqS l k acc) (hk : l.length ≤ k) : unq (l.drop 1) = none := by
  unfold UqS at h
  rw [h, List.drop_eq_nil_of_le hk]; rfl
theorem uqR_some {l t : List UInt8} {n : Nat} (h0 : l[0]? = some 34) (h : unq (l.drop 1) = some (t, n)) : uqR l = (t, ((n + 1 : Nat) : Int)) := by
  match l, h0, h with
  | c :: r, h0, h =>
    simp at h0; subst h0
    simp at h
    unfold uqR unq1
    simp [h]
theorem uqR_none {l : List UInt8} (h0 : l[0]? = some 34) (h : unq (l.drop 1) = none) : uqR l = ([], 0) := by
  match l, h0, h with
  | c :: r, h0, h =>
    simp at h0; subst h0
    simp at h
    unfold uqR unq1
    simp [h]
theorem uqR_no {l : List UInt8} {c : UInt8} (h0 : l[0]? = some c) (h : c ≠ 34) : uqR l = ([], 0) := by
  match l, h0 with
  | c :: r, h0 =>
    simp at h0; subst h0
    unfold uqR unq1
    simp [h]
theorem dec1_esc {l : List UInt8} {k : Nat} (h : l[k]? = some 92) : dec1 (l.drop k) = (unesc (l.drop (k + 1))).map fun x => (x.1, x.2 + 1) := by
  rw [drop_head h]; simp [dec1]
theorem dec1_plain {l : List UInt8} {k : Nat} {c : UInt8} (h : l[k]? = some c) (h1 : c ≠ 92) (hp : plainB c = true) : dec1 (l.drop k) = some (c, 1) := by
  rw [drop_head h]; simp [dec1, h1, hp]
theorem dec1_bad {l : List UInt8} {k : Nat} {c : UInt8} (h : l[k]? = some c) (h1 : c ≠ 92) (hp : plainB c = false) : dec1 (l.drop k) = none := by
  rw [drop_head h]; simp [dec1, h1, hp]
theorem unesc_len {l : List UInt8} {c : UInt8} {n : Nat} (h : unesc l = some (c, n)) : 1 ≤ n ∧ n ≤ l.length := by
  obtain ⟨s, h1, h2⟩ := unesc_esc h
  have := congrArg List.length h1
  rw [List.length_append] at this
  have hp := escW_head c s
  have h3 : 1 ≤ n := by
    match l, h with
    | d :: r, h =>
      simp only [unesc] at h
      split at h
      · simp at h; omega
      · split at h
        · split at h
          · split at h
            · split at h
              · cases h
              · simp at h; omega
            · cases h
          · cases h
        · cases h
  simp at this; omega
theorem own_lit0 (w : World) : w.ownsRow w.heap.size 5 1 (.slice none 0 0) ([] : List UInt8).length (Lib.byteCells []) := by
  simpa [Lib.byteCells] using own_nil _ _ _ _
set_option maxHeartbeats 8000000 in
theorem woUnq (s : ByteArray) (hs : s.size ≤ 100000) (w : World) (hE : EscTab w) (res : List UInt8 × Int) (hres : uqR s.data.toList = res) : Calls Tryz.prog 130 #[.string s] w (RB w (.tuple #[.string ⟨res.1.toArray⟩, .int .i64 res.2])) := by
  obtain ⟨i0, hi, hz0, hz1, hz2⟩ := info_parts inf_by
  have HR := Lib.hid hres
  have HE := Lib.hid hE
  clear hres hE
  by_cases hz : s.size = 0
  · obtain rfl : s = ⟨#[]⟩ := by
      apply ByteArray.ext
      exact Array.eq_empty_of_size_eq_zero hz
    obtain rfl : res = ([], 0) := by rw [← HR.out]; rfl
    clear hz HR HE
    go_enter Tryz.func130, Tryz.ntmps130
    go_wp2_with fail
    go_ret2
    exact rb_tuple rfl rfl (by repeat (first | assumption | exact Bl.refl _ | apply Bl.drewN | apply Bl.drew | apply Bl.alloc | (refine Bl.dr ?_ (by assumption)) | (refine Bl.trans ?_ (by assumption))))
  · have h0 : 0 < s.size := by omega
    have hne : s.toList.isEmpty = false := by
      rw [toL]
      cases e : s.data.toList with
      | nil => exact absurd (by have := congrArg List.length e; simpa using this) hz
      | cons _ _ => rfl
    have hx0 := str_get h0
    by_cases h34 : (s[0]'h0) = 34
    · have e0 : (((s[0]'h0).toNat : Int) != 34) = false := by rw [h34]; rfl
      rw [h34] at hx0
      have HX0 := Lib.hid hx0
      clear hx0 h34 hz
      go_enter Tryz.func130, Tryz.ntmps130
      go_wp2_with fail
      go_loopg [4, 5] (s.size - 1) (fun g v i wr => ∃ (k : Nat) (acc : List UInt8), 1 ≤ k ∧ k ≤ s.size ∧ i = .int .i64 k ∧ wr.ownsRow w.heap.size 5 1 v acc.length (Lib.byteCells acc) ∧ acc.length ≤ k ∧ Bl w wr ∧ UqS s.data.toList k acc ∧ g = s.size - k)
      case atStart => exact ⟨1, [], by omega, by omega, rfl, own_lit0 w, by simp, Bl.refl _, uqs_start _, rfl⟩
      case round =>
        obtain ⟨k, acc, hk1, hk, rfl, hown, hal, hbw, hst, hg⟩ := hrel
        have G := Lib.hid hg
        have HS := Lib.hid hst
        have HO := Lib.hid hown
        clear hg hst hown
        by_cases hkl : k < s.size
        · have hx := str_get hkl
          have h1 : (0 : Int) ≤ (k : Int) := by omega
          have h2 : (k : Int) < (s.size : Int) := by omega
          generalize hc : s[k]'hkl = c at hx
          by_cases hc34 : c = 34
          · subst hc34
            have hr : res = (acc, ((k + 1 : Nat) : Int)) := by rw [← HR.out, uqR_some HX0.out (uqs_end HS.out hk1 hx)]
            subst hr
            have hcv := conv_own HO.out
            clear hx
            go_wp2_with fail
            go_ret2
            exact rb_tuple rfl (by go_num) hbw
          · have e34 : ((c.toNat : Int) == 34) = false := u8_ne (d := 34) hc34
            by_cases hc92 : c = 92
            · subst hc92
              have hde := dec1_esc hx
              have hU := fun w h => woUnesc (s.extract (k + 1) s.size) (by simp; omega) w h _ rfl
              rw [ext_dropW] at hU
              have h3 : (k : Int) + 1 ≤ (s.size : Int) := by omega
              cases hu : unesc (s.data.toList.drop (k + 1)) with
              | none =>
                have hv : ueN (s.data.toList.drop (k + 1)) = (0, 0) := by unfold ueN; rw [hu]
                have hr : res = ([], 0) := by rw [← HR.out, uqR_none HX0.out (uqs_bad HS.out hx hc34 (by rw [hde, hu]; rfl))]
                subst hr
                rw [hv] at hU
                have HU := Lib.hid hU
                clear hx hU hv hu hde hc34
                go_wp2_with fail
                refine (HU.out _ (HE.out.bl hbw)).mono ?_; rintro e w1 ⟨rfl, hb1⟩
                go_wp2_with fail
                go_ret2
                exact rb_tuple rfl rfl (by repeat (first | assumption | exact Bl.refl _ | apply Bl.drewN | apply Bl.drew | apply Bl.alloc | (refine Bl.dr ?_ (by assumption)) | (refine Bl.trans ?_ (by assumption))))
              | some p =>
                obtain ⟨x, n⟩ := p
                have hv : ueN (s.data.toList.drop (k + 1)) = (((x.toNat : Nat) : Int), ((n : Nat) : Int)) := by unfold ueN; rw [hu]
                obtain ⟨n1, n2⟩ := unesc_len hu
                have n3 : k + 1 + n ≤ s.size := by simp at n2; omega
                have hs2 := uqs_step HS.out hk1 hx hc34 (n := n + 1) (x := x) (by rw [hde, hu]; rfl)
                rw [show k + (n + 1) = k + n + 1 by omega] at hs2
                have HS2 := Lib.hid hs2
                have e0 : (((n : Nat) : Int) == 0) = false := by rw [beq_eq_false_iff_ne]; omega
                rw [hv] at hU
                have HU := Lib.hid hU
                clear hx hU hv hu hde hc34 hs2 n2
                go_wp2_with fail
                refine (HU.out _ (HE.out.bl hbw)).mono ?_; rintro e w1 ⟨rfl, hb1⟩
                have hbw1 : Bl w w1 := hbw.trans hb1
                have hown1 := own_bl HO.out hb1
                have hsz := hbw1.size
                clear hb1
                go_wp2_with (at_builtin; refine wpList_append_own _ rfl _ _ 66 rfl w.heap.size 5 i0 (.int .u8 0) 1 1 Tryz.underlying66 hi hz0 hz1 hz2 rfl (by decide) _ _ _ rfl (hown1.alloc _) ⟨(w1).heap.size, 0, none⟩ 1 1 [.int .u8 (x.toNat : Nat)] rfl rfl ?c1 ?c2 ?c3 ?c4 ?c5 ?_)
                case c1 => exact multi_new _ _ _
                case c2 => intro u hu; simp at hu; subst hu; rfl
                case c3 => unfold maxLen; omega
                case c4 => omega
                case c5 => simp; omega
                intro v' w3 hown2 hgrow _
                have hb3 := grown_bl ((hbw1).alloc _) (hown1.alloc _) hgrow (Nat.le_refl _)
                have hown3 : w3.ownsRow w.heap.size 5 1 v' (acc ++ [x]).length (Lib.byteCells (acc ++ [x])) := by
                  rw [Lib.byteCells_append, List.length_append]; exact hown2
                have HW := Lib.hid hown3
                clear hown1 hown2 hown3 hgrow
                go_wp2_with fail
                go_roundg (s.size - (k + n + 1))
                case rel => exact ⟨k + n + 1, acc ++ [x], by omega, by omega, by go_num, HW.out, by rw [List.length_append, List.length_singleton]; omega, hb3, HS2.out, rfl⟩
                case measure => rw [G.out]; omega
            · have e92 : ((c.toNat : Int) == 92) = false := u8_ne (d := 92) hc92
              have hP := fun w => woPlain c w
              cases hp : plainB c with
              | false =>
                have hr : res = ([], 0) := by rw [← HR.out, uqR_none HX0.out (uqs_bad HS.out hx hc34 (dec1_bad hx hc92 hp))]
                subst hr
                rw [hp] at hP
                have HP := Lib.hid hP
                clear hx hp hP hc34 hc92
                go_wp2_with fail
                refine (HP.out _).mono ?_; rintro e w1 ⟨rfl, hb1⟩
                go_wp2_with fail
                go_ret2
                exact rb_tuple rfl rfl (by repeat (first | assumption | exact Bl.refl _ | apply Bl.drewN | apply Bl.drew | apply Bl.alloc | (refine Bl.dr ?_ (by assumption)) | (refine Bl.trans ?_ (by assumption))))
              | true =>
                have hs2 := uqs_step HS.out hk1 hx hc34 (dec1_plain hx hc92 hp)
                have HS2 := Lib.hid hs2
                rw [hp] at hP
                have HP := Lib.hid hP
                clear hx hp hP hc34 hc92 hs2
                go_wp2_with fail
                refine (HP.out _).mono ?_; rintro e w1 ⟨rfl, hb1⟩
                have hbw1 : Bl w w1 := hbw.trans hb1
                have hown1 := own_bl HO.out hb1
                have hsz := hbw1.size
                clear hb1
                go_wp2_with (at_builtin; refine wpList_append_own _ rfl _ _ 66 rfl w.heap.size 5 i0 (.int .u8 0) 1 1 Tryz.underlying66 hi hz0 hz1 hz2 rfl (by decide) _ _ _ rfl (hown1.alloc _) ⟨(w1).heap.size, 0, none⟩ 1 1 [.int .u8 (c.toNat : Nat)] rfl rfl ?c1 ?c2 ?c3 ?c4 ?c5 ?_)
                case c1 => exact multi_new _ _ _
                case c2 => intro u hu; simp at hu; subst hu; rfl
                case c3 => unfold maxLen; omega
                case c4 => omega
                case c5 => simp; omega
                intro v' w3 hown2 hgrow _
                have hb3 := grown_bl ((hbw1).alloc _) (hown1.alloc _) hgrow (Nat.le_refl _)
                have hown3 : w3.ownsRow w.heap.size 5 1 v' (acc ++ [c]).length (Lib.byteCells (acc ++ [c])) := by
                  rw [Lib.byteCells_append, List.length_append]; exact hown2
                have HW := Lib.hid hown3
                clear hown1 hown2 hown3 hgrow
                go_wp2_with fail
                go_roundg (s.size - (k + 1))
                case rel => exact ⟨k + 1, acc ++ [c], by omega, by omega, by go_num, HW.out, by rw [List.length_append, List.length_singleton]; omega, hb3, HS2.out, rfl⟩
                case measure => rw [G.out]; omega
        · obtain rfl : k = s.size := by omega
          have hr : res = ([], 0) := by rw [← HR.out, uqR_none HX0.out (uqs_out HS.out (by simp))]
          subst hr
          go_wp2_with fail
          go_ret2
          exact rb_tuple rfl rfl (by repeat (first | assumption | exact Bl.refl _ | apply Bl.drewN | apply Bl.drew | apply Bl.alloc | (refine Bl.dr ?_ (by assumption)) | (refine Bl.trans ?_ (by assumption))))
    · have e0 : (((s[0]'h0).toNat : Int) != 34) = true := u8_bne (d := 34) h34
      have hr : res = ([], 0) := by rw [← HR.out, uqR_no hx0 h34]
      subst hr
      clear hx0 h34 hz
      go_enter Tryz.func130, Tryz.ntmps130
      go_wp2_with fail
      go_ret2
      exact rb_tuple rfl rfl (by repeat (first | assumption | exact Bl.refl _ | apply Bl.drewN | apply Bl.drew | apply Bl.alloc | (refine Bl.dr ?_ (by assumption)) | (refine Bl.trans ?_ (by assumption))))
end Go.Proofs.YtkbfjficmdgjpaaGreatDoor

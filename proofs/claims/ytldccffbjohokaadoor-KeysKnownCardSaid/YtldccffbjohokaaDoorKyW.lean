
/-
  The reference's Read; the law KeysTexts, walked.
-/
import Derived.Test.YtldccffbjohokaaDoorKyV
namespace Go.Proofs.YtldccffbjohokaaDoor
open Go.RowKit
set_option linter.unusedSimpArgs false
set_option linter.unusedVariables false
set_option maxRecDepth 100000

theorem unl_len : ∀ (f : Nat) (l k : List UInt8), unl f l = some k → k.length ≤ l.length
  | 0, l, k, h => by
    unfold unl at h
    split at h
    · injection h with h; subst h; exact Nat.zero_le _
    · cases h
  | f + 1, l, k, h => by
    unfold unl at h
    split at h
    · injection h with h; subst h; exact Nat.zero_le _
    · rename_i hl
      have hlen : 0 < l.length := List.length_pos_iff.2 hl
      cases hu : ustep l with
      | none => rw [hu] at h; cases h
      | some p =>
        obtain ⟨b, n⟩ := p
        have h1 := ustep_n hu
        rw [hu] at h
        simp only [Option.map_eq_some_iff] at h
        obtain ⟨k', h2, rfl⟩ := h
        have := unl_len f _ _ h2
        rw [List.length_drop] at this
        simp; omega
theorem unL_len {l k : List UInt8} (h : unL l = some k) : k.length ≤ l.length := unl_len _ _ _ h
theorem back_str (k : ByteArray) : (⟨k.data.toList.toArray⟩ : ByteArray) = k := by cases k; simp
theorem esc_len : ∀ l : List UInt8, (l.flatMap escB).length = 4 * l.length
  | [] => rfl
  | b :: l => by rw [List.flatMap_cons, List.length_append, esc_len l]; simp [escB]; omega
theorem piece_len4 {c n : Nat} {l : List UInt8} (h1 : 1 ≤ n) (h2 : n ≤ l.length) : (piece c n l).length ≤ 4 * n := by
  unfold piece
  split
  · rw [esc_len, List.length_take]; omega
  · split
    · simp; omega
    · split
      · rw [List.length_take]; omega
      · rw [esc_len, List.length_take]; omega
theorem showG_len : ∀ (f : Nat) (l : List UInt8), (showG f l).length ≤ 4 * l.length
  | 0, l => by simp [showG]
  | f + 1, l => by
    unfold showG
    by_cases hl : l = []
    · rw [if_pos hl]; simp
    · rw [if_neg hl, List.length_append]
      have h1 := dec_one hl
      have h2 : (Lib.decodeL l).2 ≤ l.length := by
        rcases dec_spec l hl with h | ⟨c, n, h⟩
        · rw [h]; exact List.length_pos_iff.2 hl
        · rw [h.dec]; exact h.le
      have h3 := piece_len4 (c := (Lib.decodeL l).1) h1 h2
      have h4 := showG_len f (l.drop (Lib.decodeL l).2)
      rw [List.length_drop] at h4
      omega
theorem texts_there {k : ByteArray} (h : (kshow k).2 = 0) : rd (kshow k).1 = (k, 0) := by
  unfold kshow at h ⊢
  by_cases h1 : 32 < k.size
  · rw [if_pos h1] at h; cases h
  · rw [if_neg h1]
    have hl : (showL k).length ≤ 4 * k.size := by
      have := showG_len k.size k.data.toList; simpa [showL] using this
    have hs : (showS k).size = (showL k).length := by simp [showS, ByteArray.size]
    have hu : unL (showS k).data.toList = some k.data.toList := by
      have := unL_show k.size k.data.toList (by simp)
      simpa [showS, showL] using this
    unfold rd
    simp only
    rw [if_neg (by omega), hu]
    simp only
    rw [back_str, if_neg (by simp), if_neg (by simpa using h1)]
theorem texts_back {s : ByteArray} (h : (rd s).2 = 0) : kshow (rd s).1 = (s, 0) := by
  unfold rd at h ⊢
  by_cases h1 : 128 < s.size
  · rw [if_pos h1] at h; cases h
  · rw [if_neg h1] at h ⊢
    cases hu : unL s.data.toList with
    | none => rw [hu] at h; cases h
    | some k =>
      rw [hu] at h
      simp only at h ⊢
      by_cases h2 : (showS ⟨k.toArray⟩).toList ≠ s.toList
      · rw [if_pos h2] at h; cases h
      · rw [if_neg h2] at h ⊢
        by_cases h3 : 32 < k.length
        · rw [if_pos h3] at h; cases h
        · rw [if_neg h3]
          unfold kshow
          have hk : (⟨k.toArray⟩ : ByteArray).size = k.length := by simp [ByteArray.size]
          rw [if_neg (by simp only [hk]; exact h3)]
          rw [str_ext (Classical.not_not.1 h2)]

set_option maxHeartbeats 2000000 in
theorem refRead (s : ByteArray) (w : World) (hs : s.size ≤ maxLen) : Calls Tryd.prog 29 #[.string s] w (RB w (.tuple #[.string (rd s).1, .int .i64 (rd s).2])) := by
  unfold maxLen at hs
  by_cases h1 : 128 < s.size
  · have hr : rd s = (mt, 3) := by unfold rd; rw [if_pos h1]
    rw [hr]
    clear hr
    go_enter Tryd.func29, Tryd.ntmps29
    go_wp2_with fail
    go_ret2
    exact rb_tuple rfl rfl (by repeat (first | assumption | exact Bl.refl _ | apply Bl.drewN | apply Bl.drew | apply Bl.alloc | (refine Bl.dr ?_ (by assumption)) | (refine Bl.trans ?_ (by assumption))))
  · obtain ⟨res, hres⟩ : ∃ res, rd s = res := ⟨_, rfl⟩
    rw [hres]
    unfold rd at hres
    rw [if_neg h1] at hres
    have hB := fun w => refBytes s w (by omega) (rbt s) rfl
    unfold rbt at hB
    cases hu : unL s.data.toList with
    | none =>
      rw [hu] at hB hres
      simp only at hB hres
      subst hres
      have HB := Lib.hid hB
      clear hB hu
      go_enter Tryd.func29, Tryd.ntmps29
      go_wp2_with fail
      refine (HB.out _).mono ?_; rintro e w1 ⟨rfl, hb1⟩
      go_wp2_with fail
      go_ret2
      exact rb_tuple rfl rfl (by repeat (first | assumption | exact Bl.refl _ | apply Bl.drewN | apply Bl.drew | apply Bl.alloc | (refine Bl.dr ?_ (by assumption)) | (refine Bl.trans ?_ (by assumption))))
    | some k =>
      have hlen := unL_len hu
      have hsz : s.data.toList.length = s.size := by simp
      rw [hu] at hB hres
      simp only at hB hres
      have hks : (⟨k.toArray⟩ : ByteArray).size = k.length := by simp [ByteArray.size]
      have hT : ∀ w, Calls Tryd.prog 50 #[.string (⟨k.toArray⟩ : ByteArray)] w (RB w (.string (showS ⟨k.toArray⟩))) := fun w => refText _ w (by rw [hks]; omega)
      have hK := fun w => refCheck (⟨k.toArray⟩ : ByteArray) w (by rw [hks]; unfold maxLen; omega)
      unfold kchk at hK
      rw [hks] at hK
      generalize (⟨k.toArray⟩ : ByteArray) = kk at *
      generalize showS kk = sk at *
      have HB := Lib.hid hB
      have HT := Lib.hid hT
      have HK := Lib.hid hK
      clear hB hT hK hu
      by_cases z : sk.toList = s.toList
      · have z1 : (sk.toList == s.toList) = true := by rw [z]; simp
        have z2 : (sk.toList != s.toList) = false := by rw [z]; simp
        rw [if_neg (by simpa using z)] at hres
        by_cases y : 32 < k.length
        · rw [if_pos y] at hres
          subst hres
          have hK := HK.out
          rw [if_pos y] at hK
          have HK2 := Lib.hid hK
          clear z hK
          go_enter Tryd.func29, Tryd.ntmps29
          go_wp2_with fail
          refine (HB.out _).mono ?_; rintro e w1 ⟨rfl, hb1⟩
          go_wp2_with fail
          refine (HT.out _).mono ?_; rintro e w2 ⟨rfl, hb2⟩
          go_wp2_with fail
          refine (HK2.out _).mono ?_; rintro e w3 ⟨rfl, hd⟩
          go_wp2_with fail
          go_ret2
          exact rb_tuple rfl rfl (by repeat (first | assumption | exact Bl.refl _ | apply Bl.drewN | apply Bl.drew | apply Bl.alloc | (refine Bl.dr ?_ (by assumption)) | (refine Bl.trans ?_ (by assumption))))
        · rw [if_neg y] at hres
          subst hres
          have hK := HK.out
          rw [if_neg y] at hK
          have HK2 := Lib.hid hK
          clear z hK
          go_enter Tryd.func29, Tryd.ntmps29
          go_wp2_with fail
          refine (HB.out _).mono ?_; rintro e w1 ⟨rfl, hb1⟩
          go_wp2_with fail
          refine (HT.out _).mono ?_; rintro e w2 ⟨rfl, hb2⟩
          go_wp2_with fail
          refine (HK2.out _).mono ?_; rintro e w3 ⟨rfl, hd⟩
          go_wp2_with fail
          go_ret2
          exact rb_tuple rfl rfl (by repeat (first | assumption | exact Bl.refl _ | apply Bl.drewN | apply Bl.drew | apply Bl.alloc | (refine Bl.dr ?_ (by assumption)) | (refine Bl.trans ?_ (by assumption))))
      · have z1 : (sk.toList == s.toList) = false := by rw [beq_eq_false_iff_ne]; exact z
        have z2 : (sk.toList != s.toList) = true := by rw [bne_iff_ne]; exact z
        rw [if_pos z] at hres
        subst hres
        clear z
        go_enter Tryd.func29, Tryd.ntmps29
        go_wp2_with fail
        refine (HB.out _).mono ?_; rintro e w1 ⟨rfl, hb1⟩
        go_wp2_with fail
        refine (HT.out _).mono ?_; rintro e w2 ⟨rfl, hb2⟩
        go_wp2_with fail
        go_ret2
        exact rb_tuple rfl rfl (by repeat (first | assumption | exact Bl.refl _ | apply Bl.drewN | apply Bl.drew | apply Bl.alloc | (refine Bl.dr ?_ (by assumption)) | (refine Bl.trans ?_ (by assumption))))
set_option maxHeartbeats 2000000 in
theorem keysRead (s : ByteArray) (w : World) (hs : s.size ≤ maxLen) (hT : Tabs w) : Calls Tryd.prog 28 #[.string s] w (RB w (.tuple #[.string (rd s).1, .int .i64 (rd s).2])) := by
  by_cases h1 : 128 < s.size
  · have hr : rd s = (mt, 3) := by unfold rd; rw [if_pos h1]
    rw [hr]
    unfold maxLen at hs
    clear hr
    go_enter Tryd.func28, Tryd.ntmps28
    go_wp2_with fail
    go_ret2
    exact rb_tuple rfl rfl (by repeat (first | assumption | exact Bl.refl _ | apply Bl.drewN | apply Bl.drew | apply Bl.alloc | (refine Bl.dr ?_ (by assumption)) | (refine Bl.trans ?_ (by assumption))))
  · exact keysReadIn s w (by omega) hT _ rfl


set_option maxHeartbeats 4000000 in
theorem lawTexts (k s : ByteArray) (w : World) (hk : k.size ≤ maxLen) (hs : s.size ≤ maxLen) (hT : Tabs w) :
    Calls Tryd.prog 7 #[.string k, .string s] w (RB w (.bool true)) := by
  have HA := Lib.hid (fun w h => lawAwake w h)
  have HT := Lib.hid (fun W (h : Bl w W) => tabs_bl hT h)
  have f1 := fun w => lawFar k w hk
  have f2 := fun w => lawFar s w hs
  have h1 := fun w h => keysShow k w hk h
  have h2 := fun w => refShow k w hk
  have h3 := fun w h => keysRead s w hs h
  have h4 := fun w => refRead s w hs
  have hshs : (kshow k).1.size ≤ maxLen := by
    unfold kshow
    by_cases c : 32 < k.size
    · rw [if_pos c]; exact Nat.zero_le _
    · rw [if_neg c]
      have hl : (showL k).length ≤ 4 * k.size := by
        have := showG_len k.size k.data.toList; simpa [showL] using this
      have hs : (showS k).size = (showL k).length := by simp [showS, ByteArray.size]
      simp only
      unfold maxLen; omega
  have hrds : (rd s).1.size ≤ maxLen := by
    unfold rd
    by_cases c : 128 < s.size
    · rw [if_pos c]; exact Nat.zero_le _
    · rw [if_neg c]
      cases hu : unL s.data.toList with
      | none => exact Nat.zero_le _
      | some l =>
        have := unL_len hu
        have hsz : s.data.toList.length = s.size := by simp
        have hks : (⟨l.toArray⟩ : ByteArray).size = l.length := by simp [ByteArray.size]
        simp only
        split
        · exact Nat.zero_le _
        · split
          · exact Nat.zero_le _
          · simp only [hks]; unfold maxLen; omega
  have h5 := fun w h => keysRead (kshow k).1 w hshs h
  have h6 := fun w h => keysShow (rd s).1 w hrds h
  have p1 := @texts_there k
  have p2 := @texts_back s
  generalize (kshow k).1 = v1 at *
  generalize (kshow k).2 = v2 at *
  generalize (rd s).1 = v3 at *
  generalize (rd s).2 = v4 at *
  generalize rd v1 = R at *
  generalize kshow v3 = S at *
  obtain ⟨R1, R2⟩ := R
  obtain ⟨S1, S2⟩ := S
  simp only at h5 h6
  have F1 := Lib.hid f1
  have F2 := Lib.hid f2
  have H1 := Lib.hid h1
  have H2 := Lib.hid h2
  have H3 := Lib.hid h3
  have H4 := Lib.hid h4
  have H5 := Lib.hid h5
  have H6 := Lib.hid h6
  have P1 := Lib.hid p1
  have P2 := Lib.hid p2
  clear f1 f2 h1 h2 h3 h4 h5 h6 p1 p2 hshs hrds hk hs hT
  go_enter Tryd.func7, Tryd.ntmps7
  go_wp2_with fail
  refine (F1.out _).mono ?_; rintro e w1 ⟨rfl, hdf⟩
  have hb : Bl w w1 := Bl.of_dr hdf
  clear hdf
  generalize decide (200 < k.size) = b1 at *
  cases b1
  case true =>
    go_wp2_with fail
    refine (HA.out _ (HT.out _ hb)).mono ?_; rintro e w8 ⟨rfl, hb8⟩
    have hb := hb.trans hb8
    go_wp2_with fail
    go_ret
    exact RB.mk rfl hb
  go_wp2_with fail
  refine (F2.out _).mono ?_; rintro e w2 ⟨rfl, hdf⟩
  have hb := hb.trans (Bl.of_dr hdf)
  clear hdf
  generalize decide (200 < s.size) = b2 at *
  cases b2
  case true =>
    go_wp2_with fail
    refine (HA.out _ (HT.out _ hb)).mono ?_; rintro e w8 ⟨rfl, hb8⟩
    have hb := hb.trans hb8
    go_wp2_with fail
    go_ret
    exact RB.mk rfl hb
  have u1 : ∀ s : ByteArray, (s.toList == s.toList) = true := fun s => by simp
  have u2 : (v2 != v2) = false := by simp
  have u3 : (v4 != v4) = false := by simp
  go_wp2_with fail
  refine (H1.out _ (HT.out _ hb)).mono ?_; rintro e w3 ⟨rfl, hb1⟩
  have hbn := Bl.trans hb hb1
  clear hb hb1
  have hb := hbn
  clear hbn
  go_wp2_with fail
  refine (H2.out _).mono ?_; rintro e w4 ⟨rfl, hb1⟩
  have hbn := Bl.trans hb hb1
  clear hb hb1
  have hb := hbn
  clear hbn
  go_wp2_with fail
  refine (H3.out _ (HT.out _ hb)).mono ?_; rintro e w5 ⟨rfl, hb1⟩
  have hbn := Bl.trans hb hb1
  clear hb hb1
  have hb := hbn
  clear hbn
  go_wp2_with fail
  refine (H4.out _).mono ?_; rintro e w6 ⟨rfl, hb1⟩
  have hbn := Bl.trans hb hb1
  clear hb hb1
  have hb := hbn
  clear hbn
  by_cases c1 : v2 = 0
  · have q := P1.out c1
    injection q with q1 q2
    subst c1 q1 q2
    clear u2
    go_wp2_with fail
    refine (H5.out _ (HT.out _ hb)).mono ?_; rintro e w7 ⟨rfl, hb1⟩
    have hbn := Bl.trans hb hb1
    clear hb hb1
    have hb := hbn
    clear hbn
    by_cases c2 : v4 = 0
    · have q := P2.out c2
      injection q with q1 q2
      subst c2 q1 q2
      clear u3
      go_wp2_with fail
      refine (H6.out _ (HT.out _ hb)).mono ?_; rintro e w9 ⟨rfl, hb1⟩
      have hbn := Bl.trans hb hb1
      clear hb hb1
      have hb := hbn
      clear hbn
      go_wp2_with fail
      refine (HA.out _ (HT.out _ hb)).mono ?_; rintro e w8 ⟨rfl, hb8⟩
      have hb := hb.trans hb8
      go_wp2_with fail
      go_ret
      exact RB.mk rfl hb
    · have c3 : (v4 == 0) = false := by simp [c2]
      clear c2
      go_wp2_with fail
      refine (HA.out _ (HT.out _ hb)).mono ?_; rintro e w8 ⟨rfl, hb8⟩
      have hb := hb.trans hb8
      go_wp2_with fail
      go_ret
      exact RB.mk rfl hb
  · have c0 : (v2 == 0) = false := by simp [c1]
    clear c1
    by_cases c2 : v4 = 0
    · have q := P2.out c2
      injection q with q1 q2
      subst c2 q1 q2
      clear u3
      go_wp2_with fail
      refine (H6.out _ (HT.out _ hb)).mono ?_; rintro e w9 ⟨rfl, hb1⟩
      have hbn := Bl.trans hb hb1
      clear hb hb1
      have hb := hbn
      clear hbn
      go_wp2_with fail
      refine (HA.out _ (HT.out _ hb)).mono ?_; rintro e w8 ⟨rfl, hb8⟩
      have hb := hb.trans hb8
      go_wp2_with fail
      go_ret
      exact RB.mk rfl hb
    · have c3 : (v4 == 0) = false := by simp [c2]
      clear c2
      go_wp2_with fail
      refine (HA.out _ (HT.out _ hb)).mono ?_; rintro e w8 ⟨rfl, hb8⟩
      have hb := hb.trans hb8
      go_wp2_with fail
      go_ret
      exact RB.mk rfl hb
end Go.Proofs.YtldccffbjohokaaDoor

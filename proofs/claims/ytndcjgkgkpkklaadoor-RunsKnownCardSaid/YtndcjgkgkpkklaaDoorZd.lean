/-
  Own texts laid together: KeysC.
-/
import Derived.Test.YtndcjgkgkpkklaaDoorZa
/-
  Contracts of keys.Between and of the reference's Between.
-/
namespace Go.Proofs.YtndcjgkgkpkklaaDoor
open Go.RowKit
set_option linter.unusedSimpArgs false
set_option linter.unusedVariables false
set_option maxRecDepth 100000

abbrev mt : ByteArray := ⟨#[]⟩
/-- The byte that ends the key between two keys. -/
def endB (s : ByteArray) (n : Nat) : UInt8 := if h : n < s.size then s[n] + 1 else 0
def betS (s t : ByteArray) : ByteArray := s.extract 0 (cmn s.data.toList t.data.toList) ++ ⟨#[endB s (cmn s.data.toList t.data.toList)]⟩
def betw (s t : ByteArray) : ByteArray × Int := if ktwo s t ≠ 0 then (mt, 3) else if slt s t = true then (betS s t, 0) else (mt, 6)
theorem kall_two (s t : ByteArray) : kall [s, t] = ktwo s t := by simp [kall, kbad, ktwo]
theorem ktwo_bad {s t : ByteArray} (h : 32 < s.size ∨ 32 < t.size) : ktwo s t = 3 := by simp [ktwo, h]
theorem ktwo_ok {s t : ByteArray} (h : ¬ (32 < s.size ∨ 32 < t.size)) : ktwo s t = 0 := by simp [ktwo, h]
theorem strs2 (w : World) (s t : ByteArray) (hs : s.size ≤ maxLen) (ht : t.size ≤ maxLen) (e : TypeId) (g : Nat) (hg : g = w.heap.size) : Strs (w.alloc (Obj.cells #[Value.string s, Value.string t] e)) (some ⟨g, 0, none⟩) [s, t] := by
  subst hg
  refine ⟨by simp; exact ⟨hs, ht⟩, fun _ => ⟨_, _, rfl, ?_⟩⟩
  intro i x hx
  match i, hx with
  | 0, hx => simp at hx; subst hx; simp [go_sem]
  | 1, hx => simp at hx; subst hx; simp [go_sem]
theorem byte_succ (x : UInt8) : UInt8.ofNat ((x.toNat + 1) % 256) = x + 1 := by
  apply UInt8.toNat.inj; simp [UInt8.toNat_add]

set_option maxHeartbeats 400000 in
theorem keysBetween (s t : ByteArray) (w : World) (hs : s.size ≤ maxLen) (ht : t.size ≤ maxLen) :
    Calls Tryd.prog 35 #[.string s, .string t] w (RB w (.tuple #[.string (betw s t).1, .int .i64 (betw s t).2])) := by
  have hc := fun w => keysCommon s t w hs ht
  have ha := fun a c w h => keysAll a c [s, t] w h (by unfold maxLen; simp)
  have h2 := fun w => strs2 w s t hs ht 9
  rw [kall_two] at ha
  by_cases hb : 32 < s.size ∨ 32 < t.size
  · have e : betw s t = (mt, 3) := by simp [betw, ktwo_bad hb]
    rw [e]
    rw [ktwo_bad hb] at ha
    clear hb e hc
    have Ha := Lib.hid ha
    have H2 := Lib.hid h2
    clear ha h2
    go_enter Tryd.func35, Tryd.ntmps35
    go_wp2_with fail
    refine (Ha.out _ _ _ (H2.out _ _ (by simp))).mono ?_
    rintro e w1 ⟨rfl, hd⟩
    go_wp2_with fail
    go_ret2
    exact ⟨rfl, ((Bl.refl w).alloc _).dr hd⟩
  · rw [ktwo_ok hb] at ha
    have hle := cmn_le s.data.toList t.data.toList
    simp only [Array.length_toList, ByteArray.size_data] at hle
    obtain ⟨hle1, hle2⟩ := hle
    have hs1 : s.size ≤ 32 := by omega
    have ht1 : t.size ≤ 32 := by omega
    by_cases hl : slt s t = true
    · have e : betw s t = (betS s t, 0) := by simp [betw, ktwo_ok hb, hl]
      rw [e]
      unfold betS
      generalize cmn s.data.toList t.data.toList = n at *
      unfold slt at hl
      clear hb e
      have Ha := Lib.hid ha
      have H2 := Lib.hid h2
      have Hc := Lib.hid hc
      clear ha h2 hc hs ht
      have hcv := fun (W : World) (n : Int) => conv1_new (P := Tryd.prog) 72 9 5 Tryd.underlying72 Tryd.underlying5 Tryd.underlying9 W n
      by_cases hn : n < s.size
      · have hB : UInt8.ofNat ((s[n].toNat + 1) % 256) = endB s n := by rw [byte_succ]; simp [endB, hn]
        have HB := Lib.hid hB
        clear hB
        go_enter Tryd.func35, Tryd.ntmps35
        go_wp2_with (first | (go_at_call 24; refine (Ha.out _ _ _ (H2.out _ _ (by simp))).mono ?_; rintro e w1 ⟨rfl, hd⟩) | (go_at_call 40; refine (Hc.out _).mono ?_; rintro e w2 ⟨rfl, hd2⟩))
        go_region
        go_wp2
        go_ret2
        refine rb_tuple (sval ?_) rfl ((((((Bl.refl w).alloc _).dr hd).dr hd2).alloc _).drew)
        rw [← HB.out]
      · have hB : endB s n = 0 := by simp [endB, hn]
        have HB := Lib.hid hB
        clear hB
        go_enter Tryd.func35, Tryd.ntmps35
        go_wp2_with (first | (go_at_call 24; refine (Ha.out _ _ _ (H2.out _ _ (by simp))).mono ?_; rintro e w1 ⟨rfl, hd⟩) | (go_at_call 40; refine (Hc.out _).mono ?_; rintro e w2 ⟨rfl, hd2⟩))
        go_region
        go_wp2
        go_ret2
        refine rb_tuple (sval ?_) rfl ((((((Bl.refl w).alloc _).dr hd).dr hd2).alloc _).drew)
        rw [HB.out]
    · have e : betw s t = (mt, 6) := by simp [betw, ktwo_ok hb, hl]
      rw [e]
      have hl' : Op.bytesLess s.toList t.toList = false := by simpa [slt] using hl
      clear hb e hc hl
      have Ha := Lib.hid ha
      have H2 := Lib.hid h2
      clear ha h2
      go_enter Tryd.func35, Tryd.ntmps35
      go_wp2_with fail
      refine (Ha.out _ _ _ (H2.out _ _ (by simp))).mono ?_
      rintro e w1 ⟨rfl, hd⟩
      go_wp2_with fail
      go_ret2
      exact ⟨rfl, ((Bl.refl w).alloc _).dr hd⟩

theorem cmpS_gt (a b : ByteArray) : decide (0 < cmpS a b) = slt b a := by
  unfold cmpS
  by_cases h : slt a b = true
  · simp [h, slt_asymm h]
  · by_cases k : a.toList = b.toList
    · have := str_ext k; subst this; simp [slt_irrefl]
    · have : slt b a = true := by
        cases hh : slt b a
        · exact absurd (congrArg ByteArray.toList (slt_tri (by simpa using h) hh)) k
        · rfl
      simp [h, k, this]
theorem cmpS_bd (a b : ByteArray) : -1 ≤ cmpS a b ∧ cmpS a b ≤ 1 := by
  unfold cmpS; split <;> (try split) <;> omega
theorem bl_app : ∀ p x y : List UInt8, Op.bytesLess (p ++ x) (p ++ y) = Op.bytesLess x y
  | [], _, _ => rfl
  | a :: p, x, y => by simp [Op.bytesLess, bl_app p x y]
theorem cmn_take : ∀ s t : List UInt8, s.take (cmn s t) = t.take (cmn s t)
  | [], t => by simp [cmn_nil1]
  | _ :: _, [] => by simp [cmn_nil2]
  | a :: l, b :: r => by
    by_cases h : a = b
    · subst h; simp [cmn, cmn_take l r]
    · simp [cmn, h]
theorem cmn_drop0 : ∀ s t : List UInt8, cmn (s.drop (cmn s t)) (t.drop (cmn s t)) = 0
  | [], t => by simp [cmn_nil1]
  | _ :: _, [] => by simp [cmn_nil2]
  | a :: l, b :: r => by
    by_cases h : a = b
    · subst h; simp [cmn, cmn_drop0 l r]
    · simp [cmn, h]
theorem cat_list (t : ByteArray) (n : Nat) (c : UInt8) : (t.extract 0 n ++ ⟨#[c]⟩).toList = t.data.toList.take n ++ [c] := by
  rw [toL]; simp [ByteArray.data_append, ByteArray.data_extract]
theorem bet_try (s t : ByteArray) (h : slt s t = true) (c : UInt8) (n : Nat) (hn : cmn s.data.toList t.data.toList = n) :
    (c < endB s n → slt s (t.extract 0 n ++ ⟨#[c]⟩) = false) ∧ (c = endB s n → slt s (t.extract 0 n ++ ⟨#[c]⟩) = true ∧ slt t (t.extract 0 n ++ ⟨#[c]⟩) = false) := by
  have h5 := cmn_take s.data.toList t.data.toList
  have h0 := cmn_drop0 s.data.toList t.data.toList
  obtain ⟨s', h3⟩ : ∃ s', s' = s.data.toList.drop n := ⟨_, rfl⟩
  obtain ⟨t', h4⟩ : ∃ t', t' = t.data.toList.drop n := ⟨_, rfl⟩
  rw [hn] at h5 h0
  have h1 : s.data.toList = s.data.toList.take n ++ s' := by rw [h3, List.take_append_drop]
  have h2 : t.data.toList = s.data.toList.take n ++ t' := by rw [h4, h5, List.take_append_drop]
  rw [← h3, ← h4] at h0
  unfold slt at h ⊢
  rw [cat_list, toL, toL, ← h5]
  rw [toL, toL] at h
  have hle := (cmn_le s.data.toList t.data.toList).1
  rw [hn] at hle
  generalize s.data.toList.take n = p at *
  have hbl := bl_app p
  rw [h1, h2, hbl] at h
  rw [h1, h2, hbl, hbl]
  by_cases hlt : n < s.size
  · have hs' : ∃ r, s' = s[n] :: r := ⟨_, by rw [h3, List.drop_eq_getElem_cons (by simpa using hlt)]; rfl⟩
    obtain ⟨r, hr⟩ := hs'
    have he : endB s n = s[n] + 1 := by simp [endB, hlt]
    rw [he, hr]
    rw [hr] at h
    cases t' with
    | nil => simp [Op.bytesLess] at h
    | cons y q =>
      have hne : s[n] ≠ y := by
        intro hxy
        rw [hr, hxy] at h0; simp [cmn] at h0
      generalize s[n] = x at *
      simp only [Op.bytesLess, Bool.or_eq_true, decide_eq_true_eq, Bool.and_eq_true, beq_iff_eq] at h
      have hxy : x < y := by
        rcases h with h | ⟨h, _⟩
        · exact h
        · exact absurd h hne
      have hx1 : (x + 1).toNat = x.toNat + 1 := by
        have := UInt8.lt_iff_toNat_lt.1 hxy; have := y.toNat_lt; simp [UInt8.toNat_add]; omega
      have hxy' := UInt8.lt_iff_toNat_lt.1 hxy
      refine ⟨fun hc => ?_, fun hc => ?_⟩
      · have hc' := UInt8.lt_iff_toNat_lt.1 hc
        rw [hx1] at hc'
        have : ¬ x < c := by rw [UInt8.lt_iff_toNat_lt]; omega
        simp [Op.bytesLess, this]
      · subst hc
        have h6 : x < x + 1 := by rw [UInt8.lt_iff_toNat_lt]; omega
        have h7 : ¬ y < x + 1 := by rw [UInt8.lt_iff_toNat_lt]; omega
        simp [Op.bytesLess, h6, h7]
  · have hs' : s' = [] := by rw [h3]; simp; omega
    have he : endB s n = 0 := by simp [endB, hlt]
    rw [he, hs']
    refine ⟨fun hc => ?_, fun hc => ?_⟩
    · exact absurd hc (by rw [UInt8.lt_iff_toNat_lt]; simp)
    · subst hc
      cases t' with
      | nil => rw [hs'] at h; simp [Op.bytesLess] at h
      | cons y q => simp [Op.bytesLess]
theorem betS_t (s t : ByteArray) (n : Nat) (hn : cmn s.data.toList t.data.toList = n) : betS s t = t.extract 0 n ++ ⟨#[endB s n]⟩ := by
  have h5 := cmn_take s.data.toList t.data.toList
  apply str_ext
  rw [betS, hn, cat_list, cat_list]; rw [hn] at h5; rw [h5]

end Go.Proofs.YtndcjgkgkpkklaaDoor

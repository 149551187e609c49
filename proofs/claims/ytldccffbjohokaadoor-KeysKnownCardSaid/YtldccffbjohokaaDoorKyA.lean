
/-
  Contracts of keys.raised, Next, Past, Compare, Common and of the reference's.
-/
import Derived.Test.YtldccffbjohokaaDoorKyP
import Derived.Test.YtldccffbjohokaaDoorShelf
import Derived.Lib.ConvBytes
import Derived.Laws.IdiomStrings
namespace Go.Proofs.YtldccffbjohokaaDoor
open Go.RowKit
set_option linter.unusedSimpArgs false
set_option linter.unusedVariables false
set_option maxRecDepth 100000

def rsdS (s : ByteArray) : ByteArray := ⟨(rsd s.data.toList).toArray⟩

/-- '[]byte(s)': a new row that holds the string's bytes. -/
theorem conv_bytes {P : Program} (src dst e : TypeId) (hs : P.underlying src = some .string) (hd : P.underlying dst = some (.slice e)) (he : P.underlying e = some (.int .u8)) (w : World) (s : ByteArray) :
    ∃ W c, (convert src dst (.string s)).run P w = .ok (.slice (some ⟨w.heap.size, 0, none⟩) s.size c) W ∧ Bl w W ∧ W.heap.size = w.heap.size + 1 ∧
      (∀ j (h : j < s.size), W.cell? ⟨w.heap.size, j, none⟩ = some (.int .u8 (s[j].toNat : Int))) ∧ (∀ j, j < s.size → W.frozen? ⟨w.heap.size, j, none⟩ = false) := by
  refine ⟨_, _, Lib.run_convert_string_bytes w src dst e s hs hd he, ⟨rfl, rfl, rfl, by rw [Lib.bytesWorld_size]; omega, fun k hk => Lib.bytesWorld_at_old w e s k hk⟩, Lib.bytesWorld_size w e s, fun j h => ?_, fun j h => ?_⟩
  · rw [Lib.bytesWorld_cell w e s j h]
    congr 2
    have : s.data.toList.getD j 0 = s[j] := by
      rw [List.getD_eq_getElem?_getD, List.getElem?_eq_getElem (by simpa using h)]; rfl
    rw [this]
  · have := Lib.bytesWorld_at_new w e s
    simp only [World.frozen?, this]
    have hl : s.size ≤ (Lib.bytesCells w e s).size := by simp [Lib.bytesCells]
    simp; omega
theorem last_split (t : ByteArray) (h : 0 < t.size) : t.data.toList = (t.extract 0 (t.size - 1)).data.toList ++ [t[t.size - 1]] := by
  rw [ByteArray.data_extract]
  have hl : t.data.toList.length = t.size := by simp
  conv => lhs; rw [← List.take_append_drop (t.size - 1) t.data.toList]
  rw [List.drop_eq_getElem_cons (by omega), List.drop_of_length_le (by omega)]
  congr 1
  simp [List.dropLast_eq_take, Array.length_toList]
/-- 'string(b)' of a row that holds bytes. -/
theorem conv_back {P : Program} (src dst e : TypeId) (hs : P.underlying src = some (.slice e)) (he : P.underlying e = some (.int .u8)) (hd : P.underlying dst = some .string) (w : World) (g n cap : Nat) (l : List UInt8) (hn : l.length = n)
    (hc : ∀ j (hj : j < l.length), w.cell? ⟨g, j, none⟩ = some (.int .u8 (l[j].toNat : Int))) :
    (convert src dst (.slice (some ⟨g, 0, none⟩) n cap)).run P w = .ok (.string ⟨l.toArray⟩) w := by
  subst hn
  exact run_convert_bytes_back w src dst e ⟨g, 0, none⟩ cap l hs he hd (fun j hj => by
    have : (⟨g, 0, none⟩ : Addr).add j = ⟨g, j, none⟩ := by unfold Addr.add; split <;> simp_all
    rw [this]; exact hc j hj)

set_option maxHeartbeats 1000000 in
theorem keysRaised (s : ByteArray) (w : World) (hs : s.size ≤ maxLen) :
    Calls Tryd.prog 41 #[.string s] w (RB w (.string (rsdS s))) := by
  unfold maxLen at hs
  obtain ⟨R, hR⟩ : ∃ R, R = rsd s.data.toList := ⟨_, rfl⟩
  have hr : rsdS s = ⟨R.toArray⟩ := by rw [hR]; rfl
  rw [hr]
  have HR := Lib.hid hR
  clear hR hr
  go_enter Tryd.func41, Tryd.ntmps41
  go_wp2_with fail
  go_loopg [0] s.size (fun g v wr => ∃ t : ByteArray, v = .string t ∧ t.size ≤ s.size ∧ rsd t.data.toList = R ∧ Dr w wr ∧ g = t.size)
  case atStart => exact ⟨s, rfl, Nat.le_refl _, HR.out.symm, Dr.refl _, rfl⟩
  case round =>
    obtain ⟨t, rfl, ht, hc, hd, hg⟩ := hrel
    have H := Lib.hid hc
    have G := Lib.hid hg
    clear hc hg
    by_cases h0 : 0 < t.size
    · have hi : t.size - 1 < t.size := by omega
      have k0 : (0 : Int) < (t.size : Int) := by omega
      have hl := last_split t h0
      by_cases h1 : t[t.size - 1] = 255
      · have k1 : ((t[t.size - 1].toNat : Int) == 255) = true := by rw [h1]; rfl
        rw [h1] at hl
        have HL := Lib.hid hl
        clear hl h1
        go_wp2_with fail
        go_roundg (t.size - 1)
        case rel => exact ⟨t.extract 0 (t.size - 1), rfl, by simp; omega, by rw [← H.out, HL.out, rsd_255], hd, by simp⟩
        case measure => rw [G.out]; omega
      · have k1 : ((t[t.size - 1].toNat : Int) == 255) = false := by
          rw [beq_eq_false_iff_ne]; intro h; exact h1 (UInt8.toNat.inj (show _ = 255 by omega))
        have k2 : t.toList.isEmpty = false := by
          cases h : t.toList.isEmpty
          · rfl
          · rw [empty_iff] at h; exact absurd h (by omega)
        have hR2 : R = (t.extract 0 (t.size - 1)).data.toList ++ [t[t.size - 1] + 1] := by rw [← H.out, hl, rsd_snoc h1]
        have HL := Lib.hid hl
        have HR2 := Lib.hid hR2
        obtain ⟨W, cp, hcv, hW, hWs, hWc, hWf⟩ := conv_bytes (P := Tryd.prog) 9 49 5 Tryd.underlying9 Tryd.underlying49 Tryd.underlying5 wr t
        have c1 := hWc (t.size - 1) hi
        have f1 := hWf (t.size - 1) hi
        have HWC := Lib.hid hWc
        clear hl hR2 h1 hWc hWf
        have hbk := fun (v : Int) (hv : v = ((t[t.size - 1] + 1).toNat : Int)) => conv_back (P := Tryd.prog) 49 9 5 Tryd.underlying49 Tryd.underlying5 Tryd.underlying9 (W.setCell ⟨wr.heap.size, t.size - 1, none⟩ (.int .u8 v)) wr.heap.size t.size cp
          ((t.extract 0 (t.size - 1)).data.toList ++ [t[t.size - 1] + 1]) (by simp; omega) (fun j hj => by
            have hle : (t.extract 0 (t.size - 1)).data.toList.length = t.size - 1 := by simp
            simp only [List.length_append, hle, List.length_singleton] at hj
            rcases Nat.lt_or_ge j (t.size - 1) with h | h
            · rw [World.cell?_setCell_other _ _ _ _ (by intro e; injection e with _ e; omega), HWC.out j (by omega)]
              congr 3
              rw [List.getElem_append_left (by rw [hle]; exact h)]
              simp
              rfl
            · obtain rfl : j = t.size - 1 := by omega
              rw [World.cell?_setCell_same' _ _ _ (by rw [c1]; rfl), hv]
              congr 3
              rw [List.getElem_append_right (by rw [hle]; omega)]
              simp)
        have hb1 : (((t[t.size - 1].toNat : Int) + 1) % 256) = ((t[t.size - 1] + 1).toNat : Int) := by simp [UInt8.toNat_add]
        have HBK := Lib.hid (hbk _ hb1)
        clear hbk hb1
        go_wp2_with fail
        rw [HBK.out]
        go_wp2_with fail
        go_ret
        refine RB.mk (sval ?_) ((((Bl.of_dr hd).trans hW)).setCell _ (by simp; have := (Bl.of_dr hd).size; omega) _)
        have hdl : (t.extract 0 (t.size - 1)).data.toList = t.data.toList.dropLast := by simp [List.dropLast_eq_take]
        rw [HR2.out, hdl]
    · have k0 : ¬ (0 : Int) < (t.size : Int) := by omega
      have k2 : t.toList.isEmpty = true := by rw [empty_iff]; omega
      have hR2 : R = [] := by
        rw [← H.out]
        have : t.data.toList = [] := by
          have h1 : t.data.toList.length = t.size := by simp
          exact List.length_eq_zero_iff.1 (by omega)
        rw [this]; rfl
      have HR2 := Lib.hid hR2
      clear hR2
      go_wp2_with fail
      go_ret
      exact RB.mk (sval (by rw [HR2.out])) (.of_dr hd)


theorem rsdS_nil (s : ByteArray) : (rsdS s).toList.isEmpty = (rsd s.data.toList).isEmpty := by rw [toL]; rfl
theorem rsdS_size (s : ByteArray) : (rsdS s).size ≤ s.size := by
  have := rsd_len s.data.toList
  unfold rsdS
  simp only [ByteArray.size, List.size_toArray] at this ⊢
  simpa using this
def nxt (s : ByteArray) : ByteArray × Int := if 32 < s.size then (mt, 3) else if s.size < 32 then (s ++ ⟨#[0]⟩, 0) else if (rsd s.data.toList).isEmpty = true then (mt, 9) else (rsdS s, 0)
def past (s : ByteArray) : ByteArray × Int := if 32 < s.size then (mt, 3) else if (rsd s.data.toList).isEmpty = true then (mt, 4) else (rsdS s, 0)

/-- There is such a string. -/
def rsdB (s : ByteArray) : Bool := !(rsd s.data.toList).isEmpty

set_option maxHeartbeats 1000000 in
theorem refRaised (s : ByteArray) (w : World) (hs : s.size ≤ maxLen) :
    Calls Tryd.prog 42 #[.string s] w (RB w (.tuple #[.string (rsdS s), .bool (rsdB s)])) := by
  unfold maxLen at hs
  obtain ⟨R, hR⟩ : ∃ R, R = rsd s.data.toList := ⟨_, rfl⟩
  have hr : rsdS s = ⟨R.toArray⟩ := by rw [hR]; rfl
  have hb : rsdB s = !R.isEmpty := by rw [hR]; rfl
  rw [hr, hb]
  have hlen : s.data.toList.length = s.size := by simp
  have htk : ∀ k (h : k < s.size), s.data.toList.take (k + 1) = s.data.toList.take k ++ [s[k]] := fun k h => by
    rw [List.take_succ_eq_append_getElem (by omega)]; rfl
  have HR := Lib.hid hR
  have HT := Lib.hid htk
  have HLn := Lib.hid hlen
  clear hR hr hb htk hlen
  have hcv := fun (W : World) (n : Int) => conv1_new (P := Tryd.prog) 49 9 5 Tryd.underlying49 Tryd.underlying5 Tryd.underlying9 W n
  go_enter Tryd.func42, Tryd.ntmps42
  go_wp2_with fail
  go_loopg [4] s.size (fun g v wr => ∃ k : Nat, v = .int .i64 k ∧ k ≤ s.size ∧ rsd (s.data.toList.take k) = R ∧ Dr w wr ∧ g = k)
  case atStart => exact ⟨s.size, rfl, Nat.le_refl _, by rw [List.take_of_length_le (by rw [HLn.out]; exact Nat.le_refl _), HR.out], Dr.refl _, rfl⟩
  case round =>
    obtain ⟨k, rfl, hk, hc, hd, hg⟩ := hrel
    have H := Lib.hid hc
    have G := Lib.hid hg
    clear hc hg
    by_cases h0 : 0 < k
    · obtain ⟨j, hj⟩ : ∃ j, k = j + 1 := ⟨k - 1, by omega⟩
      subst hj
      have hj1 : j < s.size := by omega
      have hl := HT.out j hj1
      by_cases h1 : s[j] = 255
      · have k1 : ((s[j].toNat : Int) == 255) = true := by rw [h1]; rfl
        rw [h1] at hl
        have HL := Lib.hid hl
        clear hl h1
        go_wp2_with fail
        go_roundg j
        case rel => exact ⟨j, rfl, by omega, by rw [← H.out, HL.out, rsd_255], hd, rfl⟩
        case measure => rw [G.out]; omega
      · have k1 : ((s[j].toNat : Int) == 255) = false := by
          rw [beq_eq_false_iff_ne]; intro h; exact h1 (UInt8.toNat.inj (show _ = 255 by omega))
        have k2 : ((j : Int) + 1 == 0) = false := by rw [beq_eq_false_iff_ne]; omega
        have hR2 : R = s.data.toList.take j ++ [s[j] + 1] := by rw [← H.out, hl, rsd_snoc h1]
        have HR2 := Lib.hid hR2
        clear hR2 hl h1
        go_wp2_with fail
        go_region
        go_wp2_with fail
        go_ret2
        refine rb_tuple (sval ?_) (bval ?_) (((Bl.of_dr hd).alloc _).drew)
        · rw [HR2.out]
          apply str_ext
          rw [byte_succ, cat_list, toL]
        · rw [HR2.out]; simp
    · obtain rfl : k = 0 := by omega
      have hR2 : R = [] := by rw [← H.out]; rfl
      have HR2 := Lib.hid hR2
      clear hR2
      go_wp2_with fail
      go_ret2
      exact rb_tuple (sval (by rw [HR2.out])) (bval (by rw [HR2.out]; rfl)) (.of_dr hd)

set_option maxHeartbeats 1000000 in
theorem keysNext (s : ByteArray) (w : World) (hs : s.size ≤ maxLen) :
    Calls Tryd.prog 13 #[.string s] w (RB w (.tuple #[.string (nxt s).1, .int .i64 (nxt s).2])) := by
  have hr := fun w => keysRaised s w hs
  unfold maxLen at hs
  unfold nxt
  by_cases h1 : 32 < s.size
  · rw [if_pos h1]
    have k1 : (32 : Int) < (s.size : Int) := by omega
    clear hr
    go_enter Tryd.func13, Tryd.ntmps13
    go_wp2_with fail
    go_ret2
    exact rb_tuple rfl rfl (by repeat (first | assumption | exact Bl.refl _ | apply Bl.drewN | apply Bl.drew | apply Bl.alloc | (refine Bl.dr ?_ (by assumption)) | (refine Bl.trans ?_ (by assumption))))
  · rw [if_neg h1]
    have k1 : ¬ (32 : Int) < (s.size : Int) := by omega
    by_cases h2 : s.size < 32
    · rw [if_pos h2]
      have k2 : (s.size : Int) < 32 := by omega
      clear hr
      go_enter Tryd.func13, Tryd.ntmps13
      go_wp2_with fail
      go_ret2
      exact rb_tuple rfl rfl (by repeat (first | assumption | exact Bl.refl _ | apply Bl.drewN | apply Bl.drew | apply Bl.alloc | (refine Bl.dr ?_ (by assumption)) | (refine Bl.trans ?_ (by assumption))))
    · rw [if_neg h2]
      have k2 : ¬ (s.size : Int) < 32 := by omega
      have he := rsdS_nil s
      generalize (rsd s.data.toList).isEmpty = q at *
      generalize rsdS s = r at *
      have Hr := Lib.hid hr
      clear hr
      cases q
      · go_enter Tryd.func13, Tryd.ntmps13
        go_wp2_with fail
        refine (Hr.out _).mono ?_; rintro e w1 ⟨rfl, hb⟩
        go_wp2_with fail
        go_ret2
        exact rb_tuple rfl rfl (by repeat (first | assumption | exact Bl.refl _ | apply Bl.drewN | apply Bl.drew | apply Bl.alloc | (refine Bl.dr ?_ (by assumption)) | (refine Bl.trans ?_ (by assumption))))
      · go_enter Tryd.func13, Tryd.ntmps13
        go_wp2_with fail
        refine (Hr.out _).mono ?_; rintro e w1 ⟨rfl, hb⟩
        go_wp2_with fail
        go_ret2
        exact rb_tuple rfl rfl (by repeat (first | assumption | exact Bl.refl _ | apply Bl.drewN | apply Bl.drew | apply Bl.alloc | (refine Bl.dr ?_ (by assumption)) | (refine Bl.trans ?_ (by assumption))))

set_option maxHeartbeats 1000000 in
theorem refNext (s : ByteArray) (w : World) (hs : s.size ≤ maxLen) :
    Calls Tryd.prog 14 #[.string s] w (RB w (.tuple #[.string (nxt s).1, .int .i64 (nxt s).2])) := by
  have hr := fun w => refRaised s w hs
  have hk := fun w => refCheck s w hs
  unfold maxLen at hs
  unfold nxt
  unfold kchk at hk
  by_cases h1 : 32 < s.size
  · rw [if_pos h1] at hk ⊢
    have Hk := Lib.hid hk
    clear hr hk
    go_enter Tryd.func14, Tryd.ntmps14
    go_wp2_with fail
    refine (Hk.out _).mono ?_; rintro e w1 ⟨rfl, hd⟩
    go_wp2_with fail
    go_ret2
    exact rb_tuple rfl rfl (by repeat (first | assumption | exact Bl.refl _ | apply Bl.drewN | apply Bl.drew | apply Bl.alloc | (refine Bl.dr ?_ (by assumption)) | (refine Bl.trans ?_ (by assumption))))
  · rw [if_neg h1] at hk ⊢
    have Hk := Lib.hid hk
    clear hk
    by_cases h2 : s.size < 32
    · rw [if_pos h2]
      have k2 : (s.size : Int) < 32 := by omega
      clear hr
      go_enter Tryd.func14, Tryd.ntmps14
      go_wp2_with fail
      refine (Hk.out _).mono ?_; rintro e w1 ⟨rfl, hd⟩
      go_wp2_with fail
      go_ret2
      exact rb_tuple rfl rfl (by repeat (first | assumption | exact Bl.refl _ | apply Bl.drewN | apply Bl.drew | apply Bl.alloc | (refine Bl.dr ?_ (by assumption)) | (refine Bl.trans ?_ (by assumption))))
    · rw [if_neg h2]
      have k2 : ¬ (s.size : Int) < 32 := by omega
      unfold rsdB at hr
      have he := rsdS_nil s
      generalize (rsd s.data.toList).isEmpty = q at *
      generalize rsdS s = r at *
      have Hr := Lib.hid hr
      clear hr
      cases q
      · go_enter Tryd.func14, Tryd.ntmps14
        go_wp2_with fail
        refine (Hk.out _).mono ?_; rintro e w1 ⟨rfl, hd⟩
        go_wp2_with fail
        refine (Hr.out _).mono ?_; rintro e w2 ⟨rfl, hb⟩
        go_wp2_with fail
        go_ret2
        exact rb_tuple rfl rfl (by repeat (first | assumption | exact Bl.refl _ | apply Bl.drewN | apply Bl.drew | apply Bl.alloc | (refine Bl.dr ?_ (by assumption)) | (refine Bl.trans ?_ (by assumption))))
      · go_enter Tryd.func14, Tryd.ntmps14
        go_wp2_with fail
        refine (Hk.out _).mono ?_; rintro e w1 ⟨rfl, hd⟩
        go_wp2_with fail
        refine (Hr.out _).mono ?_; rintro e w2 ⟨rfl, hb⟩
        go_wp2_with fail
        go_ret2
        exact rb_tuple rfl rfl (by repeat (first | assumption | exact Bl.refl _ | apply Bl.drewN | apply Bl.drew | apply Bl.alloc | (refine Bl.dr ?_ (by assumption)) | (refine Bl.trans ?_ (by assumption))))


set_option maxHeartbeats 1000000 in
theorem keysPast (s : ByteArray) (w : World) (hs : s.size ≤ maxLen) :
    Calls Tryd.prog 15 #[.string s] w (RB w (.tuple #[.string (past s).1, .int .i64 (past s).2])) := by
  have hr := fun w => keysRaised s w hs
  have hk := fun w => keysCheck s w hs
  unfold maxLen at hs
  unfold past
  unfold kchk at hk
  by_cases h1 : 32 < s.size
  · rw [if_pos h1] at hk ⊢
    have Hk := Lib.hid hk
    clear hr hk
    go_enter Tryd.func15, Tryd.ntmps15
    go_wp2_with fail
    refine (Hk.out _).mono ?_; rintro e w1 ⟨rfl, hd⟩
    go_wp2_with fail
    go_ret2
    exact rb_tuple rfl rfl (by repeat (first | assumption | exact Bl.refl _ | apply Bl.drewN | apply Bl.drew | apply Bl.alloc | (refine Bl.dr ?_ (by assumption)) | (refine Bl.trans ?_ (by assumption))))
  · rw [if_neg h1] at hk ⊢
    have Hk := Lib.hid hk
    clear hk
    try unfold rsdB at hr
    have he := rsdS_nil s
    generalize (rsd s.data.toList).isEmpty = q at *
    generalize rsdS s = r at *
    have Hr := Lib.hid hr
    clear hr
    cases q
    · go_enter Tryd.func15, Tryd.ntmps15
      go_wp2_with fail
      refine (Hk.out _).mono ?_; rintro e w1 ⟨rfl, hd⟩
      go_wp2_with fail
      refine (Hr.out _).mono ?_; rintro e w2 ⟨rfl, hb⟩
      go_wp2_with fail
      go_ret2
      exact rb_tuple rfl rfl (by repeat (first | assumption | exact Bl.refl _ | apply Bl.drewN | apply Bl.drew | apply Bl.alloc | (refine Bl.dr ?_ (by assumption)) | (refine Bl.trans ?_ (by assumption))))
    · go_enter Tryd.func15, Tryd.ntmps15
      go_wp2_with fail
      refine (Hk.out _).mono ?_; rintro e w1 ⟨rfl, hd⟩
      go_wp2_with fail
      refine (Hr.out _).mono ?_; rintro e w2 ⟨rfl, hb⟩
      go_wp2_with fail
      go_ret2
      exact rb_tuple rfl rfl (by repeat (first | assumption | exact Bl.refl _ | apply Bl.drewN | apply Bl.drew | apply Bl.alloc | (refine Bl.dr ?_ (by assumption)) | (refine Bl.trans ?_ (by assumption))))
set_option maxHeartbeats 1000000 in
theorem refPast (s : ByteArray) (w : World) (hs : s.size ≤ maxLen) :
    Calls Tryd.prog 16 #[.string s] w (RB w (.tuple #[.string (past s).1, .int .i64 (past s).2])) := by
  have hr := fun w => refRaised s w hs
  have hk := fun w => refCheck s w hs
  unfold maxLen at hs
  unfold past
  unfold kchk at hk
  by_cases h1 : 32 < s.size
  · rw [if_pos h1] at hk ⊢
    have Hk := Lib.hid hk
    clear hr hk
    go_enter Tryd.func16, Tryd.ntmps16
    go_wp2_with fail
    refine (Hk.out _).mono ?_; rintro e w1 ⟨rfl, hd⟩
    go_wp2_with fail
    go_ret2
    exact rb_tuple rfl rfl (by repeat (first | assumption | exact Bl.refl _ | apply Bl.drewN | apply Bl.drew | apply Bl.alloc | (refine Bl.dr ?_ (by assumption)) | (refine Bl.trans ?_ (by assumption))))
  · rw [if_neg h1] at hk ⊢
    have Hk := Lib.hid hk
    clear hk
    try unfold rsdB at hr
    have he := rsdS_nil s
    generalize (rsd s.data.toList).isEmpty = q at *
    generalize rsdS s = r at *
    have Hr := Lib.hid hr
    clear hr
    cases q
    · go_enter Tryd.func16, Tryd.ntmps16
      go_wp2_with fail
      refine (Hk.out _).mono ?_; rintro e w1 ⟨rfl, hd⟩
      go_wp2_with fail
      refine (Hr.out _).mono ?_; rintro e w2 ⟨rfl, hb⟩
      go_wp2_with fail
      go_ret2
      exact rb_tuple rfl rfl (by repeat (first | assumption | exact Bl.refl _ | apply Bl.drewN | apply Bl.drew | apply Bl.alloc | (refine Bl.dr ?_ (by assumption)) | (refine Bl.trans ?_ (by assumption))))
    · go_enter Tryd.func16, Tryd.ntmps16
      go_wp2_with fail
      refine (Hk.out _).mono ?_; rintro e w1 ⟨rfl, hd⟩
      go_wp2_with fail
      refine (Hr.out _).mono ?_; rintro e w2 ⟨rfl, hb⟩
      go_wp2_with fail
      go_ret2
      exact rb_tuple rfl rfl (by repeat (first | assumption | exact Bl.refl _ | apply Bl.drewN | apply Bl.drew | apply Bl.alloc | (refine Bl.dr ?_ (by assumption)) | (refine Bl.trans ?_ (by assumption))))

/-! ### Compare, Common -/
theorem cmp_libL : ∀ l r : List UInt8, Lib.compareBytes l r = if Op.bytesLess l r = true then -1 else if l = r then 0 else 1
  | [], [] => rfl
  | [], _ :: _ => rfl
  | _ :: _, [] => rfl
  | a :: l, b :: r => by
    have ih := cmp_libL l r
    unfold Lib.compareBytes
    by_cases h1 : a < b
    · simp [h1, Op.bytesLess]
    · by_cases h2 : b < a
      · have : a ≠ b := by rintro rfl; exact h1 h2
        simp [h1, h2, Op.bytesLess, this]
      · have : a = b := UInt8.le_antisymm (UInt8.not_lt.1 h2) (UInt8.not_lt.1 h1)
        subst this
        simp [h1, Op.bytesLess, ih]
theorem cmp_lib (a b : ByteArray) : Lib.compareBytes a.data.toList b.data.toList = cmpS a b := by
  rw [cmp_libL]; unfold cmpS slt; rw [toL, toL]
def kcmp (a b : ByteArray) : Int × Int := if ktwo a b ≠ 0 then (0, 3) else (cmpS a b, 0)
def kcmn (a b : ByteArray) : Int × Int := if ktwo a b ≠ 0 then (0, 3) else ((cmn a.data.toList b.data.toList : Int), 0)


set_option maxHeartbeats 1000000 in
theorem keysCompare (s t : ByteArray) (w : World) (hs : s.size ≤ maxLen) (ht : t.size ≤ maxLen) :
    Calls Tryd.prog 19 #[.string s, .string t] w (RB w (.tuple #[.int .i64 (kcmp s t).1, .int .i64 (kcmp s t).2])) := by
  have hc := fun w => Tryd.strings_Compare s t w
  rw [cmp_lib] at hc
  have HC := Lib.hid hc
  clear hc
  have ha := fun a c w h => keysAll a c [s, t] w h (by unfold maxLen; simp)
  have h2 := fun w => strs2 w s t hs ht 9
  rw [kall_two] at ha
  unfold kcmp
  by_cases hb : 32 < s.size ∨ 32 < t.size
  · rw [ktwo_bad hb] at ha ⊢
    rw [if_pos (by simp)]
    have Ha := Lib.hid ha
    have H2 := Lib.hid h2
    clear ha h2 hb
    go_enter Tryd.func19, Tryd.ntmps19
    go_wp2_with fail
    refine (Ha.out _ _ _ (H2.out _ _ (by simp))).mono ?_; rintro e w1 ⟨rfl, hd⟩
    go_wp2_with fail
    go_ret2
    exact rb_tuple rfl rfl (by repeat (first | assumption | exact Bl.refl _ | apply Bl.drewN | apply Bl.drew | apply Bl.alloc | (refine Bl.dr ?_ (by assumption)) | (refine Bl.trans ?_ (by assumption))))
  · rw [ktwo_ok hb] at ha ⊢
    rw [if_neg (by simp)]
    have Ha := Lib.hid ha
    have H2 := Lib.hid h2
    clear ha h2 hb
    go_enter Tryd.func19, Tryd.ntmps19
    go_wp2_with fail
    refine (Ha.out _ _ _ (H2.out _ _ (by simp))).mono ?_; rintro e w1 ⟨rfl, hd⟩
    go_wp2_with fail
    (refine (HC.out _).mono ?_; rintro e w2 ⟨rfl, rfl⟩)
    go_wp2_with fail
    go_ret2
    exact rb_tuple rfl rfl (by repeat (first | assumption | exact Bl.refl _ | apply Bl.drewN | apply Bl.drew | apply Bl.alloc | (refine Bl.dr ?_ (by assumption)) | (refine Bl.trans ?_ (by assumption))))
set_option maxHeartbeats 1000000 in
theorem refCompare (s t : ByteArray) (w : World) (hs : s.size ≤ maxLen) (ht : t.size ≤ maxLen) :
    Calls Tryd.prog 20 #[.string s, .string t] w (RB w (.tuple #[.int .i64 (kcmp s t).1, .int .i64 (kcmp s t).2])) := by
  have HC := Lib.hid (fun w => refOrder s t w hs ht)
  have ha := fun w => refTwo s t w hs ht
  unfold kcmp
  by_cases hb : 32 < s.size ∨ 32 < t.size
  · rw [ktwo_bad hb] at ha ⊢
    rw [if_pos (by simp)]
    have Ha := Lib.hid ha
    clear ha hb
    go_enter Tryd.func20, Tryd.ntmps20
    go_wp2_with fail
    refine (Ha.out _).mono ?_; rintro e w1 ⟨rfl, hd⟩
    go_wp2_with fail
    go_ret2
    exact rb_tuple rfl rfl (by repeat (first | assumption | exact Bl.refl _ | apply Bl.drewN | apply Bl.drew | apply Bl.alloc | (refine Bl.dr ?_ (by assumption)) | (refine Bl.trans ?_ (by assumption))))
  · rw [ktwo_ok hb] at ha ⊢
    rw [if_neg (by simp)]
    have Ha := Lib.hid ha
    clear ha hb
    go_enter Tryd.func20, Tryd.ntmps20
    go_wp2_with fail
    refine (Ha.out _).mono ?_; rintro e w1 ⟨rfl, hd⟩
    go_wp2_with fail
    (refine (HC.out _).mono ?_; rintro e w2 ⟨rfl, hd2⟩)
    go_wp2_with fail
    go_ret2
    exact rb_tuple rfl rfl (by repeat (first | assumption | exact Bl.refl _ | apply Bl.drewN | apply Bl.drew | apply Bl.alloc | (refine Bl.dr ?_ (by assumption)) | (refine Bl.trans ?_ (by assumption))))
set_option maxHeartbeats 1000000 in
theorem keysCommonX (s t : ByteArray) (w : World) (hs : s.size ≤ maxLen) (ht : t.size ≤ maxLen) :
    Calls Tryd.prog 21 #[.string s, .string t] w (RB w (.tuple #[.int .i64 (kcmn s t).1, .int .i64 (kcmn s t).2])) := by
  have HC := Lib.hid (fun w => keysCommon s t w hs ht)
  have ha := fun a c w h => keysAll a c [s, t] w h (by unfold maxLen; simp)
  have h2 := fun w => strs2 w s t hs ht 9
  rw [kall_two] at ha
  unfold kcmn
  by_cases hb : 32 < s.size ∨ 32 < t.size
  · rw [ktwo_bad hb] at ha ⊢
    rw [if_pos (by simp)]
    have Ha := Lib.hid ha
    have H2 := Lib.hid h2
    clear ha h2 hb
    go_enter Tryd.func21, Tryd.ntmps21
    go_wp2_with fail
    refine (Ha.out _ _ _ (H2.out _ _ (by simp))).mono ?_; rintro e w1 ⟨rfl, hd⟩
    go_wp2_with fail
    go_ret2
    exact rb_tuple rfl rfl (by repeat (first | assumption | exact Bl.refl _ | apply Bl.drewN | apply Bl.drew | apply Bl.alloc | (refine Bl.dr ?_ (by assumption)) | (refine Bl.trans ?_ (by assumption))))
  · rw [ktwo_ok hb] at ha ⊢
    rw [if_neg (by simp)]
    have Ha := Lib.hid ha
    have H2 := Lib.hid h2
    clear ha h2 hb
    go_enter Tryd.func21, Tryd.ntmps21
    go_wp2_with fail
    refine (Ha.out _ _ _ (H2.out _ _ (by simp))).mono ?_; rintro e w1 ⟨rfl, hd⟩
    go_wp2_with fail
    (refine (HC.out _).mono ?_; rintro e w2 ⟨rfl, hd2⟩)
    go_wp2_with fail
    go_ret2
    exact rb_tuple rfl rfl (by repeat (first | assumption | exact Bl.refl _ | apply Bl.drewN | apply Bl.drew | apply Bl.alloc | (refine Bl.dr ?_ (by assumption)) | (refine Bl.trans ?_ (by assumption))))
set_option maxHeartbeats 1000000 in
theorem refCommonX (s t : ByteArray) (w : World) (hs : s.size ≤ maxLen) (ht : t.size ≤ maxLen) :
    Calls Tryd.prog 22 #[.string s, .string t] w (RB w (.tuple #[.int .i64 (kcmn s t).1, .int .i64 (kcmn s t).2])) := by
  have HC := Lib.hid (fun w => refCommon s t w hs ht)
  have ha := fun w => refTwo s t w hs ht
  unfold kcmn
  by_cases hb : 32 < s.size ∨ 32 < t.size
  · rw [ktwo_bad hb] at ha ⊢
    rw [if_pos (by simp)]
    have Ha := Lib.hid ha
    clear ha hb
    go_enter Tryd.func22, Tryd.ntmps22
    go_wp2_with fail
    refine (Ha.out _).mono ?_; rintro e w1 ⟨rfl, hd⟩
    go_wp2_with fail
    go_ret2
    exact rb_tuple rfl rfl (by repeat (first | assumption | exact Bl.refl _ | apply Bl.drewN | apply Bl.drew | apply Bl.alloc | (refine Bl.dr ?_ (by assumption)) | (refine Bl.trans ?_ (by assumption))))
  · rw [ktwo_ok hb] at ha ⊢
    rw [if_neg (by simp)]
    have Ha := Lib.hid ha
    clear ha hb
    go_enter Tryd.func22, Tryd.ntmps22
    go_wp2_with fail
    refine (Ha.out _).mono ?_; rintro e w1 ⟨rfl, hd⟩
    go_wp2_with fail
    (refine (HC.out _).mono ?_; rintro e w2 ⟨rfl, hd2⟩)
    go_wp2_with fail
    go_ret2
    exact rb_tuple rfl rfl (by repeat (first | assumption | exact Bl.refl _ | apply Bl.drewN | apply Bl.drew | apply Bl.alloc | (refine Bl.dr ?_ (by assumption)) | (refine Bl.trans ?_ (by assumption))))
end Go.Proofs.YtldccffbjohokaaDoor

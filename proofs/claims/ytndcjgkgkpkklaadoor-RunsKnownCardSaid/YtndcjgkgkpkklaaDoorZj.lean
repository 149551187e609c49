/-
  Own texts laid together: KyP KyA KyE KyF KyN KyG RnR RnI.
-/
import Derived.Test.YtndcjgkgkpkklaaDoorZe
import Derived.Lib.ConvBytes
import Derived.Laws.IdiomStrings
import Derived.Test.YtndcjgkgkpkklaaDoorZa
import Derived.Deep.DeepCutAuto
import Derived.Lib.MinMaxS
import Derived.Test.YtndcjgkgkpkklaaDoorZg
import Derived.Test.YtndcjgkgkpkklaaDoorZi
/-
  Plain laws of keys: the least string above all that begin with one, the next key, common beginnings.
-/
namespace Go.Proofs.YtndcjgkgkpkklaaDoor
open Go.RowKit
set_option linter.unusedSimpArgs false
set_option linter.unusedVariables false
set_option maxRecDepth 100000

/-- The least string above all that begin with one; empty: there is none. -/
def rsd : List UInt8 → List UInt8
  | [] => []
  | a :: l => if rsd l = [] then (if a = 255 then [] else [a + 1]) else a :: rsd l
theorem rsd_255 : ∀ l : List UInt8, rsd (l ++ [255]) = rsd l
  | [] => by simp [rsd]
  | a :: l => by simp [rsd, rsd_255 l]
theorem rsd_snoc {c : UInt8} (h : c ≠ 255) : ∀ l : List UInt8, rsd (l ++ [c]) = l ++ [c + 1]
  | [] => by simp [rsd, h]
  | a :: l => by simp [rsd, rsd_snoc h l]
theorem rsd_len : ∀ l : List UInt8, (rsd l).length ≤ l.length
  | [] => by simp [rsd]
  | a :: l => by
    have := rsd_len l
    unfold rsd
    split
    · split <;> simp
    · simp only [List.length_cons]; omega
/-- One begins with the other. -/
def begs (S Y : List UInt8) : Bool := decide (S.length ≤ Y.length) && (Y.take S.length == S)
theorem begs_nil (Y : List UInt8) : begs [] Y = true := by simp [begs]
theorem begs_cons_nil (a : UInt8) (S : List UInt8) : begs (a :: S) [] = false := by simp [begs]
theorem begs_cons (a b : UInt8) (S Y : List UInt8) : begs (a :: S) (b :: Y) = ((b == a) && begs S Y) := by
  unfold begs
  simp only [List.length_cons, Nat.add_le_add_iff_right, List.take_succ_cons]
  by_cases h : b = a
  · subst h; simp
  · have : (b == a) = false := by simpa using h
    simp [h, this]
theorem u8_le {a b : UInt8} : ¬ b < a ↔ a ≤ b := by rw [UInt8.not_lt]
theorem u8_255 (b : UInt8) : ¬ b < 255 ↔ b = 255 := by
  rw [UInt8.not_lt]
  constructor
  · intro h
    apply UInt8.le_antisymm _ h
    rw [UInt8.le_iff_toNat_le]; have := b.toNat_lt; simp; omega
  · rintro rfl; exact UInt8.le_refl _
theorem u8_succ {a b : UInt8} (h : a ≠ 255) : b < a + 1 ↔ b ≤ a := by
  have h1 : a.toNat ≠ 255 := fun k => h (UInt8.toNat.inj k)
  have h2 := a.toNat_lt
  rw [UInt8.lt_iff_toNat_lt, UInt8.le_iff_toNat_le, UInt8.toNat_add]
  simp; omega
theorem rsd_none : ∀ S Y : List UInt8, rsd S = [] → Op.bytesLess Y S = !begs S Y
  | [], Y, _ => by cases Y <;> simp [Op.bytesLess, begs_nil]
  | a :: l, [], _ => by simp [Op.bytesLess, begs_cons_nil]
  | a :: l, b :: q, h => by
    unfold rsd at h
    by_cases hl : rsd l = []
    · rw [if_pos hl] at h
      have ha : a = 255 := by
        by_cases ha : a = 255
        · exact ha
        · rw [if_neg ha] at h; cases h
      subst ha
      have ih := rsd_none l q hl
      rw [begs_cons]
      simp only [Op.bytesLess, ih]
      by_cases hb : b = 255
      · subst hb; simp
      · have : b < 255 := by
          by_cases k : b < 255
          · exact k
          · exact absurd ((u8_255 b).1 k) hb
        simp [hb, this]
    · rw [if_neg hl] at h; cases h
theorem rsd_some : ∀ S Y : List UInt8, rsd S ≠ [] → (!Op.bytesLess Y S && Op.bytesLess Y (rsd S)) = begs S Y
  | [], Y, h => absurd rfl h
  | a :: l, [], h => by simp [Op.bytesLess, begs_cons_nil]
  | a :: l, b :: q, h => by
    rw [begs_cons]
    unfold rsd at h ⊢
    by_cases hl : rsd l = []
    · rw [if_pos hl] at h ⊢
      have ha : a ≠ 255 := by rintro rfl; simp at h
      rw [if_neg ha]
      have ih := rsd_none l q hl
      simp only [Op.bytesLess, ih]
      by_cases hb : b = a
      · subst hb
        have : b < b + 1 := (u8_succ ha).2 (UInt8.le_refl _)
        simp [this]
      · by_cases hlt : b < a
        · simp [hb, hlt]
        · have h1 : ¬ b < a + 1 := by
            rw [u8_succ ha]; intro h2; exact hb (UInt8.le_antisymm h2 (UInt8.not_lt.1 hlt))
          have h2 : (b == a) = false := by simpa using hb
          simp [h2, h1, Op.bytesLess]
    · rw [if_neg hl] at h ⊢
      have ih := rsd_some l q hl
      simp only [Op.bytesLess]
      by_cases hb : b = a
      · subst hb; simp; simpa using ih
      · by_cases hlt : b < a
        · simp [hb, hlt]
        · have h2 : (b == a) = false := by simpa using hb
          simp [h2, hlt]
/-- Nothing is between a string and the string with a zero behind it. -/
theorem bl_zero : ∀ S Y : List UInt8, Op.bytesLess Y (S ++ [0]) = !Op.bytesLess S Y
  | [], [] => by simp [Op.bytesLess]
  | [], b :: q => by
    have : ¬ b < 0 := by rw [UInt8.lt_iff_toNat_lt]; simp
    cases q <;> simp [Op.bytesLess, this]
  | a :: l, [] => by simp [Op.bytesLess]
  | a :: l, b :: q => by
    simp only [List.cons_append, Op.bytesLess, bl_zero l q]
    by_cases h : a = b
    · subst h; simp
    · rcases UInt8.lt_or_lt_of_ne h with k | k
      · simp [h, Ne.symm h, k, UInt8.lt_asymm k]
      · simp [h, Ne.symm h, k, UInt8.lt_asymm k]
/-- Of three in order the first and the last one have as many bytes in common as the pairs. -/
theorem cmn_three : ∀ A B C : List UInt8, Op.bytesLess B A = false → Op.bytesLess C B = false → cmn A C = min (cmn A B) (cmn B C)
  | [], B, C, _, _ => by simp [cmn_nil1]
  | _ :: _, [], C, h, _ => by simp [Op.bytesLess] at h
  | _ :: _, _ :: _, [], _, h => by simp [Op.bytesLess] at h
  | a :: A, b :: B, c :: C, h1, h2 => by
    simp only [Op.bytesLess, Bool.or_eq_false_iff, Bool.and_eq_false_iff, decide_eq_false_iff_not, beq_eq_false_iff_ne] at h1 h2
    by_cases hab : a = b
    · subst hab
      by_cases hbc : a = c
      · subst hbc
        have ih := cmn_three A B C (h1.2.resolve_left (by simp)) (h2.2.resolve_left (by simp))
        simp only [cmn, if_true, ih]; omega
      · simp [cmn, hbc]
    · have hac : a ≠ c := by
        rintro rfl
        exact hab (UInt8.le_antisymm (UInt8.not_lt.1 h1.1) (UInt8.not_lt.1 h2.1))
      simp [cmn, hab, hac]
theorem bl_begs_len {S Y : List UInt8} (h : begs S Y = true) (hl : Y.length ≤ S.length) : Y = S := by
  unfold begs at h
  simp only [Bool.and_eq_true, decide_eq_true_eq, beq_iff_eq] at h
  rw [List.take_of_length_le hl] at h
  exact h.2
end Go.Proofs.YtndcjgkgkpkklaaDoor
/-
  Contracts of keys.raised, Next, Past, Compare, Common and of the reference's.
-/
namespace Go.Proofs.YtndcjgkgkpkklaaDoor
open Go.RowKit
set_option linter.unusedSimpArgs false
set_option linter.unusedVariables false
set_option maxRecDepth 100000

def rsdS (s : ByteArray) : ByteArray := ⟨(rsd s.data.toList).toArray⟩

/-- '[]byte(s)': a new row that holds the string's bytes. -/
theorem conv_bytes {P : Program} (src dst e : TypeId) (hs : P.underlying src = some .string) (hd : P.underlying dst = some (.slice e)) (he : P.underlying e = some (.int .u8)) (w : World) (s : ByteArray) :
    ∃ W c, (convert src dst (.string s)).run P w = .ok (.slice (some ⟨w.heap.size, 0, none⟩) s.size c) W ∧ Bl w W ∧ W.heap.size = w.heap.size + 1 ∧
      (∀ j (h : j < s.size), W.cell? ⟨w.heap.size, j, none⟩ = some (.int .u8 (s[j].toNat : Int))) ∧ (∀ j, j < s.size → W.frozen? ⟨w.heap.size, j, none⟩ = false) := by
  refine ⟨_, _, Lib.run_convert_string_bytes w src dst e s hs hd he, ⟨rfl, rfl, rfl, by rw [Lib.bytesWorld_size]; omega, fun k hk => Lib.bytesWorld_at_old w e s k hk⟩, Lib.bytesWorld_size w e s, fun j h => ?_, fun j h => ?_⟩
  · rw [Lib.bytesWorld_cell w e s j h]
    congr 2
    have : s.data.toList.getD j 0 = s[j] := by
      rw [List.getD_eq_getElem?_getD, List.getElem?_eq_getElem (by simpa using h)]; rfl
    rw [this]
  · have := Lib.bytesWorld_at_new w e s
    simp only [World.frozen?, this]
    have hl : s.size ≤ (Lib.bytesCells w e s).size := by simp [Lib.bytesCells]
    simp; omega
theorem last_split (t : ByteArray) (h : 0 < t.size) : t.data.toList = (t.extract 0 (t.size - 1)).data.toList ++ [t[t.size - 1]] := by
  rw [ByteArray.data_extract]
  have hl : t.data.toList.length = t.size := by simp
  conv => lhs; rw [← List.take_append_drop (t.size - 1) t.data.toList]
  rw [List.drop_eq_getElem_cons (by omega), List.drop_of_length_le (by omega)]
  congr 1
  simp [List.dropLast_eq_take, Array.length_toList]
/-- 'string(b)' of a row that holds bytes. -/
theorem conv_back {P : Program} (src dst e : TypeId) (hs : P.underlying src = some (.slice e)) (he : P.underlying e = some (.int .u8)) (hd : P.underlying dst = some .string) (w : World) (g n cap : Nat) (l : List UInt8) (hn : l.length = n)
    (hc : ∀ j (hj : j < l.length), w.cell? ⟨g, j, none⟩ = some (.int .u8 (l[j].toNat : Int))) :
    (convert src dst (.slice (some ⟨g, 0, none⟩) n cap)).run P w = .ok (.string ⟨l.toArray⟩) w := by
  subst hn
  exact run_convert_bytes_back w src dst e ⟨g, 0, none⟩ cap l hs he hd (fun j hj => by
    have : (⟨g, 0, none⟩ : Addr).add j = ⟨g, j, none⟩ := by unfold Addr.add; split <;> simp_all
    rw [this]; exact hc j hj)

set_option maxHeartbeats 1000000 in
theorem keysRaised (s : ByteArray) (w : World) (hs : s.size ≤ maxLen) :
    Calls Tryd.prog 26 #[.string s] w (RB w (.string (rsdS s))) := by
  unfold maxLen at hs
  obtain ⟨R, hR⟩ : ∃ R, R = rsd s.data.toList := ⟨_, rfl⟩
  have hr : rsdS s = ⟨R.toArray⟩ := by rw [hR]; rfl
  rw [hr]
  have HR := Lib.hid hR
  clear hR hr
  go_enter Tryd.func26, Tryd.ntmps26
  go_wp2_with fail
  go_loopg [0] s.size (fun g v wr => ∃ t : ByteArray, v = .string t ∧ t.size ≤ s.size ∧ rsd t.data.toList = R ∧ Dr w wr ∧ g = t.size)
  case atStart => exact ⟨s, rfl, Nat.le_refl _, HR.out.symm, Dr.refl _, rfl⟩
  case round =>
    obtain ⟨t, rfl, ht, hc, hd, hg⟩ := hrel
    have H := Lib.hid hc
    have G := Lib.hid hg
    clear hc hg
    by_cases h0 : 0 < t.size
    · have hi : t.size - 1 < t.size := by omega
      have k0 : (0 : Int) < (t.size : Int) := by omega
      have hl := last_split t h0
      by_cases h1 : t[t.size - 1] = 255
      · have k1 : ((t[t.size - 1].toNat : Int) == 255) = true := by rw [h1]; rfl
        rw [h1] at hl
        have HL := Lib.hid hl
        clear hl h1
        go_wp2_with fail
        go_roundg (t.size - 1)
        case rel => exact ⟨t.extract 0 (t.size - 1), rfl, by simp; omega, by rw [← H.out, HL.out, rsd_255], hd, by simp⟩
        case measure => rw [G.out]; omega
      · have k1 : ((t[t.size - 1].toNat : Int) == 255) = false := by
          rw [beq_eq_false_iff_ne]; intro h; exact h1 (UInt8.toNat.inj (show _ = 255 by omega))
        have k2 : t.toList.isEmpty = false := by
          cases h : t.toList.isEmpty
          · rfl
          · rw [empty_iff] at h; exact absurd h (by omega)
        have hR2 : R = (t.extract 0 (t.size - 1)).data.toList ++ [t[t.size - 1] + 1] := by rw [← H.out, hl, rsd_snoc h1]
        have HL := Lib.hid hl
        have HR2 := Lib.hid hR2
        obtain ⟨W, cp, hcv, hW, hWs, hWc, hWf⟩ := conv_bytes (P := Tryd.prog) 9 72 5 Tryd.underlying9 Tryd.underlying72 Tryd.underlying5 wr t
        have c1 := hWc (t.size - 1) hi
        have f1 := hWf (t.size - 1) hi
        have HWC := Lib.hid hWc
        clear hl hR2 h1 hWc hWf
        have hbk := fun (v : Int) (hv : v = ((t[t.size - 1] + 1).toNat : Int)) => conv_back (P := Tryd.prog) 72 9 5 Tryd.underlying72 Tryd.underlying5 Tryd.underlying9 (W.setCell ⟨wr.heap.size, t.size - 1, none⟩ (.int .u8 v)) wr.heap.size t.size cp
          ((t.extract 0 (t.size - 1)).data.toList ++ [t[t.size - 1] + 1]) (by simp; omega) (fun j hj => by
            have hle : (t.extract 0 (t.size - 1)).data.toList.length = t.size - 1 := by simp
            simp only [List.length_append, hle, List.length_singleton] at hj
            rcases Nat.lt_or_ge j (t.size - 1) with h | h
            · rw [World.cell?_setCell_other _ _ _ _ (by intro e; injection e with _ e; omega), HWC.out j (by omega)]
              congr 3
              rw [List.getElem_append_left (by rw [hle]; exact h)]
              simp
              rfl
            · obtain rfl : j = t.size - 1 := by omega
              rw [World.cell?_setCell_same' _ _ _ (by rw [c1]; rfl), hv]
              congr 3
              rw [List.getElem_append_right (by rw [hle]; omega)]
              simp)
        have hb1 : (((t[t.size - 1].toNat : Int) + 1) % 256) = ((t[t.size - 1] + 1).toNat : Int) := by simp [UInt8.toNat_add]
        have HBK := Lib.hid (hbk _ hb1)
        clear hbk hb1
        go_wp2_with fail
        rw [HBK.out]
        go_wp2_with fail
        go_ret
        refine RB.mk (sval ?_) ((((Bl.of_dr hd).trans hW)).setCell _ (by simp; have := (Bl.of_dr hd).size; omega) _)
        have hdl : (t.extract 0 (t.size - 1)).data.toList = t.data.toList.dropLast := by simp [List.dropLast_eq_take]
        rw [HR2.out, hdl]
    · have k0 : ¬ (0 : Int) < (t.size : Int) := by omega
      have k2 : t.toList.isEmpty = true := by rw [empty_iff]; omega
      have hR2 : R = [] := by
        rw [← H.out]
        have : t.data.toList = [] := by
          have h1 : t.data.toList.length = t.size := by simp
          exact List.length_eq_zero_iff.1 (by omega)
        rw [this]; rfl
      have HR2 := Lib.hid hR2
      clear hR2
      go_wp2_with fail
      go_ret
      exact RB.mk (sval (by rw [HR2.out])) (.of_dr hd)


theorem rsdS_nil (s : ByteArray) : (rsdS s).toList.isEmpty = (rsd s.data.toList).isEmpty := by rw [toL]; rfl
theorem rsdS_size (s : ByteArray) : (rsdS s).size ≤ s.size := by
  have := rsd_len s.data.toList
  unfold rsdS
  simp only [ByteArray.size, List.size_toArray] at this ⊢
  simpa using this
def nxt (s : ByteArray) : ByteArray × Int := if 32 < s.size then (mt, 3) else if s.size < 32 then (s ++ ⟨#[0]⟩, 0) else if (rsd s.data.toList).isEmpty = true then (mt, 9) else (rsdS s, 0)
def past (s : ByteArray) : ByteArray × Int := if 32 < s.size then (mt, 3) else if (rsd s.data.toList).isEmpty = true then (mt, 4) else (rsdS s, 0)

/-- There is such a string. -/
def rsdB (s : ByteArray) : Bool := !(rsd s.data.toList).isEmpty

set_option maxHeartbeats 1000000 in
theorem keysNext (s : ByteArray) (w : World) (hs : s.size ≤ maxLen) :
    Calls Tryd.prog 19 #[.string s] w (RB w (.tuple #[.string (nxt s).1, .int .i64 (nxt s).2])) := by
  have hr := fun w => keysRaised s w hs
  unfold maxLen at hs
  unfold nxt
  by_cases h1 : 32 < s.size
  · rw [if_pos h1]
    have k1 : (32 : Int) < (s.size : Int) := by omega
    clear hr
    go_enter Tryd.func19, Tryd.ntmps19
    go_wp2_with fail
    go_ret2
    exact rb_tuple rfl rfl (by repeat (first | assumption | exact Bl.refl _ | apply Bl.drewN | apply Bl.drew | apply Bl.alloc | (refine Bl.dr ?_ (by assumption)) | (refine Bl.trans ?_ (by assumption))))
  · rw [if_neg h1]
    have k1 : ¬ (32 : Int) < (s.size : Int) := by omega
    by_cases h2 : s.size < 32
    · rw [if_pos h2]
      have k2 : (s.size : Int) < 32 := by omega
      clear hr
      go_enter Tryd.func19, Tryd.ntmps19
      go_wp2_with fail
      go_ret2
      exact rb_tuple rfl rfl (by repeat (first | assumption | exact Bl.refl _ | apply Bl.drewN | apply Bl.drew | apply Bl.alloc | (refine Bl.dr ?_ (by assumption)) | (refine Bl.trans ?_ (by assumption))))
    · rw [if_neg h2]
      have k2 : ¬ (s.size : Int) < 32 := by omega
      have he := rsdS_nil s
      generalize (rsd s.data.toList).isEmpty = q at *
      generalize rsdS s = r at *
      have Hr := Lib.hid hr
      clear hr
      cases q
      · go_enter Tryd.func19, Tryd.ntmps19
        go_wp2_with fail
        refine (Hr.out _).mono ?_; rintro e w1 ⟨rfl, hb⟩
        go_wp2_with fail
        go_ret2
        exact rb_tuple rfl rfl (by repeat (first | assumption | exact Bl.refl _ | apply Bl.drewN | apply Bl.drew | apply Bl.alloc | (refine Bl.dr ?_ (by assumption)) | (refine Bl.trans ?_ (by assumption))))
      · go_enter Tryd.func19, Tryd.ntmps19
        go_wp2_with fail
        refine (Hr.out _).mono ?_; rintro e w1 ⟨rfl, hb⟩
        go_wp2_with fail
        go_ret2
        exact rb_tuple rfl rfl (by repeat (first | assumption | exact Bl.refl _ | apply Bl.drewN | apply Bl.drew | apply Bl.alloc | (refine Bl.dr ?_ (by assumption)) | (refine Bl.trans ?_ (by assumption))))

end Go.Proofs.YtndcjgkgkpkklaaDoor
/-
  Contracts of In (the reference's), Meet and Of (both).
-/
namespace Go.Proofs.YtndcjgkgkpkklaaDoor
open Go.RowKit
set_option linter.unusedSimpArgs false
set_option linter.unusedVariables false
set_option maxRecDepth 100000

abbrev rng0 : Rng := ⟨mt, mt, false⟩
def meetR (r s : Rng) : Rng := if r.bd = false then ⟨if slt r.lo s.lo = true then s.lo else r.lo, s.hi, s.bd⟩ else if s.bd = true then ⟨if slt r.lo s.lo = true then s.lo else r.lo, if slt s.hi r.hi = true then s.hi else r.hi, true⟩ else ⟨if slt r.lo s.lo = true then s.lo else r.lo, r.hi, true⟩
def meet (r s : Rng) : Rng × Int := if rchk r ≠ 0 then (rng0, rchk r) else if rchk s ≠ 0 then (rng0, rchk s) else (meetR r s, 0)
def ofR (k : ByteArray) : Rng × Int := if 32 < k.size then (rng0, 3) else (⟨k, rsdS k, !(rsd k.data.toList).isEmpty⟩, 0)

theorem rchk_hi {lo hi : ByteArray} {bd : Bool} (h : rchk ⟨lo, hi, bd⟩ = 0) (hb : bd = false) : hi = mt := by
  unfold rchk at h
  split at h
  · simp at h
  · split at h
    · simp at h
    · rename_i h2
      have h4 : hi.size = 0 := by
        rcases Nat.eq_zero_or_pos hi.size with k | k
        · exact k
        · exact absurd ⟨hb, Nat.pos_iff_ne_zero.1 k⟩ h2
      apply str_ext
      rw [toL, toL]
      have h3 : hi.data.toList.length = hi.size := by simp
      exact List.length_eq_zero_iff.1 (h3.trans h4)

/-! ### Of -/
theorem rsdS_mt {k : ByteArray} (h : (rsd k.data.toList).isEmpty = true) : rsdS k = mt := by
  unfold rsdS
  rw [show rsd k.data.toList = [] by simpa using h]

end Go.Proofs.YtndcjgkgkpkklaaDoor
/-
  Contract of keys.Meet.
-/
namespace Go.Proofs.YtndcjgkgkpkklaaDoor
open Go.RowKit
set_option linter.unusedSimpArgs false
set_option linter.unusedVariables false
set_option maxRecDepth 100000

theorem maxS_eq (x y : ByteArray) : Lib.maxS x y = if slt x y = true then y else x := by
  unfold Lib.maxS slt
  rw [Proofs.bytesLess_eq, toL, toL]
  simp
theorem minS_eq (x y : ByteArray) : Lib.minS x y = if slt y x = true then y else x := by
  unfold Lib.minS
  have e1 : (x.data.toList < y.data.toList) ↔ slt x y = true := by unfold slt; rw [Proofs.bytesLess_eq, toL, toL]; simp
  have e2 : x.data.toList = y.data.toList ↔ x = y := by rw [← toL, ← toL]; exact ⟨str_ext, fun h => by rw [h]⟩
  simp only [e1, e2]
  cases h : slt y x
  · cases k : slt x y
    · have := slt_tri h k; subst this; simp
    · simp
  · have k := slt_asymm h
    have hne : x ≠ y := by rintro rfl; rw [slt_irrefl] at h; cases h
    simp [k, hne]


end Go.Proofs.YtndcjgkgkpkklaaDoor
/-
  Plain facts of Next and Past.
-/
namespace Go.Proofs.YtndcjgkgkpkklaaDoor
open Go.RowKit
set_option linter.unusedSimpArgs false
set_option linter.unusedVariables false
set_option maxRecDepth 100000

def begS (a t : ByteArray) : Bool := begs a.data.toList t.data.toList
theorem begs_self (l : List UInt8) : begs l l = true := by simp [begs]
theorem begS_long {a t : ByteArray} (h : t.size < a.size) : begS a t = false := by
  unfold begS begs
  rw [Bool.and_eq_false_iff]; left
  simp; omega
theorem begS_take {a t : ByteArray} (h : a.size ≤ t.size) : ((t.extract 0 a.size).toList == a.toList) = begS a t := by
  unfold begS begs
  rw [toL, toL, ByteArray.data_extract]
  have h1 : decide (a.data.toList.length ≤ t.data.toList.length) = true := by simpa using h
  have h2 : a.data.toList.length = a.size := by simp
  rw [h1, h2]
  simp
theorem begS_eq {a t : ByteArray} (h : begS a t = true) (hl : t.size ≤ a.size) : t = a := by
  have := bl_begs_len h (by simpa using hl)
  apply str_ext; rw [toL, toL, this]
theorem slt_rsdS (t a : ByteArray) : slt t (rsdS a) = Op.bytesLess t.data.toList (rsd a.data.toList) := by
  unfold slt; rw [toL, toL]; rfl
theorem past_facts (a t : ByteArray) (ha : a.size ≤ 32) :
    ((past a).2 = 0 ∧ (past a).1.size ≤ 32 ∧ begS a t = (!slt t a && slt t (past a).1)) ∨ ((past a).2 = 4 ∧ begS a t = !slt t a) := by
  unfold past
  rw [if_neg (by omega)]
  by_cases h : (rsd a.data.toList).isEmpty = true
  · rw [if_pos h]
    refine .inr ⟨rfl, ?_⟩
    have := rsd_none a.data.toList t.data.toList (by simpa using h)
    unfold slt begS
    rw [toL, toL, this]; simp
  · rw [if_neg h]
    refine .inl ⟨rfl, by have := rsdS_size a; simp only; omega, ?_⟩
    have := rsd_some a.data.toList t.data.toList (by simpa using h)
    simp only
    rw [slt_rsdS]
    unfold slt begS
    rw [toL, toL, this]
theorem next_facts (a t : ByteArray) (ha : a.size ≤ 32) (ht : t.size ≤ 32) :
    ((nxt a).2 = 0 ∧ (nxt a).1.size ≤ 32 ∧ slt a (nxt a).1 = true ∧ (slt a t = true → slt t (nxt a).1 = false)) ∨ ((nxt a).2 = 9 ∧ slt a t = false) := by
  unfold nxt
  rw [if_neg (by omega)]
  by_cases h1 : a.size < 32
  · rw [if_pos h1]
    have hz : ∀ y : ByteArray, slt y (a ++ ⟨#[0]⟩) = !slt a y := fun y => by
      unfold slt
      rw [toL, toL, toL, ByteArray.data_append, Array.toList_append]
      exact bl_zero a.data.toList y.data.toList
    refine .inl ⟨rfl, ?_, ?_, fun h => ?_⟩
    · simp only; rw [ByteArray.size_append]; show a.size + 1 ≤ 32; omega
    · simp only; rw [hz, slt_irrefl]; rfl
    · simp only; rw [hz, h]; rfl
  · rw [if_neg h1]
    by_cases h : (rsd a.data.toList).isEmpty = true
    · rw [if_pos h]
      refine .inr ⟨rfl, ?_⟩
      have hn := rsd_none a.data.toList t.data.toList (by simpa using h)
      cases k : slt a t
      · rfl
      · have k2 := slt_asymm k
        have : begS a t = true := by
          have k3 : Op.bytesLess t.data.toList a.data.toList = false := by rw [← toL, ← toL]; exact k2
          rw [k3] at hn
          simpa [begS] using hn.symm
        have := begS_eq this (by omega)
        subst this
        rw [slt_irrefl] at k; cases k
    · rw [if_neg h]
      have hs := fun y : ByteArray => rsd_some a.data.toList y.data.toList (by simpa using h)
      have hs' : ∀ y, (!slt y a && slt y (rsdS a)) = begS a y := fun y => by
        rw [slt_rsdS]; unfold slt begS; rw [toL, toL]; exact hs y
      refine .inl ⟨rfl, by have := rsdS_size a; simp only; omega, ?_, fun k => ?_⟩
      · have := hs' a
        rw [show begS a a = true from begs_self _, slt_irrefl] at this
        simpa using this
      · have k2 := hs' t
        rw [slt_asymm k] at k2
        simp only
        cases q : slt t (rsdS a)
        · rfl
        · rw [q] at k2
          have := begS_eq k2.symm (by omega)
          subst this
          rw [slt_irrefl] at k; cases k
theorem le_trans3 {a b c : ByteArray} (h : slt b a = false) (k : slt c b = false) : slt c a = false := by
  cases e : slt c a
  · rfl
  · cases e2 : slt a b
    · have := slt_tri e2 h; subst this; rw [e] at k; cases k
    · have := slt_trans e e2; rw [this] at k; cases k
end Go.Proofs.YtndcjgkgkpkklaaDoor
/-
  Plain facts of ranges for the law KeysMeets.
-/
namespace Go.Proofs.YtndcjgkgkpkklaaDoor
open Go.RowKit
set_option linter.unusedSimpArgs false
set_option linter.unusedVariables false
set_option maxRecDepth 100000

theorem slt_max (k x y : ByteArray) : slt k (if slt x y = true then y else x) = (slt k x || slt k y) := by
  cases h : slt x y
  · simp only [Bool.false_eq_true, if_false]
    cases hx : slt k x
    · simp [le_trans3 h hx]
    · simp
  · simp only [if_true]
    cases hy : slt k y
    · simp [le_trans3 (slt_asymm h) hy]
    · simp
theorem slt_min (k x y : ByteArray) : slt k (if slt y x = true then y else x) = (slt k x && slt k y) := by
  cases h : slt y x
  · simp only [Bool.false_eq_true, if_false]
    cases hy : slt k y
    · simp [le_trans3 h hy]
    · simp
  · simp only [if_true]
    cases hx : slt k x
    · simp [le_trans3 (slt_asymm h) hx]
    · simp
theorem meet_err {r s : Rng} (h : (meet r s).2 ≠ 0) : (meet r s).1 = rng0 := by
  unfold meet at *
  split
  · rfl
  · split
    · rfl
    · rename_i h1 h2
      rw [if_neg h1, if_neg h2] at h
      exact absurd rfl h
theorem rchk_zero {r : Rng} : rchk r = 0 ↔ r.lo.size ≤ 32 ∧ r.hi.size ≤ 32 ∧ (r.bd = false → r.hi.size = 0) := by
  unfold rchk ktwo
  by_cases h : 32 < r.lo.size ∨ 32 < r.hi.size
  · rw [if_pos h, if_pos (by omega)]
    constructor
    · intro h; omega
    · rintro ⟨a, b, c⟩; omega
  · rw [if_neg h, if_neg (by omega)]
    by_cases h2 : r.bd = false ∧ r.hi.size ≠ 0
    · rw [if_pos h2]
      constructor
      · intro h; omega
      · rintro ⟨a, b, c⟩; exact absurd (c h2.1) h2.2
    · rw [if_neg h2]
      exact ⟨fun _ => ⟨by omega, by omega, fun hb => by
        by_cases hz : r.hi.size = 0
        · exact hz
        · exact absurd ⟨hb, hz⟩ h2⟩, fun _ => rfl⟩
theorem sz_max {x y : ByteArray} (hx : x.size ≤ 32) (hy : y.size ≤ 32) : (if slt x y = true then y else x).size ≤ 32 := by split <;> assumption
theorem sz_min {x y : ByteArray} (hx : x.size ≤ 32) (hy : y.size ≤ 32) : (if slt y x = true then y else x).size ≤ 32 := by split <;> assumption

theorem meet_ok {r s : Rng} (h : (meet r s).2 = 0) : rchk r = 0 ∧ rchk s = 0 ∧ (meet r s).1 = meetR r s := by
  unfold meet at *
  by_cases h1 : rchk r = 0
  · by_cases h2 : rchk s = 0
    · rw [if_neg (by simpa using h1), if_neg (by simpa using h2)]
      exact ⟨h1, h2, rfl⟩
    · rw [if_neg (by simpa using h1), if_pos (by simpa using h2)] at h
      exact absurd h h2
  · rw [if_pos (by simpa using h1)] at h
    exact absurd h h1
theorem meetR_ok {r s : Rng} (h1 : rchk r = 0) (h2 : rchk s = 0) : rchk (meetR r s) = 0 := by
  rw [rchk_zero] at *
  obtain ⟨a1, a2, a3⟩ := h1
  obtain ⟨b1, b2, b3⟩ := h2
  unfold meetR
  by_cases hb : r.bd = false
  · rw [if_pos hb]
    exact ⟨sz_max a1 b1, b2, b3⟩
  · rw [if_neg hb]
    by_cases hs : s.bd = true
    · rw [if_pos hs]
      exact ⟨sz_max a1 b1, sz_min a2 b2, fun h => by simp at h⟩
    · rw [if_neg hs]
      exact ⟨sz_max a1 b1, a2, fun h => by simp at h⟩
theorem meetR_has (r s : Rng) (k : ByteArray) : rhas (meetR r s) k = (rhas r k && rhas s k) := by
  obtain ⟨rl, rh, rb⟩ := r
  obtain ⟨sl, sh, sb⟩ := s
  unfold rhas meetR
  cases rb <;> cases sb <;> simp only [Bool.false_eq_true, Bool.true_eq_false, if_true, if_false, slt_max, slt_min] <;>
    cases slt k rl <;> cases slt k sl <;> cases slt k rh <;> cases slt k sh <;> rfl
theorem rin_ok {r : Rng} (k : ByteArray) (h : rchk r = 0) : rin r k = (decide (k.size ≤ 32) && rhas r k, kchk k) := by
  unfold rin
  rw [if_neg (by simpa using h)]
  unfold kchk
  by_cases hk : 32 < k.size
  · rw [if_pos hk, if_pos (by omega)]
    rw [decide_eq_false (by omega)]; rfl
  · rw [if_neg hk, if_neg (by omega), decide_eq_true (by omega)]; simp
theorem ofR_ok {p : ByteArray} (h : p.size ≤ 32) : (ofR p).2 = 0 ∧ rchk (ofR p).1 = 0 ∧ ∀ k, rhas (ofR p).1 k = begS p k := by
  unfold ofR
  rw [if_neg (by omega)]
  refine ⟨rfl, ?_, fun k => ?_⟩
  · rw [rchk_zero]
    refine ⟨h, by have := rsdS_size p; simp only; omega, fun hb => ?_⟩
    simp only
    rw [rsdS_mt (by simpa using hb)]; rfl
  · unfold rhas
    simp only
    by_cases hr : (rsd p.data.toList).isEmpty = true
    · have := rsd_none p.data.toList k.data.toList (by simpa using hr)
      rw [hr]
      unfold slt begS
      rw [toL, toL, this]; simp
    · have := rsd_some p.data.toList k.data.toList (by simpa using hr)
      rw [slt_rsdS]
      unfold slt begS
      rw [toL, toL, show (rsd p.data.toList).isEmpty = false by simpa using hr]
      simpa using this

/-- What KeysMeets asks of the ranges where Meet answers. -/
theorem meets_facts {r s : Rng} (k : ByteArray) (h : (meet r s).2 = 0) :
    (rin s k).2 = kchk k ∧ (rin r k).2 = kchk k ∧ (rin (meet r s).1 k).2 = kchk k ∧ (rin (meet r s).1 k).1 = ((rin r k).1 && (rin s k).1) ∧
    rchk (meet r s).1 = 0 ∧ (remp r).2 = 0 ∧ (rin r r.lo).2 = 0 ∧ (rin r r.lo).1 = !(remp r).1 ∧ ((remp r).1 && (rin r k).1) = false ∧
    (ofR r.lo).2 = 0 ∧ (rin (ofR r.lo).1 k).2 = kchk k ∧ (k.size ≤ 32 → (rin (ofR r.lo).1 k).1 = begS r.lo k) := by
  obtain ⟨h1, h2, h3⟩ := meet_ok h
  have hm := meetR_ok h1 h2
  rw [h3]
  have hz := rchk_zero.1 h1
  obtain ⟨o1, o2, o3⟩ := ofR_ok hz.1
  have e1 : remp r = (r.bd && !slt r.lo r.hi, 0) := by unfold remp; rw [if_neg (by simpa using h1)]
  have k1 : kchk r.lo = 0 := by unfold kchk; rw [if_neg (by omega)]
  rw [rin_ok k h1, rin_ok k h2, rin_ok k hm, rin_ok r.lo h1, rin_ok k o2, meetR_has, e1, o1]
  refine ⟨rfl, rfl, rfl, ?_, hm, rfl, k1, ?_, ?_, rfl, rfl, fun hk => ?_⟩
  · simp only
    cases decide (k.size ≤ 32) <;> cases rhas r k <;> cases rhas s k <;> rfl
  · simp only
    rw [decide_eq_true hz.1]
    unfold rhas
    rw [slt_irrefl]
    cases r.bd <;> cases slt r.lo r.hi <;> rfl
  · simp only
    unfold rhas
    cases hb : r.bd
    · simp
    · cases hl : slt r.lo r.hi
      · cases hk : slt k r.lo
        · have := le_trans3 hl hk
          rw [this]; simp
        · simp
      · simp
  · simp only
    rw [decide_eq_true hk, o3]; simp
end Go.Proofs.YtndcjgkgkpkklaaDoor
/-
  Plain facts of runs: the laws without the reference; covers.
-/
namespace Go.Proofs.YtndcjgkgkpkklaaDoor
open Go.RowKit
set_option linter.unusedSimpArgs false
set_option linter.unusedVariables false
set_option maxRecDepth 100000

theorem echk_k {x : Ent} (h : echk x = 0) : x.key.size ≤ 32 := by
  unfold echk at h
  split at h
  · cases h
  · omega
theorem slt_nxt {k t : ByteArray} (hk : k.size ≤ 32) (ht : t.size ≤ 32) (h : (nxt k).2 = 0) : slt t (nxt k).1 = !slt k t := by
  rcases next_facts k t hk ht with ⟨_, _, h1, h2⟩ | ⟨h1, _⟩
  · cases e : slt k t
    · have := le_lt_trans e h1; rw [this]; rfl
    · rw [h2 e]; rfl
  · rw [h1] at h; cases h
theorem nxt_size {k : ByteArray} (hk : k.size ≤ 32) (h : (nxt k).2 = 0) : (nxt k).1.size ≤ 32 := by
  rcases next_facts k k hk hk with ⟨_, h1, _, _⟩ | ⟨h1, _⟩
  · exact h1
  · rw [h1] at h; cases h
theorem nxt_none {k t : ByteArray} (hk : k.size ≤ 32) (ht : t.size ≤ 32) (h : (nxt k).2 ≠ 0) : slt k t = false := by
  rcases next_facts k t hk ht with ⟨h1, _⟩ | ⟨_, h1⟩
  · exact absurd h1 h
  · exact h1
theorem cnt_nxt {l : List Ent} (ha : AscE l) (hs : ∀ m, m ∈ l → echk m = 0) {k : ByteArray} (hk : k.size ≤ 32) (h : (nxt k).2 = 0) : cntLtE l (nxt k).1 = ceN l k true := by
  refine cntLtE_eq ha (ceN_le l k true) (fun j x hj hx => ?_) (fun x hx => ?_)
  · rw [slt_nxt hk (echk_k (hs x (List.mem_of_getElem? hx))) h, key_gt ha hx]
    unfold ceN at hj
    simp only [Bool.and_true] at hj
    simp; exact hj
  · rw [slt_nxt hk (echk_k (hs x (List.mem_of_getElem? hx))) h, key_gt ha hx]
    unfold ceN
    simp
theorem flN_strict (l : List Ent) (k : ByteArray) : flN l k true = cntLtE l k := by simp [flN]
theorem flN_lax (l : List Ent) (k : ByteArray) : flN l k false = ceN l k true := by simp [flN, ceN]
theorem ceN_lax (l : List Ent) (k : ByteArray) : ceN l k false = cntLtE l k := by simp [ceN]
theorem slt_mt (x : ByteArray) : slt x mt = false := by
  unfold slt
  rw [toL mt]
  cases x.toList <;> rfl
theorem cnt_mt (l : List Ent) : cntLtE l mt = 0 := by
  unfold cntLtE
  exact filter_no _ _ fun x _ => by rw [slt_mt]; rfl

/-! ### Covers -/
def lastE (l : List Ent) : Ent := l.getD (l.length - 1) ent0
def headE (l : List Ent) : Ent := l.getD 0 ent0
def rcov (r : Rn) : Rng × Int := if (rck r).2 ≠ 0 then (rng0, (rck r).2) else if r.es.length = 0 then (rng0, 4) else (⟨(headE r.es).key, (nxt (lastE r.es).key).1, (nxt (lastE r.es).key).2 == 0⟩, 0)
def rover (r s : Rn) : Bool × Int := if (rck r).2 ≠ 0 then (false, (rck r).2) else if (rck s).2 ≠ 0 then (false, (rck s).2) else if r.es.length = 0 ∨ s.es.length = 0 then (false, 0)
  else (!slt (lastE s.es).key (headE r.es).key && !slt (lastE r.es).key (headE s.es).key, 0)
theorem headE_get {l : List Ent} (h : l.length ≠ 0) : l[0]? = some (headE l) := by
  unfold headE
  rw [List.getD_eq_getElem?_getD, List.getElem?_eq_getElem (by omega)]; rfl
theorem lastE_get {l : List Ent} (h : l.length ≠ 0) : l[l.length - 1]? = some (lastE l) := by
  unfold lastE
  rw [List.getD_eq_getElem?_getD, List.getElem?_eq_getElem (by omega)]; rfl
theorem head_le {l : List Ent} (ha : AscE l) {j : Nat} {x : Ent} (hx : l[j]? = some x) : slt x.key (headE l).key = false := by
  have hj := (List.getElem?_eq_some_iff.1 hx).1
  have h0 := headE_get (l := l) (by omega)
  rcases Nat.eq_zero_or_pos j with h | h
  · subst h; rw [h0] at hx; injection hx with hx; rw [← hx]; exact slt_irrefl _
  · exact slt_asymm (ascE_lt ha h0 hx h)
theorem le_last {l : List Ent} (ha : AscE l) {j : Nat} {x : Ent} (hx : l[j]? = some x) : slt (lastE l).key x.key = false := by
  have hj := (List.getElem?_eq_some_iff.1 hx).1
  have h0 := lastE_get (l := l) (by omega)
  rcases Nat.lt_or_ge j (l.length - 1) with h | h
  · exact slt_asymm (ascE_lt ha hx h0 h)
  · have : j = l.length - 1 := by omega
    subst this; rw [h0] at hx; injection hx with hx; rw [← hx]; exact slt_irrefl _
theorem nxt_err {k : ByteArray} (h : (nxt k).2 ≠ 0) : (nxt k).1 = mt := by
  unfold nxt at h ⊢
  by_cases h1 : 32 < k.size
  · rw [if_pos h1]
  · rw [if_neg h1] at h ⊢
    by_cases h2 : k.size < 32
    · rw [if_pos h2] at h; exact absurd rfl h
    · rw [if_neg h2] at h ⊢
      by_cases h3 : (rsd k.data.toList).isEmpty = true
      · rw [if_pos h3]
      · rw [if_neg h3] at h; exact absurd rfl h
theorem cov_facts {r : Rn} (h : (rck r).2 = 0) (hn : r.es.length ≠ 0) :
    (rcov r).2 = 0 ∧ rchk (rcov r).1 = 0 ∧ (rcov r).1.lo = (headE r.es).key ∧ ∀ k : ByteArray, k.size ≤ 32 → rhas (rcov r).1 k = (!slt k (headE r.es).key && !slt (lastE r.es).key k) := by
  obtain ⟨-, -, -, -, hs, -⟩ := rck_ok h
  have h1 := echk_k (hs _ (List.mem_of_getElem? (headE_get hn)))
  have h2 := echk_k (hs _ (List.mem_of_getElem? (lastE_get hn)))
  unfold rcov
  rw [if_neg (by simp [h]), if_neg hn]
  refine ⟨rfl, ?_, rfl, fun k hk => ?_⟩
  · rw [rchk_zero]
    refine ⟨h1, ?_, fun hb => ?_⟩
    · by_cases e : (nxt (lastE r.es).key).2 = 0
      · exact nxt_size h2 e
      · rw [nxt_err e]; exact Nat.zero_le _
    · simp at hb
      rw [nxt_err hb]; rfl
  · unfold rhas
    simp only
    by_cases e : (nxt (lastE r.es).key).2 = 0
    · rw [slt_nxt h2 hk e, e]; simp
    · rw [nxt_none h2 hk e]; simp [e]
theorem has_not_empty {x : Rng} (h : rchk x = 0) {k : ByteArray} (hk : rhas x k = true) : (remp x).1 = false := by
  unfold remp
  rw [if_neg (by simp [h])]
  unfold rhas at hk
  simp at hk ⊢
  intro hb
  rcases hk with ⟨h1, h2⟩
  rw [hb] at h2
  exact le_lt_trans h1 (by simpa using h2)
theorem emp_iff {x : Rng} (h : rchk x = 0) : (remp x).1 = !rhas x x.lo := by
  unfold remp rhas
  rw [if_neg (by simp [h])]
  simp [slt_irrefl]
theorem meet_zero {x y : Rng} (h1 : rchk x = 0) (h2 : rchk y = 0) : meet x y = (meetR x y, 0) := by
  unfold meet
  rw [if_neg (by simp [h1]), if_neg (by simp [h2])]
theorem meetR_lo (x y : Rng) : (meetR x y).lo = if slt x.lo y.lo = true then y.lo else x.lo := by
  unfold meetR
  split
  · rfl
  · split <;> rfl
theorem rover_val {r s : Rn} (h1 : (rck r).2 = 0) (h2 : (rck s).2 = 0) (n1 : r.es.length ≠ 0) (n2 : s.es.length ≠ 0) : (rover r s).1 = (!slt (lastE s.es).key (headE r.es).key && !slt (lastE r.es).key (headE s.es).key) := by
  unfold rover
  rw [if_neg (by simp [h1]), if_neg (by simp [h2]), if_neg (by omega)]
/-- Overlap by the covers. -/
theorem over_meet {r s : Rn} (h1 : (rck r).2 = 0) (h2 : (rck s).2 = 0) (n1 : r.es.length ≠ 0) (n2 : s.es.length ≠ 0) :
    meet (rcov r).1 (rcov s).1 = (meetR (rcov r).1 (rcov s).1, 0) ∧ remp (meetR (rcov r).1 (rcov s).1) = (!(rover r s).1, 0) := by
  obtain ⟨a1, a2, a3, a4⟩ := cov_facts h1 n1
  obtain ⟨b1, b2, b3, b4⟩ := cov_facts h2 n2
  have hm := meetR_ok a2 b2
  refine ⟨meet_zero a2 b2, ?_⟩
  have e2 : (remp (meetR (rcov r).1 (rcov s).1)).2 = 0 := by unfold remp; rw [if_neg (by simp [hm])]
  have e1 := emp_iff hm
  have hlo := (rchk_zero.1 hm).1
  rw [meetR_has, a4 _ hlo, b4 _ hlo, meetR_lo, a3, b3] at e1
  obtain ⟨-, -, -, -, -, q1⟩ := rck_ok h1
  obtain ⟨-, -, -, -, -, q2⟩ := rck_ok h2
  have t1 := le_last q1 (headE_get n1)
  have t2 := le_last q2 (headE_get n2)
  refine Prod.ext ?_ e2
  simp only
  rw [e1, rover_val h1 h2 n1 n2, slt_max, slt_max, t1, t2]
  cases e : slt (headE r.es).key (headE s.es).key
  · simp [slt_irrefl, e, Bool.and_comm]
  · simp [slt_irrefl, slt_asymm e, Bool.and_comm]
theorem rover_err {r s : Rn} (h : (rck r).2 ≠ 0 ∨ (rck s).2 ≠ 0) : (rover r s).1 = false ∧ (rover r s).2 ≠ 0 := by
  unfold rover
  by_cases e : (rck r).2 ≠ 0
  · rw [if_pos e]; exact ⟨rfl, e⟩
  · rw [if_neg e, if_pos (h.resolve_left e)]; exact ⟨rfl, h.resolve_left e⟩
theorem rover_ok {r s : Rn} (h1 : (rck r).2 = 0) (h2 : (rck s).2 = 0) : (rover r s).2 = 0 := by
  unfold rover
  rw [if_neg (by simp [h1]), if_neg (by simp [h2])]
  split <;> rfl
theorem rover_symm (r s : Rn) : (rover r s).1 = (rover s r).1 := by
  by_cases h1 : (rck r).2 = 0
  · by_cases h2 : (rck s).2 = 0
    · by_cases h3 : r.es.length = 0
      · unfold rover; simp [h1, h2, h3]
      · by_cases h4 : s.es.length = 0
        · unfold rover; simp [h1, h2, h4]
        · rw [rover_val h1 h2 h3 h4, rover_val h2 h1 h4 h3, Bool.and_comm]
    · rw [(rover_err (.inr h2)).1, (rover_err (.inl h2)).1]
  · rw [(rover_err (.inl h1)).1, (rover_err (.inr h1)).1]
theorem rcov_err {r : Rn} (h : (rcov r).2 ≠ 0) : (rck r).2 ≠ 0 ∨ r.es.length = 0 := by
  unfold rcov at h
  by_cases e : (rck r).2 ≠ 0
  · exact .inl e
  · rw [if_neg e] at h
    by_cases e2 : r.es.length = 0
    · exact .inr e2
    · rw [if_neg e2] at h; exact absurd rfl h
theorem rcov_ok {r : Rn} (h : (rcov r).2 = 0) : (rck r).2 = 0 ∧ r.es.length ≠ 0 := by
  unfold rcov at h
  by_cases e : (rck r).2 ≠ 0
  · rw [if_pos e] at h; exact absurd h e
  · rw [if_neg e] at h
    by_cases e2 : r.es.length = 0
    · rw [if_pos e2] at h; cases h
    · exact ⟨by omega, e2⟩
theorem over_none {r s : Rn} (h : (rcov r).2 ≠ 0 ∨ (rcov s).2 ≠ 0) : (rover r s).1 = false := by
  unfold rover
  split
  · rfl
  · split
    · rfl
    · rw [if_pos]
      rcases h with h | h
      · rcases rcov_err h with h | h <;> simp_all
      · rcases rcov_err h with h | h <;> simp_all
/-- The part of the cover. -/
theorem part_cov {r : Rn} (h : (rcov r).2 = 0) : rpart r (rcov r).1 = (0, (r.es.length : Int), 0) := by
  obtain ⟨h1, h2⟩ := rcov_ok h
  obtain ⟨-, c2, c3, c4⟩ := cov_facts h1 h2
  obtain ⟨-, -, -, -, hs, ha⟩ := rck_ok h1
  have e0 : cntLtE r.es (rcov r).1.lo = 0 := by
    rw [c3]
    refine cntLtE_eq ha (Nat.zero_le _) (fun j x hj => by omega) (fun x hx => head_le ha hx)
  have e1 : pTo r.es (rcov r).1 = r.es.length := by
    have hle := pTo_le r.es (rcov r).1
    have hl := lastE_get h2
    have hp := in_part ha (rcov r).1 hl
    have hh := c4 _ (echk_k (hs _ (List.mem_of_getElem? hl)))
    rw [hp, head_le ha hl, slt_irrefl] at hh
    simp at hh; omega
  unfold rpart
  rw [if_neg (by simp [h1]), if_neg (by simp [c2]), e0, e1]; rfl
theorem part_apart {r : Rn} {x : Rng} (h : (rcov r).2 = 0) (hx : rchk x = 0) (he : (remp (meet (rcov r).1 x).1).1 = true) : cntLtE r.es x.lo = pTo r.es x := by
  obtain ⟨h1, h2⟩ := rcov_ok h
  obtain ⟨-, c2, c3, c4⟩ := cov_facts h1 h2
  obtain ⟨-, -, -, -, hs, ha⟩ := rck_ok h1
  rw [meet_zero c2 hx] at he
  have hge := pTo_ge r.es x
  have hle := pTo_le r.es x
  rcases Nat.lt_or_ge (cntLtE r.es x.lo) (pTo r.es x) with hlt | hlt
  · exfalso
    have hg := List.getElem?_eq_getElem (show cntLtE r.es x.lo < r.es.length by omega)
    have i1 := in_part ha x hg
    have i2 := c4 _ (echk_k (hs _ (List.mem_of_getElem? hg)))
    rw [head_le ha hg, le_last ha hg] at i2
    have i3 := meetR_has (rcov r).1 x (r.es[cntLtE r.es x.lo]).key
    rw [i1, i2] at i3
    have := has_not_empty (meetR_ok c2 hx) (k := (r.es[cntLtE r.es x.lo]).key) (by rw [i3]; simp; omega)
    simp only at he
    rw [this] at he; cases he
  · omega
def anyIn (x : Rng) (l : List Ent) : Bool := l.any fun y => rhas x y.key
theorem anyIn_snoc (x : Rng) (l : List Ent) (y : Ent) : anyIn x (l ++ [y]) = (anyIn x l || rhas x y.key) := by simp [anyIn]
theorem over_any {r s : Rn} (h : (rcov r).2 = 0) (k : (rcov s).2 = 0) : (anyIn (rcov s).1 r.es || anyIn (rcov r).1 s.es) = (rover r s).1 := by
  obtain ⟨h1, h2⟩ := rcov_ok h
  obtain ⟨k1, k2⟩ := rcov_ok k
  obtain ⟨-, -, -, c4⟩ := cov_facts h1 h2
  obtain ⟨-, -, -, d4⟩ := cov_facts k1 k2
  obtain ⟨-, -, -, -, hs, ha⟩ := rck_ok h1
  obtain ⟨-, -, -, -, ks, ka⟩ := rck_ok k1
  have hr := rover_val h1 k1 h2 k2
  rw [hr, Bool.eq_iff_iff]
  unfold anyIn
  simp only [Bool.or_eq_true, List.any_eq_true, Bool.and_eq_true, Bool.not_eq_true']
  constructor
  · rintro (⟨x, hx, e⟩ | ⟨x, hx, e⟩)
    · rw [d4 _ (echk_k (hs x hx))] at e
      obtain ⟨i, hi, rfl⟩ := List.getElem_of_mem hx
      simp at e
      exact ⟨le_trans' (head_le ha (List.getElem?_eq_getElem hi)) e.2, le_trans' e.1 (le_last ha (List.getElem?_eq_getElem hi))⟩
    · rw [c4 _ (echk_k (ks x hx))] at e
      obtain ⟨i, hi, rfl⟩ := List.getElem_of_mem hx
      simp at e
      exact ⟨le_trans' e.1 (le_last ka (List.getElem?_eq_getElem hi)), le_trans' (head_le ka (List.getElem?_eq_getElem hi)) e.2⟩
  · rintro ⟨e1, e2⟩
    have g1 := headE_get h2
    have g2 := headE_get k2
    cases e : slt (headE r.es).key (headE s.es).key
    · refine .inl ⟨_, List.mem_of_getElem? g1, ?_⟩
      rw [d4 _ (echk_k (hs _ (List.mem_of_getElem? g1))), e, e1]; rfl
    · refine .inr ⟨_, List.mem_of_getElem? g2, ?_⟩
      rw [c4 _ (echk_k (ks _ (List.mem_of_getElem? g2))), slt_asymm e, e2]; rfl

/-! ### Counts -/
theorem cutE_cons {l : List Ent} {i up : Nat} {x : Ent} (h : l[i]? = some x) (hi : i < up) : cutE l i up = x :: cutE l (i + 1) up := by
  obtain ⟨h1, h2⟩ := List.getElem?_eq_some_iff.1 h
  unfold cutE
  rw [List.drop_eq_getElem_cons h1, h2, show up - i = (up - (i + 1)) + 1 by omega, List.take_succ_cons]
theorem cutE_app (l : List Ent) {a b c : Nat} (h1 : a ≤ b) (h2 : b ≤ c) : cutE l a c = cutE l a b ++ cutE l b c := by
  unfold cutE
  rw [show c - a = (b - a) + (c - b) by omega, List.take_add, List.drop_drop, show a + (b - a) = b by omega]
theorem cutE_over (l : List Ent) {a b : Nat} (h : b ≤ a) : cutE l a b = [] := by
  unfold cutE; rw [show b - a = 0 by omega]; rfl
theorem nDead_app (a b : List Ent) : nDead (a ++ b) = nDead a + nDead b := by unfold nDead; rw [List.filter_append, List.length_append]
theorem nLive_app (a b : List Ent) : nLive (a ++ b) = nLive a + nLive b := by unfold nLive; rw [List.filter_append, List.length_append]
theorem nDead_cons (x : Ent) (l : List Ent) : nDead (x :: l) = (if x.dead = true then 1 else 0) + nDead l := by
  have := nDead_app [x] l
  rw [show x :: l = [x] ++ l from rfl, this]; unfold nDead; cases h : x.dead <;> simp [h]
/-- The dead ones that are left. -/
def deadFrom (l : List Ent) (fr up i : Nat) : Nat := nDead (cutE l (max i fr) up)
theorem deadFrom_zero (l : List Ent) (fr up : Nat) : deadFrom l fr up 0 = nDead (cutE l fr up) := by unfold deadFrom; rw [show max 0 fr = fr by omega]
theorem deadFrom_end (l : List Ent) (fr up : Nat) (h : up ≤ l.length) : deadFrom l fr up l.length = 0 := by unfold deadFrom; rw [cutE_over _ (by omega)]; rfl
theorem deadFrom_in {l : List Ent} {fr up i : Nat} {x : Ent} (h : l[i]? = some x) (h1 : fr ≤ i) (h2 : i < up) : deadFrom l fr up i = (if x.dead = true then 1 else 0) + deadFrom l fr up (i + 1) := by
  unfold deadFrom
  rw [show max i fr = i by omega, show max (i + 1) fr = i + 1 by omega, cutE_cons h h2, nDead_cons]
theorem deadFrom_lo {l : List Ent} {fr up i : Nat} (h1 : i < fr) : deadFrom l fr up i = deadFrom l fr up (i + 1) := by
  unfold deadFrom; rw [show max i fr = fr by omega, show max (i + 1) fr = fr by omega]
theorem deadFrom_hi {l : List Ent} {fr up i : Nat} (h1 : up ≤ i) : deadFrom l fr up i = deadFrom l fr up (i + 1) := by
  unfold deadFrom; rw [cutE_over _ (by omega), cutE_over _ (by omega)]
theorem rcount_ok {r : Rn} {x : Rng} (h : (rck r).2 = 0) (hx : rchk x = 0) : rcount r x = ((nLive (cutE r.es (cntLtE r.es x.lo) (pTo r.es x)) : Int), (nDead (cutE r.es (cntLtE r.es x.lo) (pTo r.es x)) : Int), 0) := by
  unfold rcount; rw [if_neg (by simp [h]), if_neg (by simp [hx])]
theorem rpart_ok {r : Rn} {x : Rng} (h : (rck r).2 = 0) (hx : rchk x = 0) : rpart r x = ((cntLtE r.es x.lo : Int), (pTo r.es x : Int), 0) := by
  unfold rpart; rw [if_neg (by simp [h]), if_neg (by simp [hx])]
/-- Count of what is before a key, and from it on. -/
theorem counts_cut {r : Rn} {x : Rng} {k : ByteArray} (h : (rck r).2 = 0) (hx : rchk x = 0) (hk : k.size ≤ 32) (hh : rhas x k = true) :
    (rcount r ⟨x.lo, k, true⟩).2.2 = 0 ∧ (rcount r ⟨k, x.hi, x.bd⟩).2.2 = 0 ∧ (rcount r ⟨x.lo, k, true⟩).1 + (rcount r ⟨k, x.hi, x.bd⟩).1 = (rcount r x).1 ∧
      (rcount r ⟨x.lo, k, true⟩).2.1 + (rcount r ⟨k, x.hi, x.bd⟩).2.1 = (rcount r x).2.1 := by
  obtain ⟨z1, z2, z3⟩ := rchk_zero.1 hx
  have y1 : rchk ⟨x.lo, k, true⟩ = 0 := rchk_zero.2 ⟨z1, hk, by simp⟩
  have y2 : rchk ⟨k, x.hi, x.bd⟩ = 0 := rchk_zero.2 ⟨hk, z2, z3⟩
  unfold rhas at hh
  simp at hh
  have m1 := cntLtE_mono r.es hh.1
  have p1 : pTo r.es ⟨x.lo, k, true⟩ = cntLtE r.es k := by unfold pTo; simp; omega
  have p2 : pTo r.es ⟨k, x.hi, x.bd⟩ = pTo r.es x ∧ cntLtE r.es k ≤ pTo r.es x := by
    unfold pTo
    simp only
    cases hb : x.bd
    · simp; exact cntLtE_le _ _
    · have h2 := hh.2
      rw [hb] at h2
      have m2 := cntLtE_mono r.es (a := k) (b := x.hi) (slt_asymm (by simpa using h2))
      simp; omega
  rw [rcount_ok h y1, rcount_ok h y2, rcount_ok h hx]
  simp only
  rw [p1, p2.1, cutE_app r.es m1 p2.2, nLive_app, nDead_app]
  exact ⟨trivial, trivial, by omega, by omega⟩
end Go.Proofs.YtndcjgkgkpkklaaDoor
/-
  Contracts of Count, of both.
-/
namespace Go.Proofs.YtndcjgkgkpkklaaDoor
open Go.RowKit
set_option linter.unusedSimpArgs false
set_option linter.unusedVariables false
set_option maxRecDepth 100000

theorem count_err {r : Rn} {x : Rng} (h : (rpart r x).2.2 ≠ 0) : rpart r x = (0, 0, (rpart r x).2.2) ∧ rcount r x = (0, 0, (rpart r x).2.2) := by
  unfold rpart rcount at *
  by_cases e : (rck r).2 ≠ 0
  · rw [if_pos e, if_pos e]; exact ⟨rfl, rfl⟩
  · by_cases f : rchk x ≠ 0
    · rw [if_neg e, if_neg e, if_pos f, if_pos f]; exact ⟨rfl, rfl⟩
    · rw [if_neg e, if_neg f] at h; exact absurd rfl h
theorem part_zero {r : Rn} {x : Rng} (h : (rpart r x).2.2 = 0) : (rck r).2 = 0 ∧ rchk x = 0 := by
  unfold rpart at h
  by_cases e : (rck r).2 ≠ 0
  · rw [if_pos e] at h; exact absurd h e
  · by_cases f : rchk x ≠ 0
    · rw [if_neg e, if_pos f] at h; exact absurd h f
    · exact ⟨by omega, by omega⟩

/-- The world of the loop of Count. -/
structure RK (w wr : World) (B : Nat) (p q : Int) : Prop where
  k0 : wr.cell? ⟨B, 0, none⟩ = some (.int .i64 p)
  k1 : wr.cell? ⟨B, 1, none⟩ = some (.int .i64 q)
  f0 : wr.frozen? ⟨B, 0, none⟩ = false
  f1 : wr.frozen? ⟨B, 1, none⟩ = false
  hB : w.heap.size ≤ B
  hb : Bl w wr
theorem RK.set0 {w wr : World} {B : Nat} {p q : Int} (h : RK w wr B p q) (v : Int) : RK w (wr.setCell ⟨B, 0, none⟩ (.int .i64 v)) B v q :=
  ⟨World.cell?_setCell_same wr _ _ h.k0, (World.cell?_setCell_other wr _ _ _ (by simp)).trans h.k1, (frozen_set _ _ _ _).trans h.f0, (frozen_set _ _ _ _).trans h.f1, h.hB, h.hb.setCell _ h.hB _⟩
theorem RK.set1 {w wr : World} {B : Nat} {p q : Int} (h : RK w wr B p q) (v : Int) : RK w (wr.setCell ⟨B, 1, none⟩ (.int .i64 v)) B p v :=
  ⟨(World.cell?_setCell_other wr _ _ _ (by simp)).trans h.k0, World.cell?_setCell_same wr _ _ h.k1, (frozen_set _ _ _ _).trans h.f0, (frozen_set _ _ _ _).trans h.f1, h.hB, h.hb.setCell _ h.hB _⟩
theorem RK.alloc {w wr : World} {B : Nat} {p q : Int} (h : RK w wr B p q) (o : Obj) : RK w (wr.alloc o) B p q :=
  ⟨((Bl.refl wr).alloc o).cell h.k0, ((Bl.refl wr).alloc o).cell h.k1, ((Bl.refl wr).alloc o).frozen h.k0 h.f0, ((Bl.refl wr).alloc o).frozen h.k1 h.f1, h.hB, h.hb.alloc o⟩

set_option maxHeartbeats 4000000 in
theorem runCount (a : Option Addr) (c : Nat) (r : Rn) (x : Rng) (w : World) (h : ROk w a c r) (hx : x.ok) :
    Calls Tryd.prog 9 #[r.v a c, x.v] w (RB w (.tuple #[.int .i64 (rcount r x).1, .int .i64 (rcount r x).2.1, .int .i64 (rcount r x).2.2])) := by
  have hC := fun w h => runPart a c r x w h hx
  by_cases e : (rpart r x).2.2 = 0
  · obtain ⟨e1, e2⟩ := part_zero e
    have o4 : r.es.length ≤ 5000 := (rck_ok e1).2.2.2.1
    rw [rpart_ok e1 e2] at hC
    rw [rcount_ok e1 e2]
    have hle := pTo_le r.es x
    have hge := pTo_ge r.es x
    have hlc := h.len
    have hcc := h.cap
    unfold maxLen at hcc
    generalize cntLtE r.es x.lo = fr at *
    generalize pTo r.es x = tt at *
    clear e e1 e2
    have HC := Lib.hid hC
    have HO := Lib.hid h
    obtain ⟨id, l⟩ := r
    obtain ⟨lo, hi, bd⟩ := x
    unfold Rn.v Rng.v
    simp only at *
    clear hC h hx
    go_enter Tryd.func9, Tryd.ntmps9
    go_wp2_with fail
    refine (HC.out _ (HO.out.bl (by repeat (first | assumption | exact Bl.refl _ | apply Bl.drewN | apply Bl.drew | apply Bl.alloc | (refine Bl.dr ?_ (by assumption)) | (refine Bl.trans ?_ (by assumption)))))).mono ?_; rintro e w1 ⟨rfl, hb1⟩
    have hrp : RP w w1 a l.length c ⟨lo, hi, bd⟩ := ⟨hb1.cell (by simp [go_sem]), hb1.cell (by simp [go_sem]), hb1.cell (by simp [go_sem]), hb1.cell (by simp [go_sem]), (by repeat (first | assumption | exact Bl.refl _ | apply Bl.drewN | apply Bl.drew | apply Bl.alloc | (refine Bl.dr ?_ (by assumption)) | (refine Bl.trans ?_ (by assumption))))⟩
    clear hb1
    have cc := ((Bl.refl w1).alloc (Obj.cells #[.int .i64 0, .int .i64 0] 53)).cell hrp.c1
    have hb := hrp.hb
    have hbs := hb.size
    clear hrp
    by_cases hft : fr = tt
    · subst hft
      have hz : fr - fr = 0 := by omega
      by_cases hcf : c = fr
      all_goals
        go_wp2_with fail
        go_loopg [11, 28] 0 (fun g p i wr => i = .int .i64 0 ∧ RK w wr w1.heap.size 0 0 ∧ g = 0)
        case atStart => exact ⟨rfl, ⟨by simp [go_sem], by simp [go_sem], by simp [go_sem], by simp [go_sem], hbs, (by repeat (first | assumption | exact Bl.refl _ | apply Bl.drewN | apply Bl.drew | apply Bl.alloc | (refine Bl.dr ?_ (by assumption)) | (refine Bl.trans ?_ (by assumption))))⟩, rfl⟩
        case round =>
          clear cc hb
          obtain ⟨rfl, hrk, hg⟩ := hrel
          obtain ⟨k0, k1, f0, f1, hB, hb⟩ := hrk
          go_wp2_with fail
          go_quiet (fail)
          go_wp2_with fail
          go_ret3
          exact rb_tuple3' (ival (by rw [cutE_nil]; rfl)) (ival (by rw [cutE_nil]; rfl)) rfl (by repeat (first | assumption | exact Bl.refl _ | apply Bl.drewN | apply Bl.drew | apply Bl.alloc | (refine Bl.dr ?_ (by assumption)) | (refine Bl.trans ?_ (by assumption))))
    · have hcf : ¬ c = fr := by omega
      obtain ⟨b, off, rfl, hat⟩ := HO.out.ents.get (show fr < l.length by omega)
      have HA := Lib.hid hat
      clear hat
      go_wp2_with fail
      go_loopg [11, 28] (tt - fr) (fun g p i wr => ∃ n : Nat, fr + n ≤ tt ∧ i = .int .i64 n ∧ RK w wr w1.heap.size (nLive (cutE l fr (fr + n)) : Nat) (nDead (cutE l fr (fr + n)) : Nat) ∧ g = tt - fr - n)
      case atStart => exact ⟨0, by omega, rfl, ⟨by simp [go_sem, cutE_nil, nLive], by simp [go_sem, cutE_nil, nDead], by simp [go_sem], by simp [go_sem], hbs, (by repeat (first | assumption | exact Bl.refl _ | apply Bl.drewN | apply Bl.drew | apply Bl.alloc | (refine Bl.dr ?_ (by assumption)) | (refine Bl.trans ?_ (by assumption))))⟩, rfl⟩
      case round =>
        clear cc hb
        obtain ⟨n, hn, rfl, hrk, hg⟩ := hrel
        have HRK := Lib.hid hrk
        obtain ⟨k0, k1, f0, f1, hB, hb⟩ := hrk
        have G := Lib.hid hg
        clear hg
        have b1 := live_dead (cutE l fr (fr + n))
        rw [cutE_len (show fr + n ≤ l.length by omega)] at b1
        by_cases h1 : n < tt - fr
        · obtain ⟨y, hy⟩ : ∃ y, l[fr + n]? = some y := ⟨_, List.getElem?_eq_getElem (by omega)⟩
          have hd := (HA.out _ y hy).bl hb
          rw [show off + (fr + n) * 4 = off + fr * 4 + n * 4 by omega] at hd
          obtain ⟨d0, d1, d2, d3⟩ := hd
          have s1 := nLive_snoc (cutE l fr (fr + n)) y
          have s2 := nDead_snoc (cutE l fr (fr + n)) y
          rw [← cutE_succ hy (by omega)] at s1 s2
          have S1 := Lib.hid s1
          have S2 := Lib.hid s2
          clear hy s1 s2
          generalize nLive (cutE l fr (fr + n)) = m1 at *
          generalize nDead (cutE l fr (fr + n)) = m2 at *
          obtain ⟨kk, vv, dd, ss⟩ := y
          simp only at d0 d1 d2 d3
          have hbz := (Bl.refl wr).alloc (Obj.cells #[.string kk, .string vv, .bool dd, .int .i64 ss] 27)
          have e0 := hbz.cell k0
          have e1 := hbz.cell k1
          have g0 := hbz.frozen k0 f0
          have g1 := hbz.frozen k1 f1
          have hlt : w1.heap.size < wr.heap.size := lt_of_cell k0
          clear hbz
          cases dd
          all_goals
            go_wp2_with fail
            go_roundg (tt - fr - (n + 1))
            case rel =>
              refine ⟨n + 1, by omega, by go_num, ?_, rfl⟩
              have e1 := S1.out
              have e2 := S2.out
              simp at e1 e2
              rw [show fr + (n + 1) = fr + n + 1 from rfl, e1, e2]
              first
              | (rw [show ((m1 + 1 : Nat) : Int) = (m1 : Int) + 1 by omega]; exact (HRK.out.set0 _).alloc _)
              | (rw [show ((m2 + 1 : Nat) : Int) = (m2 : Int) + 1 by omega]; exact (HRK.out.set1 _).alloc _)
            case measure => rw [G.out]; omega
        · obtain rfl : tt = fr + n := by omega
          go_wp2_with fail
          go_quiet (fail)
          go_wp2_with fail
          go_ret3
          exact rb_tuple3' rfl rfl rfl (by repeat (first | assumption | exact Bl.refl _ | apply Bl.drewN | apply Bl.drew | apply Bl.alloc | (refine Bl.dr ?_ (by assumption)) | (refine Bl.trans ?_ (by assumption))))
  · obtain ⟨f1, f2⟩ := count_err e
    rw [f2]
    rw [f1] at hC
    have e' : ((rpart r x).2.2 != 0) = true := by simp [e]
    generalize (rpart r x).2.2 = q at *
    clear f1 f2 e
    have HC := Lib.hid hC
    have HO := Lib.hid h
    obtain ⟨id, l⟩ := r
    obtain ⟨lo, hi, bd⟩ := x
    unfold Rn.v Rng.v
    simp only at *
    clear hC h hx
    go_enter Tryd.func9, Tryd.ntmps9
    go_wp2_with fail
    refine (HC.out _ (HO.out.bl (by repeat (first | assumption | exact Bl.refl _ | apply Bl.drewN | apply Bl.drew | apply Bl.alloc | (refine Bl.dr ?_ (by assumption)) | (refine Bl.trans ?_ (by assumption)))))).mono ?_; rintro e w1 ⟨rfl, hb1⟩
    go_wp2_with fail
    go_ret3
    exact rb_tuple3' rfl rfl rfl (by repeat (first | assumption | exact Bl.refl _ | apply Bl.drewN | apply Bl.drew | apply Bl.alloc | (refine Bl.dr ?_ (by assumption)) | (refine Bl.trans ?_ (by assumption))))
end Go.Proofs.YtndcjgkgkpkklaaDoor

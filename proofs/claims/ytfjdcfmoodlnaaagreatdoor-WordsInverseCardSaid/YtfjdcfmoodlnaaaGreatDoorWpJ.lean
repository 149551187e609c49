
/-
  Contracts of words (over 01.ZD): follows.
-/
import Derived.Test.YtfjdcfmoodlnaaaGreatDoorWpI
namespace Go.Proofs.YtfjdcfmoodlnaaaGreatDoor
open Go.RowKit
set_option linter.unusedSimpArgs false
set_option linter.unusedVariables false
set_option maxRecDepth 100000

theorem rep48 : ∀ n : Nat, Lib.repeatL [48] n = List.replicate n 48
  | 0 => rfl
  | n + 1 => by rw [Lib.repeatL, rep48 n]; rfl
theorem woRep (n : Nat) (hn : n ≤ 2000000) (w : World) : Calls Tryz.prog 55 #[.string ⟨#[48]⟩, .int .i64 (n : Nat)] w (RB w (.string ⟨(List.replicate n 48).toArray⟩)) := by
  have h := Tryz.strings_Repeat ⟨#[48]⟩ n w (by omega) (by show 1 * n ≤ _; omega)
  rw [show (⟨#[48]⟩ : ByteArray).data.toList = [48] from rfl, rep48] at h
  exact h
/-- Whether the second number is greater than the first one and one. -/
def follN (a b : List UInt8) : Bool := decide (natV 0 a + 1 < natV 0 b)
theorem next_nat (l : List UInt8) : isNat (nextW l) = true ∧ natV 0 (nextW l) = natV 0 l + 1 := ⟨(dd_facts _).1, (dd_facts _).2.1⟩
theorem foll_is {l : List UInt8} {b x : ByteArray} (hb : isNat b.data.toList = true) (hx : x = ⟨(nextW l).toArray⟩) : decide (cmpD x b < 0) = follN l b.data.toList := by
  subst hx
  obtain ⟨h1, h2⟩ := next_nat l
  rw [cmpD_lt (a := ⟨(nextW l).toArray⟩) h1 hb]
  unfold follN
  rw [show natV 0 (⟨(nextW l).toArray⟩ : ByteArray).data.toList = natV 0 (nextW l) from rfl, h2]
set_option maxHeartbeats 4000000 in
theorem woFollows (a b : ByteArray) (ha : a.size ≤ 100000) (hb : b.size ≤ 100000) (hna : isNat a.data.toList = true) (hnb : isNat b.data.toList = true) (w : World) : Calls Tryz.prog 31 #[.string a, .string b] w (RB w (.bool (follN a.data.toList b.data.toList))) := by
  have hL := fun w => woLast a (by omega) (isNat_iff.1 hna).2.1 w
  have hR := fun n h w => woRep n h w
  have hC := fun x h w => woCompare x b h (by omega) w
  have hpos : 0 < a.size := by
    rcases Nat.eq_zero_or_pos a.size with h | h
    · obtain rfl := str_empty h; cases hna
    · exact h
  have HL := Lib.hid hL
  have HR := Lib.hid hR
  have HC := Lib.hid hC
  have HA := Lib.hid hna
  have HB := Lib.hid hnb
  have hcv := fun (W : World) (n : Int) => conv1_new (P := Tryz.prog) 49 9 5 Tryz.underlying49 Tryz.underlying5 Tryz.underlying9 W n
  obtain ⟨res, hres⟩ : ∃ r, follN a.data.toList b.data.toList = r := ⟨_, rfl⟩
  rw [hres]
  have HRes := Lib.hid hres
  clear hL hR hC hna hnb hres
  go_enter Tryz.func31, Tryz.ntmps31
  go_wp2_with fail
  refine (HL.out _).mono ?_; rintro e w1 ⟨p, rfl, hp, hN, h9, hd⟩
  have HN := Lib.hid hN
  have H9 := Lib.hid h9
  clear hN h9
  match p, hp, HN, H9 with
  | 0, hp, HN, H9 =>
    rw [show (((0 : Nat) : Int) - 1) = -1 from rfl]
    clear hp
    go_wp2_with fail
    refine (HR.out a.size (by omega) _).mono ?_; rintro e w2 ⟨rfl, hb2⟩
    have hr := next_str0 hpos HN.out (o := ⟨(List.replicate a.size 48).toArray⟩) rfl
    have hzs : (⟨(List.replicate a.size 48).toArray⟩ : ByteArray).size = a.size := by show (List.replicate a.size (48 : UInt8)).toArray.size = _; simp
    generalize (⟨(List.replicate a.size 48).toArray⟩ : ByteArray) = z at hr hzs ⊢
    have i6 : ¬ 9223372036854775807 < 1 + z.size := by omega
    have hsz : ((⟨#[49]⟩ : ByteArray) ++ z).size ≤ 100000000 := by rw [ByteArray.size_append, hzs]; show 1 + _ ≤ _; omega
    have HZ := Lib.hid hr
    have HS := Lib.hid hsz
    clear hr hzs hsz
    go_wp2_with fail
    refine (HC.out _ HS.out _).mono ?_; rintro e w3 ⟨rfl, hd3⟩
    have hf := foll_is (l := a.data.toList) HB.out HZ.out
    rw [HRes.out] at hf
    generalize cmpD (⟨#[49]⟩ ++ z) b = K at hf ⊢
    have HF := Lib.hid hf
    clear hf
    go_wp2_with fail
    go_ret
    exact RB.mk (bval HF.out) (by repeat (first | assumption | exact Bl.refl _ | apply Bl.drewN | apply Bl.drew | apply Bl.alloc | (refine Bl.dr ?_ (by assumption)) | (refine Bl.trans ?_ (by assumption))))
  | m + 1, hp, HN, H9 =>
    rw [show (((m + 1 : Nat) : Int) - 1) = (m : Int) by omega]
    have hm : m < a.size := by omega
    have hq := H9.out m hm rfl
    have j0 : (0 : Int) ≤ (m : Int) := by omega
    have j1 : (m : Int) < (a.size : Int) := by omega
    have j2 : (m : Int) ≤ (a.size : Int) := by omega
    obtain ⟨n, hn⟩ : ∃ n : Nat, a.size - (m + 1) = n := ⟨_, rfl⟩
    have jn : (a.size : Int) - 1 - (m : Int) = (n : Int) := by omega
    have HQ := Lib.hid hq
    have HNn := Lib.hid hn
    have hn2 : n ≤ 2000000 := by omega
    clear hq hn
    go_wp2_with fail
    refine (HR.out n hn2 _).mono ?_; rintro e w2 ⟨rfl, hb2⟩
    have hr := fun bb hb => next_strM HA.out hm HQ.out HN.out (o := ⟨(List.replicate n 48).toArray⟩) (by rw [HNn.out]) (b := bb) hb
    have hzs : (⟨(List.replicate n 48).toArray⟩ : ByteArray).size = n := by show (List.replicate n (48 : UInt8)).toArray.size = _; simp
    generalize (⟨(List.replicate n 48).toArray⟩ : ByteArray) = z at hr hzs ⊢
    have hx0 : (a.extract 0 m).size = m := by rw [ByteArray.size_extract]; omega
    have j3 : ¬ 9223372036854775807 < (a.extract 0 m).size + 1 := by omega
    have j4 : ¬ 9223372036854775807 < (a.extract 0 m).size + 1 + z.size := by omega
    have j5 : ¬ 9223372036854775807 < min m a.size + 1 := by omega
    have j6 : ¬ 9223372036854775807 < min m a.size + 1 + z.size := by omega
    have hdg := digB_iff.1 ((isNat_iff.1 HA.out).2.1 _ (List.mem_of_getElem? (str_get hm)))
    have hwr : IntKind.u8.wrap (((a[m]'hm).toNat : Int) + 1) = (((a[m]'hm).toNat + 1 : Nat) : Int) := by unfold IntKind.wrap; simp [IntKind.bits, IntKind.signed]; omega
    have hr2 : a.extract 0 m ++ ⟨#[UInt8.ofNat (IntKind.u8.wrap (((a[m]'hm).toNat : Int) + 1)).toNat]⟩ ++ z = ⟨(nextW a.data.toList).toArray⟩ := hr _ (by rw [hwr, Int.toNat_natCast])
    have hsz : (a.extract 0 m ++ ⟨#[UInt8.ofNat (IntKind.u8.wrap (((a[m]'hm).toNat : Int) + 1)).toNat]⟩ ++ z).size ≤ 100000000 := by
      rw [ByteArray.size_append, ByteArray.size_append, hx0, hzs]; show m + 1 + n ≤ _; omega
    have HZ := Lib.hid hr2
    have HS := Lib.hid hsz
    clear hr hr2 hzs hsz hx0 jn hdg hwr
    go_wp2_with fail
    go_region_with ((go_at_call 30; (with_reducible refine (HC.out _ HS.out _).mono ?_); rintro e w3 ⟨rfl, hd3⟩))
    all_goals (go_wp2_with fail)
    all_goals go_ret
    all_goals exact RB.mk (bval ((foll_is (l := a.data.toList) HB.out HZ.out).trans HRes.out)) (by repeat (first | assumption | exact Bl.refl _ | apply Bl.drewN | apply Bl.drew | apply Bl.alloc | (refine Bl.dr ?_ (by assumption)) | (refine Bl.trans ?_ (by assumption))))
end Go.Proofs.YtfjdcfmoodlnaaaGreatDoor


/-
  Contracts of words: List.
-/
import Derived.Test.YtfjdcfmoodlnaaaGreatDoorWdR
import Derived.Test.YtfjdcfmoodlnaaaGreatDoorWoL
import Derived.Test.YtfjdcfmoodlnaaaGreatDoorBld
import Derived.Deep.LoopGhost
namespace Go.Proofs.YtfjdcfmoodlnaaaGreatDoor
open Go.RowKit
set_option linter.unusedSimpArgs false
set_option linter.unusedVariables false
set_option maxRecDepth 100000

/-- Numbers in memory. -/
structure Nums (w : World) (a : Option Addr) (l : List Int) : Prop where
  at_ : l ≠ [] → ∃ b off, a = some ⟨b, off, none⟩ ∧ ∀ i x, l[i]? = some x → w.cell? ⟨b, off + i, none⟩ = some (.int .i64 x)
theorem Nums.bl {w w' : World} {a : Option Addr} {l : List Int} (h : Nums w a l) (k : Bl w w') : Nums w' a l :=
  ⟨fun hn => let ⟨b, off, e, f⟩ := h.at_ hn; ⟨b, off, e, fun i x hx => k.cell (f i x hx)⟩⟩
theorem Nums.get {w : World} {a : Option Addr} {l : List Int} (h : Nums w a l) {k : Nat} (hk : k < l.length) :
    ∃ b off, a = some ⟨b, off, none⟩ ∧ ∀ i x, l[i]? = some x → w.cell? ⟨b, off + i, none⟩ = some (.int .i64 x) := h.at_ (by rintro rfl; simp at hk)
theorem woItoa (n : Int) (h0 : -9223372036854775808 ≤ n) (h1 : n ≤ 9223372036854775807) (w : World) (hE : WEnv w) : Calls Tryz.prog 24 #[.int .i64 n] w (RB w (.string ⟨(Lib.itoa n).toArray⟩)) := by
  refine (Tryz.strconv_Itoa n h0 h1 w hE.pow).mono ?_
  rintro e w' ⟨rfl, k, os, rfl⟩
  exact ⟨rfl, ((Bl.refl w).drewN k).trans (bl_grow _ _)⟩
theorem all_bad {l : List Int} {k : Nat} {x : Int} (h : l[k]? = some x) (hx : numB x = false) : l.all numB = false := by
  rw [List.all_eq_false]; exact ⟨x, List.mem_of_getElem? h, by simp [hx]⟩
theorem all_good {l : List Int} (h : ∀ (j : Nat) x, l[j]? = some x → numB x = true) : l.all numB = true := by
  rw [List.all_eq_true]
  intro c hc
  obtain ⟨j, hj, rfl⟩ := List.getElem_of_mem hc
  exact h j _ (List.getElem?_eq_getElem hj)
theorem numB_iff {x : Int} (h : numB x = true) : 0 ≤ x ∧ x ≤ 1000000000 := by
  unfold numB at h
  simpa only [Bool.and_eq_true, decide_eq_true_eq] using h
def fmV (b : Bool) : Int := if b then 0 else 6
theorem itoa_ne (n : Int) : (Lib.itoa n).isEmpty = false := by
  have := (itoa_facts n).1
  cases h : Lib.itoa n with
  | nil => rw [h] at this; cases this
  | cons _ _ => rfl
theorem txt_step {l : List Int} {acc : List UInt8} {k m : Nat} {x z : Int} (hT : txtG false (runsL l) = acc ++ txtG (!acc.isEmpty) (runsL (l.drop k))) (hr : runsL (l.drop k) = runsF x z (l.drop (m + 1))) (he : runsF x z (l.drop (m + 1)) = (x, z) :: runsL (l.drop (m + 1))) (acc' : List UInt8) (ha : acc' = acc ++ (if acc.isEmpty then [] else [44]) ++ runT (x, z)) :
    txtG false (runsL l) = acc' ++ txtG (!acc'.isEmpty) (runsL (l.drop (m + 1))) := by
  have hne : acc'.isEmpty = false := by
    rw [ha]; unfold runT
    have := itoa_ne x
    cases h : Lib.itoa x with
    | nil => rw [h] at this; cases this
    | cons _ _ => simp
  rw [hne, hT, hr, he, ha]
  simp only [txtG, Bool.not_false, List.append_assoc]
  congr 1
  cases acc.isEmpty <;> simp
set_option maxHeartbeats 8000000 in
theorem woList (a : Option Addr) (c : Nat) (l : List Int) (w : World) (hE : WEnv w) (hN : Nums w a l) (hb64 : ∀ (j : Nat) x, l[j]? = some x → -9223372036854775808 ≤ x ∧ x ≤ 9223372036854775807) (hln : l.length ≤ 100000) : Calls Tryz.prog 7 #[.slice a l.length c] w (RB w (.tuple #[.string ⟨(wlist l).1.toArray⟩, .int .i64 (wlist l).2])) := by
  obtain ⟨res, hres⟩ : ∃ r, wlist l = r := ⟨_, rfl⟩
  rw [hres]
  unfold wlist at hres
  by_cases h5 : 500 < l.length
  · rw [if_pos h5] at hres
    subst hres
    have i1 : (500 : Int) < (l.length : Int) := by omega
    clear hE hN hb64 h5
    go_enter Tryz.func7, Tryz.ntmps7
    go_wp2_with fail
    go_ret2
    exact rb_tuple rfl rfl (by repeat (first | assumption | exact Bl.refl _ | apply Bl.drewN | apply Bl.drew | apply Bl.alloc | (refine Bl.dr ?_ (by assumption)) | (refine Bl.trans ?_ (by assumption))))
  · rw [if_neg h5] at hres
    have i1 : ¬ (500 : Int) < (l.length : Int) := by omega
    have HR := Lib.hid hres
    have HE := Lib.hid hE
    have HN := Lib.hid hN
    have HB := Lib.hid hb64
    clear hres hE hN hb64
    go_enter Tryz.func7, Tryz.ntmps7
    go_wp2_with fail
    obtain ⟨W, hW⟩ : ∃ W, w.alloc (.cells #[.pointer none, .slice none 0 0] 51) = W := ⟨_, rfl⟩
    have hbW : Bl w W := hW ▸ (by repeat (first | assumption | exact Bl.refl _ | apply Bl.drewN | apply Bl.drew | apply Bl.alloc | (refine Bl.dr ?_ (by assumption)) | (refine Bl.trans ?_ (by assumption))))
    have hI0 : Lib.IsBuilderF tBl tU8 w.heap.size w.heap.size (Lib.byteCells []) W := hW ▸ Lib.IsBuilderF.of (Lib.fresh_isBuilder 51 5 w)
    have HI := Lib.hid hI0
    rw [hW]
    clear hW hI0
    go_loopg [4, 6] l.length (fun g f i wr => ∃ k : Nat, k ≤ l.length ∧ i = .int .i64 k ∧ f = .int .i64 (fmV (ascK l k)) ∧ Bl W wr ∧ (∀ (j : Nat) x, j < k → l[j]? = some x → numB x = true) ∧ g = l.length - k)
    case atStart => exact ⟨0, by omega, rfl, rfl, Bl.refl _, by intro j x hj; omega, by omega⟩
    case round =>
      obtain ⟨k, hk, rfl, rfl, hbw, hno, hg⟩ := hrel
      have G := Lib.hid hg
      have HNo := Lib.hid hno
      clear hg hno
      by_cases hkl : k < l.length
      · obtain ⟨b, off, rfl, hat⟩ := (HN.out.bl (hbW.trans hbw)).get hkl
        obtain ⟨x, hx⟩ : ∃ x, l[k]? = some x := ⟨_, List.getElem?_eq_getElem hkl⟩
        have d0 := hat k x hx
        have j0 : (0 : Int) ≤ (k : Int) := by omega
        have j1 : (k : Int) < (l.length : Int) := by omega
        have hbx := HB.out k x hx
        by_cases hnb : numB x = true
        · have hnb2 := hnb
          unfold numB at hnb2
          simp only [Bool.and_eq_true, decide_eq_true_eq] at hnb2
          have t1 : decide (x < 0) = false := by rw [decide_eq_false_iff_not]; omega
          have t2 : decide ((1000000000 : Int) < x) = false := by rw [decide_eq_false_iff_not]; omega
          have hst := ascK_step l k
          have hgx : l.getD k 0 = x := by rw [List.getD_eq_getElem?_getD, hx]; rfl
          rw [hgx] at hst
          have hno2 : ∀ (j : Nat) y, j < k + 1 → l[j]? = some y → numB y = true := by
            intro j y hj hy
            by_cases e : j = k
            · subst e; rw [hx] at hy; injection hy with hy; subst hy; exact hnb
            · exact HNo.out j y (by omega) hy
          have HN2 := Lib.hid hno2
          clear hnb hno2
          by_cases hk0 : k = 0
          · have t3 : decide ((0 : Int) < (k : Int)) = false := by rw [decide_eq_false_iff_not]; omega
            have t3' : decide (0 < k) = false := by rw [decide_eq_false_iff_not]; omega
            rw [show (k == 0) = true by simpa using hk0, Bool.true_or, Bool.and_true] at hst
            have HS := Lib.hid hst
            clear hst hat hx hnb2 hgx hk0
            go_wp2_with fail
            go_roundg (l.length - (k + 1))
            case rel => exact ⟨k + 1, by omega, by go_num, by rw [HS.out], hbw, HN2.out, rfl⟩
            case measure => rw [G.out]; omega
          · obtain ⟨y, hy⟩ : ∃ y, l[k - 1]? = some y := ⟨_, List.getElem?_eq_getElem (by omega)⟩
            have d1 := hat (k - 1) y hy
            have hgy : l.getD (k - 1) 0 = y := by rw [List.getD_eq_getElem?_getD, hy]; rfl
            rw [hgy, show (k == 0) = false by simpa using hk0, Bool.false_or] at hst
            have t3 : decide ((0 : Int) < (k : Int)) = true := by rw [decide_eq_true_eq]; omega
            have t4 : (0 : Int) ≤ (k : Int) - 1 := by omega
            have t5 : (k : Int) - 1 < (l.length : Int) := by omega
            have t6 : (((k : Int) - 1).toNat) = k - 1 := by omega
            by_cases hxy : y < x
            · have t7 : decide (x ≤ y) = false := by rw [decide_eq_false_iff_not]; omega
              rw [decide_eq_true hxy, Bool.and_true] at hst
              have HS := Lib.hid hst
              clear hst hat hx hy hnb2 hgx hgy hxy
              go_wp2_with fail
              go_roundg (l.length - (k + 1))
              case rel => exact ⟨k + 1, by omega, by go_num, by rw [HS.out], hbw, HN2.out, rfl⟩
              case measure => rw [G.out]; omega
            · have t7 : decide (x ≤ y) = true := by rw [decide_eq_true_eq]; omega
              rw [decide_eq_false hxy, Bool.and_false] at hst
              have HS := Lib.hid hst
              clear hst hat hx hy hnb2 hgx hgy hxy
              go_wp2_with fail
              go_roundg (l.length - (k + 1))
              case rel => exact ⟨k + 1, by omega, by go_num, by rw [HS.out]; rfl, hbw, HN2.out, rfl⟩
              case measure => rw [G.out]; omega
        · have hnf : numB x = false := by simpa using hnb
          have hr := HR.out
          rw [if_pos (all_bad hx hnf)] at hr
          subst hr
          unfold numB at hnb
          clear hat hx hnf
          by_cases hx0 : x < 0
          · have t1 : decide (x < 0) = true := by rw [decide_eq_true_eq]; omega
            clear hnb hx0
            go_wp2_with fail
            go_ret2
            exact rb_tuple rfl rfl (hbW.trans hbw)
          · have t1 : decide (x < 0) = false := by rw [decide_eq_false_iff_not]; omega
            have t2 : decide ((1000000000 : Int) < x) = true := by rw [decide_eq_true_eq]; simp at hnb; omega
            clear hnb hx0
            go_wp2_with fail
            go_ret2
            exact rb_tuple rfl rfl (hbW.trans hbw)
      · obtain rfl : k = l.length := by omega
        have hall := all_good (fun j x hx => HNo.out j x (List.getElem?_eq_some_iff.1 hx).1 hx)
        have hr := HR.out
        rw [if_neg (by rw [hall]; simp)] at hr
        have hI2 := IsBuilderF_bl HI.out hbw
        have hbw2 := hbW.trans hbw
        have HI2 := Lib.hid hI2
        cases hasc : ascK l l.length with
        | false =>
          rw [if_pos hasc] at hr
          subst hr
          have f1 : fmV false = 6 := rfl
          have hlp : 0 < l.length := by
            rcases Nat.eq_zero_or_pos l.length with e | e
            · rw [e] at hasc; cases hasc
            · exact e
          have i2 : decide ((0 : Int) < (l.length : Int)) = true := by rw [decide_eq_true_eq]; omega
          have i3 : decide (0 < l.length) = true := by rw [decide_eq_true_eq]; omega
          clear hall hI2 hasc
          go_wp2_with fail
          go_loopg [8] 0 (fun g i wr2 => i = .int .i64 0 ∧ Bl wr wr2 ∧ g = 0)
          case atStart => exact ⟨rfl, Bl.refl _, rfl⟩
          case round =>
            obtain ⟨rfl, hb3, hg3⟩ := hrel
            go_wp2_with fail
            go_ret2
            exact rb_tuple rfl rfl (hbw2.trans hb3)
        | true =>
          rw [if_neg (by rw [hasc]; simp)] at hr
          have f1 : fmV true = 0 := rfl
          have HR2 := Lib.hid hr
          clear hr hasc hall hI2
          have hln5 : l.length ≤ 500 := by omega
          go_wp2_with fail
          go_loopg [8] l.length (fun g i wr2 => ∃ (k : Nat) (acc : List UInt8), k ≤ l.length ∧ i = .int .i64 k ∧ Lib.IsBuilderF tBl tU8 w.heap.size w.heap.size (Lib.byteCells acc) wr2 ∧ txtG false (runsL l) = acc ++ txtG (!acc.isEmpty) (runsL (l.drop k)) ∧ acc.length ≤ 70 * k ∧ Bl w wr2 ∧ g = l.length - k)
          case atStart => exact ⟨0, [], by omega, rfl, HI2.out, by simp, by simp, hbw2, by omega⟩
          case round =>
            clear hbw hbw2
            obtain ⟨k, acc, hk, rfl, hI, htx, hal, hbw, hg⟩ := hrel
            have G2 := Lib.hid hg
            have HT := Lib.hid htx
            have HI3 := Lib.hid hI
            clear hg htx hI hkl
            by_cases hkl : k < l.length
            · obtain ⟨b, off, rfl, hat⟩ := HN.out.get hkl
              obtain ⟨x, hx⟩ : ∃ x, l[k]? = some x := ⟨_, List.getElem?_eq_getElem hkl⟩
              have d0 := hbw.cell (hat k x hx)
              have hxb := numB_iff (HNo.out k x hkl hx)
              have j0 : (0 : Int) ≤ (k : Int) := by omega
              have j1 : (k : Int) < (l.length : Int) := by omega
              have hrs : runsL (l.drop k) = runsF x x (l.drop (k + 1)) := by
                obtain ⟨h1, h2⟩ := List.getElem?_eq_some_iff.1 hx
                rw [List.drop_eq_getElem_cons h1, h2]; rfl
              have HRS := Lib.hid hrs
              have HAT := Lib.hid hat
              have HX := Lib.hid hx
              clear hrs hat hx
              go_wp2_with fail
              go_loopg [8] (l.length - k) (fun g i wr3 => ∃ (m : Nat) (z : Int), k ≤ m ∧ m < l.length ∧ i = .int .i64 m ∧ l[m]? = some z ∧ runsL (l.drop k) = runsF x z (l.drop (m + 1)) ∧ Bl wr wr3 ∧ g = l.length - m)
              case atStart => exact ⟨k, x, Nat.le_refl _, hkl, rfl, HX.out, HRS.out, Bl.refl _, rfl⟩
              case round =>
                obtain ⟨m, z, hkm, hml, rfl, hz, hrm, hb3, hg3⟩ := hrel
                have G3 := Lib.hid hg3
                have HZ := Lib.hid hz
                have HRM := Lib.hid hrm
                have m0 : (0 : Int) ≤ (m : Int) := by omega
                have m1 : (m : Int) < (l.length : Int) := by omega
                have hbw4 := hbw.trans hb3
                have e1 := hbw4.cell (HAT.out m z hz)
                have hzb := numB_iff (HNo.out m z hml hz)
                have v1 : IntKind.i64.wrap ((m : Int) + 1) = (m : Int) + 1 := IntWalk.i64_in _ (by omega)
                have v2 : IntKind.i64.wrap (z + 1) = z + 1 := IntWalk.i64_in _ (by omega)
                have v3 : (0 : Int) ≤ (m : Int) + 1 := by omega
                have v4 : ((m : Int) + 1).toNat = m + 1 := by omega
                clear hg3 hz hrm
                by_cases hm1 : m + 1 < l.length
                · obtain ⟨y, hy⟩ : ∃ y, l[m + 1]? = some y := ⟨_, List.getElem?_eq_getElem hm1⟩
                  have e2 := hbw4.cell (HAT.out (m + 1) y hy)
                  have u1 : decide ((m : Int) + 1 < (l.length : Int)) = true := by rw [decide_eq_true_eq]; omega
                  have u2 : (m : Int) + 1 < (l.length : Int) := by omega
                  have hdr : l.drop (m + 1) = y :: l.drop (m + 1 + 1) := by
                    obtain ⟨h1, h2⟩ := List.getElem?_eq_some_iff.1 hy
                    rw [List.drop_eq_getElem_cons h1, h2]
                  have HY := Lib.hid hy
                  have HM1 := Lib.hid hm1
                  by_cases hyz : y = z + 1
                  · have u3 : (y == z + 1) = true := by rw [beq_iff_eq]; exact hyz
                    have hrm2 : runsL (l.drop k) = runsF x y (l.drop (m + 1 + 1)) := by rw [HRM.out, hdr, hyz, runsF_go]
                    have HRM2 := Lib.hid hrm2
                    clear hy hm1 hdr hyz hrm2
                    go_wp2_with fail
                    go_quiet (fail)
                    go_wp2_with fail
                    go_roundg (l.length - (m + 1))
                    case rel => exact ⟨m + 1, y, by omega, HM1.out, by go_num, HY.out, HRM2.out, (by repeat (first | assumption | exact Bl.refl _ | apply Bl.drewN | apply Bl.drew | apply Bl.alloc | (refine Bl.dr ?_ (by assumption)) | (refine Bl.trans ?_ (by assumption)))), rfl⟩
                    case measure => rw [G3.out]; omega
                  · have u3 : (y == z + 1) = false := by rw [beq_eq_false_iff_ne]; exact hyz
                    have hend : runsF x z (l.drop (m + 1)) = (x, z) :: runsL (l.drop (m + 1)) := by rw [hdr, runsF_stop _ _ _ _ hyz]
                    have HEnd := Lib.hid hend
                    clear hy hm1 hdr hyz hend
                    go_wp2_with fail
                    go_quiet (fail)
                    go_wp2_with fail
                    obtain ⟨wc, hwc⟩ : ∃ x, wr.drewN nq = x := ⟨_, rfl⟩
                    have hbc : Bl wr wc := hwc ▸ (Bl.refl wr).drewN nq
                    rw [hwc]
                    have hI4 := IsBuilderF_bl (IsBuilderF_bl HI3.out hb3) hbc
                    have hbw5 : Bl w wc := hbw4.trans hbc
                    have hsz5 := hbw5.size
                    obtain ⟨q, hq⟩ : ∃ q : ByteArray, (⟨(Lib.itoa x).toArray⟩ : ByteArray) = q := ⟨_, rfl⟩
                    have hqs : q.size = (Lib.itoa x).length := by rw [← hq]; rfl
                    have hql := Lib.itoa_length_le x (by omega) (by omega)
                    rw [← hqs] at hql
                    have hI := fun w h => woItoa x (by omega) (by omega) w h
                    rw [hq] at hI
                    have HIt := Lib.hid hI
                    have HQ := Lib.hid (show q.data.toList = Lib.itoa x by rw [← hq])
                    have HI4 := Lib.hid hI4
                    clear hI hq hqs hwc hbc
                    refine (Tryz.Builder_Len_f w.heap.size w.heap.size _ _ HI4.out).mono ?_; rintro e w' ⟨rfl, rfl⟩
                    rw [Lib.byteCells_length]
                    cases hae : acc.isEmpty with
                    | true =>
                      have hac : acc = [] := by simpa using hae
                      have hl0 : acc.length = 0 := by rw [hac]; rfl
                      have HAc := Lib.hid hac
                      have HI6 := Lib.hid HI4.out
                      have hpos : decide (0 < acc.length) = false := by rw [decide_eq_false_iff_not]; omega
                      have hpos2 : ¬ 0 < acc.length := by omega
                      clear hae hac
                      have hszx := Bl.size hbw5
                      go_wp2_with fail
                      refine (HIt.out _ (HE.out.bl hbw5)).mono ?_; rintro e w7 ⟨rfl, hb7⟩
                      have hI7 := IsBuilderF_bl HI6.out hb7
                      have hbw7 : Bl w w7 := Bl.trans hbw5 hb7
                      have HI7 := Lib.hid hI7
                      clear hI7 hb7
                      go_wp2_with fail
                      refine (bldWriteString w.heap.size w.heap.size _ q _ HI7.out (by rw [Lib.byteCells_length]; (try rw [List.length_append, List.length_singleton]); omega) hbw7.size).mono ?_; rintro e w8 ⟨rfl, hI8, hB8, -, -⟩
                      have hbw8 : Bl w w8 := Below.trans hbw7 hB8
                      have hI9 : Lib.IsBuilderF tBl tU8 w.heap.size w.heap.size (Lib.byteCells (acc ++ Lib.itoa x)) w8 := by rw [Lib.byteCells_append, ← HQ.out, ← Lib.strCells_eq]; exact hI8
                      have HI9 := Lib.hid hI9
                      have e3 := hbw8.cell (HAT.out m z HZ.out)
                      clear hI8 hI9 hB8 e1
                      by_cases hxz : x < z
                      · have x1 : decide (x < z) = true := by rw [decide_eq_true_eq]; exact hxz
                        have hst := txt_step HT.out HRM.out HEnd.out (acc ++ Lib.itoa x ++ (45 :: Lib.itoa z)) (by unfold runT; rw [if_pos hxz]; (first | rw [HAe.out] | rw [HAc.out]); simp)
                        obtain ⟨q2, hq2⟩ : ∃ q : ByteArray, (⟨(Lib.itoa z).toArray⟩ : ByteArray) = q := ⟨_, rfl⟩
                        have hqs2 : q2.size = (Lib.itoa z).length := by rw [← hq2]; rfl
                        have hql2 := Lib.itoa_length_le z (by omega) (by omega)
                        have hql1 := Lib.itoa_length_le x (by omega) (by omega)
                        rw [← hqs2] at hql2
                        have hI := fun w h => woItoa z (by omega) (by omega) w h
                        rw [hq2] at hI
                        have HIz := Lib.hid hI
                        have HS := Lib.hid hst
                        have HQ2 := Lib.hid (show q2.data.toList = Lib.itoa z by rw [← hq2])
                        have HQz := Lib.hid hqs2
                        have i6 : ¬ 9223372036854775807 < 1 + q2.size := by omega
                        have hlw : (Lib.byteCells (acc ++ Lib.itoa x)).length + ((⟨#[45]⟩ : ByteArray) ++ q2).size ≤ 140737488355328 := by
                          have h45 : (⟨#[45]⟩ : ByteArray).size = 1 := rfl
                          rw [Lib.byteCells_length, ByteArray.size_append, h45, List.length_append]
                          (try rw [List.length_append, List.length_singleton]); omega
                        have HLW := Lib.hid hlw
                        clear hlw
                        clear hI hq2 hqs2 hst
                        go_wp2_with fail
                        refine (HIz.out _ (HE.out.bl hbw8)).mono ?_; rintro e w9 ⟨rfl, hb9⟩
                        have hI10 := IsBuilderF_bl HI9.out hb9
                        have hbw9 : Bl w w9 := Bl.trans hbw8 hb9
                        have HI10 := Lib.hid hI10
                        clear hI10 hb9
                        go_wp2_with fail
                        refine (bldWriteString w.heap.size w.heap.size _ _ _ HI10.out (by exact HLW.out) hbw9.size).mono ?_; rintro e w10 ⟨rfl, hI11, hB11, -, -⟩
                        have hbw10 : Bl w w10 := Below.trans hbw9 hB11
                        have hI12 : Lib.IsBuilderF tBl tU8 w.heap.size w.heap.size (Lib.byteCells (acc ++ Lib.itoa x ++ (45 :: Lib.itoa z))) w10 := by
                          rw [Lib.byteCells_append _ (45 :: Lib.itoa z), show 45 :: Lib.itoa z = (⟨#[45]⟩ ++ q2 : ByteArray).data.toList by rw [← HQ2.out, ByteArray.data_append]; simp, ← Lib.strCells_eq]; exact hI11
                        have HI12 := Lib.hid hI12
                        have hlen2 : (acc ++ Lib.itoa x ++ (45 :: Lib.itoa z)).length ≤ 70 * (m + 1) := by
                          rw [List.length_append, List.length_append, List.length_cons, ← HQz.out]
                          (try rw [List.length_append, List.length_singleton]); omega
                        clear hI11 hI12 hB11
                        go_wp2_with fail
                        go_roundg (l.length - (m + 1))
                        case rel => exact ⟨m + 1, _, by omega, by go_num, HI12.out, HS.out, hlen2, hbw10, rfl⟩
                        case measure => rw [G2.out]; omega
                      · have x1 : decide (x < z) = false := by rw [decide_eq_false_iff_not]; exact hxz
                        have hst := txt_step HT.out HRM.out HEnd.out (acc ++ Lib.itoa x) (by unfold runT; rw [if_neg hxz]; (first | rw [HAe.out] | rw [HAc.out]); simp)
                        have HS := Lib.hid hst
                        have hql1 := Lib.itoa_length_le x (by omega) (by omega)
                        have hlen2 : (acc ++ Lib.itoa x).length ≤ 70 * (m + 1) := by
                          rw [List.length_append]
                          (try rw [List.length_append, List.length_singleton]); omega
                        clear hst
                        go_wp2_with fail
                        go_roundg (l.length - (m + 1))
                        case rel => exact ⟨m + 1, _, by omega, by go_num, HI9.out, HS.out, hlen2, hbw8, rfl⟩
                        case measure => rw [G2.out]; omega
                    | false =>
                      have hpos2 : 0 < acc.length := by
                        cases h : acc with
                        | nil => rw [h] at hae; cases hae
                        | cons _ _ => simp
                      have hpos : decide (0 < acc.length) = true := by rw [decide_eq_true_eq]; omega
                      have HAe := Lib.hid hae
                      clear hae
                      go_wp2_with fail
                      refine (bldWriteByte w.heap.size w.heap.size _ 44 _ HI4.out (by rw [Lib.byteCells_length]; omega) hsz5).mono ?_; rintro e w6 ⟨rfl, hI6, hB6, -, -⟩
                      have hbw6 : Bl w w6 := Below.trans hbw5 hB6
                      have hI7 : Lib.IsBuilderF tBl tU8 w.heap.size w.heap.size (Lib.byteCells (acc ++ [44])) w6 := by rw [Lib.byteCells_append]; exact hI6
                      have HI6 := Lib.hid hI7
                      clear hI6 hI7 hB6 hpos hpos2
                      have hszx := Bl.size hbw6
                      go_wp2_with fail
                      refine (HIt.out _ (HE.out.bl hbw6)).mono ?_; rintro e w7 ⟨rfl, hb7⟩
                      have hI7 := IsBuilderF_bl HI6.out hb7
                      have hbw7 : Bl w w7 := Bl.trans hbw6 hb7
                      have HI7 := Lib.hid hI7
                      clear hI7 hb7
                      go_wp2_with fail
                      refine (bldWriteString w.heap.size w.heap.size _ q _ HI7.out (by rw [Lib.byteCells_length]; (try rw [List.length_append, List.length_singleton]); omega) hbw7.size).mono ?_; rintro e w8 ⟨rfl, hI8, hB8, -, -⟩
                      have hbw8 : Bl w w8 := Below.trans hbw7 hB8
                      have hI9 : Lib.IsBuilderF tBl tU8 w.heap.size w.heap.size (Lib.byteCells ((acc ++ [44]) ++ Lib.itoa x)) w8 := by rw [Lib.byteCells_append, ← HQ.out, ← Lib.strCells_eq]; exact hI8
                      have HI9 := Lib.hid hI9
                      have e3 := hbw8.cell (HAT.out m z HZ.out)
                      clear hI8 hI9 hB8 e1
                      by_cases hxz : x < z
                      · have x1 : decide (x < z) = true := by rw [decide_eq_true_eq]; exact hxz
                        have hst := txt_step HT.out HRM.out HEnd.out ((acc ++ [44]) ++ Lib.itoa x ++ (45 :: Lib.itoa z)) (by unfold runT; rw [if_pos hxz]; (first | rw [HAe.out] | rw [HAc.out]); simp)
                        obtain ⟨q2, hq2⟩ : ∃ q : ByteArray, (⟨(Lib.itoa z).toArray⟩ : ByteArray) = q := ⟨_, rfl⟩
                        have hqs2 : q2.size = (Lib.itoa z).length := by rw [← hq2]; rfl
                        have hql2 := Lib.itoa_length_le z (by omega) (by omega)
                        have hql1 := Lib.itoa_length_le x (by omega) (by omega)
                        rw [← hqs2] at hql2
                        have hI := fun w h => woItoa z (by omega) (by omega) w h
                        rw [hq2] at hI
                        have HIz := Lib.hid hI
                        have HS := Lib.hid hst
                        have HQ2 := Lib.hid (show q2.data.toList = Lib.itoa z by rw [← hq2])
                        have HQz := Lib.hid hqs2
                        have i6 : ¬ 9223372036854775807 < 1 + q2.size := by omega
                        have hlw : (Lib.byteCells ((acc ++ [44]) ++ Lib.itoa x)).length + ((⟨#[45]⟩ : ByteArray) ++ q2).size ≤ 140737488355328 := by
                          have h45 : (⟨#[45]⟩ : ByteArray).size = 1 := rfl
                          rw [Lib.byteCells_length, ByteArray.size_append, h45, List.length_append]
                          (try rw [List.length_append, List.length_singleton]); omega
                        have HLW := Lib.hid hlw
                        clear hlw
                        clear hI hq2 hqs2 hst
                        go_wp2_with fail
                        refine (HIz.out _ (HE.out.bl hbw8)).mono ?_; rintro e w9 ⟨rfl, hb9⟩
                        have hI10 := IsBuilderF_bl HI9.out hb9
                        have hbw9 : Bl w w9 := Bl.trans hbw8 hb9
                        have HI10 := Lib.hid hI10
                        clear hI10 hb9
                        go_wp2_with fail
                        refine (bldWriteString w.heap.size w.heap.size _ _ _ HI10.out (by exact HLW.out) hbw9.size).mono ?_; rintro e w10 ⟨rfl, hI11, hB11, -, -⟩
                        have hbw10 : Bl w w10 := Below.trans hbw9 hB11
                        have hI12 : Lib.IsBuilderF tBl tU8 w.heap.size w.heap.size (Lib.byteCells ((acc ++ [44]) ++ Lib.itoa x ++ (45 :: Lib.itoa z))) w10 := by
                          rw [Lib.byteCells_append _ (45 :: Lib.itoa z), show 45 :: Lib.itoa z = (⟨#[45]⟩ ++ q2 : ByteArray).data.toList by rw [← HQ2.out, ByteArray.data_append]; simp, ← Lib.strCells_eq]; exact hI11
                        have HI12 := Lib.hid hI12
                        have hlen2 : ((acc ++ [44]) ++ Lib.itoa x ++ (45 :: Lib.itoa z)).length ≤ 70 * (m + 1) := by
                          rw [List.length_append, List.length_append, List.length_cons, ← HQz.out]
                          (try rw [List.length_append, List.length_singleton]); omega
                        clear hI11 hI12 hB11
                        go_wp2_with fail
                        go_roundg (l.length - (m + 1))
                        case rel => exact ⟨m + 1, _, by omega, by go_num, HI12.out, HS.out, hlen2, hbw10, rfl⟩
                        case measure => rw [G2.out]; omega
                      · have x1 : decide (x < z) = false := by rw [decide_eq_false_iff_not]; exact hxz
                        have hst := txt_step HT.out HRM.out HEnd.out ((acc ++ [44]) ++ Lib.itoa x) (by unfold runT; rw [if_neg hxz]; (first | rw [HAe.out] | rw [HAc.out]); simp)
                        have HS := Lib.hid hst
                        have hql1 := Lib.itoa_length_le x (by omega) (by omega)
                        have hlen2 : ((acc ++ [44]) ++ Lib.itoa x).length ≤ 70 * (m + 1) := by
                          rw [List.length_append]
                          (try rw [List.length_append, List.length_singleton]); omega
                        clear hst
                        go_wp2_with fail
                        go_roundg (l.length - (m + 1))
                        case rel => exact ⟨m + 1, _, by omega, by go_num, HI9.out, HS.out, hlen2, hbw8, rfl⟩
                        case measure => rw [G2.out]; omega
                · have u1 : decide ((m : Int) + 1 < (l.length : Int)) = false := by rw [decide_eq_false_iff_not]; omega
                  have hend : runsF x z (l.drop (m + 1)) = (x, z) :: runsL (l.drop (m + 1)) := by rw [List.drop_eq_nil_of_le (by omega)]; rfl
                  have HEnd := Lib.hid hend
                  clear hend
                  go_wp2_with fail
                  go_quiet (fail)
                  go_wp2_with fail
                  obtain ⟨wc, hwc⟩ : ∃ x, wr.drewN nq = x := ⟨_, rfl⟩
                  have hbc : Bl wr wc := hwc ▸ (Bl.refl wr).drewN nq
                  rw [hwc]
                  have hI4 := IsBuilderF_bl (IsBuilderF_bl HI3.out hb3) hbc
                  have hbw5 : Bl w wc := hbw4.trans hbc
                  have hsz5 := hbw5.size
                  obtain ⟨q, hq⟩ : ∃ q : ByteArray, (⟨(Lib.itoa x).toArray⟩ : ByteArray) = q := ⟨_, rfl⟩
                  have hqs : q.size = (Lib.itoa x).length := by rw [← hq]; rfl
                  have hql := Lib.itoa_length_le x (by omega) (by omega)
                  rw [← hqs] at hql
                  have hI := fun w h => woItoa x (by omega) (by omega) w h
                  rw [hq] at hI
                  have HIt := Lib.hid hI
                  have HQ := Lib.hid (show q.data.toList = Lib.itoa x by rw [← hq])
                  have HI4 := Lib.hid hI4
                  clear hI hq hqs hwc hbc
                  refine (Tryz.Builder_Len_f w.heap.size w.heap.size _ _ HI4.out).mono ?_; rintro e w' ⟨rfl, rfl⟩
                  rw [Lib.byteCells_length]
                  cases hae : acc.isEmpty with
                  | true =>
                    have hac : acc = [] := by simpa using hae
                    have hl0 : acc.length = 0 := by rw [hac]; rfl
                    have HAc := Lib.hid hac
                    have HI6 := Lib.hid HI4.out
                    have hpos : decide (0 < acc.length) = false := by rw [decide_eq_false_iff_not]; omega
                    have hpos2 : ¬ 0 < acc.length := by omega
                    clear hae hac
                    have hszx := Bl.size hbw5
                    go_wp2_with fail
                    refine (HIt.out _ (HE.out.bl hbw5)).mono ?_; rintro e w7 ⟨rfl, hb7⟩
                    have hI7 := IsBuilderF_bl HI6.out hb7
                    have hbw7 : Bl w w7 := Bl.trans hbw5 hb7
                    have HI7 := Lib.hid hI7
                    clear hI7 hb7
                    go_wp2_with fail
                    refine (bldWriteString w.heap.size w.heap.size _ q _ HI7.out (by rw [Lib.byteCells_length]; (try rw [List.length_append, List.length_singleton]); omega) hbw7.size).mono ?_; rintro e w8 ⟨rfl, hI8, hB8, -, -⟩
                    have hbw8 : Bl w w8 := Below.trans hbw7 hB8
                    have hI9 : Lib.IsBuilderF tBl tU8 w.heap.size w.heap.size (Lib.byteCells (acc ++ Lib.itoa x)) w8 := by rw [Lib.byteCells_append, ← HQ.out, ← Lib.strCells_eq]; exact hI8
                    have HI9 := Lib.hid hI9
                    have e3 := hbw8.cell (HAT.out m z HZ.out)
                    clear hI8 hI9 hB8 e1
                    by_cases hxz : x < z
                    · have x1 : decide (x < z) = true := by rw [decide_eq_true_eq]; exact hxz
                      have hst := txt_step HT.out HRM.out HEnd.out (acc ++ Lib.itoa x ++ (45 :: Lib.itoa z)) (by unfold runT; rw [if_pos hxz]; (first | rw [HAe.out] | rw [HAc.out]); simp)
                      obtain ⟨q2, hq2⟩ : ∃ q : ByteArray, (⟨(Lib.itoa z).toArray⟩ : ByteArray) = q := ⟨_, rfl⟩
                      have hqs2 : q2.size = (Lib.itoa z).length := by rw [← hq2]; rfl
                      have hql2 := Lib.itoa_length_le z (by omega) (by omega)
                      have hql1 := Lib.itoa_length_le x (by omega) (by omega)
                      rw [← hqs2] at hql2
                      have hI := fun w h => woItoa z (by omega) (by omega) w h
                      rw [hq2] at hI
                      have HIz := Lib.hid hI
                      have HS := Lib.hid hst
                      have HQ2 := Lib.hid (show q2.data.toList = Lib.itoa z by rw [← hq2])
                      have HQz := Lib.hid hqs2
                      have i6 : ¬ 9223372036854775807 < 1 + q2.size := by omega
                      have hlw : (Lib.byteCells (acc ++ Lib.itoa x)).length + ((⟨#[45]⟩ : ByteArray) ++ q2).size ≤ 140737488355328 := by
                        have h45 : (⟨#[45]⟩ : ByteArray).size = 1 := rfl
                        rw [Lib.byteCells_length, ByteArray.size_append, h45, List.length_append]
                        (try rw [List.length_append, List.length_singleton]); omega
                      have HLW := Lib.hid hlw
                      clear hlw
                      clear hI hq2 hqs2 hst
                      go_wp2_with fail
                      refine (HIz.out _ (HE.out.bl hbw8)).mono ?_; rintro e w9 ⟨rfl, hb9⟩
                      have hI10 := IsBuilderF_bl HI9.out hb9
                      have hbw9 : Bl w w9 := Bl.trans hbw8 hb9
                      have HI10 := Lib.hid hI10
                      clear hI10 hb9
                      go_wp2_with fail
                      refine (bldWriteString w.heap.size w.heap.size _ _ _ HI10.out (by exact HLW.out) hbw9.size).mono ?_; rintro e w10 ⟨rfl, hI11, hB11, -, -⟩
                      have hbw10 : Bl w w10 := Below.trans hbw9 hB11
                      have hI12 : Lib.IsBuilderF tBl tU8 w.heap.size w.heap.size (Lib.byteCells (acc ++ Lib.itoa x ++ (45 :: Lib.itoa z))) w10 := by
                        rw [Lib.byteCells_append _ (45 :: Lib.itoa z), show 45 :: Lib.itoa z = (⟨#[45]⟩ ++ q2 : ByteArray).data.toList by rw [← HQ2.out, ByteArray.data_append]; simp, ← Lib.strCells_eq]; exact hI11
                      have HI12 := Lib.hid hI12
                      have hlen2 : (acc ++ Lib.itoa x ++ (45 :: Lib.itoa z)).length ≤ 70 * (m + 1) := by
                        rw [List.length_append, List.length_append, List.length_cons, ← HQz.out]
                        (try rw [List.length_append, List.length_singleton]); omega
                      clear hI11 hI12 hB11
                      go_wp2_with fail
                      go_roundg (l.length - (m + 1))
                      case rel => exact ⟨m + 1, _, by omega, by go_num, HI12.out, HS.out, hlen2, hbw10, rfl⟩
                      case measure => rw [G2.out]; omega
                    · have x1 : decide (x < z) = false := by rw [decide_eq_false_iff_not]; exact hxz
                      have hst := txt_step HT.out HRM.out HEnd.out (acc ++ Lib.itoa x) (by unfold runT; rw [if_neg hxz]; (first | rw [HAe.out] | rw [HAc.out]); simp)
                      have HS := Lib.hid hst
                      have hql1 := Lib.itoa_length_le x (by omega) (by omega)
                      have hlen2 : (acc ++ Lib.itoa x).length ≤ 70 * (m + 1) := by
                        rw [List.length_append]
                        (try rw [List.length_append, List.length_singleton]); omega
                      clear hst
                      go_wp2_with fail
                      go_roundg (l.length - (m + 1))
                      case rel => exact ⟨m + 1, _, by omega, by go_num, HI9.out, HS.out, hlen2, hbw8, rfl⟩
                      case measure => rw [G2.out]; omega
                  | false =>
                    have hpos2 : 0 < acc.length := by
                      cases h : acc with
                      | nil => rw [h] at hae; cases hae
                      | cons _ _ => simp
                    have hpos : decide (0 < acc.length) = true := by rw [decide_eq_true_eq]; omega
                    have HAe := Lib.hid hae
                    clear hae
                    go_wp2_with fail
                    refine (bldWriteByte w.heap.size w.heap.size _ 44 _ HI4.out (by rw [Lib.byteCells_length]; omega) hsz5).mono ?_; rintro e w6 ⟨rfl, hI6, hB6, -, -⟩
                    have hbw6 : Bl w w6 := Below.trans hbw5 hB6
                    have hI7 : Lib.IsBuilderF tBl tU8 w.heap.size w.heap.size (Lib.byteCells (acc ++ [44])) w6 := by rw [Lib.byteCells_append]; exact hI6
                    have HI6 := Lib.hid hI7
                    clear hI6 hI7 hB6 hpos hpos2
                    have hszx := Bl.size hbw6
                    go_wp2_with fail
                    refine (HIt.out _ (HE.out.bl hbw6)).mono ?_; rintro e w7 ⟨rfl, hb7⟩
                    have hI7 := IsBuilderF_bl HI6.out hb7
                    have hbw7 : Bl w w7 := Bl.trans hbw6 hb7
                    have HI7 := Lib.hid hI7
                    clear hI7 hb7
                    go_wp2_with fail
                    refine (bldWriteString w.heap.size w.heap.size _ q _ HI7.out (by rw [Lib.byteCells_length]; (try rw [List.length_append, List.length_singleton]); omega) hbw7.size).mono ?_; rintro e w8 ⟨rfl, hI8, hB8, -, -⟩
                    have hbw8 : Bl w w8 := Below.trans hbw7 hB8
                    have hI9 : Lib.IsBuilderF tBl tU8 w.heap.size w.heap.size (Lib.byteCells ((acc ++ [44]) ++ Lib.itoa x)) w8 := by rw [Lib.byteCells_append, ← HQ.out, ← Lib.strCells_eq]; exact hI8
                    have HI9 := Lib.hid hI9
                    have e3 := hbw8.cell (HAT.out m z HZ.out)
                    clear hI8 hI9 hB8 e1
                    by_cases hxz : x < z
                    · have x1 : decide (x < z) = true := by rw [decide_eq_true_eq]; exact hxz
                      have hst := txt_step HT.out HRM.out HEnd.out ((acc ++ [44]) ++ Lib.itoa x ++ (45 :: Lib.itoa z)) (by unfold runT; rw [if_pos hxz]; (first | rw [HAe.out] | rw [HAc.out]); simp)
                      obtain ⟨q2, hq2⟩ : ∃ q : ByteArray, (⟨(Lib.itoa z).toArray⟩ : ByteArray) = q := ⟨_, rfl⟩
                      have hqs2 : q2.size = (Lib.itoa z).length := by rw [← hq2]; rfl
                      have hql2 := Lib.itoa_length_le z (by omega) (by omega)
                      have hql1 := Lib.itoa_length_le x (by omega) (by omega)
                      rw [← hqs2] at hql2
                      have hI := fun w h => woItoa z (by omega) (by omega) w h
                      rw [hq2] at hI
                      have HIz := Lib.hid hI
                      have HS := Lib.hid hst
                      have HQ2 := Lib.hid (show q2.data.toList = Lib.itoa z by rw [← hq2])
                      have HQz := Lib.hid hqs2
                      have i6 : ¬ 9223372036854775807 < 1 + q2.size := by omega
                      have hlw : (Lib.byteCells ((acc ++ [44]) ++ Lib.itoa x)).length + ((⟨#[45]⟩ : ByteArray) ++ q2).size ≤ 140737488355328 := by
                        have h45 : (⟨#[45]⟩ : ByteArray).size = 1 := rfl
                        rw [Lib.byteCells_length, ByteArray.size_append, h45, List.length_append]
                        (try rw [List.length_append, List.length_singleton]); omega
                      have HLW := Lib.hid hlw
                      clear hlw
                      clear hI hq2 hqs2 hst
                      go_wp2_with fail
                      refine (HIz.out _ (HE.out.bl hbw8)).mono ?_; rintro e w9 ⟨rfl, hb9⟩
                      have hI10 := IsBuilderF_bl HI9.out hb9
                      have hbw9 : Bl w w9 := Bl.trans hbw8 hb9
                      have HI10 := Lib.hid hI10
                      clear hI10 hb9
                      go_wp2_with fail
                      refine (bldWriteString w.heap.size w.heap.size _ _ _ HI10.out (by exact HLW.out) hbw9.size).mono ?_; rintro e w10 ⟨rfl, hI11, hB11, -, -⟩
                      have hbw10 : Bl w w10 := Below.trans hbw9 hB11
                      have hI12 : Lib.IsBuilderF tBl tU8 w.heap.size w.heap.size (Lib.byteCells ((acc ++ [44]) ++ Lib.itoa x ++ (45 :: Lib.itoa z))) w10 := by
                        rw [Lib.byteCells_append _ (45 :: Lib.itoa z), show 45 :: Lib.itoa z = (⟨#[45]⟩ ++ q2 : ByteArray).data.toList by rw [← HQ2.out, ByteArray.data_append]; simp, ← Lib.strCells_eq]; exact hI11
                      have HI12 := Lib.hid hI12
                      have hlen2 : ((acc ++ [44]) ++ Lib.itoa x ++ (45 :: Lib.itoa z)).length ≤ 70 * (m + 1) := by
                        rw [List.length_append, List.length_append, List.length_cons, ← HQz.out]
                        (try rw [List.length_append, List.length_singleton]); omega
                      clear hI11 hI12 hB11
                      go_wp2_with fail
                      go_roundg (l.length - (m + 1))
                      case rel => exact ⟨m + 1, _, by omega, by go_num, HI12.out, HS.out, hlen2, hbw10, rfl⟩
                      case measure => rw [G2.out]; omega
                    · have x1 : decide (x < z) = false := by rw [decide_eq_false_iff_not]; exact hxz
                      have hst := txt_step HT.out HRM.out HEnd.out ((acc ++ [44]) ++ Lib.itoa x) (by unfold runT; rw [if_neg hxz]; (first | rw [HAe.out] | rw [HAc.out]); simp)
                      have HS := Lib.hid hst
                      have hql1 := Lib.itoa_length_le x (by omega) (by omega)
                      have hlen2 : ((acc ++ [44]) ++ Lib.itoa x).length ≤ 70 * (m + 1) := by
                        rw [List.length_append]
                        (try rw [List.length_append, List.length_singleton]); omega
                      clear hst
                      go_wp2_with fail
                      go_roundg (l.length - (m + 1))
                      case rel => exact ⟨m + 1, _, by omega, by go_num, HI9.out, HS.out, hlen2, hbw8, rfl⟩
                      case measure => rw [G2.out]; omega
            · obtain rfl : k = l.length := by omega
              have hr := HR2.out
              have hz : txtG false (runsL l) = acc := by rw [HT.out, List.drop_length]; simp [runsL, txtG]
              by_cases hl0 : l = []
              · rw [if_pos hl0] at hr
                subst hr
                have hlz : l.length = 0 := by rw [hl0]; rfl
                have z1 : ((l.length : Int) == 0) = true := by rw [hlz]; rfl
                clear hl0 hz
                go_wp2_with fail
                go_ret2
                exact rb_tuple rfl rfl hbw
              · rw [if_neg hl0, hz] at hr
                subst hr
                have hlz : l.length ≠ 0 := fun h => hl0 (List.length_eq_zero_iff.1 h)
                have z1 : ((l.length : Int) == 0) = false := by rw [beq_eq_false_iff_ne]; omega
                clear hl0 hz hlz
                go_wp2_with fail
                refine (Tryz.Builder_String_any_f w.heap.size w.heap.size acc _ HI3.out hbw.size).mono ?_
                rintro e W1 ⟨rfl, _, b1⟩
                go_wp2_with fail
                go_ret2
                exact rb_tuple rfl rfl (Below.trans hbw b1)
end Go.Proofs.YtfjdcfmoodlnaaaGreatDoor

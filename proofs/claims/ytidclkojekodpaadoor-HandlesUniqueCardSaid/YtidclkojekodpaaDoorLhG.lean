
/-
  The walk of HandlesUnique.
-/
import Derived.Test.YtidclkojekodpaaDoorLhF
namespace Go.Proofs.YtidclkojekodpaaDoor
open Go.RowKit
set_option linter.unusedSimpArgs false
set_option linter.unusedVariables false
set_option maxRecDepth 100000

theorem tbO_form {B : Nat} {t : Tb} {w : World} {v : Value} (h : TbO B t w v) : ∃ a c, v = .agg #[.int .i64 t.most, .slice a t.slots.length c] ∧ w.ownsRow B 52 2 (.slice a t.slots.length c) t.slots.length (slotCells t.slots) := by
  rcases h with ⟨rfl, rfl⟩ | ⟨⟨s, rfl, hO⟩, -⟩
  · exact ⟨none, 0, rfl, own_nil _ _ _ _⟩
  · obtain ⟨a, c, rfl, -⟩ := own_form (show w.ownsRow _ _ _ _ _ _ from hO)
    exact ⟨a, c, rfl, hO⟩
theorem bool_get (l : List Bool) (i : Nat) (x : Bool) (h : l[i]? = some x) : (boolCells l)[i]? = some (.bool x) := by simp [boolCells, h]
set_option maxHeartbeats 16000000 in
theorem uniqueNo (m : Int) (a : Option Addr) (l : List Nat) (c : Nat) (w : World) (h : U8s w a l) (hlc : l.length ≤ c) (hc : c ≤ maxLen) (hq : (tnew m).2 ≠ 0 ∨ 200 < l.length) : Calls Tryd.prog 7 #[.int .i64 m, .slice a l.length c] w (RB w (.bool true)) := by
  unfold maxLen at hc
  have hN := fun w => hnNew m w
  obtain ⟨⟨⟨nm, nl⟩, ne⟩, e1⟩ : ∃ x, tnew m = x := ⟨_, rfl⟩
  rw [e1] at hN hq
  simp only at hN hq
  have HN := Lib.hid hN
  clear hN e1
  by_cases q1 : ne = 0
  · subst q1
    have q2 : (200 : Int) < (l.length : Int) := by omega
    go_enter Tryd.func7, Tryd.ntmps7
    go_wp2_with fail
    refine (HN.out _).mono ?_; rintro e w1 ⟨rfl, hb1⟩
    have hb := hb1.alloc (Obj.cells #[.int .i64 nm, .slice none 0 0] 24)
    clear hb1
    go_wp2_with fail
    refine (lawHnShown _).mono ?_; rintro e w2 ⟨rfl, hb1⟩
    go_wp2_with fail
    go_ret
    exact RB.mk rfl (hb.trans hb1)
  · have q2 : (ne != 0) = true := by simpa using q1
    go_enter Tryd.func7, Tryd.ntmps7
    go_wp2_with fail
    refine (HN.out _).mono ?_; rintro e w1 ⟨rfl, hb1⟩
    have hb := hb1.alloc (Obj.cells #[.int .i64 nm, .slice none 0 0] 24)
    clear hb1
    go_wp2_with fail
    refine (lawHnShown _).mono ?_; rintro e w2 ⟨rfl, hb1⟩
    go_wp2_with fail
    go_ret
    exact RB.mk rfl (hb.trans hb1)
set_option maxHeartbeats 16000000 in
theorem uniqueOk (m : Int) (a : Option Addr) (l : List Nat) (c : Nat) (w : World) (h : U8s w a l) (hlc : l.length ≤ c) (hc : c ≤ maxLen) (h1 : 1 ≤ m) (h2 : m ≤ 16) (hl2 : l.length ≤ 200) : Calls Tryd.prog 7 #[.int .i64 m, .slice a l.length c] w (RB w (.bool true)) := by
  obtain ⟨i0, hi0, hz0, hz1, hz2⟩ := info_parts inf_hnd
  obtain ⟨i1, hi1, hy0, hy1, hy2⟩ := info_parts inf_bool
  have hN := fun w => hnNew m w
  have e1 : tnew m = (⟨m, []⟩, 0) := by unfold tnew; rw [if_neg (by omega)]
  rw [e1] at hN
  simp only at hN
  have HN := Lib.hid hN
  have HU8 := Lib.hid h
  clear hN e1 hc h
  have q2 : ¬ (200 : Int) < (l.length : Int) := by omega
  go_enter Tryd.func7, Tryd.ntmps7
  go_wp2_with fail
  refine (HN.out _).mono ?_; rintro e w1 ⟨rfl, hb1⟩
  obtain ⟨A, hA⟩ : ∃ A, A = w1.heap.size := ⟨_, rfl⟩
  have hwA : w.heap.size ≤ A := by have := hb1.size; omega
  obtain ⟨W0, hW0⟩ : ∃ x, x = w1.alloc (Obj.cells #[.int .i64 m, .slice none 0 0] 24) := ⟨_, rfl⟩
  have hB0 : A + 1 = W0.heap.size := by rw [hW0, hA]; simp
  have hS0 : USt w A (A + 1) ⟨m, []⟩ [] [] none 0 (.slice none 0 0) (.slice none 0 0) W0 := by
    refine ⟨?_, own_nil _ _ _ _, own_nil _ _ _ _, own_nil _ _ _ _, ?_, by omega⟩
    · subst hW0 hA; simp [Mem, go_sem]
    · subst hW0; exact hb1.alloc _
  have HS0 := Lib.hid hS0
  clear hS0 hb1 hB0
  go_upto_region 4 with fail
  rw [← hW0, ← hA]
  clear hW0 hA
  go_wp2_with fail
  go_loopg [7, 8, 9] l.length (fun g s7 s8 s9 wr => ∃ (i : Nat) (t : Tb) (all : List (Int × Int)) (gone : List Bool) (a1 : Option Addr) (c1 : Nat), i ≤ l.length ∧ s9 = .int .i64 i ∧ UInv m t all gone ∧ USt w A (A + 1) t all gone a1 c1 s7 s8 wr ∧ all.length ≤ i ∧ g = l.length - i)
  case atStart => exact ⟨0, ⟨m, []⟩, [], [], none, 0, by omega, rfl, uinv_new h1 h2, HS0.out, by simp, rfl⟩
  case round =>
    obtain ⟨i, t, all, gone, a1, c1, hi, rfl, hU, hS, hal, hg⟩ := hrel
    have G := Lib.hid hg
    clear hg HS0
    obtain ⟨mo, sl⟩ := t
    obtain ⟨a7, c7, rfl, hl7, -, -⟩ := own_form hS.all
    obtain ⟨a8, c8, rfl, hl8, -, -⟩ := own_form hS.gone
    have HGL := Lib.hid hU.len
    have hglb : gone.length ≤ 200 := by have := HGL.out; omega
    have hm := hS.tb
    simp only [Mem, and_true] at hm
    have HU := Lib.hid hU
    have HS := Lib.hid hS
    have hbw := hS.bl
    clear hU hS
    by_cases hil : i < l.length
    · obtain ⟨b, off, rfl, hat⟩ := HU8.out.get hil
      obtain ⟨x, hx⟩ : ∃ x, l[i]? = some x := ⟨_, List.getElem?_eq_getElem hil⟩
      have hx256 := HU8.out.lt x (List.mem_of_getElem? hx)
      have d0 := hbw.cell (hat i x hx)
      have r1 : (0 : Int) ≤ (i : Int) := by omega
      have r2 : (i : Int) < (l.length : Int) := by omega
      clear hat hx
      by_cases hpar : x % 2 = 0
      · have p1 : ((Int.tmod (x : Int) 2) == 0) = true := by have h2 : Int.tmod (x : Int) 2 = ((x % 2 : Nat) : Int) := (Int.ofNat_tmod x 2).symm; rw [beq_iff_eq, h2]; omega
        go_wp2_with fail
        refine (hnGiveO a1 c1 ⟨mo, sl⟩ _ (HS.out.tok HU.out.good)).mono ?_; rintro e w2 ⟨v, rfl, ⟨vt, rfl, hV⟩, hb1⟩
        rcases ugive HU.out (by omega) with ⟨e5, e6⟩ | ⟨⟨um, us⟩, ⟨bx, by'⟩, e5, hU2⟩
        · rw [e5] at hV ⊢
          obtain ⟨au, cu, rfl, -⟩ := tbO_form hV
          unfold hv tnil
          simp only [List.length_nil] at e6 ⊢
          have hb2 : Bl wr ((w2.alloc (Obj.cells #[.int .i64 0, .slice au 0 cu] 24)).alloc (Obj.cells #[.int .i64 0, .int .i64 0] 26)) := (hb1.alloc _).alloc _
          have hS3 := HS.out.next hb2
          have HS3 := Lib.hid hS3
          have hm3 := hS3.tb
          simp only [Mem, and_true] at hm3
          have e7 : (((hl sl sl.length).length : Int) != m) = false := by simpa using e6
          clear hV hS3 hm hb1 hb2 d0 p1
          go_wp2_with fail
          refine (hnLive a1 c1 ⟨mo, sl⟩ _ (HS3.out.tok HU.out.good)).mono ?_; rintro e w4 ⟨v, rfl, ⟨vl, rfl, hH⟩, hb4⟩
          rw [(utold HU.out).1] at hH ⊢
          obtain ⟨al, cl, rfl, -, -, -⟩ := hH
          simp only
          have HS4 := Lib.hid (HS3.out.next hb4)
          clear hm3 hb4
          go_wp2_with fail
          go_roundg (l.length - (i + 1))
          case rel => exact ⟨i + 1, ⟨mo, sl⟩, all, gone, a1, c1, by omega, by go_num, HU.out, HS4.out, by omega, rfl⟩
          case measure => rw [G.out]; omega
        · rw [e5] at hV ⊢
          obtain ⟨au, cu, rfl, hrow⟩ := tbO_form hV
          unfold hv
          simp only at hrow ⊢
          have HU2 := Lib.hid hU2
          have hb2 : Bl w2 ((w2.alloc (Obj.cells #[.int .i64 um, .slice au us.length cu] 24)).alloc (Obj.cells #[.int .i64 bx, .int .i64 by'] 26)) := ((Bl.refl _).alloc _).alloc _
          have hS3 := (HS.out.next hb1).next hb2
          have hr3 := own_base (b := A + 1) (own_bl hrow hb2) HS.out.size
          have hk3 : Mem ((w2.alloc (Obj.cells #[.int .i64 um, .slice au us.length cu] 24)).alloc (Obj.cells #[.int .i64 bx, .int .i64 by'] 26)) [(⟨w2.heap.size, 0, none⟩, .int .i64 um), (⟨w2.heap.size, 1, none⟩, .slice au us.length cu), (⟨w2.heap.size + 1, 0, none⟩, .int .i64 bx), (⟨w2.heap.size + 1, 1, none⟩, .int .i64 by')] := by simp [Mem, go_sem]
          have dA : A < w2.heap.size := by have := HS.out.size; have := hb1.size; omega
          clear hV hrow hb1 hb2 hU2 hm d0 p1
          go_upto_region 15 with fail
          generalize (w2.alloc (Obj.cells #[.int .i64 um, .slice au us.length cu] 24)).alloc (Obj.cells #[.int .i64 bx, .int .i64 by'] 26) = W3 at *
          have hm3 := hS3.tb.app hk3
          simp only [Mem, List.cons_append, List.nil_append, and_true] at hm3
          have hSX := hS3.table (by omega) hwA (u := ⟨um, us⟩) hr3
          have hkX := (hk3.off A 0 (.int .i64 um) (by intro q hq; simp at hq; rcases hq with rfl | rfl | rfl | rfl <;> simp <;> omega)).off A 1 (.slice au us.length cu) (by intro q hq; simp at hq; rcases hq with rfl | rfl | rfl | rfl <;> simp <;> omega)
          simp only at hSX
          have HSX := Lib.hid hSX
          have HKX := Lib.hid hkX
          clear hSX hkX hS3 hr3 hk3
          go_upto_region 16 with fail
          clear hm3
          generalize (W3.setCell ⟨A, 0, none⟩ (.int .i64 um)).setCell ⟨A, 1, none⟩ (.slice au us.length cu) = X at *
          
          have hm := HKX.out
          simp only [Mem, VE, List.cons_append, List.nil_append, and_true] at hm
          have hsz := HSX.out.size
          go_wp2_with (at_builtin; refine wpList_append_own _ rfl _ _ 36 rfl (A + 1) 26 i0 (.agg #[.int .i64 0, .int .i64 0]) 2 16 Tryd.underlying36 hi0 hz0 hz1 hz2 rfl (by decide) _ _ _ rfl (HSX.out.all.alloc _) ⟨X.heap.size, 0, none⟩ 1 1 [.int .i64 bx, .int .i64 by'] rfl rfl ?c1 ?c2 ?c3 ?c4 ?c5 ?_)
          case c1 => exact multi_new _ _ _
          case c2 => intro u hu; simp at hu; rcases hu with rfl | rfl <;> rfl
          case c3 => unfold maxLen; omega
          case c4 => omega
          case c5 => simp; omega
          intro v' w5 hown' hg5 _
          have hS5 := (HSX.out.next ((Bl.refl _).alloc (Obj.cells #[.int .i64 bx, .int .i64 by'] 26))).allA (by omega) (by omega) (x := (bx, by')) hown' hg5
          have HS5 := Lib.hid hS5
          have hsz5 := hS5.size
          clear hS5 hown' hg5 hm HSX HKX hsz
          go_wp2_with (at_builtin; refine wpList_append_own _ rfl _ _ 49 rfl (A + 1) 4 i1 (.bool false) 1 1 Tryd.underlying49 hi1 hy0 hy1 hy2 rfl (by decide) _ _ _ rfl ((HS5.out.gone).alloc _) ⟨w5.heap.size, 0, none⟩ 1 1 [.bool false] rfl rfl ?k1 ?k2 ?k3 ?k4 ?k5 ?_)
          case k1 =>
            intro j u hj
            match j, hj with
            | 0, hj => simp at hj; subst hj; simp [Addr.add]
          case k2 => intro u hu; simp at hu; subst hu; rfl
          case k3 => unfold maxLen; omega
          case k4 => omega
          case k5 => simp; omega
          intro v8' w6 hown6 hg6 _
          have hS6 := (HS5.out.next ((Bl.refl _).alloc (Obj.cells #[.bool false] 4))).goneA (by omega) (by omega) hown6 hg6
          have HS6 := Lib.hid hS6
          clear hS6 hown6 hg6 HS5 hsz5
          go_wp2_with fail
          go_roundg (l.length - (i + 1))
          case rel => exact ⟨i + 1, ⟨um, us⟩, all ++ [(bx, by')], gone ++ [false], au, cu, by omega, by go_num, HU2.out, HS6.out, by first | (simp; done) | (simp; omega), rfl⟩
          case measure => rw [G.out]; omega
      · have p1 : ((Int.tmod (x : Int) 2) == 0) = false := by have h2 : Int.tmod (x : Int) 2 = ((x % 2 : Nat) : Int) := (Int.ofNat_tmod x 2).symm; rw [beq_eq_false_iff_ne, h2]; omega
        by_cases ha0 : all = []
        · subst ha0
          obtain rfl : gone = [] := List.length_eq_zero_iff.1 HGL.out
          go_wp2_with fail
          refine (hnGiveO a1 c1 ⟨mo, sl⟩ _ (HS.out.tok HU.out.good)).mono ?_; rintro e w2 ⟨v, rfl, ⟨vt, rfl, hV⟩, hb1⟩
          rcases ugive HU.out (by omega) with ⟨e5, e6⟩ | ⟨⟨um, us⟩, ⟨bx, by'⟩, e5, hU2⟩
          · rw [e5] at hV ⊢
            obtain ⟨au, cu, rfl, -⟩ := tbO_form hV
            unfold hv tnil
            simp only [List.length_nil] at e6 ⊢
            have hb2 : Bl wr ((w2.alloc (Obj.cells #[.int .i64 0, .slice au 0 cu] 24)).alloc (Obj.cells #[.int .i64 0, .int .i64 0] 26)) := (hb1.alloc _).alloc _
            have hS3 := HS.out.next hb2
            have HS3 := Lib.hid hS3
            have hm3 := hS3.tb
            simp only [Mem, and_true] at hm3
            have e7 : (((hl sl sl.length).length : Int) != m) = false := by simpa using e6
            clear hV hS3 hm hb1 hb2 d0 p1
            go_wp2_with fail
            refine (hnLive a1 c1 ⟨mo, sl⟩ _ (HS3.out.tok HU.out.good)).mono ?_; rintro e w4 ⟨v, rfl, ⟨vl, rfl, hH⟩, hb4⟩
            rw [(utold HU.out).1] at hH ⊢
            obtain ⟨al, cl, rfl, -, -, -⟩ := hH
            simp only
            have HS4 := Lib.hid (HS3.out.next hb4)
            clear hm3 hb4
            go_wp2_with fail
            go_roundg (l.length - (i + 1))
            case rel => exact ⟨i + 1, ⟨mo, sl⟩, [], [], a1, c1, by omega, by go_num, HU.out, HS4.out, by omega, rfl⟩
            case measure => rw [G.out]; omega
          · rw [e5] at hV ⊢
            obtain ⟨au, cu, rfl, hrow⟩ := tbO_form hV
            unfold hv
            simp only at hrow ⊢
            have HU2 := Lib.hid hU2
            have hb2 : Bl w2 ((w2.alloc (Obj.cells #[.int .i64 um, .slice au us.length cu] 24)).alloc (Obj.cells #[.int .i64 bx, .int .i64 by'] 26)) := ((Bl.refl _).alloc _).alloc _
            have hS3 := (HS.out.next hb1).next hb2
            have hr3 := own_base (b := A + 1) (own_bl hrow hb2) HS.out.size
            have hk3 : Mem ((w2.alloc (Obj.cells #[.int .i64 um, .slice au us.length cu] 24)).alloc (Obj.cells #[.int .i64 bx, .int .i64 by'] 26)) [(⟨w2.heap.size, 0, none⟩, .int .i64 um), (⟨w2.heap.size, 1, none⟩, .slice au us.length cu), (⟨w2.heap.size + 1, 0, none⟩, .int .i64 bx), (⟨w2.heap.size + 1, 1, none⟩, .int .i64 by')] := by simp [Mem, go_sem]
            have dA : A < w2.heap.size := by have := HS.out.size; have := hb1.size; omega
            clear hV hrow hb1 hb2 hU2 hm d0 p1
            go_upto_region 15 with fail
            generalize (w2.alloc (Obj.cells #[.int .i64 um, .slice au us.length cu] 24)).alloc (Obj.cells #[.int .i64 bx, .int .i64 by'] 26) = W3 at *
            have hm3 := hS3.tb.app hk3
            simp only [Mem, List.cons_append, List.nil_append, and_true] at hm3
            have hSX := hS3.table (by omega) hwA (u := ⟨um, us⟩) hr3
            have hkX := (hk3.off A 0 (.int .i64 um) (by intro q hq; simp at hq; rcases hq with rfl | rfl | rfl | rfl <;> simp <;> omega)).off A 1 (.slice au us.length cu) (by intro q hq; simp at hq; rcases hq with rfl | rfl | rfl | rfl <;> simp <;> omega)
            simp only at hSX
            have HSX := Lib.hid hSX
            have HKX := Lib.hid hkX
            clear hSX hkX hS3 hr3 hk3
            go_upto_region 16 with fail
            clear hm3
            generalize (W3.setCell ⟨A, 0, none⟩ (.int .i64 um)).setCell ⟨A, 1, none⟩ (.slice au us.length cu) = X at *
            
            have hm := HKX.out
            simp only [Mem, VE, List.cons_append, List.nil_append, and_true] at hm
            have hsz := HSX.out.size
            go_wp2_with (at_builtin; refine wpList_append_own _ rfl _ _ 36 rfl (A + 1) 26 i0 (.agg #[.int .i64 0, .int .i64 0]) 2 16 Tryd.underlying36 hi0 hz0 hz1 hz2 rfl (by decide) _ _ _ rfl (HSX.out.all.alloc _) ⟨X.heap.size, 0, none⟩ 1 1 [.int .i64 bx, .int .i64 by'] rfl rfl ?c1 ?c2 ?c3 ?c4 ?c5 ?_)
            case c1 => exact multi_new _ _ _
            case c2 => intro u hu; simp at hu; rcases hu with rfl | rfl <;> rfl
            case c3 => unfold maxLen; omega
            case c4 => omega
            case c5 => simp; omega
            intro v' w5 hown' hg5 _
            have hS5 := (HSX.out.next ((Bl.refl _).alloc (Obj.cells #[.int .i64 bx, .int .i64 by'] 26))).allA (by omega) (by omega) (x := (bx, by')) hown' hg5
            have HS5 := Lib.hid hS5
            have hsz5 := hS5.size
            clear hS5 hown' hg5 hm HSX HKX hsz
            go_wp2_with (at_builtin; refine wpList_append_own _ rfl _ _ 49 rfl (A + 1) 4 i1 (.bool false) 1 1 Tryd.underlying49 hi1 hy0 hy1 hy2 rfl (by decide) _ _ _ rfl ((HS5.out.gone).alloc _) ⟨w5.heap.size, 0, none⟩ 1 1 [.bool false] rfl rfl ?k1 ?k2 ?k3 ?k4 ?k5 ?_)
            case k1 =>
              intro j u hj
              match j, hj with
              | 0, hj => simp at hj; subst hj; simp [Addr.add]
            case k2 => intro u hu; simp at hu; subst hu; rfl
            case k3 => unfold maxLen; omega
            case k4 => omega
            case k5 => simp; omega
            intro v8' w6 hown6 hg6 _
            have hS6 := (HS5.out.next ((Bl.refl _).alloc (Obj.cells #[.bool false] 4))).goneA (by omega) (by omega) hown6 hg6
            have HS6 := Lib.hid hS6
            clear hS6 hown6 hg6 HS5 hsz5
            go_wp2_with fail
            go_roundg (l.length - (i + 1))
            case rel => exact ⟨i + 1, ⟨um, us⟩, [] ++ [(bx, by')], [] ++ [false], au, cu, by omega, by go_num, HU2.out, HS6.out, by first | (simp; done) | (simp; omega), rfl⟩
            case measure => rw [G.out]; omega
        · have p2 : ((all.length : Int) == 0) = false := by rw [beq_eq_false_iff_ne]; have := List.length_pos_iff.2 ha0; omega
          obtain ⟨k, hk⟩ : ∃ k, k = x / 2 % all.length := ⟨_, rfl⟩
          have hkl : k < all.length := by rw [hk]; exact Nat.mod_lt _ (List.length_pos_iff.2 ha0)
          have hkx : (x : Int) / 2 % (all.length : Int) = (k : Int) := by rw [hk]; push_cast; rfl
          obtain ⟨⟨hx, hy⟩, hxk⟩ : ∃ z, all[k]? = some z := ⟨_, List.getElem?_eq_getElem hkl⟩
          obtain ⟨a', c', e', -, -, h37⟩ := own_form HS.out.all
          obtain ⟨g7, rfl, -, hg7, hc7⟩ := h37 (by omega)
          injection e' with e' _ e3
          subst e' e3
          obtain ⟨a', c', e', -, -, h38⟩ := own_form HS.out.gone
          obtain ⟨g8, rfl, hb8, hg8, hc8⟩ := h38 (by have := HGL.out; omega)
          injection e' with e' _ e3
          subst e' e3
          obtain ⟨x0, x1⟩ := hndCells_get all k _ hxk
          have x0 := hc7 _ _ x0
          have x1 := hc7 _ _ x1
          simp only at x0 x1
          have hkl2 : k < gone.length := by have := HGL.out; omega
          have t3 : (k : Int) < (gone.length : Int) := by omega
          have hkg : gone[k]? = some (gone.getD k true) := by rw [List.getD_eq_getElem?_getD, List.getElem?_eq_getElem hkl2]; rfl
          have y0 := hc8 _ _ (bool_get _ _ _ hkg)
          have y1 := HS.out.gone.frozenAt k
          have t1 : (0 : Int) ≤ (k : Int) := by omega
          have t2 : (k : Int) < (all.length : Int) := by omega
          have hD := fun w h hi => hnDropO a1 c1 ⟨mo, sl⟩ hx hy w h hi
          have hxb : -9223372036854775808 ≤ hx ∧ hx ≤ 9223372036854775807 := by
            obtain ⟨ii, j1, j2, -⟩ := HU.out.each k _ hxk
            have l1 := HU.out.good.len
            have l2 := HU.out.good.most2
            simp only at j2 j1 l1 l2
            omega
          have hdr := udrop HU.out hxk
          obtain ⟨⟨⟨um, us⟩, r2⟩, e5⟩ : ∃ z, tdrop ⟨mo, sl⟩ (hx, hy) = z := ⟨_, rfl⟩
          rw [e5] at hD hdr
          obtain ⟨gk, hgk⟩ : ∃ z, gone.getD k true = z := ⟨_, rfl⟩
          rw [hgk] at y0 hdr
          have HD := Lib.hid hD
          have HDR := Lib.hid hdr
          have HTK := Lib.hid (HS.out.tok HU.out.good)
          clear hD hdr e5 hgk hkg hxk h37 h38 hc7 hc8 hk
          have HKF : Hid (∀ w', Bl wr w' → Bl wr w' ∧ w'.cell? ⟨A, 0, none⟩ = some (.int .i64 mo) ∧ w'.cell? ⟨A, 1, none⟩ = some (.slice a1 sl.length c1) ∧ w'.cell? ⟨g7, k * 2, none⟩ = some (.int .i64 hx) ∧ w'.cell? ⟨g7, k * 2 + 1, none⟩ = some (.int .i64 hy)) := Lib.hid (fun w' k2 => by have := HS.out.tb.bl k2; simp only [Mem, and_true] at this; simp [this, k2, k2.cell x0, k2.cell x1])
          have hb00 : Bl wr wr := Bl.refl _
          go_wp2_with fail
          go_cut [16, 17] (fun s8 s9 wx => ∃ (Bu : Nat) (au : Option Addr) (cu : Nat), s8 = .pointer (some ⟨Bu, 0, none⟩) ∧ s9 = .int .i64 r2 ∧ Mem wx [(⟨Bu, 0, none⟩, .int .i64 um), (⟨Bu, 1, none⟩, .slice au us.length cu)] ∧ wx.ownsRow (A + 1) 52 2 (.slice au us.length cu) us.length (slotCells us) ∧ Bl wr wx)
          case first =>
            have hk0 := HKF.out _ hb00
            have hsz := HS.out.size
            go_region_held3 (fun w' => (Bl wr w' ∧ w'.cell? ⟨A, 0, none⟩ = some (.int .i64 mo) ∧ w'.cell? ⟨A, 1, none⟩ = some (.slice a1 sl.length c1) ∧ w'.cell? ⟨g7, k * 2, none⟩ = some (.int .i64 hx) ∧ w'.cell? ⟨g7, k * 2 + 1, none⟩ = some (.int .i64 hy))) (exact HKF.out _ (by repeat (first | assumption | exact Bl.refl _ | apply Bl.drewN | apply Bl.drew | apply Bl.alloc | (refine Bl.setCell ?_ _ (by first | (simp; done) | (simp; omega)) _) | (refine Bl.dr ?_ (by assumption)) | (refine Bl.trans ?_ (by assumption)))))
              ((go_at_call 13; refine (HD.out _ (HTK.out.bl (by repeat (first | assumption | exact Bl.refl _ | apply Bl.drewN | apply Bl.drew | apply Bl.alloc | (refine Bl.setCell ?_ _ (by first | (simp; done) | (simp; omega)) _) | (refine Bl.dr ?_ (by assumption)) | (refine Bl.trans ?_ (by assumption))))) hxb).mono ?_; rintro e w2 ⟨v, rfl, ⟨vt, rfl, hTu⟩, hbu⟩; obtain ⟨au, cu, rfl, hTr⟩ := tbO_form hTu; have hb3 : Bl wr w2 := Bl.trans (by repeat (first | assumption | exact Bl.refl _ | apply Bl.drewN | apply Bl.drew | apply Bl.alloc | (refine Bl.setCell ?_ _ (by first | (simp; done) | (simp; omega)) _) | (refine Bl.dr ?_ (by assumption)) | (refine Bl.trans ?_ (by assumption)))) hbu; simp only at hTr ⊢; first | (refine cutIs (P := Mem w2 [(⟨wr.heap.size, 0, none⟩, .int .i64 0), (⟨wr.heap.size, 1, none⟩, .slice none 0 0)]) ?_ ?_; (focus (refine Mem.bl ?_ hbu; simp [Mem, go_sem]; done)); intro hm5; simp only [Mem, and_true] at hm5) | skip))
            all_goals go_wp2_with fail
            all_goals go_meet
            all_goals first
              | exact ⟨w2.heap.size, au, cu, rfl, rfl, by simp [Mem, go_sem], own_base (own_bl hTr ((Bl.refl _).alloc _)) (by first | (simp; omega) | (simp; done) | omega), hb3.alloc _⟩
              | exact ⟨wr.heap.size, au, cu, rfl, rfl, by simp [Mem, go_sem, hm5], own_base (own_set (own_set hTr ⟨wr.heap.size, 0, none⟩ (by simp) _) ⟨wr.heap.size, 1, none⟩ (by simp) _) (by first | (simp; omega) | (simp; done) | omega), (hb3.setCell _ (by simp) _).setCell _ (by simp) _⟩
          case rest =>
            obtain ⟨Bu, au, cu, rfl, rfl, hru, hTu, hbu⟩ := hcut
            have y0 := hbu.cell y0
            have y1 := (HS.out.next hbu).gone.frozenAt k
            have hSc := HS.out.next hbu
            have hm := hSc.tb.app hru
            simp only [Mem, List.cons_append, List.nil_append, and_true] at hm
            have HRu := Lib.hid hru
            have HTu := Lib.hid hTu
            have HSc := Lib.hid hSc
            have n8 : g8 ≠ A := by omega
            have hgb := hbu.size
            clear hb00 HKF x0 x1 hTu hru hSc
            rcases HDR.out with ⟨rfl, u, e6, hU2⟩ | ⟨rfl, e6, hU2⟩
            · injection e6 with e6 e7
              subst e6 e7
              have HU2 := Lib.hid hU2
              have hSX := HSc.out.table (by omega) hwA (u := ⟨um, us⟩) HTu.out
              have hSY := hSX.goneS rfl (by omega) (by omega) hb8 k
              simp only at hSY
              have HSY := Lib.hid hSY
              clear hU2 hSX hSY
              go_wp2_with fail
              go_roundg (l.length - (i + 1))
              case rel => exact ⟨i + 1, ⟨um, us⟩, all, gone.set k true, au, cu, by omega, by go_num, HU2.out, HSY.out, by omega, rfl⟩
              case measure => rw [G.out]; omega
            · injection e6 with e6 e7
              subst e7
              have HU2 := Lib.hid hU2
              have hSY := HSc.out.goneS rfl (by omega) (by omega) hb8 k
              have HSY := Lib.hid hSY
              clear hU2 hSY
              go_wp2_with fail
              go_roundg (l.length - (i + 1))
              case rel => exact ⟨i + 1, ⟨mo, sl⟩, all, gone.set k true, a1, c1, by omega, by go_num, HU2.out, HSY.out, by omega, rfl⟩
              case measure => rw [G.out]; omega
    · obtain rfl : i = l.length := by omega
      clear HU8 HN h1 h2 hil hi
      have HTK := Lib.hid (HS.out.tok HU.out.good)
      have hgl := HGL.out
      have hall : ∀ (j : Nat) z, all[j]? = some z → 1 ≤ z.1 ∧ z.1 ≤ 100 := fun j z hz => by
        obtain ⟨ii, j1, j2, -⟩ := HU.out.each j z hz
        have l1 := HU.out.good.len
        have l2 := HU.out.good.most2
        simp only at j1 l1 l2
        omega
      have HAll := Lib.hid hall
      have hto := utold HU.out
      have hfl : fl gone all.length = ((hl sl sl.length).length : Int) := by rw [← hgl]; exact HU.out.live
      have HTo := Lib.hid hto
      have HFl := Lib.hid hfl
      clear hall hto hfl hgl
      go_wp2_with fail
      go_loopg [18, 19] all.length (fun g s18 s19 wx => ∃ j : Nat, j ≤ all.length ∧ s18 = .int .i64 (fl gone j) ∧ s19 = .int .i64 j ∧ Bl wr wx ∧ g = all.length - j)
      case atStart => exact ⟨0, by omega, rfl, rfl, Bl.refl _, rfl⟩
      case round =>
        obtain ⟨j, hj, rfl, rfl, hbx, hg⟩ := hrel
        have G2 := Lib.hid hg
        clear hg hm
        have hm := HS.out.tb.bl hbx
        simp only [Mem, and_true] at hm
        by_cases hjl : j < all.length
        · obtain ⟨a', c', e', -, -, h37⟩ := own_form HS.out.all
          obtain ⟨g7, rfl, -, hg7, hc7⟩ := h37 (by omega)
          injection e' with e' _ e3
          subst e' e3
          obtain ⟨a', c', e', -, -, h38⟩ := own_form HS.out.gone
          obtain ⟨g8, rfl, hb8, hg8, hc8⟩ := h38 (by have := HGL.out; omega)
          injection e' with e' _ e3
          subst e' e3
          obtain ⟨⟨hx, hy⟩, hxk⟩ : ∃ z, all[j]? = some z := ⟨_, List.getElem?_eq_getElem hjl⟩
          have hxb := HAll.out j _ hxk
          have hlk := ulook HU.out hxk
          have hnd := fun (k : Nat) (b : Int × Int) (hk : k < j) (hb : all[k]? = some b) => HU.out.nodup k j b _ hk hb hxk
          obtain ⟨x0, x1⟩ := hndCells_get all j _ hxk
          have d0 := hbx.cell (hc7 _ _ x0)
          have d1 := hbx.cell (hc7 _ _ x1)
          simp only at d0 d1 hxb
          have hjl2 : j < gone.length := by have := HGL.out; omega
          obtain ⟨gk, hgk⟩ : ∃ z, gone[j]? = some z := ⟨_, List.getElem?_eq_getElem hjl2⟩
          have y0 := hbx.cell (hc8 _ _ (bool_get _ _ _ hgk))
          have hgd : gone.getD j true = gk := by rw [List.getD_eq_getElem?_getD, hgk]; rfl
          have hf1 : fl gone (j + 1) = fl gone j + if gk then 0 else 1 := by simp only [fl]; rw [hgd]
          have hfb := fl_bound gone j
          have t1 : (0 : Int) ≤ (j : Int) := by omega
          have t2 : (j : Int) < (all.length : Int) := by omega
          have t3 : (j : Int) < (gone.length : Int) := by omega
          have w1' : IntKind.i64.wrap (hx - 1) = hx - 1 := IntWalk.i64_in _ (by omega)
          have w2' : IntKind.i64.wrap (fl gone j + 1) = fl gone j + 1 := IntWalk.i64_in _ (by omega)
          rw [hgd] at hlk
          have HND := Lib.hid hnd
          have HC7 := Lib.hid hc7
          clear hnd hc7 hc8 h37 h38 x0 x1 hgd hgk hxk
          cases gk
          · have hlk := hlk.2 rfl
            simp only at hlk
            have HF1 := Lib.hid hf1
            clear hf1
            have S1 := Lib.hid (fun y : BW wr => hnLook a1 c1 ⟨mo, sl⟩ hx hy y.w (HTK.out.bl (hbx.trans y.h)) (by omega))
            simp only [hlk] at S1
            unfold Tb.v at S1
            simp only at S1
            have hq := fun y : BW wr => HS.out.tb.bl (hbx.trans y.h)
            have hd := fun y : BW wr => And.intro (y.h.cell d0) (y.h.cell d1)
            simp only [Mem, and_true] at hq
            go_wp2_with fail
            clear hm
            
            refine wp_region_quiet_bw wr (by kernel_rfl) (by kernel_rfl) (Bl.refl wr) ?_
            repeat (go_big_quiet_step ((go_at_call 11; exact quietB (S1.out _))))
            refine wpQuiet_nil ?_
            intro wq hw'
            have hwq : Bl wr wq := by obtain ⟨x, hx⟩ := hw'; rw [hx]; exact x.h
            clear hw'
            clear hq hd S1 hlk
            have hbq := hbx.trans hwq
            have d0 := hwq.cell d0
            have d1 := hwq.cell d1
            have y0 := hwq.cell y0
            go_wp2_with fail
            go_loopg [22] j (fun g s22 wy => ∃ k : Nat, k ≤ j ∧ s22 = .int .i64 k ∧ Bl wq wy ∧ g = j - k)
            case atStart => exact ⟨0, by omega, rfl, Bl.refl _, rfl⟩
            case round =>
              obtain ⟨k, hk, rfl, hby, hg⟩ := hrel
              have G3 := Lib.hid hg
              clear hg
              by_cases hkj : k < j
              · obtain ⟨⟨ux, uy⟩, huk⟩ : ∃ z, all[k]? = some z := ⟨_, List.getElem?_eq_getElem (by omega)⟩
                have hne := HND.out k _ hkj huk
                obtain ⟨x0, x1⟩ := hndCells_get all k _ huk
                have z0 := (hbq.trans hby).cell (HC7.out _ _ x0)
                have z1 := (hbq.trans hby).cell (HC7.out _ _ x1)
                have d0 := hby.cell d0
                have d1 := hby.cell d1
                simp only at z0 z1
                have u1 : (0 : Int) ≤ (k : Int) := by omega
                have u2 : (k : Int) < (all.length : Int) := by omega
                have u3 : (k : Int) < (j : Int) := by omega
                have e5 : (ux == hx) = false ∨ ((ux == hx) = true ∧ (uy == hy) = false) := by
                  by_cases e : ux = hx
                  · exact .inr ⟨by simpa using e, by rw [beq_eq_false_iff_ne]; exact fun e2 => hne (by rw [e, e2])⟩
                  · exact .inl (by rw [beq_eq_false_iff_ne]; exact e)
                clear huk hne x0 x1
                rcases e5 with e5 | ⟨e5, e6⟩
                · go_wp2_with fail
                  go_quiet (fail)
                  go_wp2_with fail
                  go_roundg (j - (k + 1))
                  case rel => exact ⟨k + 1, by omega, by go_num, (by repeat (first | assumption | exact Bl.refl _ | apply Bl.drewN | apply Bl.drew | apply Bl.alloc | (refine Bl.dr ?_ (by assumption)) | (refine Bl.trans ?_ (by assumption)))), rfl⟩
                  case measure => rw [G3.out]; omega
                · go_wp2_with fail
                  go_quiet (fail)
                  go_wp2_with fail
                  go_roundg (j - (k + 1))
                  case rel => exact ⟨k + 1, by omega, by go_num, (by repeat (first | assumption | exact Bl.refl _ | apply Bl.drewN | apply Bl.drew | apply Bl.alloc | (refine Bl.dr ?_ (by assumption)) | (refine Bl.trans ?_ (by assumption)))), rfl⟩
                  case measure => rw [G3.out]; omega
              · obtain rfl : k = j := by omega
                have u3 : ¬ (k : Int) < (k : Int) := by omega
                go_wp2_with fail
                go_roundg (all.length - (k + 1))
                case rel => exact ⟨k + 1, by omega, by rw [HF1.out]; simp, by go_num, hbq.trans hby, rfl⟩
                case measure => rw [G2.out]; omega
          · have hlk := hlk.1 rfl
            have HF1 := Lib.hid hf1
            clear hf1
            have S1 := Lib.hid (fun y : BW wr => hnLook a1 c1 ⟨mo, sl⟩ hx hy y.w (HTK.out.bl (hbx.trans y.h)) (by omega))
            simp only [hlk] at S1
            unfold Tb.v at S1
            simp only at S1
            have hq := fun y : BW wr => HS.out.tb.bl (hbx.trans y.h)
            have hd := fun y : BW wr => And.intro (y.h.cell d0) (y.h.cell d1)
            simp only [Mem, and_true] at hq
            go_wp2_with fail
            clear hm
            
            refine wp_region_quiet_bw wr (by kernel_rfl) (by kernel_rfl) (Bl.refl wr) ?_
            repeat (go_big_quiet_step ((go_at_call 11; exact quietB (S1.out _))))
            refine wpQuiet_nil ?_
            intro wq hw'
            have hwq : Bl wr wq := by obtain ⟨x, hx⟩ := hw'; rw [hx]; exact x.h
            clear hw'
            clear hq hd S1 hlk
            have hbq := hbx.trans hwq
            have d0 := hwq.cell d0
            have d1 := hwq.cell d1
            have y0 := hwq.cell y0
            go_wp2_with fail
            go_loopg [22] j (fun g s22 wy => ∃ k : Nat, k ≤ j ∧ s22 = .int .i64 k ∧ Bl wq wy ∧ g = j - k)
            case atStart => exact ⟨0, by omega, rfl, Bl.refl _, rfl⟩
            case round =>
              obtain ⟨k, hk, rfl, hby, hg⟩ := hrel
              have G3 := Lib.hid hg
              clear hg
              by_cases hkj : k < j
              · obtain ⟨⟨ux, uy⟩, huk⟩ : ∃ z, all[k]? = some z := ⟨_, List.getElem?_eq_getElem (by omega)⟩
                have hne := HND.out k _ hkj huk
                obtain ⟨x0, x1⟩ := hndCells_get all k _ huk
                have z0 := (hbq.trans hby).cell (HC7.out _ _ x0)
                have z1 := (hbq.trans hby).cell (HC7.out _ _ x1)
                have d0 := hby.cell d0
                have d1 := hby.cell d1
                simp only at z0 z1
                have u1 : (0 : Int) ≤ (k : Int) := by omega
                have u2 : (k : Int) < (all.length : Int) := by omega
                have u3 : (k : Int) < (j : Int) := by omega
                have e5 : (ux == hx) = false ∨ ((ux == hx) = true ∧ (uy == hy) = false) := by
                  by_cases e : ux = hx
                  · exact .inr ⟨by simpa using e, by rw [beq_eq_false_iff_ne]; exact fun e2 => hne (by rw [e, e2])⟩
                  · exact .inl (by rw [beq_eq_false_iff_ne]; exact e)
                clear huk hne x0 x1
                rcases e5 with e5 | ⟨e5, e6⟩
                · go_wp2_with fail
                  go_quiet (fail)
                  go_wp2_with fail
                  go_roundg (j - (k + 1))
                  case rel => exact ⟨k + 1, by omega, by go_num, (by repeat (first | assumption | exact Bl.refl _ | apply Bl.drewN | apply Bl.drew | apply Bl.alloc | (refine Bl.dr ?_ (by assumption)) | (refine Bl.trans ?_ (by assumption)))), rfl⟩
                  case measure => rw [G3.out]; omega
                · go_wp2_with fail
                  go_quiet (fail)
                  go_wp2_with fail
                  go_roundg (j - (k + 1))
                  case rel => exact ⟨k + 1, by omega, by go_num, (by repeat (first | assumption | exact Bl.refl _ | apply Bl.drewN | apply Bl.drew | apply Bl.alloc | (refine Bl.dr ?_ (by assumption)) | (refine Bl.trans ?_ (by assumption)))), rfl⟩
                  case measure => rw [G3.out]; omega
              · obtain rfl : k = j := by omega
                have u3 : ¬ (k : Int) < (k : Int) := by omega
                go_wp2_with fail
                go_roundg (all.length - (k + 1))
                case rel => exact ⟨k + 1, by omega, by rw [HF1.out]; simp, by go_num, hbq.trans hby, rfl⟩
                case measure => rw [G2.out]; omega
        · obtain rfl : j = all.length := by omega
          rw [HFl.out]
          go_wp2_with fail
          refine (hnLive a1 c1 ⟨mo, sl⟩ _ (HTK.out.bl hbx)).mono ?_; rintro e w4 ⟨v, rfl, ⟨vl, rfl, hH⟩, hb4⟩
          rw [HTo.out.1] at hH ⊢
          obtain ⟨al, cl, rfl, -, -, -⟩ := hH
          simp only
          have hb5 := hbx.trans hb4
          have hm := HS.out.tb.bl hb5
          simp only [Mem, and_true] at hm
          go_wp2_with fail
          refine (hnGiven a1 c1 ⟨mo, sl⟩ _ (HTK.out.bl hb5)).mono ?_; rintro e w5 ⟨rfl, hb6⟩
          rw [HTo.out.2]
          have hb7 := hb5.trans hb6
          clear hm
          go_wp2_with fail
          refine (lawHnShown _).mono ?_; rintro e w6 ⟨rfl, hb8⟩
          go_wp2_with fail
          go_ret
          exact RB.mk rfl ((hbw.trans hb7).trans hb8)
theorem lawHnUnique (m : Int) (a : Option Addr) (l : List Nat) (c : Nat) (w : World) (h : U8s w a l) (hlc : l.length ≤ c) (hc : c ≤ maxLen) : Calls Tryd.prog 7 #[.int .i64 m, .slice a l.length c] w (RB w (.bool true)) := by
  by_cases hq : (tnew m).2 ≠ 0 ∨ 200 < l.length
  · exact uniqueNo m a l c w h hlc hc hq
  · have h1 : (tnew m).2 = 0 := by
      by_cases e : (tnew m).2 = 0
      · exact e
      · exact absurd (.inl e) hq
    have h2 : 1 ≤ m ∧ m ≤ 16 := by
      unfold tnew at h1
      split at h1
      · simp at h1
      · omega
    exact uniqueOk m a l c w h hlc hc h2.1 h2.2 (by omega)
end Go.Proofs.YtidclkojekodpaaDoor

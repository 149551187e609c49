
/-
  Contracts of the reference's digit, bytes and Read.
-/
import Derived.Test.YtldccffbjohokaaDoorKyU
import Derived.IntWalk
namespace Go.Proofs.YtldccffbjohokaaDoor
open Go.RowKit
set_option linter.unusedSimpArgs false
set_option linter.unusedVariables false
set_option maxRecDepth 100000

theorem hexI_at (b : UInt8) (n : Nat) (h : n < 16) (hn : hexS.getD n 0 = b) (hlt : ∀ j, j < n → hexS.getD j 0 ≠ b) : hexI b = n := by
  have hl : hexS.length = 16 := rfl
  by_cases h1 : hexI b < 0
  · have := Lib.indexByte_ge hexS b
    have h2 : hexI b = -1 := by unfold hexI at *; omega
    have := Lib.indexByte_none (l := hexS) (c := b) h2 n
    rw [List.getD_eq_getElem?_getD, List.getElem?_eq_getElem (by omega)] at hn
    rw [List.getElem?_eq_getElem (by omega)] at this
    exact absurd (by simpa using hn) this
  · obtain ⟨m, hm⟩ := Int.eq_ofNat_of_zero_le (show 0 ≤ hexI b by omega)
    obtain ⟨p1, p2⟩ := Lib.indexByte_some (l := hexS) (c := b) (o := m) hm
    have hm16 := (List.getElem?_eq_some_iff.1 p1).1
    rw [hm]
    rcases Nat.lt_trichotomy m n with c | c | c
    · exfalso
      refine hlt m c ?_
      rw [List.getD_eq_getElem?_getD, p1]; rfl
    · rw [c]
    · exfalso
      refine p2 n c ?_
      rw [List.getElem?_eq_getElem (by omega)]
      rw [List.getD_eq_getElem?_getD, List.getElem?_eq_getElem (by omega)] at hn
      simpa using hn
theorem hexI_no (b : UInt8) (hlt : ∀ j, j < 16 → hexS.getD j 0 ≠ b) : hexI b = -1 := by
  have hl : hexS.length = 16 := rfl
  by_cases h1 : hexI b < 0
  · have := Lib.indexByte_ge hexS b
    unfold hexI at *; omega
  · exfalso
    obtain ⟨m, hm⟩ := Int.eq_ofNat_of_zero_le (show 0 ≤ hexI b by omega)
    obtain ⟨p1, -⟩ := Lib.indexByte_some (l := hexS) (c := b) (o := m) hm
    have hm16 := (List.getElem?_eq_some_iff.1 p1).1
    refine hlt m (by omega) ?_
    rw [List.getD_eq_getElem?_getD, p1]; rfl
theorem hx_get (n : Nat) (h : n < (⟨#[48, 49, 50, 51, 52, 53, 54, 55, 56, 57, 97, 98, 99, 100, 101, 102]⟩ : ByteArray).size) : (⟨#[48, 49, 50, 51, 52, 53, 54, 55, 56, 57, 97, 98, 99, 100, 101, 102]⟩ : ByteArray)[n] = hexS.getD n 0 := by
  rw [← getD_at _ n h]; rfl

set_option maxHeartbeats 2000000 in
theorem refDigit (b : UInt8) (w : World) : Calls Tryd.prog 65 #[.int .u8 b.toNat] w fun e w' => e = .returned (.int .i64 (hexI b)) ∧ w = w' := by
  go_enter Tryd.func65, Tryd.ntmps65
  go_wp2_with fail
  go_loop [3] (fun i => ∃ n : Nat, n ≤ 16 ∧ i = .int .i64 n ∧ ∀ j, j < n → hexS.getD j 0 ≠ b) (fun i => (16 - intOf i).toNat)
  case atStart => exact ⟨0, by omega, rfl, by intro j h; omega⟩
  case round =>
    obtain ⟨n, hn, rfl, hh⟩ := hrel
    have H := Lib.hid hh
    clear hh
    by_cases h1 : n < 16
    · have h1' : (n : Int) < 16 := by omega
      have hsz : n < (⟨#[48, 49, 50, 51, 52, 53, 54, 55, 56, 57, 97, 98, 99, 100, 101, 102]⟩ : ByteArray).size := h1
      have hg := hx_get n hsz
      by_cases hc : hexS.getD n 0 = b
      · have ht : (((⟨#[48, 49, 50, 51, 52, 53, 54, 55, 56, 57, 97, 98, 99, 100, 101, 102]⟩ : ByteArray)[n].toNat : Int) == (b.toNat : Int)) = true := by rw [hg, hc]; simp
        have hr := hexI_at b n h1 hc H.out
        clear hg hc
        go_wp2_with fail
        go_ret
        exact ⟨by first | rfl | exact congrArg (fun z : Int => Ending.returned (Value.int .i64 z)) hr.symm, rfl⟩
      · have ht : (((⟨#[48, 49, 50, 51, 52, 53, 54, 55, 56, 57, 97, 98, 99, 100, 101, 102]⟩ : ByteArray)[n].toNat : Int) == (b.toNat : Int)) = false := by
          rw [hg, beq_eq_false_iff_ne]; intro h; exact hc (UInt8.toNat.inj (by omega))
        have HC := Lib.hid hc
        clear hg hc
        go_wp2_with fail
        go_round
        case rel =>
          refine ⟨n + 1, by omega, by go_num, fun j hj => ?_⟩
          rcases Nat.lt_or_ge j n with h2 | h2
          · exact H.out j h2
          · have : j = n := by omega
            subst this; exact HC.out
        case measure => simp [intOf]; omega
    · obtain rfl : n = 16 := by omega
      have hr := hexI_no b H.out
      go_wp2_with fail
      go_ret
      exact ⟨by first | rfl | exact congrArg (fun z : Int => Ending.returned (Value.int .i64 z)) hr.symm, rfl⟩

theorem ext_ext (s : ByteArray) (p n : Nat) (h : p + n ≤ s.size) : (s.extract p s.size).extract n (s.extract p s.size).size = s.extract (p + n) s.size := by
  apply str_ext
  rw [toL, toL, ext_drop, ext_drop, ext_drop, List.drop_drop]
theorem ext_getD (s : ByteArray) (p k : Nat) (h : p + k < s.size) : (s.extract p s.size).data.toList.getD k 0 = s[p + k] := by
  rw [ext_drop, List.getD_eq_getElem?_getD, List.getElem?_drop, List.getElem?_eq_getElem (by simpa using h)]; rfl
theorem u8_in {x : Int} (h : 0 ≤ x) (k : x < 256) : IntKind.u8.wrap x = x := by
  simp [IntKind.wrap, IntKind.signed, IntKind.bits]; omega
def rbt (s : ByteArray) : ByteArray × Bool := match unL s.data.toList with
  | none => (mt, false)
  | some k => (⟨k.toArray⟩, true)
theorem rbt_bad {w wr : World} {s r : ByteArray} {acc : List UInt8} {v : Value} (h : RdRel w wr s r acc v) (hne : 0 < r.size) (hu : ustep r.data.toList = none) : rbt s = (mt, false) := by
  have hr : r.data.toList ≠ [] := by
    intro he
    have h5 : r.data.toList.length = 0 := by rw [he]; rfl
    have : r.size = 0 := by simpa using h5
    omega
  unfold rbt
  rw [h.2.2.1, unL_bad hr hu]; rfl
theorem u8_ne {a b : UInt8} (h : ¬ a = b) : ((a.toNat : Int) != (b.toNat : Int)) = true := by
  rw [bne_iff_ne]; intro e; exact h (UInt8.toNat.inj (by omega))
theorem u8_eq {a b : UInt8} (h : ¬ a = b) : ((a.toNat : Int) == (b.toNat : Int)) = false := by
  rw [beq_eq_false_iff_ne]; intro e; exact h (UInt8.toNat.inj (by omega))

set_option maxHeartbeats 4000000 in
theorem refBytes (s : ByteArray) (w : World) (hs : s.size ≤ 128) (res : ByteArray × Bool) (hres : rbt s = res) :
    Calls Tryd.prog 53 #[.string s] w (RB w (.tuple #[.string res.1, .bool res.2])) := by
  obtain ⟨i0, hi0, hz0, hz1, hz2⟩ := info_parts inf_u8'
  have HR := Lib.hid hres
  clear hres
  go_enter Tryd.func53, Tryd.ntmps53
  go_wp2_with fail
  go_loopg [4, 5] s.size (fun g p i wr => ∃ (pos : Nat) (acc : List UInt8) (v : Value), p = v ∧ i = .int .i64 pos ∧ pos ≤ s.size ∧ RdRel w wr s (s.extract pos s.size) acc v ∧ g = s.size - pos)
  case atStart =>
    refine ⟨0, [], _, rfl, rfl, by omega, ⟨by simpa [Lib.byteCells] using own_nil _ _ _ _, by rw [List.length_nil, ByteArray.size_extract]; omega, ?_, Bl.refl _⟩, rfl⟩
    rw [ext_drop, List.drop_zero]; cases unL s.data.toList <;> rfl
  case round =>
    obtain ⟨pos, acc, v, rfl, rfl, hpos, hrel, hg⟩ := hrel
    have G := Lib.hid hg
    have HRel := Lib.hid hrel
    obtain ⟨hown, hsz, -, hb⟩ := hrel
    have hexs : (s.extract pos s.size).size = s.size - pos := by simp
    rw [hexs] at hsz
    have HEX := Lib.hid hexs
    have HO := Lib.hid hown
    have hbs := hb.size
    clear hg hown hexs
    by_cases he : pos < s.size
    · have h0 : 0 < (s.extract pos s.size).size := by rw [HEX.out]; omega
      have H0 := Lib.hid h0
      have hz : (0 : Int) ≤ (pos : Int) := by omega
      clear h0
      have g0 := ext_getD s pos 0 (by omega)
      simp only [Nat.add_zero] at g0
      have hel : (s.extract pos s.size).data.toList.length = s.size - pos := by simp
      have G0 := Lib.hid g0
      have HEL := Lib.hid hel
      clear g0 hel
      by_cases c0 : s[pos] = 92
      · have d0 : ((s[pos].toNat : Int) != 92) = false := by rw [c0]; rfl
        have tn1 : ((pos : Int) + 1).toNat = pos + 1 := by omega
        have tn2 : ((pos : Int) + 2).toNat = pos + 2 := by omega
        have tn3 : ((pos : Int) + 3).toNat = pos + 3 := by omega
        by_cases c1 : ∃ h : pos + 1 < s.size, s[pos + 1] = 92
        · obtain ⟨h1, c1⟩ := c1
          have q1 : (pos : Int) + 1 < (s.size : Int) := by omega
          have d1 : ((s[pos + 1].toNat : Int) == 92) = true := by rw [c1]; rfl
          have hu : ustep (s.extract pos s.size).data.toList = some (92, 2) := by
            have hq := ext_getD s pos 1 h1
            unfold ustep; rw [G0.out, if_neg (fun h => h c0), if_pos ⟨by rw [HEL.out]; omega, by rw [hq]; exact c1⟩]
          have HU := Lib.hid hu
          clear hu c1 c0
          go_wp2_with (at_builtin; refine wpList_append_own _ rfl _ _ 49 rfl w.heap.size 5 i0 (.int .u8 0) 1 1 Tryd.underlying49 hi0 hz0 hz1 hz2 rfl (by decide) _ _ _ rfl (HO.out.alloc _) ⟨wr.heap.size, 0, none⟩ 1 1 [.int .u8 92] rfl rfl ?c1 ?c2 ?c3 ?c4 ?c5 ?_)
          case c1 => exact one_new _ _ _
          case c2 => intro u hu; simp at hu; rcases hu with rfl; rfl
          case c3 => unfold maxLen; omega
          case c4 => omega
          case c5 => simp; omega
          intro v' w1 hown1 hgrow _
          have hb1 := grown_bl (hb.alloc _) (HO.out.alloc _) hgrow (Nat.le_refl _)
          have hx := rd_step HRel.out H0.out HU.out hown1 hb1
          rw [ext_ext s pos 2 (by omega)] at hx
          have HX := Lib.hid hx
          clear hown1 hgrow hb1 hx
          go_wp2_with fail
          go_roundg (s.size - (pos + 2))
          case rel => exact ⟨pos + 2, _, _, rfl, by go_num, by omega, HX.out, rfl⟩
          case measure => rw [G.out]; omega
        · have C1 := Lib.hid c1
          have e1 : (¬ (pos : Int) + 1 < (s.size : Int)) ∨ ∃ h : pos + 1 < s.size, ((s[pos + 1].toNat : Int) == 92) = false := by
            by_cases h1 : pos + 1 < s.size
            · exact .inr ⟨h1, u8_eq (b := 92) (fun h => c1 ⟨h1, h⟩)⟩
            · exact .inl (by omega)
          have hn2 : ¬ (2 ≤ (s.extract pos s.size).data.toList.length ∧ (s.extract pos s.size).data.toList.getD 1 0 = 92) := by
            rintro ⟨h1, h2⟩
            rw [HEL.out] at h1
            rw [ext_getD s pos 1 (by omega)] at h2
            exact c1 ⟨by omega, h2⟩
          have HN2 := Lib.hid hn2
          have C0 := Lib.hid c0
          clear c1 hn2 c0
          by_cases c2 : s.size ≤ pos + 3
          · have hr : res = (mt, false) := by
              rw [← HR.out]
              refine rbt_bad HRel.out H0.out ?_
              unfold ustep
              rw [G0.out, if_neg (fun h => h C0.out), if_neg HN2.out, if_pos (by rw [HEL.out]; omega)]
            subst hr
            have q3 : (s.size : Int) ≤ (pos : Int) + 3 := by omega
            rcases e1 with e1 | ⟨h1, e1⟩
            · go_wp2_with fail
              go_ret2
              exact rb_tuple rfl rfl hb
            · have q1 : (pos : Int) + 1 < (s.size : Int) := by omega
              go_wp2_with fail
              go_ret2
              exact rb_tuple rfl rfl hb
          · obtain ⟨h1, e1⟩ : ∃ h : pos + 1 < s.size, ((s[pos + 1].toNat : Int) == 92) = false := e1.resolve_left (by omega)
            have h2 : pos + 2 < s.size := by omega
            have h3 : pos + 3 < s.size := by omega
            have q1 : (pos : Int) + 1 < (s.size : Int) := by omega
            have q2 : (pos : Int) + 2 < (s.size : Int) := by omega
            have q3 : (pos : Int) + 3 < (s.size : Int) := by omega
            have b1 : (s.extract pos s.size).data.toList.getD 1 0 = s[pos + 1] := ext_getD s pos 1 h1
            have b2 : (s.extract pos s.size).data.toList.getD 2 0 = s[pos + 2] := ext_getD s pos 2 h2
            have b3 : (s.extract pos s.size).data.toList.getD 3 0 = s[pos + 3] := ext_getD s pos 3 h3
            have B1 := Lib.hid b1
            have B2 := Lib.hid b2
            have B3 := Lib.hid b3
            have D2 := Lib.hid (fun w => refDigit s[pos + 2] w)
            have D3 := Lib.hid (fun w => refDigit s[pos + 3] w)
            clear b1 b2 b3
            by_cases c3 : s[pos + 1] ≠ 120 ∨ hexI s[pos + 2] < 0 ∨ hexI s[pos + 3] < 0
            · have hr : res = (mt, false) := by
                rw [← HR.out]
                refine rbt_bad HRel.out H0.out ?_
                unfold ustep
                rw [G0.out, if_neg (fun h => h C0.out), if_neg HN2.out, if_neg (by rw [HEL.out]; omega), if_pos (by rw [B1.out, B2.out, B3.out]; exact c3)]
              subst hr
              have c4 : ((s[pos + 1].toNat : Int) != 120) = true ∨ ((s[pos + 1].toNat : Int) != 120) = false ∧ (hexI s[pos + 2] < 0 ∨ ¬ hexI s[pos + 2] < 0 ∧ hexI s[pos + 3] < 0) := by
                by_cases c5 : s[pos + 1] = 120
                · right
                  refine ⟨by rw [c5]; rfl, ?_⟩
                  rcases c3 with c3 | c3 | c3
                  · exact absurd c5 c3
                  · exact .inl c3
                  · by_cases c6 : hexI s[pos + 2] < 0
                    · exact .inl c6
                    · exact .inr ⟨c6, c3⟩
                · exact .inl (u8_ne (b := 120) c5)
              clear c3
              generalize hexI s[pos + 2] = v2 at *
              generalize hexI s[pos + 3] = v3 at *
              rcases c4 with c4 | ⟨c4, c5 | ⟨c5, c6⟩⟩
              · go_wp2_with fail
                go_ret2
                exact rb_tuple rfl rfl hb
              · go_wp2_with fail
                refine (D2.out _).mono ?_; rintro e w' ⟨rfl, rfl⟩
                go_wp2_with fail
                go_ret2
                exact rb_tuple rfl rfl hb
              · go_wp2_with fail
                refine (D2.out _).mono ?_; rintro e w' ⟨rfl, rfl⟩
                go_wp2_with fail
                refine (D3.out _).mono ?_; rintro e w' ⟨rfl, rfl⟩
                go_wp2_with fail
                go_ret2
                exact rb_tuple rfl rfl hb
            · obtain ⟨n2, f2, l2⟩ := hexI_ok (b := s[pos + 2]) (by omega)
              obtain ⟨n3, f3, l3⟩ := hexI_ok (b := s[pos + 3]) (by omega)
              have hu : ustep (s.extract pos s.size).data.toList = some (UInt8.ofNat (16 * n2 + n3), 4) := by
                unfold ustep
                rw [G0.out, if_neg (fun h => h C0.out), if_neg HN2.out, if_neg (by rw [HEL.out]; omega), if_neg (by rw [B1.out, B2.out, B3.out]; exact c3)]
                rw [B2.out, B3.out, f2, f3, Int.toNat_natCast, Int.toNat_natCast]
              have HU := Lib.hid hu
              have d1 : ((s[pos + 1].toNat : Int) != 120) = false := by
                have : s[pos + 1] = 120 := by simp at c3; exact c3.1
                rw [this]; rfl
              have hD2 := D2.out
              have hD3 := D3.out
              rw [f2] at hD2
              rw [f3] at hD3
              have J2 := Lib.hid hD2
              have J3 := Lib.hid hD3
              clear hu hD2 hD3 f2 f3 c3 D2 D3
              go_wp2_with fail
              refine (J2.out _).mono ?_; rintro e w' ⟨rfl, rfl⟩
              go_wp2_with fail
              refine (J3.out _).mono ?_; rintro e w' ⟨rfl, rfl⟩
              go_wp2_with fail
              have v2 : IntKind.i64.wrap ((pos : Int) + 2) = (pos : Int) + 2 := IntWalk.i64_in _ (by omega)
              have v3 : IntKind.i64.wrap ((pos : Int) + 3) = (pos : Int) + 3 := IntWalk.i64_in _ (by omega)
              have v4 : (0 : Int) ≤ (pos : Int) + 2 := by omega
              have v5 : (0 : Int) ≤ (pos : Int) + 3 := by omega
              have v6 : IntKind.i64.wrap (16 * (n2 : Int)) = 16 * (n2 : Int) := IntWalk.i64_in _ (by omega)
              have v7 : IntKind.i64.wrap (16 * (n2 : Int) + (n3 : Int)) = 16 * (n2 : Int) + (n3 : Int) := IntWalk.i64_in _ (by omega)
              have v8 : IntKind.u8.wrap (16 * (n2 : Int) + (n3 : Int)) = 16 * (n2 : Int) + (n3 : Int) := u8_in (by omega) (by omega)
              have hbv : (16 * (n2 : Int) + (n3 : Int)) = ((UInt8.ofNat (16 * n2 + n3)).toNat : Int) := by
                rw [UInt8.toNat_ofNat']; omega
              have HBV := Lib.hid hbv
              clear hbv
              go_region_held3 (fun w' => True) (trivial)
                (first
                  | (go_at_call 65; (first | (with_reducible refine (J2.out _).mono ?_) | (with_reducible refine (J3.out _).mono ?_)); rintro e w' ⟨rfl, rfl⟩)
                  | (refine step_append_lies _ (by rfl) _ _ _ (by rfl) w.heap.size 5 i0 _ 1 1 Tryd.underlying49 hi0 hz0 hz1 hz2 rfl (by omega) _ acc.length (Lib.byteCells acc) (by rfl) ((HO.out.alloc _).drew)
                      ⟨wr.heap.size, 0, none⟩ 1 1 [.int .u8 (16 * (n2 : Int) + (n3 : Int))] (by rfl) (by rfl) (World.news_of_block (cs := #[.int .u8 (16 * (n2 : Int) + (n3 : Int))]) (t := 5) (fr := (0, 0)) (heap_alloc_new wr _)) (by simp [Value.oneCell'])
                      (by omega) (by unfold maxLen; omega) (by omega) (by simp; omega) (wr.heap.size + 1) (by simp) ?_; intro gg cap w1 hown1 hgrow hat hlt))
              all_goals
                have hb1 := grown_bl ((hb.alloc _).drew) ((HO.out.alloc _).drew) hgrow (Nat.le_refl _)
                rw [HBV.out] at hown1
                have hx := rd_step HRel.out H0.out HU.out hown1 hb1
                rw [ext_ext s pos 4 (by omega)] at hx
                have HX := Lib.hid hx
                clear hown1 hgrow hat hb1 hx
                go_wp2_with fail
                go_roundg (s.size - (pos + 4))
                case rel => exact ⟨pos + 4, _, _, rfl, by go_num, by omega, HX.out, rfl⟩
                case measure => rw [G.out]; omega
      · have d0 : ((s[pos].toNat : Int) != 92) = true := u8_ne (b := 92) c0
        have hu : ustep (s.extract pos s.size).data.toList = some (s[pos], 1) := by
          unfold ustep; rw [G0.out, if_pos c0]
        have HU := Lib.hid hu
        clear hu c0
        go_wp2_with (at_builtin; refine wpList_append_own _ rfl _ _ 49 rfl w.heap.size 5 i0 (.int .u8 0) 1 1 Tryd.underlying49 hi0 hz0 hz1 hz2 rfl (by decide) _ _ _ rfl (HO.out.alloc _) ⟨wr.heap.size, 0, none⟩ 1 1 [.int .u8 s[pos].toNat] rfl rfl ?c1 ?c2 ?c3 ?c4 ?c5 ?_)
        case c1 => exact one_new _ _ _
        case c2 => intro u hu; simp at hu; rcases hu with rfl; rfl
        case c3 => unfold maxLen; omega
        case c4 => omega
        case c5 => simp; omega
        intro v' w1 hown1 hgrow _
        have hb1 := grown_bl (hb.alloc _) (HO.out.alloc _) hgrow (Nat.le_refl _)
        have hx := rd_step HRel.out H0.out HU.out hown1 hb1
        rw [ext_ext s pos 1 (by omega)] at hx
        have HX := Lib.hid hx
        clear hown1 hgrow hb1 hx
        go_wp2_with fail
        go_roundg (s.size - (pos + 1))
        case rel => exact ⟨pos + 1, _, _, rfl, by go_num, by omega, HX.out, rfl⟩
        case measure => rw [G.out]; omega
    · have hun : unL s.data.toList = some acc := by
        rw [HRel.out.2.2.1, ext_drop, List.drop_of_length_le (by simp; omega), unL_nil]; simp
      have hcv := conv_own HO.out
      have hr := HR.out
      unfold rbt at hr
      rw [hun] at hr
      subst hr
      clear hun
      go_wp2_with fail
      clear hcv
      go_ret2
      exact rb_tuple rfl rfl hb
end Go.Proofs.YtldccffbjohokaaDoor

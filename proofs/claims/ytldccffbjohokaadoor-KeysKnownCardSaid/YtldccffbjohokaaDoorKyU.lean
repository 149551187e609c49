
/-
  Contract of keys.Read.
-/
import Derived.Test.YtldccffbjohokaaDoorKyT
import Derived.Test.YtldccffbjohokaaDoorOwn
import Derived.Test.YtldccffbjohokaaDoorShelf
import Derived.Deep.RegionHeld3
import Derived.Deep.AppendLies
namespace Go.Proofs.YtldccffbjohokaaDoor
open Go.RowKit
set_option linter.unusedSimpArgs false
set_option linter.unusedVariables false
set_option maxRecDepth 100000

def rd (s : ByteArray) : ByteArray × Int := if 128 < s.size then (mt, 3) else match unL s.data.toList with
  | none => (mt, 6)
  | some k => if (showS ⟨k.toArray⟩).toList ≠ s.toList then (mt, 6) else if 32 < k.length then (mt, 3) else (⟨k.toArray⟩, 0)
theorem inf_u8' : (Tryd.prog.info? 5).map (fun i => (i.zero, i.size, i.bytes)) = some (some (.int .u8 0), 1, 1) := by kernel_rfl
theorem getD_at (r : ByteArray) (i : Nat) (h : i < r.size) : r.data.toList.getD i 0 = r[i] := by
  rw [List.getD_eq_getElem?_getD, List.getElem?_eq_getElem (by simpa using h)]; rfl
theorem ext_drop (r : ByteArray) (n : Nat) : (r.extract n r.size).data.toList = r.data.toList.drop n := by
  rw [ByteArray.data_extract]; simp
  rw [List.take_of_length_le (by simp)]
theorem pre2L : ∀ l : List UInt8, Lib.hasPrefix l [92, 92] = decide (2 ≤ l.length ∧ l.getD 0 0 = 92 ∧ l.getD 1 0 = 92)
  | [] => by decide
  | [a] => by simp [Lib.hasPrefix, List.isPrefixOf]
  | a :: b :: l => by
    rw [Bool.eq_iff_iff]
    simp [Lib.hasPrefix]
    constructor
    · rintro ⟨h1, h2⟩; exact ⟨h1.symm, h2.symm⟩
    · rintro ⟨h1, h2⟩; exact ⟨h1.symm, h2.symm⟩
theorem pre2 (r : ByteArray) : Lib.hasPrefix r.data.toList [92, 92] = decide (2 ≤ r.data.toList.length ∧ r.data.toList.getD 0 0 = 92 ∧ r.data.toList.getD 1 0 = 92) := pre2L _

theorem hex_at (b : UInt8) : Lib.indexByte (⟨#[48, 49, 50, 51, 52, 53, 54, 55, 56, 57, 97, 98, 99, 100, 101, 102]⟩ : ByteArray).data.toList ((b.toNat : Int).toNat.toUInt8) = hexI b := by
  have : ((b.toNat : Int).toNat.toUInt8) = b := by simp
  rw [this]; rfl
theorem hexI_ok {b : UInt8} (h : ¬ hexI b < 0) : ∃ n : Nat, hexI b = (n : Int) ∧ n < 16 := by
  obtain ⟨n, hn⟩ := Int.eq_ofNat_of_zero_le (show 0 ≤ hexI b by omega)
  refine ⟨n, hn, ?_⟩
  have := (List.getElem?_eq_some_iff.1 (Lib.indexByte_some (l := hexS) (c := b) (o := n) hn).1).1
  exact this
theorem quietSame {P : Program} {f : FuncId} {args : Array Value} {w : World} {n : Nat} {v : Value}
    (h : Calls P f args (w.drewN n) fun e w' => e = .returned v ∧ w' = w.drewN n) : Calls P f args (w.drewN n) fun e w'' => e = .returned v ∧ ∃ m, w'' = w.drewN m :=
  h.mono fun _ _ ⟨he, hw⟩ => ⟨he, n, hw⟩
theorem same_symm {P : Program} {f : FuncId} {args : Array Value} {w : World} {v : Value} (h : Calls P f args w fun e w' => e = .returned v ∧ w' = w) : Calls P f args w fun e w' => e = .returned v ∧ w = w' :=
  h.mono fun _ _ ⟨he, hw⟩ => ⟨he, hw.symm⟩
theorem hexv_all : ∀ a b : Fin 16, IntKind.u8.wrap (bits BinOp.or IntKind.i64 (IntKind.i64.wrap ((a.val : Int) * 16)) (b.val : Int)) = ((UInt8.ofNat (16 * a.val + b.val)).toNat : Int) := by decide +kernel
theorem hexv (n2 n3 : Nat) (l2 : n2 < 16) (l3 : n3 < 16) : IntKind.u8.wrap (bits BinOp.or IntKind.i64 (IntKind.i64.wrap ((n2 : Int) * 16)) (n3 : Int)) = ((UInt8.ofNat (16 * n2 + n3)).toNat : Int) := hexv_all ⟨n2, l2⟩ ⟨n3, l3⟩
/-- What the loop knows. -/
def RdRel (w wr : World) (s r : ByteArray) (acc : List UInt8) (v : Value) : Prop :=
  wr.ownsRow w.heap.size 5 1 v acc.length (Lib.byteCells acc) ∧ acc.length + r.size ≤ 128 ∧ unL s.data.toList = (unL r.data.toList).map (acc ++ ·) ∧ Bl w wr

theorem rd_step {w wr w1 : World} {s r : ByteArray} {acc : List UInt8} {v v' : Value} {b : UInt8} {n : Nat} (h : RdRel w wr s r acc v) (hne : 0 < r.size) (hu : ustep r.data.toList = some (b, n))
    (hown1 : w1.ownsRow w.heap.size 5 1 v' (acc.length + 1) (Lib.byteCells acc ++ [.int .u8 b.toNat])) (hbl : Bl w w1) : RdRel w w1 s (r.extract n r.size) (acc ++ [b]) v' := by
  obtain ⟨-, h2, h3, -⟩ := h
  have h1 := ustep_n hu
  have hr : r.data.toList ≠ [] := by
    intro he
    have h5 : r.data.toList.length = 0 := by rw [he]; rfl
    have : r.size = 0 := by simpa using h5
    omega
  refine ⟨?_, ?_, ?_, hbl⟩
  · rw [Lib.byteCells_append, List.length_append]; exact hown1
  · have : (r.extract n r.size).size = r.size - n := by simp
    rw [List.length_append, this, List.length_singleton]; omega
  · rw [h3, unL_step hr hu, ext_drop]
    cases unL (r.data.toList.drop n) <;> simp
theorem rd_bad {w wr : World} {s r : ByteArray} {acc : List UInt8} {v : Value} (h : RdRel w wr s r acc v) (hs : s.size ≤ 128) (hne : 0 < r.size) (hu : ustep r.data.toList = none) : rd s = (mt, 6) := by
  have hr : r.data.toList ≠ [] := by
    intro he
    have h5 : r.data.toList.length = 0 := by rw [he]; rfl
    have : r.size = 0 := by simpa using h5
    omega
  unfold rd
  rw [if_neg (by omega), h.2.2.1, unL_bad hr hu]; rfl
theorem conv_nil (w : World) : (convert 49 9 (.slice none 0 0)).run Tryd.prog w = .ok (.string ⟨#[]⟩) w := by kernel_rfl
theorem conv_own {wr : World} {acc : List UInt8} {v : Value} {base : Nat} (h : wr.ownsRow base 5 1 v acc.length (Lib.byteCells acc)) : (convert 49 9 v).run Tryd.prog wr = .ok (.string ⟨acc.toArray⟩) wr := by
  have hf := own_form h
  obtain ⟨hl, h⟩ := h
  rcases h with ⟨rfl, h2⟩ | ⟨g, cap, cur, rfl, hb, hg, hn, hc, hs, ht⟩
  · have : acc = [] := List.length_eq_zero_iff.1 h2
    subst this; exact conv_nil wr
  · refine conv_back 49 9 5 Tryd.underlying49 Tryd.underlying5 Tryd.underlying9 wr g acc.length cap acc rfl (fun j hj => ?_)
    obtain ⟨a, c, e, -, -, h4⟩ := hf
    obtain ⟨g', e', -, -, h5⟩ := h4 (by omega)
    injection e with e1 e2 e3
    rw [e'] at e1
    injection e1 with e1; injection e1 with e1
    subst e1
    exact h5 j _ (by simp [Lib.byteCells, hj])

set_option maxHeartbeats 4000000 in
theorem keysReadIn (s : ByteArray) (w : World) (hs : s.size ≤ 128) (hT : Tabs w) (res : ByteArray × Int) (hres : rd s = res) :
    Calls Tryd.prog 28 #[.string s] w (RB w (.tuple #[.string res.1, .int .i64 res.2])) := by
  obtain ⟨i0, hi0, hz0, hz1, hz2⟩ := info_parts inf_u8'
  have HT := Lib.hid (fun W (h : Bl w W) => tabs_bl hT h)
  have HR := Lib.hid hres
  clear hres hT
  go_enter Tryd.func28, Tryd.ntmps28
  go_wp2_with fail
  go_loopg [4, 5] s.size (fun g p q wr => ∃ (r : ByteArray) (acc : List UInt8) (v : Value), p = v ∧ q = .string r ∧ RdRel w wr s r acc v ∧ g = r.size)
  case atStart => exact ⟨s, [], _, rfl, rfl, ⟨by simpa [Lib.byteCells] using own_nil _ _ _ _, by simpa using hs, by cases unL s.data.toList <;> simp, Bl.refl _⟩, rfl⟩
  case round =>
    obtain ⟨r, acc, v, rfl, rfl, hrel, hg⟩ := hrel
    have G := Lib.hid hg
    have HRel := Lib.hid hrel
    obtain ⟨hown, hsz, -, hb⟩ := hrel
    have HO := Lib.hid hown
    clear hg hown
    by_cases he : r.size = 0
    · have hem : r.toList.isEmpty = true := (empty_iff r).2 he
      have hun : unL s.data.toList = some acc := by
        rw [HRel.out.2.2.1]
        have : r.data.toList = [] := by rw [← List.length_eq_zero_iff]; simpa using he
        rw [this, unL_nil]; simp
      have hcv := conv_own HO.out
      have hal : acc.length ≤ 128 := by omega
      have hks : (⟨acc.toArray⟩ : ByteArray).size = acc.length := by simp [ByteArray.size]
      have hS : ∀ w, Tabs w → Calls Tryd.prog 49 #[.string (⟨acc.toArray⟩ : ByteArray)] w (RB w (.string (showS ⟨acc.toArray⟩))) := fun w h => keysShowIn (⟨acc.toArray⟩ : ByteArray) w (by rw [hks]; omega) h
      have hrd : res = if (showS ⟨acc.toArray⟩).toList ≠ s.toList then (mt, 6) else if 32 < acc.length then (mt, 3) else (⟨acc.toArray⟩, 0) := by
        rw [← HR.out]; unfold rd; rw [if_neg (by omega), hun]
      generalize hkk : (⟨acc.toArray⟩ : ByteArray) = kk at *
      have hrl : acc.length = kk.size := hks.symm
      rw [hrl] at hrd
      clear hkk hun hks
      generalize showS kk = sk at *
      have HS := Lib.hid hS
      clear hS
      by_cases z : sk.toList = s.toList
      · have z1 : (sk.toList == s.toList) = true := by rw [z]; simp
        have z2 : (sk.toList != s.toList) = false := by rw [z]; simp
        rw [if_neg (by simpa using z)] at hrd
        by_cases y : 32 < kk.size
        · rw [if_pos y] at hrd
          subst hrd
          clear z
          go_wp2_with fail
          clear hcv
          refine (HS.out _ (HT.out _ hb)).mono ?_; rintro e w1 ⟨rfl, hb1⟩
          go_wp2_with fail
          go_ret2
          exact rb_tuple rfl rfl (by repeat (first | assumption | exact Bl.refl _ | apply Bl.drewN | apply Bl.drew | apply Bl.alloc | (refine Bl.dr ?_ (by assumption)) | (refine Bl.trans ?_ (by assumption))))
        · rw [if_neg y] at hrd
          subst hrd
          clear z
          go_wp2_with fail
          clear hcv
          refine (HS.out _ (HT.out _ hb)).mono ?_; rintro e w1 ⟨rfl, hb1⟩
          go_wp2_with fail
          go_ret2
          exact rb_tuple rfl rfl (by repeat (first | assumption | exact Bl.refl _ | apply Bl.drewN | apply Bl.drew | apply Bl.alloc | (refine Bl.dr ?_ (by assumption)) | (refine Bl.trans ?_ (by assumption))))
      · have z1 : (sk.toList == s.toList) = false := by rw [beq_eq_false_iff_ne]; exact z
        have z2 : (sk.toList != s.toList) = true := by rw [bne_iff_ne]; exact z
        rw [if_pos z] at hrd
        subst hrd
        clear z
        go_wp2_with fail
        clear hcv
        refine (HS.out _ (HT.out _ hb)).mono ?_; rintro e w1 ⟨rfl, hb1⟩
        go_wp2_with fail
        go_ret2
        exact rb_tuple rfl rfl (by repeat (first | assumption | exact Bl.refl _ | apply Bl.drewN | apply Bl.drew | apply Bl.alloc | (refine Bl.dr ?_ (by assumption)) | (refine Bl.trans ?_ (by assumption))))
    · have h0 : 0 < r.size := by omega
      have hne : r.toList.isEmpty = false := by
        cases h : r.toList.isEmpty
        · rfl
        · exact absurd ((empty_iff r).1 h) he
      by_cases c0 : r[0] = 92
      · have d0 : ((r[0].toNat : Int) != 92) = false := by rw [c0]; rfl
        have hp := fun w => same_symm (Tryd.strings_HasPrefix r ⟨#[92, 92]⟩ w)
        rw [show (⟨#[92, 92]⟩ : ByteArray).data.toList = [92, 92] from rfl, pre2] at hp
        have HP := Lib.hid hp
        clear hp
        by_cases c1 : 2 ≤ r.data.toList.length ∧ r.data.toList.getD 0 0 = 92 ∧ r.data.toList.getD 1 0 = 92
        · have hp := HP.out
          rw [decide_eq_true c1] at hp
          have HP2 := Lib.hid hp
          clear hp
          have hst : ustep r.data.toList = some (92, 2) := by unfold ustep; rw [if_neg (fun h => h c1.2.1), if_pos ⟨c1.1, c1.2.2⟩]
          have HST := Lib.hid hst
          have hsl : (2 : Int) ≤ (r.size : Int) := by have := c1.1; simp at this; omega
          clear hst c1
          go_wp2_with fail
          refine (HP2.out _).mono ?_; rintro e w' ⟨rfl, rfl⟩
          have hbs := hb.size
          go_wp2_with fail
          go_region_held3 (fun w' => True) (trivial)
            ((refine step_append_lies _ (by rfl) _ _ _ (by rfl) w.heap.size 5 i0 _ 1 1 Tryd.underlying49 hi0 hz0 hz1 hz2 rfl (by omega) _ acc.length (Lib.byteCells acc) (by rfl) ((HO.out.alloc _).drew)
                  ⟨wr.heap.size, 0, none⟩ 1 1 [.int .u8 92] (by rfl) (by rfl) (World.news_of_block (cs := #[.int .u8 92]) (t := 5) (fr := (0, 0)) (heap_alloc_new wr _)) (by simp [Value.oneCell'])
                  (by omega) (by unfold maxLen; omega) (by omega) (by simp; omega) (wr.heap.size + 1) (by simp) ?_; intro gg cap w1 hown1 hgrow hat hlt))
          have hb1 := grown_bl ((hb.alloc _).drew) ((HO.out.alloc _).drew) hgrow (Nat.le_refl _)
          have HX := Lib.hid (rd_step HRel.out h0 HST.out hown1 hb1)
          clear hown1 hgrow hat hb1
          go_wp2_with fail
          go_roundg (r.size - 2)
          case rel => exact ⟨r.extract 2 r.size, _, _, rfl, rfl, HX.out, by simp⟩
          case measure => rw [G.out]; omega
        · have hp := HP.out
          rw [decide_eq_false c1] at hp
          have HP2 := Lib.hid hp
          clear hp
          have c1 := Lib.hid c1
          by_cases c2 : r.size < 4
          · have hr : res = (mt, 6) := by
              rw [← HR.out]
              refine rd_bad HRel.out hs h0 ?_
              unfold ustep
              rw [if_neg (by rw [getD_at r 0 h0]; exact fun h => h c0), if_neg (fun h => c1.out ⟨h.1, by rw [getD_at r 0 h0]; exact c0, h.2⟩), if_pos (by simpa using c2)]
            subst hr
            go_wp2_with fail
            refine (HP2.out _).mono ?_; rintro e w' ⟨rfl, rfl⟩
            go_wp2_with fail
            go_ret2
            exact rb_tuple rfl rfl hb
          · have h1 : 1 < r.size := by omega
            have h2 : 2 < r.size := by omega
            have h3 : 3 < r.size := by omega
            have hI2 := fun w => Tryd.strings_IndexByte ⟨#[48, 49, 50, 51, 52, 53, 54, 55, 56, 57, 97, 98, 99, 100, 101, 102]⟩ (r[2].toNat : Int) w
            have hI3 := fun w => Tryd.strings_IndexByte ⟨#[48, 49, 50, 51, 52, 53, 54, 55, 56, 57, 97, 98, 99, 100, 101, 102]⟩ (r[3].toNat : Int) w
            rw [hex_at] at hI2 hI3
            have HI2 := Lib.hid hI2
            have HI3 := Lib.hid hI3
            clear hI2 hI3
            have hbs := hb.size
            have hq2 : (2 : Int) < (r.size : Int) := by omega
            have hq3 : (3 : Int) < (r.size : Int) := by omega
            by_cases c3 : r[1] ≠ 120 ∨ hexI r[2] < 0 ∨ hexI r[3] < 0
            · have hr : res = (mt, 6) := by
                rw [← HR.out]
                refine rd_bad HRel.out hs h0 ?_
                have hs3 : (r.data.toList.getD 1 0 ≠ 120 ∨ hexI (r.data.toList.getD 2 0) < 0 ∨ hexI (r.data.toList.getD 3 0) < 0) := by
                  rw [getD_at r 1 h1, getD_at r 2 h2, getD_at r 3 h3]; exact c3
                have hlen : ¬ r.data.toList.length < 4 := by simpa using c2
                unfold ustep
                rw [if_neg (by rw [getD_at r 0 h0]; exact fun h => h c0), if_neg (fun h => c1.out ⟨h.1, by rw [getD_at r 0 h0]; exact c0, h.2⟩), if_neg hlen, if_pos hs3]
              subst hr
              have c4 : ((r[1].toNat : Int) != 120) = true ∨ ((r[1].toNat : Int) != 120) = false ∧ (hexI r[2] < 0 ∨ ¬ hexI r[2] < 0 ∧ hexI r[3] < 0) := by
                by_cases c5 : r[1] = 120
                · right
                  refine ⟨by rw [c5]; rfl, ?_⟩
                  rcases c3 with c3 | c3 | c3
                  · exact absurd c5 c3
                  · exact .inl c3
                  · by_cases c6 : hexI r[2] < 0
                    · exact .inl c6
                    · exact .inr ⟨c6, c3⟩
                · left
                  rw [bne_iff_ne]; intro h; exact c5 (UInt8.toNat.inj (by have : (120 : UInt8).toNat = 120 := rfl; omega))
              clear c3
              generalize hexI r[2] = v2 at *
              generalize hexI r[3] = v3 at *
              rcases c4 with c4 | ⟨c4, c5 | ⟨c5, c6⟩⟩
              all_goals
                go_wp2_with fail
                refine (HP2.out _).mono ?_; rintro e w' ⟨rfl, rfl⟩
                go_wp2_with fail
                go_quiet ((go_at_call 52; first | with_reducible exact quietSame (HI2.out _) | with_reducible exact quietSame (HI3.out _)))
                go_wp2_with fail
                go_ret2
                exact rb_tuple rfl rfl (by repeat (first | assumption | exact Bl.refl _ | apply Bl.drewN | apply Bl.drew | apply Bl.alloc | (refine Bl.dr ?_ (by assumption)) | (refine Bl.trans ?_ (by assumption))))
            · obtain ⟨n2, e2, l2⟩ := hexI_ok (b := r[2]) (by omega)
              obtain ⟨n3, e3, l3⟩ := hexI_ok (b := r[3]) (by omega)
              have hI2 := HI2.out
              have hI3 := HI3.out
              rw [e2] at hI2
              rw [e3] at hI3
              have J2 := Lib.hid hI2
              have J3 := Lib.hid hI3
              have d1 : ((r[1].toNat : Int) != 120) = false := by
                have : r[1] = 120 := by simp at c3; exact c3.1
                rw [this]; rfl
              clear hI2 hI3
              go_wp2_with fail
              refine (HP2.out _).mono ?_; rintro e w' ⟨rfl, rfl⟩
              go_wp2_with fail
              go_quiet ((go_at_call 52; first | with_reducible exact quietSame (J2.out _) | with_reducible exact quietSame (J3.out _)))
              go_wp2_with fail
              have hu : ustep r.data.toList = some (UInt8.ofNat (16 * n2 + n3), 4) := by
                have hs3 : ¬ (r.data.toList.getD 1 0 ≠ 120 ∨ hexI (r.data.toList.getD 2 0) < 0 ∨ hexI (r.data.toList.getD 3 0) < 0) := by
                  rw [getD_at r 1 h1, getD_at r 2 h2, getD_at r 3 h3]; exact c3
                have hlen : ¬ r.data.toList.length < 4 := by simpa using c2
                unfold ustep
                rw [if_neg (by rw [getD_at r 0 h0]; exact fun h => h c0), if_neg (fun h => c1.out ⟨h.1, by rw [getD_at r 0 h0]; exact c0, h.2⟩), if_neg hlen, if_neg hs3]
                rw [getD_at r 2 h2, getD_at r 3 h3, e2, e3, Int.toNat_natCast, Int.toNat_natCast]
              have HU := Lib.hid hu
              have hbv := hexv n2 n3 l2 l3
              have HBV := Lib.hid hbv
              have hsl : (4 : Int) ≤ (r.size : Int) := by omega
              clear hu hbv
              go_region_held3 (fun w' => True) (trivial)
                ((refine step_append_lies _ (by rfl) _ _ _ (by rfl) w.heap.size 5 i0 _ 1 1 Tryd.underlying49 hi0 hz0 hz1 hz2 rfl (by omega) _ acc.length (Lib.byteCells acc) (by rfl) ((HO.out.alloc _).drew)
                      ⟨wr.heap.size, 0, none⟩ 1 1 [.int .u8 (IntKind.u8.wrap (bits BinOp.or IntKind.i64 (IntKind.i64.wrap ((n2 : Int) * 16)) (n3 : Int)))] (by rfl) (by rfl) (World.news_of_block (cs := #[.int .u8 (IntKind.u8.wrap (bits BinOp.or IntKind.i64 (IntKind.i64.wrap ((n2 : Int) * 16)) (n3 : Int)))]) (t := 5) (fr := (0, 0)) (heap_alloc_new wr _)) (by simp [Value.oneCell'])
                      (by omega) (by unfold maxLen; omega) (by omega) (by simp; omega) (wr.heap.size + 1) (by simp) ?_; intro gg cap w1 hown1 hgrow hat hlt))
              have hb1 := grown_bl ((hb.drewN (nq + 1)).alloc _) ((own_drewN HO.out (nq + 1)).alloc _) hgrow (Nat.le_refl _)
              rw [HBV.out] at hown1
              have HX := Lib.hid (rd_step HRel.out h0 HU.out hown1 hb1)
              clear hown1 hgrow hat hb1
              go_wp2_with fail
              go_roundg (r.size - 4)
              case rel => exact ⟨r.extract 4 r.size, _, _, rfl, rfl, HX.out, by simp⟩
              case measure => rw [G.out]; omega
      · have d0 : ((r[0].toNat : Int) != 92) = true := by
          rw [bne_iff_ne]; intro h; exact c0 (UInt8.toNat.inj (by have : (92 : UInt8).toNat = 92 := rfl; omega))
        have hsl : (1 : Int) ≤ (r.size : Int) := by omega
        have hbs := hb.size
        go_wp2_with fail
        go_region_held3 (fun w' => True) (trivial)
          ((refine step_append_lies _ (by rfl) _ _ _ (by rfl) w.heap.size 5 i0 _ 1 1 Tryd.underlying49 hi0 hz0 hz1 hz2 rfl (by omega) _ acc.length (Lib.byteCells acc) (by rfl) ((HO.out.alloc _).drew)
                ⟨wr.heap.size, 0, none⟩ 1 1 [.int .u8 r[0].toNat] (by rfl) (by rfl) (World.news_of_block (cs := #[.int .u8 r[0].toNat]) (t := 5) (fr := (0, 0)) (heap_alloc_new wr _)) (by simp [Value.oneCell'])
                (by omega) (by unfold maxLen; omega) (by omega) (by simp; omega) (wr.heap.size + 1) (by simp) ?_; intro gg cap w1 hown1 hgrow hat hlt))
        have hb1 := grown_bl ((hb.alloc _).drew) ((HO.out.alloc _).drew) hgrow (Nat.le_refl _)
        have HX := Lib.hid (rd_step (b := r[0]) (n := 1) HRel.out h0 (by unfold ustep; rw [if_pos (by rw [getD_at r 0 h0]; exact c0), getD_at r 0 h0]) hown1 hb1)
        clear hown1 hgrow hat hb1
        go_wp2_with fail
        go_roundg (r.size - 1)
        case rel => exact ⟨r.extract 1 r.size, _, _, rfl, rfl, HX.out, by simp⟩
        case measure => rw [G.out]; omega
end Go.Proofs.YtldccffbjohokaaDoor


/-
  Find of entries: the binary search.
-/
import Derived.Test.YtbdiiopmjaeaaaaDoorEsL
import Derived.Test.YtbdiiopmjaeaaaaDoorEntB
import Derived.Test.YtbdiiopmjaeaaaaDoorKeysA
namespace Go.Proofs.YtbdiiopmjaeaaaaDoor
open Go.RowKit Go.Sort
set_option linter.unusedSimpArgs false
set_option linter.unusedVariables false
set_option maxRecDepth 100000

set_option maxHeartbeats 1000000 in
theorem findCmp (x : Ent) (s : ByteArray) (w : World) : Calls Tryd.prog 46 #[x.v, .string s] w (RB w (.int .i64 (cmpS x.key s))) := by
  have HC := Lib.hid (fun w => slCompare x.key s w)
  unfold Ent.v
  go_enter Tryd.func46, Tryd.ntmps46
  go_wp2_with fail
  refine (HC.out _).mono ?_; rintro e w1 ⟨rfl, hb1⟩
  go_wp2_with fail
  go_ret
  exact RB.mk rfl (by repeat (first | assumption | exact Bl.refl _ | apply Bl.drewN | apply Bl.drew | apply Bl.alloc | (refine Bl.dr ?_ (by assumption)) | (refine Bl.trans ?_ (by assumption))))
/-- r keys are less. -/
def Lows (l : List Ent) (s : ByteArray) (r : Nat) : Prop := r ≤ l.length ∧ (∀ i x, i < r → l[i]? = some x → slt x.key s = true) ∧ ∀ i x, r ≤ i → l[i]? = some x → slt x.key s = false
def hitAt (l : List Ent) (s : ByteArray) (r : Nat) : Bool := match l[r]? with
  | some x => decide (cmpS x.key s = 0)
  | none => false
theorem atGo_cons (i : Nat) (s : ByteArray) (x : Ent) (r : List Ent) : atGo i s (x :: r) = if x.key.toList = s.toList then (i : Int) else atGo (i + 1) s r := rfl
theorem atGo_none : ∀ (l : List Ent) (i : Nat) (s : ByteArray), (∀ x ∈ l, x.key ≠ s) → atGo i s l = -1
  | [], _, _, _ => rfl
  | x :: r, i, s, h => by
    unfold atGo
    rw [if_neg (fun e => h x (by simp) (str_ext e)), atGo_none r _ s (fun y hy => h y (by simp [hy]))]
theorem atGo_skip : ∀ (l m : List Ent) (i : Nat) (s : ByteArray), (∀ x ∈ l, x.key ≠ s) → atGo i s (l ++ m) = atGo (i + l.length) s m
  | [], m, i, s, _ => rfl
  | x :: r, m, i, s, h => by
    rw [List.cons_append, atGo_cons, if_neg (fun e => h x (by simp) (str_ext e)), atGo_skip r m _ s (fun y hy => h y (by simp [hy])), List.length_cons]
    rw [show i + 1 + r.length = i + (r.length + 1) by omega]
theorem lows_at {l : List Ent} {s : ByteArray} {r : Nat} (hA : AscK l) (h : Lows l s r) : atGo 0 s l = if hitAt l s r = true then (r : Int) else -1 := by
  obtain ⟨h1, h2, h3⟩ := h
  have hne : ∀ x ∈ l.take r, x.key ≠ s := by
    intro x hx e
    obtain ⟨i, hi, rfl⟩ := List.getElem_of_mem hx
    have hlt : i < r ∧ i < l.length := by simpa [Nat.lt_min] using hi
    have := h2 i _ hlt.1 (List.getElem?_eq_getElem hlt.2)
    rw [List.getElem_take] at e
    rw [e, slt_irrefl] at this; cases this
  conv => lhs; rw [← List.take_append_drop r l]
  rw [atGo_skip _ _ _ _ hne, Nat.zero_add, List.length_take, Nat.min_eq_left h1]
  unfold hitAt
  cases hx : l[r]? with
  | none =>
    simp only [Bool.false_eq_true, if_false]
    rw [List.drop_of_length_le (List.getElem?_eq_none_iff.1 hx)]; rfl
  | some x =>
    obtain ⟨hlt, e⟩ := List.getElem?_eq_some_iff.1 hx
    rw [List.drop_eq_getElem_cons hlt, e]
    simp only [decide_eq_true_eq]
    unfold atGo
    by_cases hk : x.key = s
    · rw [if_pos (by rw [hk]), if_pos (cmpS_zero.2 hk)]
    · rw [if_neg (fun e => hk (str_ext e)), if_neg (fun e => hk (cmpS_zero.1 e))]
      refine atGo_none _ _ _ (fun y hy e2 => ?_)
      obtain ⟨j, hj, rfl⟩ := List.getElem_of_mem hy
      rw [List.length_drop] at hj
      rw [List.getElem_drop] at e2
      have hxy : slt x.key l[r + 1 + j].key = true := by
        have := List.pairwise_iff_getElem.1 hA r (r + 1 + j) hlt (by omega) (by omega)
        rw [e] at this; exact this
      have hge := h3 r x (Nat.le_refl _) hx
      rw [e2] at hxy
      rw [hxy] at hge; cases hge
set_option maxHeartbeats 4000000 in
theorem slFind (a : Option Addr) (c : Nat) (l : List Ent) (s : ByteArray) (w : World) (hl : Ents w a l) (hA : AscK l) (hm : l.length ≤ 1000000) :
    Calls Tryd.prog 45 #[.slice a l.length c, .string s, .func (.func 46) #[] #[]] w fun e w' => ∃ r, e = .returned (.tuple #[.int .i64 (r : Nat), .bool (hitAt l s r)]) ∧ Lows l s r ∧ Bl w w' := by
  have HL := Lib.hid hl
  have HB := Lib.hid (fun x w => findCmp x s w)
  have HA := Lib.hid hA
  clear hl hA
  go_enter Tryd.func45, Tryd.ntmps45
  go_wp2_with fail
  go_loopg [9, 10] l.length (fun g v1 v2 wr => ∃ i j : Nat, v1 = .int .i64 i ∧ v2 = .int .i64 j ∧ Hid (i ≤ j ∧ j ≤ l.length ∧ g = j - i ∧ (∀ k x, k < i → l[k]? = some x → slt x.key s = true) ∧ (∀ k x, j ≤ k → l[k]? = some x → slt x.key s = false)) ∧ Bl w wr)
  case atStart => exact ⟨0, l.length, rfl, rfl, Lib.hid ⟨by omega, Nat.le_refl _, rfl, fun k x h => by omega, fun k x h hx => (by rw [List.getElem?_eq_none h] at hx; cases hx)⟩, Bl.refl _⟩
  case round =>
    obtain ⟨i, j, rfl, rfl, H, hb⟩ := hrel
    obtain ⟨h1, h2, hg, h3, h4⟩ := H.out
    by_cases hlt : i < j
    · obtain ⟨h, hh⟩ : ∃ h : Nat, h = (i + j) / 2 := ⟨_, rfl⟩
      have hh1 : ((i : Int) + (j : Int)) / 2 = (h : Int) := by omega
      have a1 : i ≤ h := by omega
      have a2 : h < j := by omega
      have hhl : h < l.length := by omega
      obtain ⟨g1, o1, rfl, hat⟩ := HL.out.get hhl
      obtain ⟨x, hx⟩ : ∃ x, l[h]? = some x := ⟨_, List.getElem?_eq_getElem hhl⟩
      obtain ⟨x0, x1, x2, x3⟩ := (hat h x hx).bl hb
      have hi2 : i ≤ 1000000 := by omega
      have hj2 : j ≤ 1000000 := by omega
      have hh2 : h ≤ 1000000 := by omega
      have HH := Lib.hid (And.intro hx (And.intro a1 a2))
      have HMs := Lib.hid (show j - (h + 1) < gk ∧ h - i < gk by omega)
      clear h1 h2 hg h3 h4 hh a1 a2 hx hat
      have hC := HB.out x
      obtain ⟨q, hq⟩ : ∃ q, cmpS x.key s = q := ⟨_, rfl⟩
      rw [hq] at hC
      unfold Ent.v at hC
      have HC := Lib.hid hC
      have HQv := Lib.hid hq
      clear hC hq
      have asc : ∀ (u v : Nat) (y z : Ent), u ≤ v → l[u]? = some y → l[v]? = some z → slt y.key z.key = true ∨ y = z := by
        intro u v y z huv hy hz
        rcases Nat.lt_or_ge u v with h' | h'
        · obtain ⟨e1, rfl⟩ := List.getElem?_eq_some_iff.1 hy
          obtain ⟨e2, rfl⟩ := List.getElem?_eq_some_iff.1 hz
          exact .inl (List.pairwise_iff_getElem.1 HA.out u v e1 e2 h')
        · obtain rfl : u = v := by omega
          rw [hy] at hz; injection hz with hz; exact .inr hz
      have HAsc := Lib.hid asc
      clear asc
      by_cases hq0 : q < 0
      · go_wp2_with fail
        refine (HC.out _).mono ?_; rintro e w1 ⟨rfl, hb1⟩
        go_wp2_with fail
        go_roundg (j - (h + 1))
        case rel =>
          obtain ⟨h1, h2, hg, h3, h4⟩ := H.out
          obtain ⟨hx, a1, a2⟩ := HH.out
          refine ⟨h + 1, j, by go_num, rfl, Lib.hid ⟨by omega, h2, rfl, fun k y hk hy => ?_, h4⟩, hb.trans hb1⟩
          have hxs := cmpS_lt.1 (by rw [HQv.out]; exact hq0 : cmpS x.key s < 0)
          rcases HAsc.out k h y x (by omega) hy hx with e | e
          · exact slt_trans e hxs
          · rw [e]; exact hxs
        case measure => exact HMs.out.1
      · go_wp2_with fail
        refine (HC.out _).mono ?_; rintro e w1 ⟨rfl, hb1⟩
        go_wp2_with fail
        go_roundg (h - i)
        case rel =>
          obtain ⟨h1, h2, hg, h3, h4⟩ := H.out
          obtain ⟨hx, a1, a2⟩ := HH.out
          refine ⟨i, h, rfl, rfl, Lib.hid ⟨a1, by omega, rfl, h3, fun k y hk hy => ?_⟩, hb.trans hb1⟩
          cases hys : slt y.key s with
          | false => rfl
          | true =>
            exfalso
            have hxs : slt x.key s = true := by
              rcases HAsc.out h k x y hk hx hy with e | e
              · exact slt_trans e hys
              · rw [e]; exact hys
            have := cmpS_lt.2 hxs
            rw [HQv.out] at this; omega
        case measure => exact HMs.out.2
    · obtain rfl : i = j := by omega
      have hLows : Lows l s i := ⟨h2, h3, h4⟩
      have HLo := Lib.hid hLows
      have hi2 : i ≤ 1000000 := by omega
      have hij : ¬ (i : Int) < (i : Int) := by omega
      clear hLows hlt
      by_cases hil : i < l.length
      · obtain ⟨g1, o1, rfl, hat⟩ := HL.out.get hil
        obtain ⟨x, hx⟩ : ∃ x, l[i]? = some x := ⟨_, List.getElem?_eq_getElem hil⟩
        obtain ⟨x0, x1, x2, x3⟩ := (hat i x hx).bl hb
        have hhit : hitAt l s i = decide (cmpS x.key s = 0) := by unfold hitAt; rw [hx]
        have HHit := Lib.hid hhit
        have hC := HB.out x
        obtain ⟨q, hq⟩ : ∃ q, cmpS x.key s = q := ⟨_, rfl⟩
        rw [hq] at hC
        unfold Ent.v at hC
        have HC := Lib.hid hC
        have HQv := Lib.hid hq
        clear h1 h2 hg h3 h4 hx hat hhit hC hq
        go_wp2_with fail
        refine (HC.out _).mono ?_; rintro e w1 ⟨rfl, hb1⟩
        go_wp2_with fail
        go_ret2
        refine ⟨i, ?_, HLo.out, hb.trans hb1⟩
        rw [HHit.out, HQv.out]
        by_cases hq0 : q = 0
        · subst hq0; rfl
        · rw [decide_eq_false hq0, beq_eq_false_iff_ne.2 hq0]; rfl
      · have hhit : hitAt l s i = false := by unfold hitAt; rw [List.getElem?_eq_none (by omega)]
        have HHit := Lib.hid hhit
        have hil' : ¬ (i : Int) < (l.length : Int) := by omega
        clear h1 h2 hg h3 h4 hhit
        go_wp2_with fail
        go_ret2
        exact ⟨i, by rw [HHit.out]; rfl, HLo.out, hb⟩
set_option maxHeartbeats 2000000 in
theorem entFind (a : Option Addr) (c : Nat) (l : List Ent) (s : ByteArray) (w : World) (hl : Ents w a l) (hn : l.length ≤ maxLen) (hs : s.size ≤ maxLen) :
    Calls Tryd.prog 23 #[.slice a l.length c, .string s] w (RB w (.tuple #[.int .i64 (fnd l s).1, .int .i64 (fnd l s).2])) := by
  have hK := fun w h => entCheckList a c l w h hn
  have hC := fun w => keysCheck s w hs
  have HF := Lib.hid (fun w h hA hm => slFind a c l s w h hA hm)
  unfold fnd
  obtain ⟨p, hp⟩ : ∃ p, clchk l = p := ⟨_, rfl⟩
  obtain ⟨k, hk⟩ : ∃ k, kchk s = k := ⟨_, rfl⟩
  have hok := clchk_ok l
  rw [hp] at hK hok ⊢
  rw [hk] at hC ⊢
  obtain ⟨i0, q⟩ := p
  simp only at hK hok ⊢
  have HK := Lib.hid hK
  have HC := Lib.hid hC
  have HL := Lib.hid hl
  have HOk := Lib.hid hok
  clear hK hC hl hok hp hk
  by_cases hq : q = 0
  · subst hq
    rw [if_neg (by simp)]
    obtain ⟨hlen, _, hA⟩ := HOk.out.1 rfl
    have HA := Lib.hid (And.intro hA (show l.length ≤ 1000000 by omega))
    clear hlen hA
    by_cases hk : k = 0
    · subst hk
      rw [if_neg (by simp)]
      obtain ⟨R, hR⟩ : ∃ R, (if atGo 0 s l < 0 then ((0 : Int), (4 : Int)) else (atGo 0 s l, 0)) = R := ⟨_, rfl⟩
      rw [hR]
      have HR := Lib.hid hR
      clear hR
      go_enter Tryd.func23, Tryd.ntmps23
      go_wp2_with fail
      refine (HK.out _ HL.out).mono ?_; rintro e w1 ⟨rfl, hb1⟩
      go_wp2_with fail
      refine (HC.out _).mono ?_; rintro e w2 ⟨rfl, hd2⟩
      have hb2 : Bl w w2 := hb1.trans (.of_dr hd2)
      clear hb1 hd2
      go_wp2_with fail
      refine (HF.out _ (HL.out.bl hb2) HA.out.1 HA.out.2).mono ?_; rintro e w3 ⟨r, rfl, hLo, hb3⟩
      have hat := lows_at HA.out.1 hLo
      have hR := HR.out
      rw [hat] at hR
      obtain ⟨b, hbt⟩ : ∃ b, hitAt l s r = b := ⟨_, rfl⟩
      rw [hbt] at hR ⊢
      clear hLo hat hbt HR
      cases b with
      | true =>
        rw [if_pos rfl, if_neg (by omega)] at hR
        subst hR
        go_wp2_with fail
        go_ret2
        exact rb_tuple rfl rfl (hb2.trans hb3)
      | false =>
        have hR2 : R = (0, 4) := by rw [← hR]; rfl
        subst hR2
        clear hR
        go_wp2_with fail
        go_ret2
        exact rb_tuple rfl rfl (hb2.trans hb3)
    · have hk1 : (k != 0) = true := by rw [bne_iff_ne]; exact hk
      rw [if_pos hk]
      clear hk
      go_enter Tryd.func23, Tryd.ntmps23
      go_wp2_with fail
      refine (HK.out _ HL.out).mono ?_; rintro e w1 ⟨rfl, hb1⟩
      go_wp2_with fail
      refine (HC.out _).mono ?_; rintro e w2 ⟨rfl, hd2⟩
      go_wp2_with fail
      go_ret2
      exact rb_tuple rfl rfl (hb1.trans (.of_dr hd2))
  · have hq1 : (q != 0) = true := by rw [bne_iff_ne]; exact hq
    rw [if_pos hq]
    clear hq
    go_enter Tryd.func23, Tryd.ntmps23
    go_wp2_with fail
    refine (HK.out _ HL.out).mono ?_; rintro e w1 ⟨rfl, hb1⟩
    go_wp2_with fail
    go_ret2
    exact rb_tuple rfl rfl hb1
end Go.Proofs.YtbdiiopmjaeaaaaDoor

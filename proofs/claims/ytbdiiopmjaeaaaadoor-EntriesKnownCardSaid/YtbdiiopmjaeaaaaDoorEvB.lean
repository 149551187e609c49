
/-
  The reference's list in order: all, sorted, Sort.
-/
import Derived.Test.YtbdiiopmjaeaaaaDoorEsN
namespace Go.Proofs.YtbdiiopmjaeaaaaDoor
open Go.RowKit Go.Sort
set_option linter.unusedSimpArgs false
set_option linter.unusedVariables false
set_option maxRecDepth 100000

/-! ### Plain: one more is set in -/
section
variable {α : Type} {cf : α → α → Int}
theorem foldl_insb_take {F : List α} {B : List α} {t : Nat} {x : α} (h : B[t]? = some x) : (B.take (t + 1)).foldl (insb cf) F = insb cf ((B.take t).foldl (insb cf) F) x := by
  obtain ⟨ht, rfl⟩ := List.getElem?_eq_some_iff.1 h
  rw [List.take_succ_eq_append_getElem ht, List.foldl_append]; rfl
theorem insg_stop0 {A : List α} {x : α} {s : Nat} (hs : s = 0) : insb cf (A.take s) x ++ A.drop s = A.take s ++ x :: A.drop s := by subst hs; simp [insb_nil]
theorem insg_stop1 {A : List α} {x z : α} {s : Nat} (hz : A[s]? = some z) (h : ¬ cf x z < 0) : insb cf (A.take (s + 1)) x ++ A.drop (s + 1) = A.take (s + 1) ++ x :: A.drop (s + 1) := by
  obtain ⟨ht, rfl⟩ := List.getElem?_eq_some_iff.1 hz
  rw [List.take_succ_eq_append_getElem ht, insb_snoc_ge _ _ _ h]
  simp only [List.append_assoc, List.cons_append, List.nil_append]
theorem insg_go {A : List α} {x z : α} {s : Nat} (hz : A[s]? = some z) (h : cf x z < 0) : insb cf (A.take (s + 1)) x ++ A.drop (s + 1) = insb cf (A.take s) x ++ A.drop s := by
  obtain ⟨ht, rfl⟩ := List.getElem?_eq_some_iff.1 hz
  rw [List.take_succ_eq_append_getElem ht, insb_snoc_lt _ _ _ h, List.drop_eq_getElem_cons ht]; simp
end
theorem entCells_app (l m : List Ent) : entCells (l ++ m) = entCells l ++ entCells m := by simp [entCells]
theorem entCells_one' (x : Ent) : entCells [x] = [.string x.key, .string x.val, .bool x.dead, .int .i64 x.seq] := by simp [entCells]
/-! ### A part of a row is appended -/
theorem wpList_appM {w : World} {ops : Array Oper} {rest : List Oper} {o : Oper} {a : Act} {Q : Exit → Act → World → Prop} (hw : Region.wanted o (yielded ops a.tmps) = true) (s x : Operand)
    (ho : o.op = .call { callee := .builtin .append, args := #[s, x], argTypes := #[33, 33] })
    (base : Nat) (v : Value) (n : Nat) (xs : List Value) (hs : a.eval s = v) (hown : w.ownsRow base 23 4 v n xs)
    (ad : Option Addr) (c : Nat) (l : List Ent) (m : Nat) (hm : l.length = m) (hx : a.eval x = .slice ad m c) (hE : Ents w ad l) (hb : base ≤ w.heap.size) (hn : n + m ≤ 500000)
    (h : ∀ v' w', w'.ownsRow base 23 4 v' (n + m) (xs ++ entCells l) → w.grownBy w' v.ownBlock → wpList Tryd.prog ops Q rest (a.put o.dst v') w') :
    wpList Tryd.prog ops Q (o :: rest) a w := by
  subst hm
  exact wpList_appE hw s x ho base v n xs hs hown ad c l hx hE hb hn h
theorem Ents.part {w : World} {g : Nat} {A : List Ent} (h : ∀ i x, A[i]? = some x → EntAt w g (i * 4) x) (hok : ∀ x ∈ A, x.ok) (j : Nat) : Ents w (some ⟨g, 0, none⟩) (A.take j) ∧ Ents w (some ⟨g, j * 4, none⟩) (A.drop j) :=
  ⟨⟨fun x hx => hok x (List.mem_of_mem_take hx), fun _ => ⟨g, 0, rfl, fun i x hx => by
      rw [Nat.zero_add]
      refine h i x ?_
      rw [List.getElem?_take] at hx
      split at hx
      · exact hx
      · cases hx⟩⟩,
   ⟨fun x hx => hok x (List.mem_of_mem_drop hx), fun _ => ⟨g, j * 4, rfl, fun i x hx => by
      rw [List.getElem?_drop] at hx
      have := h (j + i) x hx
      rwa [Nat.add_mul] at this⟩⟩⟩
theorem ents_none (w : World) : Ents w none [] := ⟨by simp, fun h => absurd rfl h⟩
/-- Where a row of the call's own lies. -/
theorem own_cases {w : World} {B : Nat} {v : Value} {A : List Ent} (h : w.ownsRow B 23 4 v A.length (entCells A)) :
    (v = .slice none 0 0 ∧ A = []) ∨ ∃ g c, v = .slice (some ⟨g, 0, none⟩) A.length c ∧ B ≤ g ∧ g < w.heap.size ∧ A.length ≤ c ∧ ∀ i x, A[i]? = some x → EntAt w g (i * 4) x := by
  rcases h.2 with ⟨rfl, h0⟩ | ⟨g, cap, cur, rfl, hb, hg, hn, hc, hs, ht⟩
  · exact .inl ⟨rfl, List.length_eq_zero_iff.1 h0⟩
  · refine .inr ⟨g, cap, rfl, hb, (Array.getElem?_eq_some_iff.1 hg).1, hn, fun i x hx => ?_⟩
    obtain ⟨k0, k1, k2, k3⟩ := entCells_get A i x hx
    have key : ∀ (j : Nat) u, (entCells A)[j]? = some u → w.cell? ⟨g, j, none⟩ = some u := by
      intro j u hu
      have hj := (List.getElem?_eq_some_iff.1 hu).1
      rw [← ht] at hu
      rw [entCells_len] at hj
      rw [List.getElem?_take_of_lt hj] at hu
      simp [World.cell?, hg]; simpa using hu
    exact ⟨key _ _ k0, key _ _ k1, key _ _ k2, key _ _ k3⟩
/-! ### all -/
def rall (l : List Ent) : Int := if 5000 < l.length then 3 else eall l
set_option maxHeartbeats 1000000 in
theorem refAllE (a : Option Addr) (c : Nat) (l : List Ent) (w : World) (hl : Ents w a l) (hn : l.length ≤ maxLen) : Calls Tryd.prog 48 #[.slice a l.length c] w (RB w (.int .i64 (rall l))) := by
  unfold maxLen at hn
  unfold rall
  by_cases h5 : 5000 < l.length
  · rw [if_pos h5]
    have i1 : (5000 : Int) < (l.length : Int) := by omega
    clear hl h5
    go_enter Tryd.func48, Tryd.ntmps48
    go_wp2_with fail
    go_ret
    exact RB.mk rfl (by repeat (first | assumption | exact Bl.refl _ | apply Bl.drewN | apply Bl.drew | apply Bl.alloc | (refine Bl.dr ?_ (by assumption)) | (refine Bl.trans ?_ (by assumption))))
  · rw [if_neg h5]
    have i1 : ¬ (5000 : Int) < (l.length : Int) := by omega
    have HL := Lib.hid hl
    obtain ⟨R, hR⟩ : ∃ R, eall l = R := ⟨_, rfl⟩
    rw [hR]
    have HR := Lib.hid hR
    clear hl hR h5
    go_enter Tryd.func48, Tryd.ntmps48
    go_wp2_with fail
    go_loopg [3] l.length (fun g i wr => ∃ k : Nat, i = .int .i64 k ∧ Hid (k ≤ l.length ∧ R = eall (l.drop k) ∧ g = l.length - k) ∧ Bl w wr)
    case atStart => exact ⟨0, rfl, Lib.hid ⟨by omega, by rw [← HR.out]; rfl, rfl⟩, Bl.refl _⟩
    case round =>
      obtain ⟨k, rfl, H, hb⟩ := hrel
      by_cases h1 : k < l.length
      · obtain ⟨b, off, rfl, hat⟩ := HL.out.get h1
        obtain ⟨x, hx⟩ : ∃ x, l[k]? = some x := ⟨_, List.getElem?_eq_getElem h1⟩
        obtain ⟨c0, c1, c2, c3⟩ := (hat k x hx).bl hb
        have hxo : x.ok := HL.out.ok x (List.mem_of_getElem? hx)
        have X := Lib.hid hx
        have hE := fun w => refEntCheck x w hxo
        unfold Ent.v at hE
        obtain ⟨q, hq⟩ : ∃ q, echk x = q := ⟨_, rfl⟩
        rw [hq] at hE
        have Hq := Lib.hid hq
        have HE := Lib.hid hE
        have HMs := Lib.hid (show l.length - (k + 1) < gk by have := H.out; omega)
        clear hx hE hq hat hxo
        by_cases e1 : q = 0
        · subst e1
          go_wp2_with fail
          refine (HE.out _).mono ?_; rintro e w1 ⟨rfl, hb1⟩
          go_wp2_with fail
          go_roundg (l.length - (k + 1))
          case rel => exact ⟨k + 1, by go_num, Lib.hid ⟨by omega, by rw [H.out.2.1, eall_drop X.out, Hq.out]; simp, rfl⟩, hb.trans hb1⟩
          case measure => exact HMs.out
        · have e1' : (q != 0) = true := by rw [bne_iff_ne]; exact e1
          have E1 := Lib.hid e1
          clear e1
          go_wp2_with fail
          refine (HE.out _).mono ?_; rintro e w1 ⟨rfl, hb1⟩
          go_wp2_with fail
          go_ret
          exact RB.mk (ival (by rw [H.out.2.1, eall_drop X.out, Hq.out, if_pos E1.out])) (hb.trans hb1)
      · obtain rfl : k = l.length := by have := H.out; omega
        have hr := H.out.2.1
        rw [List.drop_length] at hr
        subst hr
        go_wp2_with fail
        go_ret
        exact RB.mk rfl hb
/-! ### sorted -/
theorem own_cast {w : World} {B : Nat} {e : TypeId} {sz : Nat} {v : Value} {n m : Nat} {xs ys : List Value} (h : w.ownsRow B e sz v n xs) (h1 : n = m) (h2 : xs = ys) : w.ownsRow B e sz v m ys := h1 ▸ h2 ▸ h
set_option maxHeartbeats 8000000 in
theorem refSorted (a : Option Addr) (c : Nat) (l : List Ent) (w : World) (hl : Ents w a l) (hn : l.length ≤ 400000) :
    Calls Tryd.prog 49 #[.slice a l.length c] w (RM w (fun w' v => w'.ownsRow w.heap.size 23 4 v l.length (entCells (isort ocmp l)))) := by
  obtain ⟨i0, hin, hz0, hz1, hz2⟩ := info_parts inf_ent
  have HL := Lib.hid hl
  have HOk := Lib.hid hl.ok
  have HOr := Lib.hid (fun x y w hx hy => refOrderE x y w hx hy)
  clear hl
  go_enter Tryd.func49, Tryd.ntmps49
  go_wp2_with fail
  go_loopg [3, 4] l.length (fun g v1 v2 wr => ∃ k : Nat, v2 = .int .i64 k ∧ Hid (k ≤ l.length ∧ g = l.length - k ∧ wr.ownsRow w.heap.size 23 4 v1 k (entCells (isort ocmp (l.take k)))) ∧ Bl w wr)
  case atStart => exact ⟨0, rfl, Lib.hid ⟨by omega, rfl, by simpa [entCells, isort] using own_nil _ _ _ _⟩, Bl.refl _⟩
  case round =>
    obtain ⟨k, rfl, H, hb⟩ := hrel
    by_cases hk : k < l.length
    · obtain ⟨x, hx⟩ : ∃ x, l[k]? = some x := ⟨_, List.getElem?_eq_getElem hk⟩
      obtain ⟨lb, lo, rfl, hat⟩ := HL.out.get hk
      have HXe := Lib.hid ((hat k x hx).bl hb)
      have hstep : isort ocmp (l.take (k + 1)) = insb ocmp (isort ocmp (l.take k)) x := foldl_insb_take hx
      have hAl : (isort ocmp (l.take k)).length = k := by rw [isort_len, List.length_take]; omega
      have hAok : ∀ z ∈ isort ocmp (l.take k), z.ok := fun z hz => HOk.out z (List.mem_of_mem_take ((isort_perm _).mem_iff.1 hz))
      have hown := H.out.2.2
      obtain ⟨A, hA⟩ : ∃ A, isort ocmp (l.take k) = A := ⟨_, rfl⟩
      rw [hA] at hstep hAl hAok hown
      have hxok := HOk.out x (List.mem_of_getElem? hx)
      have HMs := Lib.hid (show l.length - (k + 1) < gk by have := H.out; omega)
      have HSt := Lib.hid (And.intro hstep (And.intro hAl (And.intro hAok hxok)))
      have hown' := hown
      rw [← hAl] at hown'
      clear hat hx hA hstep hown hxok hAok
      rcases own_cases hown' with ⟨rfl, hA0⟩ | ⟨g, oc, rfl, hBg, hgl, hcl, hats⟩
      · have hk0 : k = 0 := by rw [hA0] at hAl; simpa using hAl.symm
        have HF := Lib.hid (show isort ocmp (l.take (k + 1)) = A.take 0 ++ x :: A.drop 0 by rw [HSt.out.1, hA0]; rfl)
        have HA0 := Lib.hid hA0
        have HK := Lib.hid hk0
        clear hA0 hAl hown' hk0
        go_wp2_with fail
        refine wp_loop_rounds 1 ?_
        rw [rounds_succ]
        go_wp2_with fail
        
        refine wp_region_quiet_bw wr (by kernel_rfl) (by kernel_rfl) (Bl.refl wr) ?_
        repeat (go_big_quiet_step (fail))
        refine wpQuiet_nil ?_
        intro wq hw'
        have hwq : Bl wr wq := by obtain ⟨x, hx⟩ := hw'; rw [hx]; exact x.h
        clear hw'
        have hb2 := hwq
        have ho0 := own0E wq wq.heap.size rfl
        go_wp2_with (at_builtin; refine wpList_appM ?hwx _ _ rfl wq.heap.size (.slice (some ⟨wq.heap.size, 0, none⟩) 0 0) 0 [] rfl ho0 (none) (0) (A.take (0)) (0) ?hl1x rfl (Ents.bl ((by rw [List.take_zero]; exact ents_none _)) ((Bl.refl _).alloc _)) (by simp) (by omega) ?_)
        case hl1x => (simp)
        intro v1 wA hA1 hg1
        have hbA : Bl wq wA := grown_bl ((Bl.refl _).alloc _) ho0 hg1 (Nat.le_refl _)
        obtain ⟨x0, x1, x2, x3⟩ := (HXe.out.bl hb2).bl hbA
        have hsA := hbA.size
        clear hg1 ho0
        go_wp2_with (at_builtin; refine wpList_append_own _ rfl _ _ 33 rfl wq.heap.size 23 i0 (.agg #[.string ⟨#[]⟩, .string ⟨#[]⟩, .bool false, .int .i64 0]) 4 48 Tryd.underlying33 hin hz0 hz1 hz2 rfl (by decide) _ _ _ rfl (hA1.alloc _) ⟨wA.heap.size, 0, none⟩ 1 1 [.string x.key, .string x.val, .bool x.dead, .int .i64 x.seq] rfl rfl ?c1x ?c2x ?c3x ?c4x ?c5x ?_)
        case c1x => exact multi_new _ _ _
        case c2x => intro u hu; simp at hu; rcases hu with rfl | rfl | rfl | rfl <;> rfl
        case c3x => unfold maxLen; omega
        case c4x => omega
        case c5x => simp; omega
        intro v2 wB hB2 hg2 _
        have hbB : Bl wq wB := grown_bl (hbA.alloc _) (hA1.alloc _) hg2 (Nat.le_refl _)
        have hsB := hbB.size
        clear hg2 hA1 hbA hsA x0 x1 x2 x3
        go_wp2_with (at_builtin; refine wpList_appM ?hw2x _ _ rfl wq.heap.size _ _ _ rfl hB2 (none) (0) (A.drop (0)) (0 - 0) ?hl2x rfl (Ents.bl ((by rw [HA0.out]; exact ents_none _)) hbB) hsB (by omega) ?_)
        case hl2x => (rw [HA0.out]; simp)
        intro v3 wC hC3 hg3
        have hbC : Bl wq wC := grown_bl hbB hB2 hg3 (Nat.le_refl _)
        have hown3 : wC.ownsRow w.heap.size 23 4 v3 (0 + 1) (entCells (A.take (0) ++ x :: A.drop (0))) :=
          own_cast (own_base hC3 (Nat.le_trans hb.size hb2.size)) (by omega) (by simp [entCells])
        have HO3 := Lib.hid hown3
        have hbw3 := (hb.trans hb2).trans hbC
        clear hown3 hC3 hg3 hB2 hbB hsB hbC
        go_wp2_with fail
        go_roundg (l.length - (k + 1))
        case rel => exact ⟨k + 1, by go_num, Lib.hid ⟨by omega, rfl, by rw [HF.out, HK.out]; exact HO3.out⟩, hbw3⟩
        case measure => exact HMs.out
      · skip
        have HAt := Lib.hid hats
        rw [hAl]
        rw [hAl] at hcl
        clear hats hown' hAl
        go_wp2_with fail
        go_loopg [5] k (fun g2 v wr2 => ∃ s : Nat, v = .int .i64 s ∧ Hid (s ≤ k ∧ g2 = s ∧ insb ocmp (A.take s) x ++ A.drop s = insb ocmp A x) ∧ Bl wr wr2)
        case atStart =>
          refine ⟨k, rfl, Lib.hid ⟨Nat.le_refl _, rfl, ?_⟩, Bl.refl _⟩
          have := HSt.out.2.1
          rw [List.take_of_length_le (by omega), List.drop_of_length_le (by omega), List.append_nil]
        case round =>
          obtain ⟨s, rfl, H2, hb2⟩ := hrel
          have hs1 := H2.out.1
          have hend : ∀ (e : insb ocmp (A.take s) x ++ A.drop s = A.take s ++ x :: A.drop s), isort ocmp (l.take (k + 1)) = A.take s ++ x :: A.drop s := fun e => by rw [HSt.out.1, ← H2.out.2.2, e]
          have HEn := Lib.hid hend
          clear hend
          by_cases hs0 : s = 0
          · have d1 : decide (0 < s) = false := by rw [decide_eq_false_iff_not]; omega
            have HF := Lib.hid (HEn.out (insg_stop0 hs0))
            clear hs0
            go_wp2_with fail
            
            refine wp_region_quiet_bw wr (by kernel_rfl) (by kernel_rfl) (Bl.refl wr) ?_
            repeat (go_big_quiet_step (fail))
            refine wpQuiet_nil ?_
            intro wq hw'
            have hwq : Bl wr wq := by obtain ⟨x, hx⟩ := hw'; rw [hx]; exact x.h
            clear hw'
            have hb2 := hb2.trans hwq
            have hParts := Ents.part (fun i x h => (HAt.out i x h).bl hb2) HSt.out.2.2.1 s
            have HPa := Lib.hid hParts
            clear hParts
            by_cases hoc : oc = s
            · have HD0 := Lib.hid (show A.drop s = [] from List.drop_of_length_le (by have := HSt.out.2.1; omega))
              have ho0 := own0E wq wq.heap.size rfl
              go_wp2_with (at_builtin; refine wpList_appM ?hwy _ _ rfl wq.heap.size (.slice (some ⟨wq.heap.size, 0, none⟩) 0 0) 0 [] rfl ho0 (some ⟨g, 0, none⟩) (_) (A.take (s)) (s) ?hl1y rfl (Ents.bl (HPa.out.1) ((Bl.refl _).alloc _)) (by simp) (by omega) ?_)
              case hl1y => (rw [List.length_take]; have := HSt.out.2.1; omega)
              intro v1 wA hA1 hg1
              have hbA : Bl wq wA := grown_bl ((Bl.refl _).alloc _) ho0 hg1 (Nat.le_refl _)
              obtain ⟨x0, x1, x2, x3⟩ := (HXe.out.bl hb2).bl hbA
              have hsA := hbA.size
              clear hg1 ho0
              go_wp2_with (at_builtin; refine wpList_append_own _ rfl _ _ 33 rfl wq.heap.size 23 i0 (.agg #[.string ⟨#[]⟩, .string ⟨#[]⟩, .bool false, .int .i64 0]) 4 48 Tryd.underlying33 hin hz0 hz1 hz2 rfl (by decide) _ _ _ rfl (hA1.alloc _) ⟨wA.heap.size, 0, none⟩ 1 1 [.string x.key, .string x.val, .bool x.dead, .int .i64 x.seq] rfl rfl ?c1y ?c2y ?c3y ?c4y ?c5y ?_)
              case c1y => exact multi_new _ _ _
              case c2y => intro u hu; simp at hu; rcases hu with rfl | rfl | rfl | rfl <;> rfl
              case c3y => unfold maxLen; omega
              case c4y => omega
              case c5y => simp; omega
              intro v2 wB hB2 hg2 _
              have hbB : Bl wq wB := grown_bl (hbA.alloc _) (hA1.alloc _) hg2 (Nat.le_refl _)
              have hsB := hbB.size
              clear hg2 hA1 hbA hsA x0 x1 x2 x3
              go_wp2_with (at_builtin; refine wpList_appM ?hw2y _ _ rfl wq.heap.size _ _ _ rfl hB2 (some ⟨g, 0, none⟩) (_) (A.drop (s)) (k - s) ?hl2y rfl (Ents.bl ((by rw [HD0.out]; exact ⟨by simp, fun h => absurd rfl h⟩)) hbB) hsB (by omega) ?_)
              case hl2y => (rw [List.length_drop]; have := HSt.out.2.1; omega)
              intro v3 wC hC3 hg3
              have hbC : Bl wq wC := grown_bl hbB hB2 hg3 (Nat.le_refl _)
              have hown3 : wC.ownsRow w.heap.size 23 4 v3 (k + 1) (entCells (A.take (s) ++ x :: A.drop (s))) :=
                own_cast (own_base hC3 (Nat.le_trans hb.size hb2.size)) (by omega) (by simp [entCells])
              have HO3 := Lib.hid hown3
              have hbw3 := (hb.trans hb2).trans hbC
              clear hown3 hC3 hg3 hB2 hbB hsB hbC
              go_wp2_with fail
              go_roundg (l.length - (k + 1))
              case rel => exact ⟨k + 1, by go_num, Lib.hid ⟨by omega, rfl, by rw [HF.out]; exact HO3.out⟩, hbw3⟩
              case measure => exact HMs.out
            · have hoc1 : ¬ s = oc := fun e => hoc e.symm
              have ho0 := own0E wq wq.heap.size rfl
              go_wp2_with (at_builtin; refine wpList_appM ?hwby _ _ rfl wq.heap.size (.slice (some ⟨wq.heap.size, 0, none⟩) 0 0) 0 [] rfl ho0 (some ⟨g, 0, none⟩) (_) (A.take (s)) (s) ?hl1by rfl (Ents.bl (HPa.out.1) ((Bl.refl _).alloc _)) (by simp) (by omega) ?_)
              case hl1by => (rw [List.length_take]; have := HSt.out.2.1; omega)
              intro v1 wA hA1 hg1
              have hbA : Bl wq wA := grown_bl ((Bl.refl _).alloc _) ho0 hg1 (Nat.le_refl _)
              obtain ⟨x0, x1, x2, x3⟩ := (HXe.out.bl hb2).bl hbA
              have hsA := hbA.size
              clear hg1 ho0
              go_wp2_with (at_builtin; refine wpList_append_own _ rfl _ _ 33 rfl wq.heap.size 23 i0 (.agg #[.string ⟨#[]⟩, .string ⟨#[]⟩, .bool false, .int .i64 0]) 4 48 Tryd.underlying33 hin hz0 hz1 hz2 rfl (by decide) _ _ _ rfl (hA1.alloc _) ⟨wA.heap.size, 0, none⟩ 1 1 [.string x.key, .string x.val, .bool x.dead, .int .i64 x.seq] rfl rfl ?c1by ?c2by ?c3by ?c4by ?c5by ?_)
              case c1by => exact multi_new _ _ _
              case c2by => intro u hu; simp at hu; rcases hu with rfl | rfl | rfl | rfl <;> rfl
              case c3by => unfold maxLen; omega
              case c4by => omega
              case c5by => simp; omega
              intro v2 wB hB2 hg2 _
              have hbB : Bl wq wB := grown_bl (hbA.alloc _) (hA1.alloc _) hg2 (Nat.le_refl _)
              have hsB := hbB.size
              clear hg2 hA1 hbA hsA x0 x1 x2 x3
              go_wp2_with (at_builtin; refine wpList_appM ?hw2by _ _ rfl wq.heap.size _ _ _ rfl hB2 (some ⟨g, s * 4, none⟩) (_) (A.drop (s)) (k - s) ?hl2by rfl (Ents.bl (HPa.out.2) hbB) hsB (by omega) ?_)
              case hl2by => (rw [List.length_drop]; have := HSt.out.2.1; omega)
              intro v3 wC hC3 hg3
              have hbC : Bl wq wC := grown_bl hbB hB2 hg3 (Nat.le_refl _)
              have hown3 : wC.ownsRow w.heap.size 23 4 v3 (k + 1) (entCells (A.take (s) ++ x :: A.drop (s))) :=
                own_cast (own_base hC3 (Nat.le_trans hb.size hb2.size)) (by omega) (by simp [entCells])
              have HO3 := Lib.hid hown3
              have hbw3 := (hb.trans hb2).trans hbC
              clear hown3 hC3 hg3 hB2 hbB hsB hbC
              go_wp2_with fail
              go_roundg (l.length - (k + 1))
              case rel => exact ⟨k + 1, by go_num, Lib.hid ⟨by omega, rfl, by rw [HF.out]; exact HO3.out⟩, hbw3⟩
              case measure => exact HMs.out
          · have hs0' : 0 < s := by omega
            obtain ⟨z, hz⟩ : ∃ z, A[s - 1]? = some z := ⟨_, List.getElem?_eq_getElem (by have := HSt.out.2.1; omega)⟩
            obtain ⟨y0, y1, y2, y3⟩ := (HAt.out (s - 1) z hz).bl hb2
            obtain ⟨x0, x1, x2, x3⟩ := HXe.out.bl hb2
            have hzok := HSt.out.2.2.1 z (List.mem_of_getElem? hz)
            have p0 : (0 : Int) ≤ (s : Int) - 1 := by omega
            have p2 : (s : Int) - 1 < (k : Int) := by omega
            have p3 : ((s : Int) - 1).toNat = s - 1 := by omega
            have d1 : decide (0 < s) = true := by rw [decide_eq_true_eq]; omega
            have es : s - 1 + 1 = s := by omega
            have hb := fun w => HOr.out z x w hzok HSt.out.2.2.2
            obtain ⟨q, hq⟩ : ∃ q, ocmp z x = q := ⟨_, rfl⟩
            have hneg := ocmp_pre.neg x z
            unfold Ent.v at hb
            rw [hq] at hb hneg
            have HBy := Lib.hid hb
            have x0' := @BW.cell wr _ _ x0
            have x1' := @BW.cell wr _ _ x1
            have x2' := @BW.cell wr _ _ x2
            have x3' := @BW.cell wr _ _ x3
            have y0' := @BW.cell wr _ _ y0
            have y1' := @BW.cell wr _ _ y1
            have y2' := @BW.cell wr _ _ y2
            have y3' := @BW.cell wr _ _ y3
            by_cases hlt : 0 < q
            · have c1 : decide (0 < q) = true := by rw [decide_eq_true_eq]; exact hlt
              have hgo := insg_go (cf := ocmp) (x := x) hz (by omega)
              rw [es] at hgo
              have HGo := Lib.hid hgo
              clear hb hq hlt hneg hz hzok es hgo hs0
              go_wp2_with fail
              
              refine wp_region_quiet_bw wr (by kernel_rfl) (by kernel_rfl) (Bl.refl wr) ?_
              repeat (go_big_quiet_step ((go_at_call 39; exact quietB (HBy.out _))))
              refine wpQuiet_nil ?_
              intro wq hw'
              have hwq : Bl wr wq := by obtain ⟨x, hx⟩ := hw'; rw [hx]; exact x.h
              clear hw'
              go_wp2_with fail
              go_roundg (s - 1)
              case rel => exact ⟨s - 1, by go_num, Lib.hid ⟨by omega, rfl, HGo.out.symm.trans H2.out.2.2⟩, hb2.trans hwq⟩
              case measure => have := H2.out.2.1; omega
            · have c1 : decide (0 < q) = false := by rw [decide_eq_false_iff_not]; exact hlt
              have hst := insg_stop1 (cf := ocmp) (x := x) hz (by omega)
              rw [es] at hst
              have HF := Lib.hid (HEn.out hst)
              clear hb hq hlt hneg hz hzok es hst hs0 hs0'
              go_wp2_with fail
              
              refine wp_region_quiet_bw wr (by kernel_rfl) (by kernel_rfl) (Bl.refl wr) ?_
              repeat (go_big_quiet_step ((go_at_call 39; exact quietB (HBy.out _))))
              refine wpQuiet_nil ?_
              intro wq hw'
              have hwq : Bl wr wq := by obtain ⟨x, hx⟩ := hw'; rw [hx]; exact x.h
              clear hw'
              have hb2 := hb2.trans hwq
              clear x0' x1' x2' x3' y0' y1' y2' y3' x0 x1 x2 x3 y0 y1 y2 y3
              have hParts := Ents.part (fun i x h => (HAt.out i x h).bl hb2) HSt.out.2.2.1 s
              have HPa := Lib.hid hParts
              clear hParts
              by_cases hoc : oc = s
              · have HD0 := Lib.hid (show A.drop s = [] from List.drop_of_length_le (by have := HSt.out.2.1; omega))
                have ho0 := own0E wq wq.heap.size rfl
                go_wp2_with (at_builtin; refine wpList_appM ?hwz _ _ rfl wq.heap.size (.slice (some ⟨wq.heap.size, 0, none⟩) 0 0) 0 [] rfl ho0 (some ⟨g, 0, none⟩) (_) (A.take (s)) (s) ?hl1z rfl (Ents.bl (HPa.out.1) ((Bl.refl _).alloc _)) (by simp) (by omega) ?_)
                case hl1z => (rw [List.length_take]; have := HSt.out.2.1; omega)
                intro v1 wA hA1 hg1
                have hbA : Bl wq wA := grown_bl ((Bl.refl _).alloc _) ho0 hg1 (Nat.le_refl _)
                obtain ⟨x0, x1, x2, x3⟩ := (HXe.out.bl hb2).bl hbA
                have hsA := hbA.size
                clear hg1 ho0
                go_wp2_with (at_builtin; refine wpList_append_own _ rfl _ _ 33 rfl wq.heap.size 23 i0 (.agg #[.string ⟨#[]⟩, .string ⟨#[]⟩, .bool false, .int .i64 0]) 4 48 Tryd.underlying33 hin hz0 hz1 hz2 rfl (by decide) _ _ _ rfl (hA1.alloc _) ⟨wA.heap.size, 0, none⟩ 1 1 [.string x.key, .string x.val, .bool x.dead, .int .i64 x.seq] rfl rfl ?c1z ?c2z ?c3z ?c4z ?c5z ?_)
                case c1z => exact multi_new _ _ _
                case c2z => intro u hu; simp at hu; rcases hu with rfl | rfl | rfl | rfl <;> rfl
                case c3z => unfold maxLen; omega
                case c4z => omega
                case c5z => simp; omega
                intro v2 wB hB2 hg2 _
                have hbB : Bl wq wB := grown_bl (hbA.alloc _) (hA1.alloc _) hg2 (Nat.le_refl _)
                have hsB := hbB.size
                clear hg2 hA1 hbA hsA x0 x1 x2 x3
                go_wp2_with (at_builtin; refine wpList_appM ?hw2z _ _ rfl wq.heap.size _ _ _ rfl hB2 (some ⟨g, 0, none⟩) (_) (A.drop (s)) (k - s) ?hl2z rfl (Ents.bl ((by rw [HD0.out]; exact ⟨by simp, fun h => absurd rfl h⟩)) hbB) hsB (by omega) ?_)
                case hl2z => (rw [List.length_drop]; have := HSt.out.2.1; omega)
                intro v3 wC hC3 hg3
                have hbC : Bl wq wC := grown_bl hbB hB2 hg3 (Nat.le_refl _)
                have hown3 : wC.ownsRow w.heap.size 23 4 v3 (k + 1) (entCells (A.take (s) ++ x :: A.drop (s))) :=
                  own_cast (own_base hC3 (Nat.le_trans hb.size hb2.size)) (by omega) (by simp [entCells])
                have HO3 := Lib.hid hown3
                have hbw3 := (hb.trans hb2).trans hbC
                clear hown3 hC3 hg3 hB2 hbB hsB hbC
                go_wp2_with fail
                go_roundg (l.length - (k + 1))
                case rel => exact ⟨k + 1, by go_num, Lib.hid ⟨by omega, rfl, by rw [HF.out]; exact HO3.out⟩, hbw3⟩
                case measure => exact HMs.out
              · have hoc1 : ¬ s = oc := fun e => hoc e.symm
                have ho0 := own0E wq wq.heap.size rfl
                go_wp2_with (at_builtin; refine wpList_appM ?hwbz _ _ rfl wq.heap.size (.slice (some ⟨wq.heap.size, 0, none⟩) 0 0) 0 [] rfl ho0 (some ⟨g, 0, none⟩) (_) (A.take (s)) (s) ?hl1bz rfl (Ents.bl (HPa.out.1) ((Bl.refl _).alloc _)) (by simp) (by omega) ?_)
                case hl1bz => (rw [List.length_take]; have := HSt.out.2.1; omega)
                intro v1 wA hA1 hg1
                have hbA : Bl wq wA := grown_bl ((Bl.refl _).alloc _) ho0 hg1 (Nat.le_refl _)
                obtain ⟨x0, x1, x2, x3⟩ := (HXe.out.bl hb2).bl hbA
                have hsA := hbA.size
                clear hg1 ho0
                go_wp2_with (at_builtin; refine wpList_append_own _ rfl _ _ 33 rfl wq.heap.size 23 i0 (.agg #[.string ⟨#[]⟩, .string ⟨#[]⟩, .bool false, .int .i64 0]) 4 48 Tryd.underlying33 hin hz0 hz1 hz2 rfl (by decide) _ _ _ rfl (hA1.alloc _) ⟨wA.heap.size, 0, none⟩ 1 1 [.string x.key, .string x.val, .bool x.dead, .int .i64 x.seq] rfl rfl ?c1bz ?c2bz ?c3bz ?c4bz ?c5bz ?_)
                case c1bz => exact multi_new _ _ _
                case c2bz => intro u hu; simp at hu; rcases hu with rfl | rfl | rfl | rfl <;> rfl
                case c3bz => unfold maxLen; omega
                case c4bz => omega
                case c5bz => simp; omega
                intro v2 wB hB2 hg2 _
                have hbB : Bl wq wB := grown_bl (hbA.alloc _) (hA1.alloc _) hg2 (Nat.le_refl _)
                have hsB := hbB.size
                clear hg2 hA1 hbA hsA x0 x1 x2 x3
                go_wp2_with (at_builtin; refine wpList_appM ?hw2bz _ _ rfl wq.heap.size _ _ _ rfl hB2 (some ⟨g, s * 4, none⟩) (_) (A.drop (s)) (k - s) ?hl2bz rfl (Ents.bl (HPa.out.2) hbB) hsB (by omega) ?_)
                case hl2bz => (rw [List.length_drop]; have := HSt.out.2.1; omega)
                intro v3 wC hC3 hg3
                have hbC : Bl wq wC := grown_bl hbB hB2 hg3 (Nat.le_refl _)
                have hown3 : wC.ownsRow w.heap.size 23 4 v3 (k + 1) (entCells (A.take (s) ++ x :: A.drop (s))) :=
                  own_cast (own_base hC3 (Nat.le_trans hb.size hb2.size)) (by omega) (by simp [entCells])
                have HO3 := Lib.hid hown3
                have hbw3 := (hb.trans hb2).trans hbC
                clear hown3 hC3 hg3 hB2 hbB hsB hbC
                go_wp2_with fail
                go_roundg (l.length - (k + 1))
                case rel => exact ⟨k + 1, by go_num, Lib.hid ⟨by omega, rfl, by rw [HF.out]; exact HO3.out⟩, hbw3⟩
                case measure => exact HMs.out
    · have hk' : k = l.length := by have := H.out; omega
      subst hk'
      have hown := H.out.2.2
      rw [List.take_length] at hown
      have HOw := Lib.hid hown
      clear hown H
      go_wp2_with fail
      go_ret
      exact RM.mk HOw.out hb
end Go.Proofs.YtbdiiopmjaeaaaaDoor

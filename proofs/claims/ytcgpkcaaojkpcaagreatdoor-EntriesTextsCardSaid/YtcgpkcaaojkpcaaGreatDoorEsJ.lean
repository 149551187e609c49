
/-
  Rows of entries of the call's own: Clone, Sort.
-/
import Derived.Test.YtcgpkcaaojkpcaaGreatDoorEsI
import Derived.Test.YtcgpkcaaojkpcaaGreatDoorEsS
import Derived.Maps.AppendAt
import Derived.Laws.OwnMore
namespace Go.Proofs.YtcgpkcaaojkpcaaGreatDoor
open Go.RowKit Go.Sort
set_option linter.unusedSimpArgs false
set_option linter.unusedVariables false
set_option maxRecDepth 100000

theorem ents_news {w : World} {ad : Addr} {l : List Ent} (h : Ents w (some ad) l) : ∀ (j : Nat) u, (entCells l)[j]? = some u → w.cell? (ad.add j) = some u := by
  intro j u hj
  have hlt := (List.getElem?_eq_some_iff.1 hj).1
  rw [entCells_len] at hlt
  have hi : j / 4 < l.length := by omega
  obtain ⟨b, off, e, hat⟩ := h.get hi
  injection e with e
  subst e
  have hx : l[j / 4]? = some l[j / 4] := List.getElem?_eq_getElem hi
  obtain ⟨c0, c1, c2, c3⟩ := hat _ _ hx
  obtain ⟨d0, d1, d2, d3⟩ := entCells_get l (j / 4) _ hx
  rw [show (⟨b, off, none⟩ : Addr).add j = ⟨b, off + j, none⟩ by unfold Addr.add; split <;> simp_all]
  have h4 : j % 4 = 0 ∨ j % 4 = 1 ∨ j % 4 = 2 ∨ j % 4 = 3 := by omega
  rcases h4 with e | e | e | e
  · rw [show j / 4 * 4 = j by omega] at c0 d0
    rw [d0] at hj; injection hj with hj; subst hj; exact c0
  · rw [show j / 4 * 4 + 1 = j by omega] at d1
    rw [show off + j / 4 * 4 + 1 = off + j by omega] at c1
    rw [d1] at hj; injection hj with hj; subst hj; exact c1
  · rw [show j / 4 * 4 + 2 = j by omega] at d2
    rw [show off + j / 4 * 4 + 2 = off + j by omega] at c2
    rw [d2] at hj; injection hj with hj; subst hj; exact c2
  · rw [show j / 4 * 4 + 3 = j by omega] at d3
    rw [show off + j / 4 * 4 + 3 = off + j by omega] at c3
    rw [d3] at hj; injection hj with hj; subst hj; exact c3
theorem entCells_one (l : List Ent) : ∀ u ∈ entCells l, u.oneCell' = true := by
  intro u hu
  simp only [entCells, List.mem_flatMap] at hu
  obtain ⟨x, -, hu⟩ := hu
  simp at hu
  rcases hu with rfl | rfl | rfl | rfl <;> rfl
theorem run_appE {w : World} {base : Nat} {v : Value} {n : Nat} {xs : List Value} {a : Option Addr} {l : List Ent} (c : Nat) (ty : TypeId) (hown : w.ownsRow base 34 4 v n xs) (hE : Ents w a l) (hb : base ≤ w.heap.size) (hn : n + l.length ≤ 500000) :
    ∃ v' w', (Builtin.append_ #[22, 22] ty #[v, .slice a l.length c]).run Tryz.prog w = .ok v' w' ∧ w'.ownsRow base 34 4 v' (n + l.length) (xs ++ entCells l) ∧ w.grownBy w' v.ownBlock := by
  obtain ⟨i0, hi0, hz0, hz1, hz2⟩ := info_parts inf_ent
  match a, hE with
  | some ad, hE =>
    obtain ⟨v', w', h1, h2, h3, -, -⟩ := run_append_own_at (P := Tryz.prog) w base 22 ty 34 i0 (.agg #[.string ⟨#[]⟩, .string ⟨#[]⟩, .bool false, .int .i64 0]) 4 48 Tryz.underlying22 hi0 hz0 hz1 hz2 rfl (by omega) v n xs hown ad l.length c (entCells l) (entCells_len l) (ents_news hE) (entCells_one l) (by unfold maxLen; omega) (by omega) hb
    exact ⟨v', w', h1, h2, h3⟩
  | none, hE =>
    have hl : l = [] := by
      match l, hE with
      | [], _ => rfl
      | x :: l, hE => obtain ⟨b, off, e, -⟩ := hE.get (k := 0) (by simp); cases e
    subst hl
    refine ⟨v, w, ?_, by simpa [entCells] using hown, ⟨rfl, rfl, rfl, Nat.le_refl _, fun _ _ _ => rfl⟩⟩
    rcases hown.2 with ⟨rfl, rfl⟩ | ⟨g, cap, cur, rfl, _, _, hnc, _⟩
    · simp [Builtin.append_, run_underlying Tryz.underlying22, sizeOf, typeInfo, hi0, Builtin.lenOf, Builtin.firstCells]
    · simp [Builtin.append_, run_underlying Tryz.underlying22, sizeOf, typeInfo, hi0, Builtin.lenOf, Builtin.firstCells, hnc, storeCells]
theorem wpList_appE {w : World} {ops : Array Oper} {rest : List Oper} {o : Oper} {a : Act} {Q : Exit → Act → World → Prop} (hw : Region.wanted o (yielded ops a.tmps) = true) (s x : Operand)
    (ho : o.op = .call { callee := .builtin .append, args := #[s, x], argTypes := #[22, 22] })
    (base : Nat) (v : Value) (n : Nat) (xs : List Value) (hs : a.eval s = v) (hown : w.ownsRow base 34 4 v n xs)
    (ad : Option Addr) (c : Nat) (l : List Ent) (hx : a.eval x = .slice ad l.length c) (hE : Ents w ad l) (hb : base ≤ w.heap.size) (hn : n + l.length ≤ 500000)
    (h : ∀ v' w', w'.ownsRow base 34 4 v' (n + l.length) (xs ++ entCells l) → w.grownBy w' v.ownBlock → wpList Tryz.prog ops Q rest (a.put o.dst v') w') :
    wpList Tryz.prog ops Q (o :: rest) a w := by
  refine wpList_step fun K hK => ?_
  rw [if_pos hw]
  obtain ⟨v', w', hr, h2, h3⟩ := run_appE c o.type hown hE hb hn
  unfold Oper.wp execOp
  simp only [ho, resolve, invoke, builtin, Sem.run_bind, Sem.run_pure, Result.andThen_ok, List.map_toArray, List.map_cons, List.map_nil, hs, hx, hr]
  exact hK _ _ (h v' w' h2 h3)
theorem own0E (w : World) (n : Nat) (h : w.heap.size = n) : (w.alloc (Obj.cells #[] 34)).ownsRow n 34 4 (.slice (some ⟨n, 0, none⟩) 0 0) 0 [] := by
  subst h
  exact World.ownsRow_lit w #[] 0 (Nat.le_refl _) (Nat.zero_le _) (by simp)
set_option maxHeartbeats 1000000 in
theorem entClone (a : Option Addr) (c : Nat) (l : List Ent) (w : World) (h : Ents w a l) (hl : l.length ≤ 500000) : Calls Tryz.prog 56 #[.slice a l.length c] w (RM w (fun w' v => w'.ownsRow w.heap.size 34 4 v l.length (entCells l))) := by
  match a, h with
  | none, h =>
    have hl0 : l = [] := by
      match l, h with
      | [], _ => rfl
      | x :: l, h => obtain ⟨b, off, e, -⟩ := h.get (k := 0) (by simp); cases e
    subst hl0
    have hnl := fun w n c => Lib.run_eql_slice_nil (P := Tryz.prog) w 22 34 none n c 0 0 Tryz.underlying22
    go_enter Tryz.func56, Tryz.ntmps56
    go_wp2_with fail
    go_ret
    exact RM.mk (own_nil _ _ _ _) (by repeat (first | assumption | exact Bl.refl _ | apply Bl.drewN | apply Bl.drew | apply Bl.alloc | (refine Bl.dr ?_ (by assumption)) | (refine Bl.trans ?_ (by assumption))))
  | some ad, h =>
    have hb0 : Bl w (w.alloc (Obj.cells #[] 34)) := (Bl.refl _).alloc _
    have hL0 := h.bl hb0
    have ho0 := own0E w w.heap.size rfl
    have hnl := fun w n c => Lib.run_eql_slice_nil (P := Tryz.prog) w 22 34 (some ad) n c 0 0 Tryz.underlying22
    go_enter Tryz.func56, Tryz.ntmps56
    go_wp2_with (at_builtin; refine wpList_appE ?hw _ _ rfl w.heap.size (.slice (some ⟨w.heap.size, 0, none⟩) 0 0) 0 [] rfl ho0 (some ad) c l rfl hL0 (by simp) (by omega) ?_)
    intro v1 wA hA1 hg1
    have hbA : Bl w wA := grown_bl hb0 ho0 hg1 (Nat.le_refl _)
    have HA1 := Lib.hid hA1
    clear hA1 hg1 hL0 hb0 ho0
    go_wp2_with fail
    go_ret
    exact RM.mk (by simpa using HA1.out) hbA
/-! ### A row of the call's own -/
theorem enc4_flat (l : List DE) : ∀ j, j < l.length * 4 → (flatK enc4 4 l.toArray)[j]! = (entCells (l.map Prod.fst))[j]! := by
  intro j hj
  rw [get_flatK _ _ _ _ (by simpa using hj)]
  have hi : j / 4 < l.length := by omega
  obtain ⟨x, hx⟩ : ∃ x, l[j / 4]? = some x := ⟨_, List.getElem?_eq_getElem hi⟩
  have e : l.toArray[j / 4]! = x := by
    simp only [List.getElem!_toArray]
    rw [List.getElem!_eq_getElem?_getD, hx]; rfl
  rw [e]
  obtain ⟨d0, d1, d2, d3⟩ := entCells_get (l.map Prod.fst) (j / 4) x.1 (by simp [hx])
  have get : ∀ (m : Nat) v, (entCells (l.map Prod.fst))[m]? = some v → (entCells (l.map Prod.fst))[m]! = v := fun m v h => by rw [List.getElem!_eq_getElem?_getD, h]; rfl
  have key : ∀ r, r < 4 → (entCells (l.map Prod.fst))[j / 4 * 4 + r]! = (enc4 x)[r]! := by
    intro r hr
    match r, hr with
    | 0, _ => exact get _ _ d0
    | 1, _ => exact get _ _ d1
    | 2, _ => exact get _ _ d2
    | 3, _ => exact get _ _ d3
  have := key (j % 4) (by omega)
  rw [show j / 4 * 4 + j % 4 = j by omega] at this
  exact this.symm
theorem holdsK_iff {w : World} {g : Nat} {D : List DE} : HoldsK enc4 4 w g 0 D.toArray ↔ ∀ j u, (entCells (D.map Prod.fst))[j]? = some u → w.cell? ⟨g, j, none⟩ = some u ∧ w.frozen? ⟨g, j, none⟩ = false := by
  have hlen : (entCells (D.map Prod.fst)).length = D.length * 4 := by rw [entCells_len, List.length_map]
  unfold HoldsK Holds
  rw [size_flatK, List.size_toArray]
  constructor
  · intro h j u hj
    have hlt := (List.getElem?_eq_some_iff.1 hj).1
    have := h j (by omega)
    rw [Nat.zero_add, enc4_flat D j (by omega), List.getElem!_eq_getElem?_getD, hj] at this
    exact this
  · intro h j hj
    obtain ⟨u, hu⟩ : ∃ u, (entCells (D.map Prod.fst))[j]? = some u := ⟨_, List.getElem?_eq_getElem (by omega)⟩
    rw [Nat.zero_add, enc4_flat D j hj, List.getElem!_eq_getElem?_getD, hu]
    exact h j u hu
/-- A row of entries of the call's own: no row, or a block that may be written. -/
def OwnE (B : Nat) (l : List Ent) (w : World) (v : Value) : Prop :=
  (v = .slice none 0 0 ∧ l = []) ∨ ∃ g c, v = .slice (some ⟨g, 0, none⟩) l.length c ∧ l.length ≤ c ∧ c ≤ maxLen ∧ B ≤ g ∧ g < w.heap.size ∧ HoldsK enc4 4 w g 0 l.zipIdx.toArray
theorem zip_fst (l : List Ent) : l.zipIdx.map Prod.fst = l := by simp
theorem ownE_of {w : World} {B : Nat} {l : List Ent} {v : Value} (h : w.ownsRow B 34 4 v l.length (entCells l)) : OwnE B l w v := by
  obtain ⟨hl, h⟩ := h
  rcases h with ⟨rfl, h0⟩ | ⟨g, cap, cur, rfl, hb, hg, hn, hc, hs, ht⟩
  · exact .inl ⟨rfl, List.length_eq_zero_iff.1 h0⟩
  · refine .inr ⟨g, cap, rfl, hn, hc, hb, ?_, holdsK_iff.2 fun j u hu => ?_⟩
    · rcases Nat.lt_or_ge g w.heap.size with h1 | h1
      · exact h1
      · rw [Array.getElem?_eq_none h1] at hg; cases hg
    · rw [zip_fst] at hu
      have hj := (List.getElem?_eq_some_iff.1 hu).1
      rw [← ht] at hu
      rw [entCells_len] at hj
      rw [List.getElem?_take_of_lt hj] at hu
      refine ⟨by simp [World.cell?, hg]; simpa using hu, by simp [World.frozen?, hg]⟩
theorem OwnE.ents {w : World} {B : Nat} {l : List Ent} {v : Value} (h : OwnE B l w v) (ho : ∀ x ∈ l, x.ok) : ∃ a c, v = .slice a l.length c ∧ Ents w a l ∧ l.length ≤ c ∧ c ≤ maxLen := by
  rcases h with ⟨rfl, rfl⟩ | ⟨g, c, rfl, h1, h2, h3, h4, h5⟩
  · exact ⟨none, 0, rfl, ⟨by simp, fun h => absurd rfl h⟩, by simp, by unfold maxLen; omega⟩
  · refine ⟨_, c, rfl, ⟨ho, fun _ => ⟨g, 0, rfl, fun i x hx => ?_⟩⟩, h1, h2⟩
    have hc := holdsK_iff.1 h5
    rw [zip_fst] at hc
    obtain ⟨d0, d1, d2, d3⟩ := entCells_get l i x hx
    rw [Nat.zero_add]
    exact ⟨(hc _ _ d0).1, (hc _ _ d1).1, (hc _ _ d2).1, (hc _ _ d3).1⟩
theorem OwnE.bl {w w' : World} {B : Nat} {l : List Ent} {v : Value} (h : OwnE B l w v) (hb : Bl w w') : OwnE B l w' v := by
  rcases h with h | ⟨g, c, rfl, h1, h2, h3, h4, h5⟩
  · exact .inl h
  · exact .inr ⟨g, c, rfl, h1, h2, h3, Nat.lt_of_lt_of_le h4 hb.size, holdsK_bl h5 hb⟩
theorem OwnE.base {w : World} {B C : Nat} {l : List Ent} {v : Value} (h : OwnE B l w v) (hb : C ≤ B) : OwnE C l w v := by
  rcases h with h | ⟨g, c, rfl, h1, h2, h3, h4, h5⟩
  · exact .inl h
  · exact .inr ⟨g, c, rfl, h1, h2, Nat.le_trans hb h3, h4, h5⟩
theorem holdsK_zip {w : World} {g : Nat} {D : List DE} (h : HoldsK enc4 4 w g 0 D.toArray) : HoldsK enc4 4 w g 0 (D.map Prod.fst).zipIdx.toArray := by
  rw [holdsK_iff] at h ⊢
  rw [zip_fst]; exact h
/-! ### Sort -/
set_option maxHeartbeats 1000000 in
theorem slSortNil (w : World) : Calls Tryz.prog 57 #[.slice none 0 0, byV] w fun e w' => e = .returned (.tuple #[]) ∧ Bl w w' := by
  have hI : ∀ w, Calls Tryz.prog 94 #[.slice none 0 0, .int .i64 0, .int .i64 0, byV] w fun e w' => e = .returned (.tuple #[]) ∧ Bl w w' := by
    intro w
    go_enter Tryz.func94, Tryz.ntmps94
    go_wp2_with fail
    refine wp_loop_rounds 1 ?_
    rw [rounds_succ]
    go_wp2_with fail
    go_end0
    exact ⟨rfl, Bl.refl _⟩
  have hS : ∀ w, Calls Tryz.prog 73 #[.slice none 0 0, .int .i64 0, byV] w fun e w' => e = .returned (.tuple #[]) ∧ Bl w w' := by
    intro w
    have HI := Lib.hid hI
    clear hI
    go_enter Tryz.func73, Tryz.ntmps73
    go_wp2_with fail
    refine wp_loop_rounds 1 ?_
    rw [rounds_succ]
    go_wp2_with fail
    refine (HI.out _).mono ?_; rintro e w1 ⟨rfl, hb1⟩
    go_wp2_with fail
    refine wp_loop_rounds 1 ?_
    rw [rounds_succ]
    go_wp2_with fail
    go_end0
    exact ⟨rfl, hb1⟩
  have HS := Lib.hid hS
  clear hS hI
  go_enter Tryz.func57, Tryz.ntmps57
  go_wp2_with fail
  refine (HS.out _).mono ?_; rintro e w1 ⟨rfl, hb1⟩
  go_wp2_with fail
  go_end0
  exact ⟨rfl, hb1⟩
set_option maxHeartbeats 1000000 in
theorem slSort (B : Nat) (l : List Ent) (v : Value) (w0 w : World) (hw : Bl w0 w) (hB : w0.heap.size ≤ B) (h : OwnE B l w v) (hl : l.length ≤ 400000) :
    Calls Tryz.prog 57 #[v, byV] w fun e w' => e = .returned (.tuple #[]) ∧ OwnE B (isort ocmp l) w' v ∧ Bl w0 w' := by
  rcases h with ⟨rfl, rfl⟩ | ⟨g, c, rfl, h1, h2, h3, h4, h5⟩
  · refine (slSortNil w).mono ?_
    rintro e w' ⟨he, hb⟩
    exact ⟨he, .inl ⟨rfl, rfl⟩, hw.trans hb⟩
  · have hS := slStable w g 0 c l.length l.zipIdx (by simp) hl (places_asc l 0) w (RW.start h5 h4)
    rw [zip_fst] at hS
    have HS := Lib.hid hS
    have HW := Lib.hid (And.intro hw (And.intro hB (And.intro h1 (And.intro h2 (And.intro h3 h4)))))
    clear hS h5 hw hB h1 h2 h3 h4
    go_enter Tryz.func57, Tryz.ntmps57
    go_wp2_with fail
    refine HS.out.mono ?_; rintro e w1 ⟨rfl, D, hD, hR⟩
    have HD := Lib.hid (And.intro hD hR)
    clear hD hR
    go_wp2_with fail
    go_end0
    obtain ⟨hw, hB, h1, h2, h3, h4⟩ := HW.out
    obtain ⟨hD, hR⟩ := HD.out
    refine ⟨rfl, .inr ⟨g, c, by rw [isort_len], by rw [isort_len]; exact h1, h2, h3, hR.lt, ?_⟩, hR.below hw (Nat.le_trans hB h3)⟩
    rw [← hD]; exact holdsK_zip hR.row
/-- A row and an error. -/
def OutE (B : Nat) (p : List Ent × Int) (w : World) (v : Value) : Prop := ∃ s, v = .tuple #[s, .int .i64 p.2] ∧ OwnE B p.1 w s
theorem OutE.nil {B : Nat} {w : World} (q : Int) : OutE B ([], q) w (.tuple #[.slice none 0 0, .int .i64 q]) := ⟨_, rfl, .inl ⟨rfl, rfl⟩⟩
set_option maxHeartbeats 2000000 in
theorem entSort (a : Option Addr) (c : Nat) (l : List Ent) (w : World) (hl : Ents w a l) (hn : l.length ≤ maxLen) : Calls Tryz.prog 32 #[.slice a l.length c] w (RM w (OutE w.heap.size (esort l))) := by
  unfold esort
  by_cases h5 : 5000 < l.length
  · rw [if_pos h5]
    have i1 : (5000 : Int) < (l.length : Int) := by omega
    clear hl h5
    go_enter Tryz.func32, Tryz.ntmps32
    go_wp2_with fail
    go_ret2
    exact RM.mk (OutE.nil 3) (by repeat (first | assumption | exact Bl.refl _ | apply Bl.drewN | apply Bl.drew | apply Bl.alloc | (refine Bl.dr ?_ (by assumption)) | (refine Bl.trans ?_ (by assumption))))
  · rw [if_neg h5]
    have i1 : ¬ (5000 : Int) < (l.length : Int) := by omega
    have HL := Lib.hid hl
    have HA := Lib.hid (fun w h => entAll a c l w h hn)
    have HC := Lib.hid (fun w h => entClone a c l w h (by omega))
    by_cases hq : eall l = 0
    · have hA := HA.out
      rw [hq] at hA
      rw [if_neg (by omega)]
      have HA2 := Lib.hid hA
      have H5 := Lib.hid h5
      clear hl hq hA h5
      go_enter Tryz.func32, Tryz.ntmps32
      go_wp2_with fail
      refine (HA2.out _ HL.out).mono ?_; rintro e w1 ⟨rfl, hb1⟩
      go_wp2_with fail
      refine (HC.out _ (HL.out.bl hb1)).mono ?_; rintro e w2 ⟨v, rfl, hO, hb2⟩
      have HO := Lib.hid (ownE_of hO)
      have HBw := Lib.hid (And.intro (hb1.trans hb2) hb1.size)
      clear hO hb1 hb2
      go_wp2_with fail
      refine (slSort w.heap.size l v w w2 HBw.out.1 (Nat.le_refl _) (HO.out.base HBw.out.2) (by have := H5.out; omega)).mono ?_
      rintro e w3 ⟨rfl, hO3, hb3⟩
      have HO3 := Lib.hid hO3
      clear hO3
      go_wp2_with fail
      go_ret2
      exact RM.mk ⟨v, rfl, HO3.out⟩ hb3
    · rw [if_pos hq]
      obtain ⟨q, hqe⟩ : ∃ q, eall l = q := ⟨_, rfl⟩
      have hA := HA.out
      rw [hqe] at hA hq ⊢
      have hq1 : (q != 0) = true := by rw [bne_iff_ne]; exact hq
      have HA2 := Lib.hid hA
      clear hl hqe hq hA h5 HA
      go_enter Tryz.func32, Tryz.ntmps32
      go_wp2_with fail
      refine (HA2.out _ HL.out).mono ?_; rintro e w1 ⟨rfl, hb1⟩
      go_wp2_with fail
      go_ret2
      exact RM.mk (OutE.nil q) hb1
end Go.Proofs.YtcgpkcaaojkpcaaGreatDoor

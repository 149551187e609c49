
/-
  Contracts of handles: Clone, copied; rows of slots of the call's own.
-/
import Derived.Test.YtidclkojekodpaaGreatDoorHnA
import Derived.Test.YtidclkojekodpaaGreatDoorHnQ
import Derived.Maps.AppendAt
import Derived.Laws.OwnMore
namespace Go.Proofs.YtidclkojekodpaaGreatDoor
open Go.RowKit
set_option linter.unusedSimpArgs false
set_option linter.unusedVariables false
set_option maxRecDepth 100000

/-- The cells of slots. -/
def slotCells (l : List Slot) : List Value := l.flatMap fun x => [.int .i64 x.gen, .bool x.used]
theorem slotCells_len : ∀ l : List Slot, (slotCells l).length = l.length * 2
  | [] => rfl
  | x :: l => by have := slotCells_len l; simp [slotCells] at *; omega
theorem slotCells_app (l k : List Slot) : slotCells (l ++ k) = slotCells l ++ slotCells k := by simp [slotCells]
theorem slotCells_get : ∀ (l : List Slot) (i : Nat) (x : Slot), l[i]? = some x → (slotCells l)[i * 2]? = some (.int .i64 x.gen) ∧ (slotCells l)[i * 2 + 1]? = some (.bool x.used)
  | [], i, x, h => by simp at h
  | y :: l, 0, x, h => by simp at h; subst h; simp [slotCells]
  | y :: l, i + 1, x, h => by
    have ih := slotCells_get l i x (by simpa using h)
    have e : slotCells (y :: l) = [.int .i64 y.gen, .bool y.used] ++ slotCells l := by simp [slotCells]
    rw [e, show (i + 1) * 2 = i * 2 + 2 by omega]
    simpa using ih
theorem own_slots {w : World} {base : Nat} {v : Value} {l : List Slot} (h : w.ownsRow base 35 2 v l.length (slotCells l)) (ho : ∀ x, x ∈ l → x.ok) :
    ∃ a c, v = .slice a l.length c ∧ Slots w a l ∧ l.length ≤ c ∧ c ≤ maxLen := by
  obtain ⟨a, c, rfl, h1, h2, h3⟩ := own_form h
  refine ⟨a, c, rfl, ⟨ho, fun hn => ?_⟩, h1, h2⟩
  obtain ⟨g, rfl, _, _, hc⟩ := h3 (List.length_pos_iff.2 hn)
  refine ⟨g, 0, rfl, fun i x hx => ?_⟩
  obtain ⟨k0, k1⟩ := slotCells_get l i x hx
  rw [Nat.zero_add]
  exact ⟨hc _ _ k0, hc _ _ k1⟩
theorem slots_news {w : World} {ad : Addr} {l : List Slot} (h : Slots w (some ad) l) : ∀ (j : Nat) u, (slotCells l)[j]? = some u → w.cell? (ad.add j) = some u := by
  intro j u hj
  have hlt := (List.getElem?_eq_some_iff.1 hj).1
  rw [slotCells_len] at hlt
  have hi : j / 2 < l.length := by omega
  obtain ⟨b, off, e, hat⟩ := h.get hi
  injection e with e
  subst e
  have hx : l[j / 2]? = some l[j / 2] := List.getElem?_eq_getElem hi
  obtain ⟨c0, c1⟩ := hat _ _ hx
  obtain ⟨d0, d1⟩ := slotCells_get l (j / 2) _ hx
  rw [show (⟨b, off, none⟩ : Addr).add j = ⟨b, off + j, none⟩ by unfold Addr.add; split <;> simp_all]
  have h4 : j % 2 = 0 ∨ j % 2 = 1 := by omega
  rcases h4 with e | e
  · rw [show j / 2 * 2 = j by omega] at c0 d0
    rw [d0] at hj; injection hj with hj; subst hj; exact c0
  · rw [show j / 2 * 2 + 1 = j by omega] at d1
    rw [show off + j / 2 * 2 + 1 = off + j by omega] at c1
    rw [d1] at hj; injection hj with hj; subst hj; exact c1
theorem slotCells_one (l : List Slot) : ∀ u ∈ slotCells l, u.oneCell' = true := by
  intro u hu
  simp only [slotCells, List.mem_flatMap] at hu
  obtain ⟨x, -, hu⟩ := hu
  simp at hu
  rcases hu with rfl | rfl <;> rfl
theorem inf_slot : (Tryz.prog.info? 35).map (fun i => (i.zero, i.size, i.bytes)) = some (some (.agg #[.int .i64 0, .bool false]), 2, 16) := by kernel_rfl
theorem run_appS {w : World} {base : Nat} {v : Value} {n : Nat} {xs : List Value} {a : Option Addr} {l : List Slot} (c : Nat) (ty : TypeId) (hown : w.ownsRow base 35 2 v n xs) (hE : Slots w a l) (hb : base ≤ w.heap.size) (hn : n + l.length ≤ 5000) :
    ∃ v' w', (Builtin.append_ #[22, 22] ty #[v, .slice a l.length c]).run Tryz.prog w = .ok v' w' ∧ w'.ownsRow base 35 2 v' (n + l.length) (xs ++ slotCells l) ∧ w.grownBy w' v.ownBlock := by
  obtain ⟨i0, hi0, hz0, hz1, hz2⟩ := info_parts inf_slot
  match a, hE with
  | some ad, hE =>
    obtain ⟨v', w', h1, h2, h3, -, -⟩ := run_append_own_at (P := Tryz.prog) w base 22 ty 35 i0 (.agg #[.int .i64 0, .bool false]) 2 16 Tryz.underlying22 hi0 hz0 hz1 hz2 rfl (by omega) v n xs hown ad l.length c (slotCells l) (slotCells_len l) (slots_news hE) (slotCells_one l) (by unfold maxLen; omega) (by omega) hb
    exact ⟨v', w', h1, h2, h3⟩
  | none, hE =>
    have hl : l = [] := by
      match l, hE with
      | [], _ => rfl
      | x :: l, hE => obtain ⟨b, off, e, -⟩ := hE.get (k := 0) (by simp); cases e
    subst hl
    refine ⟨v, w, ?_, by simpa [slotCells] using hown, ⟨rfl, rfl, rfl, Nat.le_refl _, fun _ _ _ => rfl⟩⟩
    rcases hown.2 with ⟨rfl, rfl⟩ | ⟨g, cap, cur, rfl, _, _, hnc, _⟩
    · simp [Builtin.append_, run_underlying Tryz.underlying22, sizeOf, typeInfo, hi0, Builtin.lenOf, Builtin.firstCells]
    · simp [Builtin.append_, run_underlying Tryz.underlying22, sizeOf, typeInfo, hi0, Builtin.lenOf, Builtin.firstCells, hnc, storeCells]
theorem wpList_appS {w : World} {ops : Array Oper} {rest : List Oper} {o : Oper} {a : Act} {Q : Exit → Act → World → Prop} (hw : Region.wanted o (yielded ops a.tmps) = true) (s x : Operand)
    (ho : o.op = .call { callee := .builtin .append, args := #[s, x], argTypes := #[22, 22] })
    (base : Nat) (v : Value) (n : Nat) (xs : List Value) (hs : a.eval s = v) (hown : w.ownsRow base 35 2 v n xs)
    (ad : Option Addr) (c : Nat) (l : List Slot) (hx : a.eval x = .slice ad l.length c) (hE : Slots w ad l) (hb : base ≤ w.heap.size) (hn : n + l.length ≤ 5000)
    (h : ∀ v' w', w'.ownsRow base 35 2 v' (n + l.length) (xs ++ slotCells l) → w.grownBy w' v.ownBlock → wpList Tryz.prog ops Q rest (a.put o.dst v') w') :
    wpList Tryz.prog ops Q (o :: rest) a w := by
  refine wpList_step fun K hK => ?_
  rw [if_pos hw]
  obtain ⟨v', w', hr, h2, h3⟩ := run_appS c o.type hown hE hb hn
  unfold Oper.wp execOp
  simp only [ho, resolve, invoke, builtin, Sem.run_bind, Sem.run_pure, Result.andThen_ok, List.map_toArray, List.map_cons, List.map_nil, hs, hx, hr]
  exact hK _ _ (h v' w' h2 h3)
theorem own0S (w : World) (n : Nat) (h : w.heap.size = n) : (w.alloc (Obj.cells #[] 35)).ownsRow n 35 2 (.slice (some ⟨n, 0, none⟩) 0 0) 0 [] := by
  subst h
  exact World.ownsRow_lit w #[] 0 (Nat.le_refl _) (Nat.zero_le _) (by simp)
/-- Slots of the call's own. -/
def OwnS (B : Nat) (l : List Slot) (w : World) (v : Value) : Prop := w.ownsRow B 35 2 v l.length (slotCells l)
set_option maxHeartbeats 1000000 in
theorem hnClone (a : Option Addr) (c : Nat) (l : List Slot) (w : World) (h : Slots w a l) (hl : l.length ≤ 5000) : Calls Tryz.prog 35 #[.slice a l.length c] w (RM w (OwnS w.heap.size l)) := by
  match a, h with
  | none, h =>
    have hl0 : l = [] := by
      match l, h with
      | [], _ => rfl
      | x :: l, h => obtain ⟨b, off, e, -⟩ := h.get (k := 0) (by simp); cases e
    subst hl0
    have hnl := fun w n c => Lib.run_eql_slice_nil (P := Tryz.prog) w 22 35 none n c 0 0 Tryz.underlying22
    go_enter Tryz.func35, Tryz.ntmps35
    go_wp2_with fail
    go_ret
    exact RM.mk (own_nil _ _ _ _) (by repeat (first | assumption | exact Bl.refl _ | apply Bl.drewN | apply Bl.drew | apply Bl.alloc | (refine Bl.dr ?_ (by assumption)) | (refine Bl.trans ?_ (by assumption))))
  | some ad, h =>
    have hb0 : Bl w (w.alloc (Obj.cells #[] 35)) := (Bl.refl _).alloc _
    have hL0 := h.bl hb0
    have ho0 := own0S w w.heap.size rfl
    have hnl := fun w n c => Lib.run_eql_slice_nil (P := Tryz.prog) w 22 35 (some ad) n c 0 0 Tryz.underlying22
    go_enter Tryz.func35, Tryz.ntmps35
    go_wp2_with (at_builtin; refine wpList_appS ?hw _ _ rfl w.heap.size (.slice (some ⟨w.heap.size, 0, none⟩) 0 0) 0 [] rfl ho0 (some ad) c l rfl hL0 (by simp) (by omega) ?_)
    intro v1 wA hA1 hg1
    have hbA : Bl w wA := grown_bl hb0 ho0 hg1 (Nat.le_refl _)
    have HA1 := Lib.hid hA1
    clear hA1 hg1 hL0 hb0 ho0
    go_wp2_with fail
    go_ret
    exact RM.mk HA1.out hbA
/-- A table with slots of the call's own. -/
def OwnT (B : Nat) (t : Tb) (w : World) (v : Value) : Prop := ∃ s, v = .agg #[.int .i64 t.most, s] ∧ OwnS B t.slots w s
set_option maxHeartbeats 2000000 in
theorem hnCopied (a : Option Addr) (c : Nat) (t : Tb) (w : World) (h : TOk w a c t) (hl : t.slots.length ≤ 5000) : Calls Tryz.prog 24 #[t.v a c] w (RM w (OwnT w.heap.size t)) := by
  obtain ⟨mo, l⟩ := t
  have hs := h.slots
  simp only at hs hl
  have hC := fun w h => hnClone a c l w h hl
  have HC := Lib.hid hC
  have HS := Lib.hid hs
  unfold Tb.v
  simp only
  clear hC hs h
  go_enter Tryz.func24, Tryz.ntmps24
  go_wp2_with fail
  refine (HC.out _ (HS.out.bl (by repeat (first | assumption | exact Bl.refl _ | apply Bl.drewN | apply Bl.drew | apply Bl.alloc | (refine Bl.dr ?_ (by assumption)) | (refine Bl.trans ?_ (by assumption)))))).mono ?_; rintro e w1 ⟨v, rfl, hO, hb1⟩
  unfold OwnS at hO
  have hr : Mem w1 [(⟨w.heap.size, 0, none⟩, .int .i64 mo), (⟨w.heap.size, 1, none⟩, .slice a l.length c), (⟨w.heap.size + 1, 0, none⟩, .int .i64 0), (⟨w.heap.size + 1, 1, none⟩, .slice none 0 0)] := by
    refine Mem.bl ?_ hb1
    simp [Mem, go_sem]
  have hb : Bl w w1 := (by repeat (first | assumption | exact Bl.refl _ | apply Bl.drewN | apply Bl.drew | apply Bl.alloc | (refine Bl.dr ?_ (by assumption)) | (refine Bl.trans ?_ (by assumption))))
  obtain ⟨g, n, q, rfl⟩ : ∃ g n q, v = .slice g n q := by obtain ⟨g, q, e, _⟩ := own_form hO; exact ⟨g, _, q, e⟩
  have hsz : w.heap.size + 2 ≤ w1.heap.size := by have := hb1.size; simp at this; omega
  have HO := Lib.hid hO
  clear hb1 hO
  
  have hm := hr
  simp only [Mem, VE, List.cons_append, List.nil_append, and_true] at hm
  clear hr
  go_wp2_with fail
  have o1 := own_set (own_set (own_set HO.out ⟨w.heap.size, 1, none⟩ (by simp; omega) (.slice g n q)) ⟨w.heap.size + 1, 0, none⟩ (by simp) (.int .i64 mo)) ⟨w.heap.size + 1, 1, none⟩ (by simp) (.slice g n q)
  have O1 := Lib.hid o1
  clear o1
  
  refine bodyPost_ret (v := .agg #[.int .i64 mo, .slice g n q]) (by simp [results, Tryz.results24, go_sem, *]) rfl ?_
  exact RM.mk ⟨_, rfl, own_base O1.out (by simp; omega)⟩ (by repeat (first | assumption | exact Bl.refl _ | apply Bl.drewN | apply Bl.drew | apply Bl.alloc | (refine Bl.setCell ?_ _ (by first | (simp; done) | (simp; omega)) _) | (refine Bl.dr ?_ (by assumption)) | (refine Bl.trans ?_ (by assumption))))
end Go.Proofs.YtidclkojekodpaaGreatDoor

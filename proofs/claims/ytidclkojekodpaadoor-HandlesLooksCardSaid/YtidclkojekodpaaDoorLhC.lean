
/-
  The walk of HandlesLooks.
-/
import Derived.Test.YtidclkojekodpaaDoorHnN
import Derived.Test.YtidclkojekodpaaDoorHnI
import Derived.Test.YtidclkojekodpaaDoorHnJ
import Derived.Deep.AppendLies
import Derived.Deep.RegionHeld3
namespace Go.Proofs.YtidclkojekodpaaDoor
open Go.RowKit
set_option linter.unusedSimpArgs false
set_option linter.unusedVariables false
set_option maxRecDepth 100000

theorem step_appS {ops : Array Oper} {o : Oper} {a : Act} {w : World} {K : Act → World → Prop} {Q : Exit → Act → World → Prop} {E : Prop} (hgd : o.guard = none) (s x : Operand)
    (ho : o.op = .call { callee := .builtin .append, args := #[s, x], argTypes := #[22, 22] })
    (base : Nat) (v : Value) (n : Nat) (xs : List Value) (hs : a.eval s = v) (hown : w.ownsRow base 52 2 v n xs)
    (ad : Option Addr) (c : Nat) (l : List Slot) (hx : a.eval x = .slice ad l.length c) (hE : Slots w ad l) (hb : base ≤ w.heap.size) (hn : n + l.length ≤ 5000)
    (h : ∀ ao q w', w'.ownsRow base 52 2 (.slice ao (n + l.length) q) (n + l.length) (xs ++ slotCells l) → w.grownBy w' v.ownBlock → K (a.put o.dst (.slice ao (n + l.length) q)) w') :
    if Region.wanted o (yielded ops a.tmps) = true then Oper.wp Tryd.prog o a w K Q else E := by
  have hw : Region.wanted o (yielded ops a.tmps) = true := by simp [Region.wanted, hgd]
  rw [if_pos hw]
  obtain ⟨v', w', hr, h2, h3⟩ := run_appS c o.type hown hE hb hn
  obtain ⟨ao, q, rfl, -, -, -⟩ := own_form h2
  unfold Oper.wp execOp
  simp only [ho, resolve, invoke, builtin, Sem.run_bind, Sem.run_pure, Result.andThen_ok, List.map_toArray, List.map_cons, List.map_nil, hs, hx, hr]
  exact h ao q w' h2 h3
theorem step_appS0 {ops : Array Oper} {o : Oper} {a : Act} {w : World} {K : Act → World → Prop} {Q : Exit → Act → World → Prop} {E : Prop} (hgd : o.guard = none) (s x : Operand)
    (ho : o.op = .call { callee := .builtin .append, args := #[s, x], argTypes := #[22, 22] })
    (base k : Nat) (hs : a.eval s = .slice (some ⟨k, 0, none⟩) 0 0) (hown : w.ownsRow base 52 2 (.slice (some ⟨k, 0, none⟩) 0 0) 0 [])
    (ad : Option Addr) (c : Nat) (l : List Slot) (hx : a.eval x = .slice ad l.length c) (hE : Slots w ad l) (hb : base ≤ w.heap.size) (hn : l.length ≤ 5000) (hk : base ≤ k)
    (h : ∀ ao q w', OwnS base l w' (.slice ao l.length q) → w.grownBy w' (some k) → Bl w w' ∨ True → K (a.put o.dst (.slice ao l.length q)) w') :
    if Region.wanted o (yielded ops a.tmps) = true then Oper.wp Tryd.prog o a w K Q else E := by
  refine step_appS hgd s x ho base _ 0 [] hs hown ad c l hx hE hb (by omega) fun ao q w' h1 h2 => ?_
  have e : 0 + l.length = l.length := by omega
  rw [e] at h1 ⊢
  exact h ao q w' (by simpa [OwnS] using h1) h2 (.inr trivial)
theorem cutIt {P Q : Prop} (h : P) (k : P → Q) : Q := k h
theorem Mem.grownNe {w w' : World} {row : Option Nat} (hg : w.grownBy w' row) : ∀ {l : List (Addr × Value)}, Mem w l → (∀ q, q ∈ l → some q.1.block ≠ row) → Mem w' l
  | [], _, _ => trivial
  | (p, u) :: l, ⟨h1, h2, h3⟩, hn => by
    have hp := hg.block p.block (lt_of_cell h1) (hn (p, u) (by simp))
    exact ⟨(World.cell?_of_block (w := w) hp).trans h1, (World.frozen?_of_block (w := w) hp).trans h2, Mem.grownNe hg h3 (fun q hq => hn q (by simp [hq]))⟩
theorem grownBy_setCellAny (W : World) (b i : Nat) (v : Value) : W.grownBy (W.setCell ⟨b, i, none⟩ v) (some b) :=
  ⟨rfl, rfl, rfl, by simp, fun k _ hk => Below.heap_setCell _ _ _ k (fun e => hk (by rw [e]))⟩
theorem own_off {w : World} {base n : Nat} {v : Value} {xs : List Value} (h : w.ownsRow base 52 2 v n xs) {k : Nat} {cs : Array Value} (hk : w.heap[k]? = some (.cells cs 24 (0, 0))) (i : Nat) (u : Value) :
    (w.setCell ⟨k, i, none⟩ u).ownsRow base 52 2 v n xs ∧ ∃ cs', (w.setCell ⟨k, i, none⟩ u).heap[k]? = some (.cells cs' 24 (0, 0)) := by
  refine ⟨h.kept (grownBy_setCellAny w k i u) ?_, ?_⟩
  · rcases h.2 with ⟨rfl, _⟩ | ⟨g, cap, cur, rfl, _, hg, _⟩
    · exact .inl rfl
    · refine .inr fun e => ?_
      simp [Value.ownBlock] at e
      subst e
      rw [hk] at hg; cases hg
  · have hlt := (Array.getElem?_eq_some_iff.1 hk).1
    have he := (Array.getElem?_eq_some_iff.1 hk).2
    have e2 : (w.setCell ⟨k, i, none⟩ u).heap[k]? = some (.cells (cs.setIfInBounds i u) 24 (0, 0)) := by
      show (w.heap.modify k _)[k]? = _
      rw [Array.getElem?_eq_getElem (by rw [Array.size_modify]; exact hlt), Array.getElem_modify_self, he]
      rfl
    exact ⟨_, e2⟩
theorem tok_own {w : World} {base : Nat} {mo : Int} {l : List Slot} {ao : Option Addr} {q : Nat} (h : OwnS base l w (.slice ao l.length q)) (ho : ∀ s, s ∈ l → s.ok) (h1 : -9223372036854775808 ≤ mo) (h2 : mo ≤ 9223372036854775807) : TOk w ao q ⟨mo, l⟩ := by
  obtain ⟨a, c, e, hS, hl, hc⟩ := own_slots (show w.ownsRow _ _ _ _ _ _ from h) ho
  injection e with e1 _ e2
  subst e1 e2
  exact ⟨hS, hl, hc, h1, h2⟩
theorem meetSet {w w1 w2 : World} {mo i g : Int} {a : Option Addr} {c : Nat} {l : List Slot} {ao : Option Addr} {q k : Nat} (hr : Mem w1 [(⟨w.heap.size, 0, none⟩, .int .i64 mo), (⟨w.heap.size, 1, none⟩, .slice a l.length c), (⟨w.heap.size + 1, 0, none⟩, .int .i64 i), (⟨w.heap.size + 1, 1, none⟩, .int .i64 g)])
    (hb : Bl w w1) (hb3 : Bl w1 w2) (hown : OwnS w1.heap.size l w2 (.slice ao l.length q)) (ho : ∀ s, s ∈ l → s.ok) (h1 : -9223372036854775808 ≤ mo) (h2 : mo ≤ 9223372036854775807) (hk1 : w1.heap.size ≤ k)
    (hk : w2.heap[k]? = some (.cells #[.int .i64 0, .slice none 0 0] 24 (0, 0))) :
    ∃ (Bv : Nat) (a5 : Option Addr) (c5 : Nat), Value.pointer (some ⟨k, 0, none⟩) = .pointer (some ⟨Bv, 0, none⟩) ∧ Mem ((w2.setCell ⟨k, 0, none⟩ (.int .i64 mo)).setCell ⟨k, 1, none⟩ (.slice ao l.length q)) [(⟨w.heap.size, 0, none⟩, .int .i64 mo), (⟨w.heap.size, 1, none⟩, .slice a l.length c), (⟨w.heap.size + 1, 0, none⟩, .int .i64 i), (⟨w.heap.size + 1, 1, none⟩, .int .i64 g), (⟨Bv, 0, none⟩, .int .i64 mo), (⟨Bv, 1, none⟩, .slice a5 l.length c5)] ∧
      TOk ((w2.setCell ⟨k, 0, none⟩ (.int .i64 mo)).setCell ⟨k, 1, none⟩ (.slice ao l.length q)) a5 c5 ⟨mo, l⟩ ∧ Bl w ((w2.setCell ⟨k, 0, none⟩ (.int .i64 mo)).setCell ⟨k, 1, none⟩ (.slice ao l.length q)) := by
  obtain ⟨o1, cs, hk2⟩ := own_off (show w2.ownsRow _ _ _ _ _ _ from hown) hk 0 (.int .i64 mo)
  obtain ⟨o2, _⟩ := own_off o1 hk2 1 (.slice ao l.length q)
  have c0 : w2.cell? ⟨k, 0, none⟩ = some (.int .i64 0) := by simp [World.cell?, hk]
  have c1 : w2.cell? ⟨k, 1, none⟩ = some (.slice none 0 0) := by simp [World.cell?, hk]
  have f0 : w2.frozen? ⟨k, 0, none⟩ = false := by simp [World.frozen?, hk]
  have f1 : w2.frozen? ⟨k, 1, none⟩ = false := by simp [World.frozen?, hk]
  have hbl := ((hb3.setCell ⟨k, 0, none⟩ hk1 (.int .i64 mo)).setCell ⟨k, 1, none⟩ hk1 (.slice ao l.length q))
  have hm : Mem ((w2.setCell ⟨k, 0, none⟩ (.int .i64 mo)).setCell ⟨k, 1, none⟩ (.slice ao l.length q)) [(⟨k, 0, none⟩, .int .i64 mo), (⟨k, 1, none⟩, .slice ao l.length q)] := by simp [Mem, go_sem, c0, c1, f0, f1]
  exact ⟨k, ao, q, rfl, (hr.bl hbl).app hm, tok_own (show OwnS w1.heap.size l _ _ from o2) ho h1 h2, hb.trans hbl⟩
theorem meetNew {w w1 w2 : World} {mo i g : Int} {a : Option Addr} {c : Nat} {l : List Slot} {ao : Option Addr} {q : Nat} (hr : Mem w1 [(⟨w.heap.size, 0, none⟩, .int .i64 mo), (⟨w.heap.size, 1, none⟩, .slice a l.length c), (⟨w.heap.size + 1, 0, none⟩, .int .i64 i), (⟨w.heap.size + 1, 1, none⟩, .int .i64 g)])
    (hb : Bl w w1) (hb3 : Bl w1 w2) (hown : OwnS w1.heap.size l w2 (.slice ao l.length q)) (ho : ∀ s, s ∈ l → s.ok) (h1 : -9223372036854775808 ≤ mo) (h2 : mo ≤ 9223372036854775807) :
    ∃ (Bv : Nat) (a5 : Option Addr) (c5 : Nat), Value.pointer (some ⟨w2.heap.size, 0, none⟩) = .pointer (some ⟨Bv, 0, none⟩) ∧ Mem (w2.alloc (Obj.cells #[.int .i64 mo, .slice ao l.length q] 24)) [(⟨w.heap.size, 0, none⟩, .int .i64 mo), (⟨w.heap.size, 1, none⟩, .slice a l.length c), (⟨w.heap.size + 1, 0, none⟩, .int .i64 i), (⟨w.heap.size + 1, 1, none⟩, .int .i64 g), (⟨Bv, 0, none⟩, .int .i64 mo), (⟨Bv, 1, none⟩, .slice a5 l.length c5)] ∧
      TOk (w2.alloc (Obj.cells #[.int .i64 mo, .slice ao l.length q] 24)) a5 c5 ⟨mo, l⟩ ∧ Bl w (w2.alloc (Obj.cells #[.int .i64 mo, .slice ao l.length q] 24)) := by
  have hbl := hb3.alloc (Obj.cells #[.int .i64 mo, .slice ao l.length q] 24)
  have hm : Mem (w2.alloc (Obj.cells #[.int .i64 mo, .slice ao l.length q] 24)) [(⟨w2.heap.size, 0, none⟩, .int .i64 mo), (⟨w2.heap.size, 1, none⟩, .slice ao l.length q)] := by simp [Mem, go_sem]
  exact ⟨w2.heap.size, ao, q, rfl, (hr.bl hbl).app hm, (tok_own hown ho h1 h2).bl ((Bl.refl _).alloc _), hb.trans hbl⟩
theorem heap_new (w : World) (o : Obj) : (w.alloc o).heap[w.heap.size]? = some o := by
  show (w.heap.push o)[w.heap.size]? = some o
  exact Array.getElem?_push_size
theorem heap_second (w1 : World) (o1 o2 : Obj) : ((w1.alloc o1).alloc o2).heap[w1.heap.size + 1]? = some o2 := by
  have := heap_new (w1.alloc o1) o2
  rwa [World.size_alloc] at this
theorem heap_drew (w : World) (k : Nat) : w.drew.heap[k]? = w.heap[k]? := rfl
set_option maxHeartbeats 8000000 in
theorem lawHnLooks (a : Option Addr) (c : Nat) (t : Tb) (i g : Int) (w : World) (h : TOk w a c t) (hi : -9223372036854775808 ≤ i ∧ i ≤ 9223372036854775807) : Calls Tryd.prog 3 #[t.v a c, .agg #[.int .i64 i, .int .i64 g]] w (RB w (.bool true)) := by
  have hF := fun w h => lawHnFar a c t w h
  have hK1 := fun w h => hnLook a c t i g w h hi
  have hK2 := fun w h => refLook a c t i g w h hi
  have hD1 := fun w h => hnDrop a c t i g w h hi
  have hD2 := fun w h => refDrop a c t i g w h hi
  obtain ⟨⟨lk, le⟩, e1⟩ : ∃ x, tlook t (i, g) = x := ⟨_, rfl⟩
  obtain ⟨⟨⟨gm, gl⟩, ge⟩, e2⟩ : ∃ x, tdrop t (i, g) = x := ⟨_, rfl⟩
  rw [e1] at hK1 hK2
  rw [e2] at hD1 hD2
  simp only at hK1 hK2
  clear e1 e2 hi
  have HF := Lib.hid hF
  have HK1 := Lib.hid hK1
  have HK2 := Lib.hid hK2
  have HD1 := Lib.hid hD1
  have HD2 := Lib.hid hD2
  clear hF hK1 hK2 hD1 hD2
  by_cases hf : 40 < t.slots.length
  · have hf' : decide (40 < t.slots.length) = true := by simpa using hf
    rw [hf'] at HF
    clear hf hf'
    
    have HO := Lib.hid h
    obtain ⟨mo, l⟩ := t
    have hs := h.slots
    have hc1 := h.len
    have hc2 := h.cap
    simp only at hs hc1
    unfold maxLen at hc2
    unfold Tb.v
    simp only
    clear h
    clear hs
    go_enter Tryd.func3, Tryd.ntmps3
    go_wp2_with fail
    refine (HF.out _ (HO.out.bl (by repeat (first | assumption | exact Bl.refl _ | apply Bl.drewN | apply Bl.drew | apply Bl.alloc | (refine Bl.dr ?_ (by assumption)) | (refine Bl.trans ?_ (by assumption)))))).mono ?_; rintro e w1 ⟨rfl, hb1⟩
    have hb : Bl w w1 := (by repeat (first | assumption | exact Bl.refl _ | apply Bl.drewN | apply Bl.drew | apply Bl.alloc | (refine Bl.dr ?_ (by assumption)) | (refine Bl.trans ?_ (by assumption))))
    clear hb1
    go_wp2_with fail
    refine (lawHnShown _).mono ?_; rintro e w2 ⟨rfl, hb1⟩
    go_wp2_with fail
    go_ret
    exact RB.mk rfl (hb.trans hb1)
  · have hf' : decide (40 < t.slots.length) = false := by simpa using hf
    rw [hf'] at HF
    clear hf'
    
    have HO := Lib.hid h
    obtain ⟨mo, l⟩ := t
    have hs := h.slots
    have hc1 := h.len
    have hc2 := h.cap
    simp only at hs hc1
    unfold maxLen at hc2
    unfold Tb.v
    simp only
    clear h
    simp only at hf
    go_enter Tryd.func3, Tryd.ntmps3
    go_wp2_with fail
    refine (HF.out _ (HO.out.bl (by repeat (first | assumption | exact Bl.refl _ | apply Bl.drewN | apply Bl.drew | apply Bl.alloc | (refine Bl.dr ?_ (by assumption)) | (refine Bl.trans ?_ (by assumption)))))).mono ?_; rintro e w1 ⟨rfl, hb1⟩
    have hb : Bl w w1 := (by repeat (first | assumption | exact Bl.refl _ | apply Bl.drewN | apply Bl.drew | apply Bl.alloc | (refine Bl.dr ?_ (by assumption)) | (refine Bl.trans ?_ (by assumption))))
    have hr : Mem w1 [(⟨w.heap.size, 0, none⟩, .int .i64 mo), (⟨w.heap.size, 1, none⟩, .slice a l.length c), (⟨w.heap.size + 1, 0, none⟩, .int .i64 i), (⟨w.heap.size + 1, 1, none⟩, .int .i64 g)] := by
      refine Mem.bl ?_ hb1
      simp [Mem, go_sem]
    have hsw : w.heap.size + 1 < w1.heap.size := by have := hb1.size; simp at this; omega
    clear hb1
    have HR := Lib.hid hr
    
    have hm := hr
    simp only [Mem, VE, List.cons_append, List.nil_append, and_true] at hm
    clear hr
    have hS1 := hs.bl hb
    have HS1 := Lib.hid hS1
    have HKF : Hid (∀ w', Bl w1 w' → Bl w1 w' ∧ w'.cell? ⟨w.heap.size, 0, none⟩ = some (.int .i64 mo) ∧ w'.cell? ⟨w.heap.size, 1, none⟩ = some (.slice a l.length c)) := Lib.hid (fun w' k => by have := HR.out.bl k; simp only [Mem, and_true] at this; simp [this, k])
    have hb00 : Bl w1 w1 := Bl.refl _
    clear hs hS1
    go_wp2_with fail
    go_cut [5] (fun s wx => ∃ (Bv : Nat) (a5 : Option Addr) (c5 : Nat), s = .pointer (some ⟨Bv, 0, none⟩) ∧ Mem wx [(⟨w.heap.size, 0, none⟩, .int .i64 mo), (⟨w.heap.size, 1, none⟩, .slice a l.length c), (⟨w.heap.size + 1, 0, none⟩, .int .i64 i), (⟨w.heap.size + 1, 1, none⟩, .int .i64 g), (⟨Bv, 0, none⟩, .int .i64 mo), (⟨Bv, 1, none⟩, .slice a5 l.length c5)] ∧ TOk wx a5 c5 ⟨mo, l⟩ ∧ Bl w wx)
    case first =>
      have hk0 := HKF.out _ hb00
      go_region_held3 (fun w' => (Bl w1 w' ∧ w'.cell? ⟨w.heap.size, 0, none⟩ = some (.int .i64 mo) ∧ w'.cell? ⟨w.heap.size, 1, none⟩ = some (.slice a l.length c))) (exact HKF.out _ (by repeat (first | assumption | exact Bl.refl _ | apply Bl.drewN | apply Bl.drew | apply Bl.alloc | (refine Bl.setCell ?_ _ (by first | (simp; done) | (simp; omega)) _) | (refine Bl.dr ?_ (by assumption)) | (refine Bl.trans ?_ (by assumption)))))
        ((refine step_appS0 (by rfl) _ _ (by rfl) w1.heap.size _ (by rfl) (by first | exact own_base (own0S _ _ rfl) (by simp) | exact own_base ((own0S _ _ rfl).alloc _) (by simp) | exact own_base (own0S _ _ (by simp)) (by simp; omega) | exact own_base (own0S _ _ (by simp)) (by simp)) a c l (by rfl) (HS1.out.bl (by repeat (first | assumption | exact Bl.refl _ | apply Bl.drewN | apply Bl.drew | apply Bl.alloc | (refine Bl.dr ?_ (by assumption)) | (refine Bl.trans ?_ (by assumption))))) (by first | (simp; done) | (simp; omega)) (by omega) (by first | (simp; done) | (simp; omega)) ?_; intro ao q w2 hown hg _; have hb3 : Bl w1 w2 := Bl.grown (by repeat (first | assumption | exact Bl.refl _ | apply Bl.drewN | apply Bl.drew | apply Bl.alloc | (refine Bl.dr ?_ (by assumption)) | (refine Bl.trans ?_ (by assumption)))) hg (by intro k hk; injection hk with hk; omega); first | (refine cutIt (P := Mem w2 [(⟨w1.heap.size + 1, 0, none⟩, .int .i64 0), (⟨w1.heap.size + 1, 1, none⟩, .slice none 0 0)]) ?_ ?_; (focus (refine Mem.grownNe hg ?_ ?_; (focus (simp [Mem, go_sem]; done)); (focus (intro q hq; simp at hq; rcases hq with rfl | rfl <;> simp; done)))); intro hm5; simp only [Mem, and_true] at hm5) | (refine cutIt (P := Mem w2 [(⟨w1.heap.size, 0, none⟩, .int .i64 0), (⟨w1.heap.size, 1, none⟩, .slice none 0 0)]) ?_ ?_; (focus (refine Mem.grownNe hg ?_ ?_; (focus (simp [Mem, go_sem]; done)); (focus (intro q hq; simp at hq; rcases hq with rfl | rfl <;> simp; done)))); intro hm5; simp only [Mem, and_true] at hm5) | skip))
      all_goals go_wp2_with fail
      all_goals go_meet
      all_goals first
        | exact meetNew HR.out hb hb3 hown HS1.out.ok HO.out.lo HO.out.hi
        | exact meetSet HR.out hb hb3 hown HS1.out.ok HO.out.lo HO.out.hi (by simp) ((hg.block w1.heap.size (by first | (simp; done) | (simp; omega)) (by simp)).trans ((Below.heap_alloc _ _ _ (by simp)).trans (heap_new w1 _)))
        | exact meetSet HR.out hb hb3 hown HS1.out.ok HO.out.lo HO.out.hi (by simp) ((hg.block (w1.heap.size + 1) (by first | (simp; done) | (simp; omega)) (by simp)).trans (heap_second w1 _ _))
    case rest =>
      obtain ⟨Bv, a5, c5, rfl, hr, hT5, hb⟩ := hcut
      clear hm HR HKF HS1 hb00
      have dA : w.heap.size < wc.heap.size := lt_of_cell hr.1
      have dX : w.heap.size + 1 < wc.heap.size := lt_of_cell hr.2.2.2.2.1
      have dV : Bv < wc.heap.size := lt_of_cell hr.2.2.2.2.2.2.2.2.1
      obtain ⟨r0, r0f, r1, r1f, r2, r2f, r3, r3f, r4, r4f, r5, r5f, -⟩ := hr
      have HA : Hid (Mem wc [(⟨w.heap.size, 0, none⟩, .int .i64 mo), (⟨w.heap.size, 1, none⟩, .slice a l.length c)]) := Lib.hid ⟨r0, r0f, r1, r1f, trivial⟩
      have HX : Hid (Mem wc [(⟨w.heap.size + 1, 0, none⟩, .int .i64 i), (⟨w.heap.size + 1, 1, none⟩, .int .i64 g)]) := Lib.hid ⟨r2, r2f, r3, r3f, trivial⟩
      have HV : Hid (Mem wc [(⟨Bv, 0, none⟩, .int .i64 mo), (⟨Bv, 1, none⟩, .slice a5 l.length c5)]) := Lib.hid ⟨r4, r4f, r5, r5f, trivial⟩
      have HT5 := Lib.hid hT5
      clear hT5
      have hm := trivial
      go_wp2_with fail
      clear r0 r0f r1 r1f r2 r2f r3 r3f r4 r4f r5 r5f
      refine (HK1.out _ (HO.out.bl hb)).mono ?_; rintro e wd ⟨rfl, hb1⟩
      have qA := HA.out.bl hb1
      have qX := HX.out.bl hb1
      have qV := HV.out.bl hb1
      have qT5 := HT5.out.bl hb1
      have hbn := hb.trans hb1
      have d1_A : w.heap.size < wd.heap.size := Nat.lt_of_lt_of_le dA hb1.size
      have d1_X : w.heap.size + 1 < wd.heap.size := Nat.lt_of_lt_of_le dX hb1.size
      have d1_V : Bv < wd.heap.size := Nat.lt_of_lt_of_le dV hb1.size
      clear hb hm HA HX HV HT5
      have HA := Lib.hid qA
      have HX := Lib.hid qX
      have HV := Lib.hid qV
      have HT5 := Lib.hid qT5
      have hb := hbn
      have hm := ((qA).app qX).app qV
      simp only [Mem, List.cons_append, List.nil_append, and_true] at hm
      clear hbn qA qX qV qT5
      clear hb1
      go_wp2_with fail
      refine (HK2.out _ (HO.out.bl hb)).mono ?_; rintro e we ⟨rfl, hb1⟩
      have qA := HA.out.bl hb1
      have qX := HX.out.bl hb1
      have qV := HV.out.bl hb1
      have qT5 := HT5.out.bl hb1
      have hbn := hb.trans hb1
      have d2_A : w.heap.size < we.heap.size := Nat.lt_of_lt_of_le d1_A hb1.size
      have d2_X : w.heap.size + 1 < we.heap.size := Nat.lt_of_lt_of_le d1_X hb1.size
      have d2_V : Bv < we.heap.size := Nat.lt_of_lt_of_le d1_V hb1.size
      clear hb hm HA HX HV HT5
      have HA := Lib.hid qA
      have HX := Lib.hid qX
      have HV := Lib.hid qV
      have HT5 := Lib.hid qT5
      have hb := hbn
      have hm := ((qA).app qX).app qV
      simp only [Mem, List.cons_append, List.nil_append, and_true] at hm
      clear hbn qA qX qV qT5
      clear hb1
      go_wp2_with fail
      refine (HD1.out _ (HO.out.bl hb)).mono ?_; rintro e wf ⟨v, rfl, ⟨vt, rfl, hV⟩, hb1⟩
      obtain ⟨a1, c1, rfl, hV, hF1⟩ := hV
      unfold Tb.v
      simp only at hV hF1 ⊢
      have qA := HA.out.bl hb1
      have qX := HX.out.bl hb1
      have qV := HV.out.bl hb1
      have qT5 := HT5.out.bl hb1
      have hbn := hb.trans hb1
      have d3_A : w.heap.size < wf.heap.size := Nat.lt_of_lt_of_le d2_A hb1.size
      have d3_X : w.heap.size + 1 < wf.heap.size := Nat.lt_of_lt_of_le d2_X hb1.size
      have d3_V : Bv < wf.heap.size := Nat.lt_of_lt_of_le d2_V hb1.size
      clear hb hm HA HX HV HT5
      have HA := Lib.hid qA
      have HX := Lib.hid qX
      have HV := Lib.hid qV
      have HT5 := Lib.hid qT5
      have hb := hbn
      have hm := ((qA).app qX).app qV
      simp only [Mem, List.cons_append, List.nil_append, and_true] at hm
      clear hbn qA qX qV qT5
      clear hb1
      have qA := (HA.out.alloc (Obj.cells #[.int .i64 gm, .slice a1 gl.length c1] 24))
      have qX := (HX.out.alloc (Obj.cells #[.int .i64 gm, .slice a1 gl.length c1] 24))
      have qV := (HV.out.alloc (Obj.cells #[.int .i64 gm, .slice a1 gl.length c1] 24))
      have qP := (show Mem (wf.alloc (Obj.cells #[.int .i64 gm, .slice a1 gl.length c1] 24)) [(⟨wf.heap.size, 0, none⟩, .int .i64 gm), (⟨wf.heap.size, 1, none⟩, .slice a1 gl.length c1)] by simp [Mem, go_sem])
      have qT5 := (HT5.out.bl ((Bl.refl _).alloc (Obj.cells #[.int .i64 gm, .slice a1 gl.length c1] 24)))
      have qT1 := (hV.bl ((Bl.refl _).alloc (Obj.cells #[.int .i64 gm, .slice a1 gl.length c1] 24)))
      have hbn := (hb.alloc (Obj.cells #[.int .i64 gm, .slice a1 gl.length c1] 24))
      have d4_A : w.heap.size < (wf.alloc (Obj.cells #[.int .i64 gm, .slice a1 gl.length c1] 24)).heap.size := by simp; omega
      have d4_X : w.heap.size + 1 < (wf.alloc (Obj.cells #[.int .i64 gm, .slice a1 gl.length c1] 24)).heap.size := by simp; omega
      have d4_V : Bv < (wf.alloc (Obj.cells #[.int .i64 gm, .slice a1 gl.length c1] 24)).heap.size := by simp; omega
      have d4_P : wf.heap.size < (wf.alloc (Obj.cells #[.int .i64 gm, .slice a1 gl.length c1] 24)).heap.size := by simp
      clear hb HA HX HV HT5 
      have HA := Lib.hid qA
      have HX := Lib.hid qX
      have HV := Lib.hid qV
      have HP := Lib.hid qP
      have HT5 := Lib.hid qT5
      have HT1 := Lib.hid qT1
      have yy := (((qA).app qX).app qV).app qP
      simp only [Mem, List.cons_append, List.nil_append, and_true] at yy
      clear qA qX qV qP qT5 qT1
      go_wp2_with fail
      have hb := hbn
      clear hbn hm yy 
      generalize wf.alloc (Obj.cells #[.int .i64 gm, .slice a1 gl.length c1] 24) = W3 at *
      have hm := trivial
      clear hV
      refine (HD2.out _ (HO.out.bl hb)).mono ?_; rintro e wg ⟨v, rfl, ⟨vt, rfl, hV⟩, hb1⟩
      obtain ⟨a2, c2, rfl, hV, hF2⟩ := hV
      unfold Tb.v
      simp only at hV hF2 ⊢
      have qA := HA.out.bl hb1
      have qX := HX.out.bl hb1
      have qV := HV.out.bl hb1
      have qP := HP.out.bl hb1
      have qT5 := HT5.out.bl hb1
      have qT1 := HT1.out.bl hb1
      have hbn := hb.trans hb1
      have d5_A : w.heap.size < wg.heap.size := Nat.lt_of_lt_of_le d4_A hb1.size
      have d5_X : w.heap.size + 1 < wg.heap.size := Nat.lt_of_lt_of_le d4_X hb1.size
      have d5_V : Bv < wg.heap.size := Nat.lt_of_lt_of_le d4_V hb1.size
      have d5_P : wf.heap.size < wg.heap.size := Nat.lt_of_lt_of_le d4_P hb1.size
      clear hb hm HA HX HV HP HT5 HT1
      have HA := Lib.hid qA
      have HX := Lib.hid qX
      have HV := Lib.hid qV
      have HP := Lib.hid qP
      have HT5 := Lib.hid qT5
      have HT1 := Lib.hid qT1
      have hb := hbn
      have hm := (((qA).app qX).app qV).app qP
      simp only [Mem, List.cons_append, List.nil_append, and_true] at hm
      clear hbn qA qX qV qP qT5 qT1
      clear hb1
      have qA := (HA.out.alloc (Obj.cells #[.int .i64 gm, .slice a2 gl.length c2] 24))
      have qX := (HX.out.alloc (Obj.cells #[.int .i64 gm, .slice a2 gl.length c2] 24))
      have qV := (HV.out.alloc (Obj.cells #[.int .i64 gm, .slice a2 gl.length c2] 24))
      have qP := (HP.out.alloc (Obj.cells #[.int .i64 gm, .slice a2 gl.length c2] 24))
      have qQ := (show Mem (wg.alloc (Obj.cells #[.int .i64 gm, .slice a2 gl.length c2] 24)) [(⟨wg.heap.size, 0, none⟩, .int .i64 gm), (⟨wg.heap.size, 1, none⟩, .slice a2 gl.length c2)] by simp [Mem, go_sem])
      have qT5 := (HT5.out.bl ((Bl.refl _).alloc (Obj.cells #[.int .i64 gm, .slice a2 gl.length c2] 24)))
      have qT1 := (HT1.out.bl ((Bl.refl _).alloc (Obj.cells #[.int .i64 gm, .slice a2 gl.length c2] 24)))
      have qT2 := (hV.bl ((Bl.refl _).alloc (Obj.cells #[.int .i64 gm, .slice a2 gl.length c2] 24)))
      have hbn := (hb.alloc (Obj.cells #[.int .i64 gm, .slice a2 gl.length c2] 24))
      have d6_A : w.heap.size < (wg.alloc (Obj.cells #[.int .i64 gm, .slice a2 gl.length c2] 24)).heap.size := by simp; omega
      have d6_X : w.heap.size + 1 < (wg.alloc (Obj.cells #[.int .i64 gm, .slice a2 gl.length c2] 24)).heap.size := by simp; omega
      have d6_V : Bv < (wg.alloc (Obj.cells #[.int .i64 gm, .slice a2 gl.length c2] 24)).heap.size := by simp; omega
      have d6_P : wf.heap.size < (wg.alloc (Obj.cells #[.int .i64 gm, .slice a2 gl.length c2] 24)).heap.size := by simp; omega
      have d6_Q : wg.heap.size < (wg.alloc (Obj.cells #[.int .i64 gm, .slice a2 gl.length c2] 24)).heap.size := by simp
      clear hb HA HX HV HP HT5 HT1 
      have HA := Lib.hid qA
      have HX := Lib.hid qX
      have HV := Lib.hid qV
      have HP := Lib.hid qP
      have HQ := Lib.hid qQ
      have HT5 := Lib.hid qT5
      have HT1 := Lib.hid qT1
      have HT2 := Lib.hid qT2
      have yy := ((((qA).app qX).app qV).app qP).app qQ
      simp only [Mem, List.cons_append, List.nil_append, and_true] at yy
      clear qA qX qV qP qQ qT5 qT1 qT2
      go_wp2_with fail
      have hb := hbn
      clear hbn hm yy 
      generalize wg.alloc (Obj.cells #[.int .i64 gm, .slice a2 gl.length c2] 24) = W4 at *
      have hm := trivial
      clear hV
      refine (refHnSame a1 c1 a2 c2 ⟨gm, gl⟩ _ HT1.out HT2.out).mono ?_; rintro e wh ⟨rfl, hb1⟩
      have qA := HA.out.bl hb1
      have qX := HX.out.bl hb1
      have qV := HV.out.bl hb1
      have qP := HP.out.bl hb1
      have qQ := HQ.out.bl hb1
      have qT5 := HT5.out.bl hb1
      have qT1 := HT1.out.bl hb1
      have qT2 := HT2.out.bl hb1
      have hbn := hb.trans hb1
      have d7_A : w.heap.size < wh.heap.size := Nat.lt_of_lt_of_le d6_A hb1.size
      have d7_X : w.heap.size + 1 < wh.heap.size := Nat.lt_of_lt_of_le d6_X hb1.size
      have d7_V : Bv < wh.heap.size := Nat.lt_of_lt_of_le d6_V hb1.size
      have d7_P : wf.heap.size < wh.heap.size := Nat.lt_of_lt_of_le d6_P hb1.size
      have d7_Q : wg.heap.size < wh.heap.size := Nat.lt_of_lt_of_le d6_Q hb1.size
      clear hb hm HA HX HV HP HQ HT5 HT1 HT2
      have HA := Lib.hid qA
      have HX := Lib.hid qX
      have HV := Lib.hid qV
      have HP := Lib.hid qP
      have HQ := Lib.hid qQ
      have HT5 := Lib.hid qT5
      have HT1 := Lib.hid qT1
      have HT2 := Lib.hid qT2
      have hb := hbn
      have hm := ((((qA).app qX).app qV).app qP).app qQ
      simp only [Mem, List.cons_append, List.nil_append, and_true] at hm
      clear hbn qA qX qV qP qQ qT5 qT1 qT2
      clear hb1
      go_wp2_with fail
      refine (refHnSame a c a5 c5 ⟨mo, l⟩ _ (HO.out.bl hb) HT5.out).mono ?_; rintro e wi ⟨rfl, hb1⟩
      have qA := HA.out.bl hb1
      have qX := HX.out.bl hb1
      have qV := HV.out.bl hb1
      have qP := HP.out.bl hb1
      have qQ := HQ.out.bl hb1
      have qT5 := HT5.out.bl hb1
      have qT1 := HT1.out.bl hb1
      have qT2 := HT2.out.bl hb1
      have hbn := hb.trans hb1
      have d8_A : w.heap.size < wi.heap.size := Nat.lt_of_lt_of_le d7_A hb1.size
      have d8_X : w.heap.size + 1 < wi.heap.size := Nat.lt_of_lt_of_le d7_X hb1.size
      have d8_V : Bv < wi.heap.size := Nat.lt_of_lt_of_le d7_V hb1.size
      have d8_P : wf.heap.size < wi.heap.size := Nat.lt_of_lt_of_le d7_P hb1.size
      have d8_Q : wg.heap.size < wi.heap.size := Nat.lt_of_lt_of_le d7_Q hb1.size
      clear hb hm HA HX HV HP HQ HT5 HT1 HT2
      have HA := Lib.hid qA
      have HX := Lib.hid qX
      have HV := Lib.hid qV
      have HP := Lib.hid qP
      have HQ := Lib.hid qQ
      have HT5 := Lib.hid qT5
      have HT1 := Lib.hid qT1
      have HT2 := Lib.hid qT2
      have hb := hbn
      have hm := ((((qA).app qX).app qV).app qP).app qQ
      simp only [Mem, List.cons_append, List.nil_append, and_true] at hm
      clear hbn qA qX qV qP qQ qT5 qT1 qT2
      clear hb1
      go_wp2_with fail
      refine (lawHnShown _).mono ?_; rintro e wn ⟨rfl, hb1⟩
      have hb3 := hb.trans hb1
      go_wp2_with fail
      go_ret
      exact RB.mk rfl hb3
end Go.Proofs.YtidclkojekodpaaDoor


/-
  The reference's list in order: all, sorted, Sort.
-/
import Derived.Test.YtcgpkcaaojkpcaaGreatDoorEsN
namespace Go.Proofs.YtcgpkcaaojkpcaaGreatDoor
open Go.RowKit Go.Sort
set_option linter.unusedSimpArgs false
set_option linter.unusedVariables false
set_option maxRecDepth 100000

/-! ### Plain: one more is set in -/
section
variable {α : Type} {cf : α → α → Int}
theorem foldl_insb_take {F : List α} {B : List α} {t : Nat} {x : α} (h : B[t]? = some x) : (B.take (t + 1)).foldl (insb cf) F = insb cf ((B.take t).foldl (insb cf) F) x := by
  obtain ⟨ht, rfl⟩ := List.getElem?_eq_some_iff.1 h
  rw [List.take_succ_eq_append_getElem ht, List.foldl_append]; rfl
theorem insg_stop0 {A : List α} {x : α} {s : Nat} (hs : s = 0) : insb cf (A.take s) x ++ A.drop s = A.take s ++ x :: A.drop s := by subst hs; simp [insb_nil]
theorem insg_stop1 {A : List α} {x z : α} {s : Nat} (hz : A[s]? = some z) (h : ¬ cf x z < 0) : insb cf (A.take (s + 1)) x ++ A.drop (s + 1) = A.take (s + 1) ++ x :: A.drop (s + 1) := by
  obtain ⟨ht, rfl⟩ := List.getElem?_eq_some_iff.1 hz
  rw [List.take_succ_eq_append_getElem ht, insb_snoc_ge _ _ _ h]
  simp only [List.append_assoc, List.cons_append, List.nil_append]
theorem insg_go {A : List α} {x z : α} {s : Nat} (hz : A[s]? = some z) (h : cf x z < 0) : insb cf (A.take (s + 1)) x ++ A.drop (s + 1) = insb cf (A.take s) x ++ A.drop s := by
  obtain ⟨ht, rfl⟩ := List.getElem?_eq_some_iff.1 hz
  rw [List.take_succ_eq_append_getElem ht, insb_snoc_lt _ _ _ h, List.drop_eq_getElem_cons ht]; simp
end
theorem entCells_app (l m : List Ent) : entCells (l ++ m) = entCells l ++ entCells m := by simp [entCells]
theorem entCells_one' (x : Ent) : entCells [x] = [.string x.key, .string x.val, .bool x.dead, .int .i64 x.seq] := by simp [entCells]
/-! ### A part of a row is appended -/
theorem wpList_appM {w : World} {ops : Array Oper} {rest : List Oper} {o : Oper} {a : Act} {Q : Exit → Act → World → Prop} (hw : Region.wanted o (yielded ops a.tmps) = true) (s x : Operand)
    (ho : o.op = .call { callee := .builtin .append, args := #[s, x], argTypes := #[22, 22] })
    (base : Nat) (v : Value) (n : Nat) (xs : List Value) (hs : a.eval s = v) (hown : w.ownsRow base 34 4 v n xs)
    (ad : Option Addr) (c : Nat) (l : List Ent) (m : Nat) (hm : l.length = m) (hx : a.eval x = .slice ad m c) (hE : Ents w ad l) (hb : base ≤ w.heap.size) (hn : n + m ≤ 500000)
    (h : ∀ v' w', w'.ownsRow base 34 4 v' (n + m) (xs ++ entCells l) → w.grownBy w' v.ownBlock → wpList Tryz.prog ops Q rest (a.put o.dst v') w') :
    wpList Tryz.prog ops Q (o :: rest) a w := by
  subst hm
  exact wpList_appE hw s x ho base v n xs hs hown ad c l hx hE hb hn h
theorem Ents.part {w : World} {g : Nat} {A : List Ent} (h : ∀ i x, A[i]? = some x → EntAt w g (i * 4) x) (hok : ∀ x ∈ A, x.ok) (j : Nat) : Ents w (some ⟨g, 0, none⟩) (A.take j) ∧ Ents w (some ⟨g, j * 4, none⟩) (A.drop j) :=
  ⟨⟨fun x hx => hok x (List.mem_of_mem_take hx), fun _ => ⟨g, 0, rfl, fun i x hx => by
      rw [Nat.zero_add]
      refine h i x ?_
      rw [List.getElem?_take] at hx
      split at hx
      · exact hx
      · cases hx⟩⟩,
   ⟨fun x hx => hok x (List.mem_of_mem_drop hx), fun _ => ⟨g, j * 4, rfl, fun i x hx => by
      rw [List.getElem?_drop] at hx
      have := h (j + i) x hx
      rwa [Nat.add_mul] at this⟩⟩⟩
theorem ents_none (w : World) : Ents w none [] := ⟨by simp, fun h => absurd rfl h⟩
/-- Where a row of the call's own lies. -/
theorem own_cases {w : World} {B : Nat} {v : Value} {A : List Ent} (h : w.ownsRow B 34 4 v A.length (entCells A)) :
    (v = .slice none 0 0 ∧ A = []) ∨ ∃ g c, v = .slice (some ⟨g, 0, none⟩) A.length c ∧ B ≤ g ∧ g < w.heap.size ∧ A.length ≤ c ∧ ∀ i x, A[i]? = some x → EntAt w g (i * 4) x := by
  rcases h.2 with ⟨rfl, h0⟩ | ⟨g, cap, cur, rfl, hb, hg, hn, hc, hs, ht⟩
  · exact .inl ⟨rfl, List.length_eq_zero_iff.1 h0⟩
  · refine .inr ⟨g, cap, rfl, hb, (Array.getElem?_eq_some_iff.1 hg).1, hn, fun i x hx => ?_⟩
    obtain ⟨k0, k1, k2, k3⟩ := entCells_get A i x hx
    have key : ∀ (j : Nat) u, (entCells A)[j]? = some u → w.cell? ⟨g, j, none⟩ = some u := by
      intro j u hu
      have hj := (List.getElem?_eq_some_iff.1 hu).1
      rw [← ht] at hu
      rw [entCells_len] at hj
      rw [List.getElem?_take_of_lt hj] at hu
      simp [World.cell?, hg]; simpa using hu
    exact ⟨key _ _ k0, key _ _ k1, key _ _ k2, key _ _ k3⟩
/-! ### all -/
def rall (l : List Ent) : Int := if 5000 < l.length then 3 else eall l
set_option maxHeartbeats 1000000 in
theorem refAllE (a : Option Addr) (c : Nat) (l : List Ent) (w : World) (hl : Ents w a l) (hn : l.length ≤ maxLen) : Calls Tryz.prog 24 #[.slice a l.length c] w (RB w (.int .i64 (rall l))) := by
  unfold maxLen at hn
  unfold rall
  by_cases h5 : 5000 < l.length
  · rw [if_pos h5]
    have i1 : (5000 : Int) < (l.length : Int) := by omega
    clear hl h5
    go_enter Tryz.func24, Tryz.ntmps24
    go_wp2_with fail
    go_ret
    exact RB.mk rfl (by repeat (first | assumption | exact Bl.refl _ | apply Bl.drewN | apply Bl.drew | apply Bl.alloc | (refine Bl.dr ?_ (by assumption)) | (refine Bl.trans ?_ (by assumption))))
  · rw [if_neg h5]
    have i1 : ¬ (5000 : Int) < (l.length : Int) := by omega
    have HL := Lib.hid hl
    obtain ⟨R, hR⟩ : ∃ R, eall l = R := ⟨_, rfl⟩
    rw [hR]
    have HR := Lib.hid hR
    clear hl hR h5
    go_enter Tryz.func24, Tryz.ntmps24
    go_wp2_with fail
    go_loopg [3] l.length (fun g i wr => ∃ k : Nat, i = .int .i64 k ∧ Hid (k ≤ l.length ∧ R = eall (l.drop k) ∧ g = l.length - k) ∧ Bl w wr)
    case atStart => exact ⟨0, rfl, Lib.hid ⟨by omega, by rw [← HR.out]; rfl, rfl⟩, Bl.refl _⟩
    case round =>
      obtain ⟨k, rfl, H, hb⟩ := hrel
      by_cases h1 : k < l.length
      · obtain ⟨b, off, rfl, hat⟩ := HL.out.get h1
        obtain ⟨x, hx⟩ : ∃ x, l[k]? = some x := ⟨_, List.getElem?_eq_getElem h1⟩
        obtain ⟨c0, c1, c2, c3⟩ := (hat k x hx).bl hb
        have hxo : x.ok := HL.out.ok x (List.mem_of_getElem? hx)
        have X := Lib.hid hx
        have hE := fun w => refEntCheck x w hxo
        unfold Ent.v at hE
        obtain ⟨q, hq⟩ : ∃ q, echk x = q := ⟨_, rfl⟩
        rw [hq] at hE
        have Hq := Lib.hid hq
        have HE := Lib.hid hE
        have HMs := Lib.hid (show l.length - (k + 1) < gk by have := H.out; omega)
        clear hx hE hq hat hxo
        by_cases e1 : q = 0
        · subst e1
          go_wp2_with fail
          refine (HE.out _).mono ?_; rintro e w1 ⟨rfl, hb1⟩
          go_wp2_with fail
          go_roundg (l.length - (k + 1))
          case rel => exact ⟨k + 1, by go_num, Lib.hid ⟨by omega, by rw [H.out.2.1, eall_drop X.out, Hq.out]; simp, rfl⟩, hb.trans hb1⟩
          case measure => exact HMs.out
        · have e1' : (q != 0) = true := by rw [bne_iff_ne]; exact e1
          have E1 := Lib.hid e1
          clear e1
          go_wp2_with fail
          refine (HE.out _).mono ?_; rintro e w1 ⟨rfl, hb1⟩
          go_wp2_with fail
          go_ret
          exact RB.mk (ival (by rw [H.out.2.1, eall_drop X.out, Hq.out, if_pos E1.out])) (hb.trans hb1)
      · obtain rfl : k = l.length := by have := H.out; omega
        have hr := H.out.2.1
        rw [List.drop_length] at hr
        subst hr
        go_wp2_with fail
        go_ret
        exact RB.mk rfl hb
/-! ### sorted -/
theorem own_cast {w : World} {B : Nat} {e : TypeId} {sz : Nat} {v : Value} {n m : Nat} {xs ys : List Value} (h : w.ownsRow B e sz v n xs) (h1 : n = m) (h2 : xs = ys) : w.ownsRow B e sz v m ys := h1 ▸ h2 ▸ h
end Go.Proofs.YtcgpkcaaojkpcaaGreatDoor

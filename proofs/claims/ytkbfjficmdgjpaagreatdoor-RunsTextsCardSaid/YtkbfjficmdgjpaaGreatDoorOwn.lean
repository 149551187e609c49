
/-
  Rows that the call itself appends to.
-/
import Derived.Test.YtkbfjficmdgjpaaGreatDoorLib
namespace Go.Proofs.YtkbfjficmdgjpaaGreatDoor
open Go.RowKit
set_option linter.unusedSimpArgs false
set_option linter.unusedVariables false
set_option maxRecDepth 100000

theorem inf_string : (Tryz.prog.info? 9).map (fun i => (i.zero, i.size, i.bytes)) = some (some (.string ⟨#[]⟩), 1, 16) := by kernel_rfl
theorem inf_ents : (Tryz.prog.info? 22).map (fun i => (i.zero, i.size, i.bytes)) = some (some (.slice none 0 0), 1, 24) := by kernel_rfl
theorem inf_ent : (Tryz.prog.info? 35).map (fun i => (i.zero, i.size, i.bytes)) = some (some (.agg #[.string ⟨#[]⟩, .string ⟨#[]⟩, .bool false, .int .i64 0]), 4, 48) := by kernel_rfl

theorem own_nil (w : World) (base : Nat) (e : TypeId) (size : Nat) : w.ownsRow base e size (.slice none 0 0) 0 [] := ⟨by simp, .inl ⟨rfl, rfl⟩⟩
theorem own_form {w : World} {base : Nat} {e : TypeId} {size : Nat} {v : Value} {n : Nat} {xs : List Value} (h : w.ownsRow base e size v n xs) :
    ∃ a c, v = .slice a n c ∧ n ≤ c ∧ c ≤ maxLen ∧ (0 < n → ∃ g, a = some ⟨g, 0, none⟩ ∧ base ≤ g ∧ g < w.heap.size ∧ ∀ j u, xs[j]? = some u → w.cell? ⟨g, j, none⟩ = some u) := by
  obtain ⟨hl, h⟩ := h
  rcases h with ⟨rfl, rfl⟩ | ⟨g, cap, cur, rfl, hb, hg, hn, hc, hs, ht⟩
  · exact ⟨none, 0, rfl, Nat.le_refl _, by unfold maxLen; omega, fun h => by omega⟩
  · refine ⟨_, cap, rfl, hn, hc, fun h0 => ⟨g, rfl, hb, ?_, fun j u hu => ?_⟩⟩
    · rcases Nat.lt_or_ge g w.heap.size with h1 | h1
      · exact h1
      · rw [Array.getElem?_eq_none h1] at hg; cases hg
    · have hj := (List.getElem?_eq_some_iff.1 hu).1
      rw [← ht] at hu
      have hj2 : j < n * size := by omega
      rw [List.getElem?_take_of_lt hj2] at hu
      simp [World.cell?, hg]; simpa using hu
theorem own_drewN {w : World} {base : Nat} {e : TypeId} {size : Nat} {v : Value} {n : Nat} {xs : List Value} (h : w.ownsRow base e size v n xs) (k : Nat) : (w.drewN k).ownsRow base e size v n xs := h
theorem own_dr {w w' : World} {base : Nat} {e : TypeId} {size : Nat} {v : Value} {n : Nat} {xs : List Value} (h : w.ownsRow base e size v n xs) (k : Dr w w') : w'.ownsRow base e size v n xs := by
  obtain ⟨m, rfl⟩ := k; exact h
theorem own_bl {w w' : World} {base : Nat} {e : TypeId} {size : Nat} {v : Value} {n : Nat} {xs : List Value} (h : w.ownsRow base e size v n xs) (k : Bl w w') : w'.ownsRow base e size v n xs := by
  obtain ⟨hl, h⟩ := h
  refine ⟨hl, ?_⟩
  rcases h with h | ⟨g, cap, cur, hv, hb, hg, r⟩
  · exact .inl h
  · have hlt : g < w.heap.size := by
      rcases Nat.lt_or_ge g w.heap.size with h1 | h1
      · exact h1
      · rw [Array.getElem?_eq_none h1] at hg; cases hg
    exact .inr ⟨g, cap, cur, hv, hb, (Below.block k g hlt).trans hg, r⟩
theorem own_base {w : World} {base b : Nat} {e : TypeId} {size : Nat} {v : Value} {n : Nat} {xs : List Value} (h : w.ownsRow base e size v n xs) (k : b ≤ base) : w.ownsRow b e size v n xs := by
  obtain ⟨hl, h⟩ := h
  refine ⟨hl, ?_⟩
  rcases h with h | ⟨g, cap, cur, hv, hb, r⟩
  · exact .inl h
  · exact .inr ⟨g, cap, cur, hv, Nat.le_trans k hb, r⟩
theorem own_block {w : World} {base : Nat} {e : TypeId} {size : Nat} {v : Value} {n : Nat} {xs : List Value} (h : w.ownsRow base e size v n xs) : ∀ k, v.ownBlock = some k → base ≤ k := by
  intro k hk
  rcases h.2 with ⟨rfl, _⟩ | ⟨g, cap, cur, rfl, hb, _⟩
  · cases hk
  · simp [Value.ownBlock] at hk; omega
/-- What lies below the row's base is as it was behind an append. -/
theorem grown_cell {w w' : World} {base : Nat} {e : TypeId} {size : Nat} {v : Value} {n : Nat} {xs : List Value} (h : w.ownsRow base e size v n xs) (hg : w.grownBy w' v.ownBlock) {p : Addr} {u : Value} (hp : w.cell? p = some u) (hb : p.block < base) : w'.cell? p = some u := by
  rw [World.cell?_of_block (hg.block p.block (lt_of_cell hp) (fun e => by have := own_block h _ e.symm; omega))]; exact hp
theorem grown_bl {a w w' : World} {base : Nat} {e : TypeId} {size : Nat} {v : Value} {n : Nat} {xs : List Value} (hb : Bl a w) (h : w.ownsRow base e size v n xs) (hg : w.grownBy w' v.ownBlock) (hs : a.heap.size ≤ base) : Bl a w' :=
  hb.grown hg (fun k hk => Nat.le_trans hs (own_block h k hk))
/-- A cell below a row's base is stored. -/
theorem own_set {w : World} {base : Nat} {e : TypeId} {size : Nat} {v : Value} {n : Nat} {xs : List Value} (h : w.ownsRow base e size v n xs) (a : Addr) (ha : a.block < base) (u : Value) : (w.setCell a u).ownsRow base e size v n xs := ownsRow_setCell_below h ha u
theorem one_new (w : World) (x : Value) (e : TypeId) : ∀ (j : Nat) (u : Value), [x][j]? = some u → (w.alloc (Obj.cells #[x] e)).cell? (({ block := w.heap.size, off := 0, spot := none } : Addr).add j) = some u := by
  intro j u h
  cases j with
  | zero => simp at h; subst h; simp [go_sem, Addr.add]
  | succ j => simp at h
theorem new_cell (w : World) (cs : Array Value) (e : TypeId) (k : Nat) : (w.alloc (Obj.cells cs e)).cell? ⟨w.heap.size, k, none⟩ = cs[k]? := by
  show (match (w.heap.push (Obj.cells cs e))[w.heap.size]? with | some (.cells c _ _) => if (none : Option _).isSome then none else c[k]? | _ => none) = cs[k]?
  rw [Array.getElem?_push_size]; rfl
theorem multi_new (w : World) (cs : List Value) (e : TypeId) : ∀ (j : Nat) (u : Value), cs[j]? = some u → (w.alloc (Obj.cells cs.toArray e)).cell? (({ block := w.heap.size, off := 0, spot := none } : Addr).add j) = some u := by
  intro j u h
  have : (({ block := w.heap.size, off := 0, spot := none } : Addr).add j) = ⟨w.heap.size, j, none⟩ := by unfold Addr.add; split <;> simp_all
  rw [this, new_cell]; simpa using h
/-- A row of strings reads as strings. -/
theorem own_strs {w : World} {base : Nat} {v : Value} {l : List ByteArray} (h : w.ownsRow base 9 1 v l.length (l.map Value.string)) (ho : ∀ x, x ∈ l → x.size ≤ maxLen) :
    ∃ a c, v = .slice a l.length c ∧ Strs w a l ∧ l.length ≤ c ∧ c ≤ maxLen := by
  obtain ⟨a, c, rfl, h1, h2, h3⟩ := own_form h
  refine ⟨a, c, rfl, ⟨ho, fun hn => ?_⟩, h1, h2⟩
  obtain ⟨g, rfl, _, _, hc⟩ := h3 (List.length_pos_iff.2 hn)
  exact ⟨g, 0, rfl, fun i x hx => by rw [Nat.zero_add]; exact hc i _ (by simp [hx])⟩
/-- The cells of entries. -/
def entCells (l : List Ent) : List Value := l.flatMap fun x => [.string x.key, .string x.val, .bool x.dead, .int .i64 x.seq]
theorem entCells_len : ∀ l : List Ent, (entCells l).length = l.length * 4
  | [] => rfl
  | x :: l => by have := entCells_len l; simp [entCells] at *; omega
theorem entCells_snoc (l : List Ent) (x : Ent) : entCells (l ++ [x]) = entCells l ++ [.string x.key, .string x.val, .bool x.dead, .int .i64 x.seq] := by simp [entCells]
theorem entCells_get : ∀ (l : List Ent) (i : Nat) (x : Ent), l[i]? = some x → (entCells l)[i * 4]? = some (.string x.key) ∧ (entCells l)[i * 4 + 1]? = some (.string x.val) ∧ (entCells l)[i * 4 + 2]? = some (.bool x.dead) ∧ (entCells l)[i * 4 + 3]? = some (.int .i64 x.seq)
  | [], _, _, h => by simp at h
  | y :: l, 0, x, h => by simp at h; subst h; simp [entCells]
  | y :: l, i + 1, x, h => by
    have ih := entCells_get l i x (by simpa using h)
    have e : entCells (y :: l) = [.string y.key, .string y.val, .bool y.dead, .int .i64 y.seq] ++ entCells l := by simp [entCells]
    rw [e, show (i + 1) * 4 = i * 4 + 4 by omega]
    simpa using ih
theorem own_ents {w : World} {base : Nat} {v : Value} {l : List Ent} (h : w.ownsRow base 35 4 v l.length (entCells l)) (ho : ∀ x, x ∈ l → x.ok) :
    ∃ a c, v = .slice a l.length c ∧ Ents w a l ∧ l.length ≤ c ∧ c ≤ maxLen := by
  obtain ⟨a, c, rfl, h1, h2, h3⟩ := own_form h
  refine ⟨a, c, rfl, ⟨ho, fun hn => ?_⟩, h1, h2⟩
  obtain ⟨g, rfl, _, _, hc⟩ := h3 (List.length_pos_iff.2 hn)
  refine ⟨g, 0, rfl, fun i x hx => ?_⟩
  obtain ⟨k0, k1, k2, k3⟩ := entCells_get l i x hx
  rw [Nat.zero_add]
  exact ⟨hc _ _ k0, hc _ _ k1, hc _ _ k2, hc _ _ k3⟩

/-! ### One cell of a box turns; all else that was there stays -/
def Kp (w0 : World) (p0 : Addr) (w : World) : Prop := (∀ p u, w0.cell? p = some u → p ≠ p0 → w.cell? p = some u) ∧ (∀ p u, w0.cell? p = some u → w0.frozen? p = false → w.frozen? p = false) ∧ w0.heap.size ≤ w.heap.size
theorem Kp.refl (w : World) (p0 : Addr) : Kp w p0 w := ⟨fun _ _ h _ => h, fun _ _ _ h => h, Nat.le_refl _⟩
theorem Kp.cell {w0 w : World} {p0 p : Addr} {u : Value} (h : Kp w0 p0 w) (hp : w0.cell? p = some u) (hne : p ≠ p0) : w.cell? p = some u := h.1 p u hp hne
theorem Bl.frozen {w w' : World} (h : Bl w w') {p : Addr} {u : Value} (hp : w.cell? p = some u) (hf : w.frozen? p = false) : w'.frozen? p = false := by
  rw [Below.frozen h (lt_of_cell hp)]; exact hf
theorem Kp.bl {w0 w w' : World} {p0 : Addr} (h : Kp w0 p0 w) (k : Bl w w') (hp0 : ∃ u, w.cell? p0 = some u) : Kp w0 p0 w' := by
  refine ⟨fun p u hp hne => k.cell (h.1 p u hp hne), fun p u hp hf => ?_, Nat.le_trans h.2.2 k.size⟩
  by_cases hne : p = p0
  · subst hne
    obtain ⟨u', hu'⟩ := hp0
    exact k.frozen hu' (h.2.1 p u hp hf)
  · exact k.frozen (h.1 p u hp hne) (h.2.1 p u hp hf)
theorem grown_frozen {w w' : World} {base : Nat} {e : TypeId} {size : Nat} {v : Value} {n : Nat} {xs : List Value} (h : w.ownsRow base e size v n xs) (hg : w.grownBy w' v.ownBlock) {p : Addr} {u : Value} (hp : w.cell? p = some u) (hf : w.frozen? p = false) (hb : p.block < base) : w'.frozen? p = false := by
  rw [World.frozen?_of_block (hg.block p.block (lt_of_cell hp) (fun e => by have := own_block h _ e.symm; omega))]; exact hf
theorem Kp.grown {w0 w w' : World} {p0 : Addr} {base : Nat} {e : TypeId} {size : Nat} {v : Value} {n : Nat} {xs : List Value} (k : Kp w0 p0 w) (h : w.ownsRow base e size v n xs) (hg : w.grownBy w' v.ownBlock) (hb : w0.heap.size ≤ base) (hp0 : ∃ u, w.cell? p0 = some u) : Kp w0 p0 w' := by
  refine ⟨fun p u hp hne => grown_cell h hg (k.1 p u hp hne) (Nat.lt_of_lt_of_le (lt_of_cell hp) hb), fun p u hp hf => ?_, Nat.le_trans k.2.2 hg.size⟩
  have hlt := Nat.lt_of_lt_of_le (lt_of_cell hp) hb
  by_cases hne : p = p0
  · subst hne
    obtain ⟨u', hu'⟩ := hp0
    exact grown_frozen h hg hu' (k.2.1 p u hp hf) hlt
  · exact grown_frozen h hg (k.1 p u hp hne) (k.2.1 p u hp hf) hlt
theorem frozen_set (w : World) (a p : Addr) (u : Value) : (w.setCell a u).frozen? p = w.frozen? p := by
  simp only [World.frozen?, World.setCell, Array.getElem?_modify]
  by_cases h : a.block = p.block
  · rw [if_pos h]
    cases hh : w.heap[p.block]? with
    | none => rfl
    | some o => cases o <;> rfl
  · rw [if_neg h]
theorem Kp.set {w0 w : World} {p0 : Addr} (k : Kp w0 p0 w) (u : Value) : Kp w0 p0 (w.setCell p0 u) := by
  refine ⟨fun p x hp hne => ?_, fun p x hp hf => ?_, ?_⟩
  · rw [World.cell?_setCell_other w p0 p u (Ne.symm hne)]; exact k.1 p x hp hne
  · rw [frozen_set]; exact k.2.1 p x hp hf
  · have : (w.setCell p0 u).heap.size = w.heap.size := by simp [World.setCell]
    rw [this]; exact k.2.2
theorem cell_set (w : World) (p : Addr) (u x : Value) (h : w.cell? p = some x) (hs : p.spot = none) : (w.setCell p u).cell? p = some u := by
  have := lt_of_cell h
  simp only [World.cell?] at h ⊢
  simp only [World.setCell, Array.getElem?_modify, if_true]
  cases hh : w.heap[p.block]? with
  | none => rw [hh] at h; simp at h
  | some o =>
    rw [hh] at h
    cases o with
    | cells c t f =>
      simp [hs] at h ⊢
      obtain ⟨h1, _⟩ := Array.getElem?_eq_some_iff.1 h
      simp [Array.getElem?_setIfInBounds, h1]
    | _ => simp at h
end Go.Proofs.YtkbfjficmdgjpaaGreatDoor

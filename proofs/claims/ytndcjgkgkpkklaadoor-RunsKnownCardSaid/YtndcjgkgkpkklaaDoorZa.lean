/-
  Own texts laid together: Lib Own Mem Search KeysA KeysB.
-/
import Derived.Test.YtndcjgkgkpkklaaDoorRows
import Derived.WalkKit
import Derived.WalkSpells
import Derived.WalkLawsBesides
import Derived.Deep.QuietTactic
import Derived.BigQuiet
import Derived.Lib.Hide
import Derived.Lib.Strings
import Derived.Laws.BytesArg
import Derived.Deep.LoopGhost
/-
  Small lemmas of our own, of no program: worlds that only drew or only made memory, strings' order, entries in memory.
-/
namespace Go.Proofs.YtndcjgkgkpkklaaDoor
open Go.RowKit

/-! ### Worlds -/
/-- The world only drew. -/
def Dr (w w' : World) : Prop := ∃ n, w' = w.drewN n
theorem Dr.refl (w : World) : Dr w w := ⟨0, rfl⟩
theorem Dr.drewN {w w' : World} (h : Dr w w') (n : Nat) : Dr w (w'.drewN n) := by
  obtain ⟨m, rfl⟩ := h; exact ⟨m + n, by rw [World.drewN_drewN]⟩
theorem Dr.drew {w w' : World} (h : Dr w w') : Dr w w'.drew := by
  obtain ⟨m, rfl⟩ := h; exact ⟨m + 1, rfl⟩
theorem Dr.trans {a b c : World} (h : Dr a b) (k : Dr b c) : Dr a c := by
  obtain ⟨m, rfl⟩ := h; obtain ⟨n, rfl⟩ := k; exact ⟨m + n, by rw [World.drewN_drewN]⟩
theorem Dr.cell {w w' : World} (h : Dr w w') (p : Addr) : w'.cell? p = w.cell? p := by
  obtain ⟨m, rfl⟩ := h; rfl
theorem Dr.size {w w' : World} (h : Dr w w') : w'.heap.size = w.heap.size := by
  obtain ⟨m, rfl⟩ := h; rfl

/-- Nothing that was there has turned. -/
def Bl (w w' : World) : Prop := Below w.heap.size w w'
theorem Bl.refl (w : World) : Bl w w := Below.refl _ _
theorem Bl.size {w w' : World} (h : Bl w w') : w.heap.size ≤ w'.heap.size := Below.size h
theorem Bl.drewN {w w' : World} (h : Bl w w') (n : Nat) : Bl w (w'.drewN n) := ⟨h.os, h.tape, h.output, (Bl.size h : w.heap.size ≤ w'.heap.size), h.block⟩
theorem Bl.drew {w w' : World} (h : Bl w w') : Bl w w'.drew := ⟨h.os, h.tape, h.output, (Bl.size h : w.heap.size ≤ w'.heap.size), h.block⟩
theorem Bl.alloc {w w' : World} (h : Bl w w') (o : Obj) : Bl w (w'.alloc o) := Below.alloc h h.size o
theorem Bl.setCell {w w' : World} (h : Bl w w') (p : Addr) (hp : w.heap.size ≤ p.block) (u : Value) : Bl w (w'.setCell p u) := Below.setCell h hp u
theorem Bl.trans {a b c : World} (h : Bl a b) (k : Bl b c) : Bl a c := Below.trans h (Below.mono k h.size)
theorem Bl.of_dr {w w' : World} (h : Dr w w') : Bl w w' := by obtain ⟨n, rfl⟩ := h; exact (Bl.refl w).drewN n
theorem Bl.dr {a b c : World} (h : Bl a b) (k : Dr b c) : Bl a c := h.trans (.of_dr k)
theorem lt_of_cell {w : World} {p : Addr} {v : Value} (h : w.cell? p = some v) : p.block < w.heap.size := by
  rcases Nat.lt_or_ge p.block w.heap.size with h1 | h1
  · exact h1
  · simp [World.cell?, Array.getElem?_eq_none h1] at h
theorem Bl.cell {w w' : World} (h : Bl w w') {p : Addr} {v : Value} (hp : w.cell? p = some v) : w'.cell? p = some v := by
  rw [Below.cell h (lt_of_cell hp)]; exact hp
theorem Bl.grown {a w w' : World} {row : Option Nat} (h : Bl a w) (hg : w.grownBy w' row) (hr : ∀ k, row = some k → a.heap.size ≤ k) : Bl a w' :=
  Below.grown h hg h.size hr

/-! ### Posts: a plain value; the world drew | made memory -/
def RD (w : World) (v : Value) (e : Ending) (w' : World) : Prop := e = .returned v ∧ Dr w w'
def RB (w : World) (v : Value) (e : Ending) (w' : World) : Prop := e = .returned v ∧ Bl w w'
/-- A result in memory. -/
def RM (w : World) (R : World → Value → Prop) (e : Ending) (w' : World) : Prop := ∃ v, e = .returned v ∧ R w' v ∧ Bl w w'
theorem RD.mk {w w' : World} {v v' : Value} (h : v' = v) (hd : Dr w w') : RD w v (.returned v') w' := ⟨by rw [h], hd⟩
theorem RB.mk {w w' : World} {v v' : Value} (h : v' = v) (hd : Bl w w') : RB w v (.returned v') w' := ⟨by rw [h], hd⟩
theorem RM.mk {w w' : World} {v : Value} {R : World → Value → Prop} (h : R w' v) (hd : Bl w w') : RM w R (.returned v) w' := ⟨v, rfl, h, hd⟩
theorem RD.rb {w : World} {v : Value} {e : Ending} {w' : World} (h : RD w v e w') : RB w v e w' := ⟨h.1, .of_dr h.2⟩
theorem quietD {P : Program} {f : FuncId} {args : Array Value} {w : World} {n : Nat} {v : Value}
    (h : Calls P f args (w.drewN n) (RD (w.drewN n) v)) : Calls P f args (w.drewN n) fun e w'' => e = .returned v ∧ ∃ m, w'' = w.drewN m :=
  h.mono fun _ _ ⟨he, m, hm⟩ => ⟨he, n + m, by rw [hm, World.drewN_drewN]⟩
theorem quietD2 {P : Program} {f : FuncId} {args : Array Value} {w : World} {a n : Nat} {v : Value}
    (h : Calls P f args (w.drewN (a + n)) (RD (w.drewN (a + n)) v)) : Calls P f args (w.drewN (a + n)) fun e w'' => e = .returned v ∧ ∃ m, w'' = w.drewN (a + m) :=
  h.mono fun _ _ ⟨he, m, hm⟩ => ⟨he, n + m, by rw [hm, World.drewN_drewN, Nat.add_assoc]⟩
/-- A world behind w0. -/
structure BW (w0 : World) where
  w : World
  h : Bl w0 w
instance (w0 : World) : Nonempty (BW w0) := ⟨⟨w0, Bl.refl _⟩⟩
theorem BW.cell {w0 : World} {p : Addr} {v : Value} (h : w0.cell? p = some v) (x : BW w0) : x.w.cell? p = some v := x.h.cell h
theorem wp_region_quiet_bw {P : Program} {id : Nat} {Q : Exit → Act → World → Prop} {a : Act} {w : World} {l : List Oper} (w0 : World) (hm : P.follows .mixedOrders = true) (hB : Region.lexB .any l.toArray = true) (hC : Bl w0 w)
    (h : wpQuiet P l.toArray (fun w' => ∃ x : BW w0, w' = x.w) (fun a' => ∀ w', (∃ x : BW w0, w' = x.w) → Q .normal a' w') l a) : (Code.region id l.toArray true).wp P Q a w :=
  wp_region_quiet (C := fun w' => ∃ x : BW w0, w' = x.w) hm hB ⟨⟨_, hC.drew⟩, rfl⟩ (by simpa using h)
theorem quietB {P : Program} {f : FuncId} {args : Array Value} {w0 : World} {x : BW w0} {v : Value}
    (h : Calls P f args x.w (RB x.w v)) : Calls P f args x.w fun e w'' => e = .returned v ∧ ∃ y : BW w0, w'' = y.w :=
  h.mono fun _ _ ⟨he, hb⟩ => ⟨he, ⟨_, x.h.trans hb⟩, rfl⟩
theorem quietBD {P : Program} {f : FuncId} {args : Array Value} {w0 : World} {x : BW w0} {v : Value}
    (h : Calls P f args x.w (RD x.w v)) : Calls P f args x.w fun e w'' => e = .returned v ∧ ∃ y : BW w0, w'' = y.w :=
  quietB (h.mono fun _ _ k => k.rb)
theorem ival {k : IntKind} {a b : Int} (h : a = b) : Value.int k a = .int k b := by rw [h]
theorem bval {a b : Bool} (h : a = b) : Value.bool a = .bool b := by rw [h]

theorem rb_tuple {w w' : World} {a b a' b' : Value} (h : a' = a) (k : b' = b) (hd : Bl w w') : RB w (.tuple #[a, b]) (.returned (.tuple #[a', b'])) w' := by subst h k; exact ⟨rfl, hd⟩
theorem sval {a b : ByteArray} (h : a = b) : Value.string a = .string b := by rw [h]
theorem rb_tuple3 {w w' : World} {a b c a' b' c' : Value} (h : a' = a) (k : b' = b) (j : c' = c) (hd : Bl w w') : RB w (.tuple #[a, b, c]) (.returned (.tuple #[a', b', c'])) w' := by subst h k j; exact ⟨rfl, hd⟩
/-! ### Strings -/
abbrev slt (a b : ByteArray) : Bool := Op.bytesLess a.toList b.toList
theorem bl_irrefl : ∀ a : List UInt8, Op.bytesLess a a = false
  | [] => rfl
  | x :: a => by simp [Op.bytesLess, bl_irrefl a]
theorem bl_trans : ∀ a b c : List UInt8, Op.bytesLess a b = true → Op.bytesLess b c = true → Op.bytesLess a c = true
  | _, [], _, h, _ => by simp [Op.bytesLess] at h
  | _, _ :: _, [], _, h => by simp [Op.bytesLess] at h
  | [], _ :: _, _ :: _, _, _ => by simp [Op.bytesLess]
  | x :: a, y :: b, z :: c, h1, h2 => by
    simp only [Op.bytesLess, Bool.or_eq_true, Bool.and_eq_true, decide_eq_true_eq, beq_iff_eq] at h1 h2 ⊢
    rcases h1 with h1 | ⟨rfl, h1⟩
    · rcases h2 with h2 | ⟨rfl, h2⟩
      · exact .inl (UInt8.lt_trans h1 h2)
      · exact .inl h1
    · rcases h2 with h2 | ⟨rfl, h2⟩
      · exact .inl h2
      · exact .inr ⟨rfl, bl_trans a b c h1 h2⟩
theorem bl_tri : ∀ a b : List UInt8, Op.bytesLess a b = false → Op.bytesLess b a = false → a = b
  | [], [], _, _ => rfl
  | [], _ :: _, h, _ => by simp [Op.bytesLess] at h
  | _ :: _, [], _, h => by simp [Op.bytesLess] at h
  | x :: a, y :: b, h1, h2 => by
    simp only [Op.bytesLess, Bool.or_eq_false_iff, Bool.and_eq_false_iff, decide_eq_false_iff_not, beq_eq_false_iff_ne] at h1 h2
    have hxy : x = y := by
      have h3 := h1.1; have h4 := h2.1
      rw [UInt8.not_lt] at h3 h4
      exact UInt8.le_antisymm h4 h3
    subst hxy
    have h5 := h1.2.resolve_left (by simp); have h6 := h2.2.resolve_left (by simp)
    rw [bl_tri a b h5 h6]
theorem toL (s : ByteArray) : s.toList = s.data.toList := ByteArray.toList_eq s
theorem str_ext {s t : ByteArray} (h : s.toList = t.toList) : s = t := by
  rw [toL, toL] at h
  cases s; cases t; simp at h; simp [h]
theorem slt_irrefl (a : ByteArray) : slt a a = false := bl_irrefl _
theorem slt_trans {a b c : ByteArray} (h : slt a b = true) (k : slt b c = true) : slt a c = true := bl_trans _ _ _ h k
theorem slt_tri {a b : ByteArray} (h : slt a b = false) (k : slt b a = false) : a = b := str_ext (bl_tri _ _ h k)
theorem slt_asymm {a b : ByteArray} (h : slt a b = true) : slt b a = false := by
  cases k : slt b a
  · rfl
  · have := slt_trans h k; rw [slt_irrefl] at this; cases this
/-- The order of two strings as a number. -/
def cmpS (a b : ByteArray) : Int := if slt a b then -1 else if a.toList = b.toList then 0 else 1
def cmn : List UInt8 → List UInt8 → Nat
  | a :: l, b :: r => if a = b then cmn l r + 1 else 0
  | _, _ => 0
theorem cmn_nil1 (t : List UInt8) : cmn [] t = 0 := by cases t <;> rfl
theorem cmn_nil2 (t : List UInt8) : cmn t [] = 0 := by cases t <;> rfl
theorem cmn_le : ∀ s t : List UInt8, cmn s t ≤ s.length ∧ cmn s t ≤ t.length
  | [], _ => by simp [cmn_nil1]
  | _ :: _, [] => by simp [cmn_nil2]
  | a :: l, b :: r => by
    have := cmn_le l r
    by_cases h : a = b <;> simp [cmn, h] <;> omega
theorem cmn_step (s t : List UInt8) (k : Nat) (h1 : k < s.length) (h2 : k < t.length) (h : s[k] = t[k]) : cmn (s.drop k) (t.drop k) = cmn (s.drop (k+1)) (t.drop (k+1)) + 1 := by
  rw [List.drop_eq_getElem_cons h1, List.drop_eq_getElem_cons h2]; simp [cmn, h]
theorem cmn_stop (s t : List UInt8) (k : Nat) (h1 : k < s.length) (h2 : k < t.length) (h : s[k] ≠ t[k]) : cmn (s.drop k) (t.drop k) = 0 := by
  rw [List.drop_eq_getElem_cons h1, List.drop_eq_getElem_cons h2]; simp [cmn, h]
/-- What is at the first place where two lists part. -/
theorem bl_cmn : ∀ s t : List UInt8, Op.bytesLess s t = decide (cmn s t < t.length ∧ (cmn s t = s.length ∨ s.getD (cmn s t) 0 < t.getD (cmn s t) 0))
  | s, [] => by simp [Op.bytesLess, cmn_nil2]
  | [], _ :: _ => by simp [Op.bytesLess, cmn_nil1]
  | a :: l, b :: r => by
    have ih := bl_cmn l r
    by_cases h : a = b
    · subst h; simp [Op.bytesLess, cmn, ih]
    · simp [Op.bytesLess, cmn, h]
theorem eq_cmn : ∀ s t : List UInt8, s = t ↔ (cmn s t = s.length ∧ cmn s t = t.length)
  | [], [] => by simp [cmn_nil1]
  | [], _ :: _ => by simp [cmn_nil1]
  | _ :: _, [] => by simp [cmn_nil2]
  | a :: l, b :: r => by
    have ih := eq_cmn l r
    by_cases h : a = b
    · subst h; simp [cmn, ih]
    · simp [cmn, h]

/-- 'string([]byte{n})'. -/
theorem conv1 {P : Program} (src dst e : TypeId) (hs : P.underlying src = some (.slice e)) (he : P.underlying e = some (.int .u8)) (hd : P.underlying dst = some .string) (W : World) (g cap : Nat) (n : Int)
    (hc : W.cell? ⟨g, 0, none⟩ = some (.int .u8 n)) : (convert src dst (.slice (some ⟨g, 0, none⟩) 1 cap)).run P W = .ok (.string ⟨#[UInt8.ofNat n.toNat]⟩) W := by
  refine (run_convert_bytes_arg W src e hs he g 0 1 cap [n] rfl ?_ dst hd).trans rfl
  intro i hi
  have : i = 0 := by omega
  subst this; simpa using hc
theorem conv1_new {P : Program} (src dst e : TypeId) (hs : P.underlying src = some (.slice e)) (he : P.underlying e = some (.int .u8)) (hd : P.underlying dst = some .string) (W : World) (n : Int) :
    (convert src dst (.slice (some ⟨W.heap.size, 0, none⟩) 1 1)).run P (W.alloc (.cells #[.int .u8 n] e)).drew = .ok (.string ⟨#[UInt8.ofNat n.toNat]⟩) (W.alloc (.cells #[.int .u8 n] e)).drew :=
  conv1 src dst e hs he hd _ _ _ _ (by simp [go_sem])

/-! ### Entries -/
structure Ent where
  key : ByteArray
  val : ByteArray
  dead : Bool
  seq : Int
def Ent.v (x : Ent) : Value := .agg #[.string x.key, .string x.val, .bool x.dead, .int .i64 x.seq]
/-- Its fields fit their types. -/
def Ent.ok (x : Ent) : Prop := x.key.size ≤ maxLen ∧ x.val.size ≤ maxLen ∧ -9223372036854775808 ≤ x.seq ∧ x.seq ≤ 9223372036854775807
structure EntAt (w : World) (b o : Nat) (x : Ent) : Prop where
  key : w.cell? ⟨b, o, none⟩ = some (.string x.key)
  val : w.cell? ⟨b, o + 1, none⟩ = some (.string x.val)
  dead : w.cell? ⟨b, o + 2, none⟩ = some (.bool x.dead)
  seq : w.cell? ⟨b, o + 3, none⟩ = some (.int .i64 x.seq)
theorem EntAt.bl {w w' : World} {b o : Nat} {x : Ent} (h : EntAt w b o x) (k : Bl w w') : EntAt w' b o x := ⟨k.cell h.1, k.cell h.2, k.cell h.3, k.cell h.4⟩
structure Ents (w : World) (a : Option Addr) (l : List Ent) : Prop where
  ok : ∀ x, x ∈ l → x.ok
  at_ : l ≠ [] → ∃ b off, a = some ⟨b, off, none⟩ ∧ ∀ i x, l[i]? = some x → EntAt w b (off + i * 4) x
theorem Ents.bl {w w' : World} {a : Option Addr} {l : List Ent} (h : Ents w a l) (k : Bl w w') : Ents w' a l :=
  ⟨h.ok, fun hn => let ⟨b, off, e, f⟩ := h.at_ hn; ⟨b, off, e, fun i x hx => (f i x hx).bl k⟩⟩
theorem Ents.get {w : World} {a : Option Addr} {l : List Ent} (h : Ents w a l) {k : Nat} (hk : k < l.length) :
    ∃ b off, a = some ⟨b, off, none⟩ ∧ ∀ i x, l[i]? = some x → EntAt w b (off + i * 4) x := h.at_ (by rintro rfl; simp at hk)
/-- Strings in memory. -/
structure Strs (w : World) (a : Option Addr) (l : List ByteArray) : Prop where
  ok : ∀ x, x ∈ l → x.size ≤ maxLen
  at_ : l ≠ [] → ∃ b off, a = some ⟨b, off, none⟩ ∧ ∀ i x, l[i]? = some x → w.cell? ⟨b, off + i, none⟩ = some (.string x)
theorem Strs.bl {w w' : World} {a : Option Addr} {l : List ByteArray} (h : Strs w a l) (k : Bl w w') : Strs w' a l :=
  ⟨h.ok, fun hn => let ⟨b, off, e, f⟩ := h.at_ hn; ⟨b, off, e, fun i x hx => k.cell (f i x hx)⟩⟩
theorem Strs.get {w : World} {a : Option Addr} {l : List ByteArray} (h : Strs w a l) {k : Nat} (hk : k < l.length) :
    ∃ b off, a = some ⟨b, off, none⟩ ∧ ∀ i x, l[i]? = some x → w.cell? ⟨b, off + i, none⟩ = some (.string x) := h.at_ (by rintro rfl; simp at hk)
end Go.Proofs.YtndcjgkgkpkklaaDoor
/-
  Rows that the call itself appends to.
-/
namespace Go.Proofs.YtndcjgkgkpkklaaDoor
open Go.RowKit
set_option linter.unusedSimpArgs false
set_option linter.unusedVariables false
set_option maxRecDepth 100000

theorem inf_string : (Tryd.prog.info? 9).map (fun i => (i.zero, i.size, i.bytes)) = some (some (.string ⟨#[]⟩), 1, 16) := by kernel_rfl
theorem inf_ents : (Tryd.prog.info? 22).map (fun i => (i.zero, i.size, i.bytes)) = some (some (.slice none 0 0), 1, 24) := by kernel_rfl
theorem inf_ent : (Tryd.prog.info? 27).map (fun i => (i.zero, i.size, i.bytes)) = some (some (.agg #[.string ⟨#[]⟩, .string ⟨#[]⟩, .bool false, .int .i64 0]), 4, 48) := by kernel_rfl

theorem own_nil (w : World) (base : Nat) (e : TypeId) (size : Nat) : w.ownsRow base e size (.slice none 0 0) 0 [] := ⟨by simp, .inl ⟨rfl, rfl⟩⟩
theorem own_form {w : World} {base : Nat} {e : TypeId} {size : Nat} {v : Value} {n : Nat} {xs : List Value} (h : w.ownsRow base e size v n xs) :
    ∃ a c, v = .slice a n c ∧ n ≤ c ∧ c ≤ maxLen ∧ (0 < n → ∃ g, a = some ⟨g, 0, none⟩ ∧ base ≤ g ∧ g < w.heap.size ∧ ∀ j u, xs[j]? = some u → w.cell? ⟨g, j, none⟩ = some u) := by
  obtain ⟨hl, h⟩ := h
  rcases h with ⟨rfl, rfl⟩ | ⟨g, cap, cur, rfl, hb, hg, hn, hc, hs, ht⟩
  · exact ⟨none, 0, rfl, Nat.le_refl _, by unfold maxLen; omega, fun h => by omega⟩
  · refine ⟨_, cap, rfl, hn, hc, fun h0 => ⟨g, rfl, hb, ?_, fun j u hu => ?_⟩⟩
    · rcases Nat.lt_or_ge g w.heap.size with h1 | h1
      · exact h1
      · rw [Array.getElem?_eq_none h1] at hg; cases hg
    · have hj := (List.getElem?_eq_some_iff.1 hu).1
      rw [← ht] at hu
      have hj2 : j < n * size := by omega
      rw [List.getElem?_take_of_lt hj2] at hu
      simp [World.cell?, hg]; simpa using hu
theorem own_drewN {w : World} {base : Nat} {e : TypeId} {size : Nat} {v : Value} {n : Nat} {xs : List Value} (h : w.ownsRow base e size v n xs) (k : Nat) : (w.drewN k).ownsRow base e size v n xs := h
theorem own_dr {w w' : World} {base : Nat} {e : TypeId} {size : Nat} {v : Value} {n : Nat} {xs : List Value} (h : w.ownsRow base e size v n xs) (k : Dr w w') : w'.ownsRow base e size v n xs := by
  obtain ⟨m, rfl⟩ := k; exact h
theorem own_bl {w w' : World} {base : Nat} {e : TypeId} {size : Nat} {v : Value} {n : Nat} {xs : List Value} (h : w.ownsRow base e size v n xs) (k : Bl w w') : w'.ownsRow base e size v n xs := by
  obtain ⟨hl, h⟩ := h
  refine ⟨hl, ?_⟩
  rcases h with h | ⟨g, cap, cur, hv, hb, hg, r⟩
  · exact .inl h
  · have hlt : g < w.heap.size := by
      rcases Nat.lt_or_ge g w.heap.size with h1 | h1
      · exact h1
      · rw [Array.getElem?_eq_none h1] at hg; cases hg
    exact .inr ⟨g, cap, cur, hv, hb, (Below.block k g hlt).trans hg, r⟩
theorem own_base {w : World} {base b : Nat} {e : TypeId} {size : Nat} {v : Value} {n : Nat} {xs : List Value} (h : w.ownsRow base e size v n xs) (k : b ≤ base) : w.ownsRow b e size v n xs := by
  obtain ⟨hl, h⟩ := h
  refine ⟨hl, ?_⟩
  rcases h with h | ⟨g, cap, cur, hv, hb, r⟩
  · exact .inl h
  · exact .inr ⟨g, cap, cur, hv, Nat.le_trans k hb, r⟩
theorem own_block {w : World} {base : Nat} {e : TypeId} {size : Nat} {v : Value} {n : Nat} {xs : List Value} (h : w.ownsRow base e size v n xs) : ∀ k, v.ownBlock = some k → base ≤ k := by
  intro k hk
  rcases h.2 with ⟨rfl, _⟩ | ⟨g, cap, cur, rfl, hb, _⟩
  · cases hk
  · simp [Value.ownBlock] at hk; omega
/-- What lies below the row's base is as it was behind an append. -/
theorem grown_cell {w w' : World} {base : Nat} {e : TypeId} {size : Nat} {v : Value} {n : Nat} {xs : List Value} (h : w.ownsRow base e size v n xs) (hg : w.grownBy w' v.ownBlock) {p : Addr} {u : Value} (hp : w.cell? p = some u) (hb : p.block < base) : w'.cell? p = some u := by
  rw [World.cell?_of_block (hg.block p.block (lt_of_cell hp) (fun e => by have := own_block h _ e.symm; omega))]; exact hp
theorem grown_bl {a w w' : World} {base : Nat} {e : TypeId} {size : Nat} {v : Value} {n : Nat} {xs : List Value} (hb : Bl a w) (h : w.ownsRow base e size v n xs) (hg : w.grownBy w' v.ownBlock) (hs : a.heap.size ≤ base) : Bl a w' :=
  hb.grown hg (fun k hk => Nat.le_trans hs (own_block h k hk))
/-- A cell below a row's base is stored. -/
theorem own_set {w : World} {base : Nat} {e : TypeId} {size : Nat} {v : Value} {n : Nat} {xs : List Value} (h : w.ownsRow base e size v n xs) (a : Addr) (ha : a.block < base) (u : Value) : (w.setCell a u).ownsRow base e size v n xs := ownsRow_setCell_below h ha u
theorem one_new (w : World) (x : Value) (e : TypeId) : ∀ (j : Nat) (u : Value), [x][j]? = some u → (w.alloc (Obj.cells #[x] e)).cell? (({ block := w.heap.size, off := 0, spot := none } : Addr).add j) = some u := by
  intro j u h
  cases j with
  | zero => simp at h; subst h; simp [go_sem, Addr.add]
  | succ j => simp at h
theorem new_cell (w : World) (cs : Array Value) (e : TypeId) (k : Nat) : (w.alloc (Obj.cells cs e)).cell? ⟨w.heap.size, k, none⟩ = cs[k]? := by
  show (match (w.heap.push (Obj.cells cs e))[w.heap.size]? with | some (.cells c _ _) => if (none : Option _).isSome then none else c[k]? | _ => none) = cs[k]?
  rw [Array.getElem?_push_size]; rfl
theorem multi_new (w : World) (cs : List Value) (e : TypeId) : ∀ (j : Nat) (u : Value), cs[j]? = some u → (w.alloc (Obj.cells cs.toArray e)).cell? (({ block := w.heap.size, off := 0, spot := none } : Addr).add j) = some u := by
  intro j u h
  have : (({ block := w.heap.size, off := 0, spot := none } : Addr).add j) = ⟨w.heap.size, j, none⟩ := by unfold Addr.add; split <;> simp_all
  rw [this, new_cell]; simpa using h
/-- A row of strings reads as strings. -/
theorem own_strs {w : World} {base : Nat} {v : Value} {l : List ByteArray} (h : w.ownsRow base 9 1 v l.length (l.map Value.string)) (ho : ∀ x, x ∈ l → x.size ≤ maxLen) :
    ∃ a c, v = .slice a l.length c ∧ Strs w a l ∧ l.length ≤ c ∧ c ≤ maxLen := by
  obtain ⟨a, c, rfl, h1, h2, h3⟩ := own_form h
  refine ⟨a, c, rfl, ⟨ho, fun hn => ?_⟩, h1, h2⟩
  obtain ⟨g, rfl, _, _, hc⟩ := h3 (List.length_pos_iff.2 hn)
  exact ⟨g, 0, rfl, fun i x hx => by rw [Nat.zero_add]; exact hc i _ (by simp [hx])⟩
/-- The cells of entries. -/
def entCells (l : List Ent) : List Value := l.flatMap fun x => [.string x.key, .string x.val, .bool x.dead, .int .i64 x.seq]
theorem entCells_len : ∀ l : List Ent, (entCells l).length = l.length * 4
  | [] => rfl
  | x :: l => by have := entCells_len l; simp [entCells] at *; omega
theorem entCells_snoc (l : List Ent) (x : Ent) : entCells (l ++ [x]) = entCells l ++ [.string x.key, .string x.val, .bool x.dead, .int .i64 x.seq] := by simp [entCells]
theorem entCells_get : ∀ (l : List Ent) (i : Nat) (x : Ent), l[i]? = some x → (entCells l)[i * 4]? = some (.string x.key) ∧ (entCells l)[i * 4 + 1]? = some (.string x.val) ∧ (entCells l)[i * 4 + 2]? = some (.bool x.dead) ∧ (entCells l)[i * 4 + 3]? = some (.int .i64 x.seq)
  | [], _, _, h => by simp at h
  | y :: l, 0, x, h => by simp at h; subst h; simp [entCells]
  | y :: l, i + 1, x, h => by
    have ih := entCells_get l i x (by simpa using h)
    have e : entCells (y :: l) = [.string y.key, .string y.val, .bool y.dead, .int .i64 y.seq] ++ entCells l := by simp [entCells]
    rw [e, show (i + 1) * 4 = i * 4 + 4 by omega]
    simpa using ih
theorem own_ents {w : World} {base : Nat} {v : Value} {l : List Ent} (h : w.ownsRow base 27 4 v l.length (entCells l)) (ho : ∀ x, x ∈ l → x.ok) :
    ∃ a c, v = .slice a l.length c ∧ Ents w a l ∧ l.length ≤ c ∧ c ≤ maxLen := by
  obtain ⟨a, c, rfl, h1, h2, h3⟩ := own_form h
  refine ⟨a, c, rfl, ⟨ho, fun hn => ?_⟩, h1, h2⟩
  obtain ⟨g, rfl, _, _, hc⟩ := h3 (List.length_pos_iff.2 hn)
  refine ⟨g, 0, rfl, fun i x hx => ?_⟩
  obtain ⟨k0, k1, k2, k3⟩ := entCells_get l i x hx
  rw [Nat.zero_add]
  exact ⟨hc _ _ k0, hc _ _ k1, hc _ _ k2, hc _ _ k3⟩

/-! ### One cell of a box turns; all else that was there stays -/
def Kp (w0 : World) (p0 : Addr) (w : World) : Prop := (∀ p u, w0.cell? p = some u → p ≠ p0 → w.cell? p = some u) ∧ (∀ p u, w0.cell? p = some u → w0.frozen? p = false → w.frozen? p = false) ∧ w0.heap.size ≤ w.heap.size
theorem Kp.refl (w : World) (p0 : Addr) : Kp w p0 w := ⟨fun _ _ h _ => h, fun _ _ _ h => h, Nat.le_refl _⟩
theorem Kp.cell {w0 w : World} {p0 p : Addr} {u : Value} (h : Kp w0 p0 w) (hp : w0.cell? p = some u) (hne : p ≠ p0) : w.cell? p = some u := h.1 p u hp hne
theorem Bl.frozen {w w' : World} (h : Bl w w') {p : Addr} {u : Value} (hp : w.cell? p = some u) (hf : w.frozen? p = false) : w'.frozen? p = false := by
  rw [Below.frozen h (lt_of_cell hp)]; exact hf
theorem Kp.bl {w0 w w' : World} {p0 : Addr} (h : Kp w0 p0 w) (k : Bl w w') (hp0 : ∃ u, w.cell? p0 = some u) : Kp w0 p0 w' := by
  refine ⟨fun p u hp hne => k.cell (h.1 p u hp hne), fun p u hp hf => ?_, Nat.le_trans h.2.2 k.size⟩
  by_cases hne : p = p0
  · subst hne
    obtain ⟨u', hu'⟩ := hp0
    exact k.frozen hu' (h.2.1 p u hp hf)
  · exact k.frozen (h.1 p u hp hne) (h.2.1 p u hp hf)
theorem grown_frozen {w w' : World} {base : Nat} {e : TypeId} {size : Nat} {v : Value} {n : Nat} {xs : List Value} (h : w.ownsRow base e size v n xs) (hg : w.grownBy w' v.ownBlock) {p : Addr} {u : Value} (hp : w.cell? p = some u) (hf : w.frozen? p = false) (hb : p.block < base) : w'.frozen? p = false := by
  rw [World.frozen?_of_block (hg.block p.block (lt_of_cell hp) (fun e => by have := own_block h _ e.symm; omega))]; exact hf
theorem Kp.grown {w0 w w' : World} {p0 : Addr} {base : Nat} {e : TypeId} {size : Nat} {v : Value} {n : Nat} {xs : List Value} (k : Kp w0 p0 w) (h : w.ownsRow base e size v n xs) (hg : w.grownBy w' v.ownBlock) (hb : w0.heap.size ≤ base) (hp0 : ∃ u, w.cell? p0 = some u) : Kp w0 p0 w' := by
  refine ⟨fun p u hp hne => grown_cell h hg (k.1 p u hp hne) (Nat.lt_of_lt_of_le (lt_of_cell hp) hb), fun p u hp hf => ?_, Nat.le_trans k.2.2 hg.size⟩
  have hlt := Nat.lt_of_lt_of_le (lt_of_cell hp) hb
  by_cases hne : p = p0
  · subst hne
    obtain ⟨u', hu'⟩ := hp0
    exact grown_frozen h hg hu' (k.2.1 p u hp hf) hlt
  · exact grown_frozen h hg (k.1 p u hp hne) (k.2.1 p u hp hf) hlt
theorem frozen_set (w : World) (a p : Addr) (u : Value) : (w.setCell a u).frozen? p = w.frozen? p := by
  simp only [World.frozen?, World.setCell, Array.getElem?_modify]
  by_cases h : a.block = p.block
  · rw [if_pos h]
    cases hh : w.heap[p.block]? with
    | none => rfl
    | some o => cases o <;> rfl
  · rw [if_neg h]
theorem Kp.set {w0 w : World} {p0 : Addr} (k : Kp w0 p0 w) (u : Value) : Kp w0 p0 (w.setCell p0 u) := by
  refine ⟨fun p x hp hne => ?_, fun p x hp hf => ?_, ?_⟩
  · rw [World.cell?_setCell_other w p0 p u (Ne.symm hne)]; exact k.1 p x hp hne
  · rw [frozen_set]; exact k.2.1 p x hp hf
  · have : (w.setCell p0 u).heap.size = w.heap.size := by simp [World.setCell]
    rw [this]; exact k.2.2
theorem cell_set (w : World) (p : Addr) (u x : Value) (h : w.cell? p = some x) (hs : p.spot = none) : (w.setCell p u).cell? p = some u := by
  have := lt_of_cell h
  simp only [World.cell?] at h ⊢
  simp only [World.setCell, Array.getElem?_modify, if_true]
  cases hh : w.heap[p.block]? with
  | none => rw [hh] at h; simp at h
  | some o =>
    rw [hh] at h
    cases o with
    | cells c t f =>
      simp [hs] at h ⊢
      obtain ⟨h1, _⟩ := Array.getElem?_eq_some_iff.1 h
      simp [Array.getElem?_setIfInBounds, h1]
    | _ => simp at h
end Go.Proofs.YtndcjgkgkpkklaaDoor
/-
  Facts of cells held together: a list of own cells with what they hold.
-/
namespace Go.Proofs.YtndcjgkgkpkklaaDoor
open Go.RowKit
set_option linter.unusedSimpArgs false
set_option linter.unusedVariables false
set_option maxRecDepth 100000

/-- Cells that hold what the list says, none of them shut. -/
def Mem (w : World) : List (Addr × Value) → Prop
  | [] => True
  | (p, v) :: l => w.cell? p = some v ∧ w.frozen? p = false ∧ Mem w l
theorem Mem.bl {w w' : World} : ∀ {l : List (Addr × Value)}, Mem w l → Bl w w' → Mem w' l
  | [], _, _ => trivial
  | (_, _) :: _, ⟨h1, h2, h3⟩, k => ⟨k.cell h1, k.frozen h1 h2, h3.bl k⟩
theorem Mem.alloc {w : World} {l : List (Addr × Value)} (h : Mem w l) (o : Obj) : Mem (w.alloc o) l := h.bl ((Bl.refl w).alloc o)
theorem Mem.app {w : World} : ∀ {l k : List (Addr × Value)}, Mem w l → Mem w k → Mem w (l ++ k)
  | [], _, _, h => h
  | (_, _) :: _, _, ⟨h1, h2, h3⟩, h => ⟨h1, h2, h3.app h⟩
theorem Mem.left {w : World} : ∀ {l k : List (Addr × Value)}, Mem w (l ++ k) → Mem w l
  | [], _, _ => trivial
  | (_, _) :: _, _, ⟨h1, h2, h3⟩ => ⟨h1, h2, Mem.left h3⟩
theorem Mem.right {w : World} : ∀ {l k : List (Addr × Value)}, Mem w (l ++ k) → Mem w k
  | [], _, h => h
  | (_, _) :: _, _, ⟨_, _, h3⟩ => Mem.right h3
/-- A store to a block that the list does not name. -/
theorem Mem.off {w : World} (g i : Nat) (u : Value) : ∀ {l : List (Addr × Value)}, Mem w l → (∀ q, q ∈ l → q.1.block ≠ g) → Mem (w.setCell ⟨g, i, none⟩ u) l
  | [], _, _ => trivial
  | (p, v) :: l, ⟨h1, h2, h3⟩, hn => ⟨(World.cell?_setCell_other w ⟨g, i, none⟩ p u (by intro e; exact hn (p, v) (by simp) (by rw [← e]))).trans h1, (frozen_set _ _ _ _).trans h2, Mem.off g i u h3 (fun q hq => hn q (by simp [hq]))⟩
/-- A variable of four cells, an entry. -/
def VE (g : Nat) (x : Ent) : List (Addr × Value) := [(⟨g, 0, none⟩, .string x.key), (⟨g, 1, none⟩, .string x.val), (⟨g, 2, none⟩, .bool x.dead), (⟨g, 3, none⟩, .int .i64 x.seq)]
theorem Mem.new4 (w : World) (x : Ent) (e : TypeId) : Mem (w.alloc (.cells #[.string x.key, .string x.val, .bool x.dead, .int .i64 x.seq] e)) (VE w.heap.size x) := by
  simp [Mem, VE, go_sem]
def set4 (w : World) (g : Nat) (x : Ent) : World := (((w.setCell ⟨g, 0, none⟩ (.string x.key)).setCell ⟨g, 1, none⟩ (.string x.val)).setCell ⟨g, 2, none⟩ (.bool x.dead)).setCell ⟨g, 3, none⟩ (.int .i64 x.seq)
theorem oth (W : World) (g i j : Nat) (v : Value) (h : i ≠ j) : (W.setCell ⟨g, i, none⟩ v).cell? ⟨g, j, none⟩ = W.cell? ⟨g, j, none⟩ :=
  World.cell?_setCell_other W ⟨g, i, none⟩ ⟨g, j, none⟩ v (by intro e; injection e with _ e; exact h e)
theorem smc (W : World) (g i : Nat) (v u : Value) (h : W.cell? ⟨g, i, none⟩ = some u) : (W.setCell ⟨g, i, none⟩ v).cell? ⟨g, i, none⟩ = some v :=
  World.cell?_setCell_same' W _ _ (by rw [h]; rfl)
theorem Mem.set4 {w : World} {g : Nat} {x : Ent} (h : Mem w (VE g x)) (y : Ent) : Mem (set4 w g y) (VE g y) := by
  obtain ⟨a0, f0, a1, f1, a2, f2, a3, f3, -⟩ := h
  unfold Go.Proofs.YtndcjgkgkpkklaaDoor.set4 VE
  refine ⟨?_, ?_, ?_, ?_, ?_, ?_, ?_, ?_, trivial⟩
  · rw [oth _ _ 3 0 _ (by omega), oth _ _ 2 0 _ (by omega), oth _ _ 1 0 _ (by omega)]; exact smc _ _ _ _ _ a0
  · simp only [frozen_set]; exact f0
  · rw [oth _ _ 3 1 _ (by omega), oth _ _ 2 1 _ (by omega)]; exact smc _ _ _ _ _ (by rw [oth _ _ 0 1 _ (by omega)]; exact a1)
  · simp only [frozen_set]; exact f1
  · rw [oth _ _ 3 2 _ (by omega)]; exact smc _ _ _ _ _ (by rw [oth _ _ 1 2 _ (by omega), oth _ _ 0 2 _ (by omega)]; exact a2)
  · simp only [frozen_set]; exact f2
  · exact smc _ _ _ _ _ (by rw [oth _ _ 2 3 _ (by omega), oth _ _ 1 3 _ (by omega), oth _ _ 0 3 _ (by omega)]; exact a3)
  · simp only [frozen_set]; exact f3
theorem Mem.off4 {w : World} {l : List (Addr × Value)} (h : Mem w l) (g : Nat) (y : Ent) (hn : ∀ q, q ∈ l → q.1.block ≠ g) : Mem (Go.Proofs.YtndcjgkgkpkklaaDoor.set4 w g y) l :=
  (((h.off g 0 _ hn).off g 1 _ hn).off g 2 _ hn).off g 3 _ hn
theorem Bl.set4 {w0 w : World} (h : Bl w0 w) (g : Nat) (y : Ent) (hg : w0.heap.size ≤ g) : Bl w0 (Go.Proofs.YtndcjgkgkpkklaaDoor.set4 w g y) :=
  (((h.setCell _ hg _).setCell _ hg _).setCell _ hg _).setCell _ hg _
/-- A bool of which nothing is known. -/
def SomeB (w : World) (e : Ending) (w' : World) : Prop := ∃ b, e = .returned (.bool b) ∧ Bl w w'
theorem SomeB.mk {w w' : World} {b : Bool} (hb : Bl w w') : SomeB w (.returned (.bool b)) w' := ⟨b, rfl, hb⟩
end Go.Proofs.YtndcjgkgkpkklaaDoor
/-
  A contract of sort.Search, for a closure with two captured variables.
-/
namespace Go.Proofs.YtndcjgkgkpkklaaDoor
open Go.RowKit
set_option linter.unusedSimpArgs false
set_option linter.unusedVariables false
set_option maxRecDepth 100000

set_option maxHeartbeats 1000000 in
theorem sortSearch (F : Nat) (c1 c2 : Value) (n : Nat) (p : Nat → Bool) (r : Nat) (w : World) (hn : n ≤ 4611686018427387904) (hcf : ∀ args W, (callFunc F args).run Tryd.prog W = .ok (.enter F args) W)
    (hf : ∀ w' i, Bl w w' → i < n → Calls Tryd.prog F #[.int .i64 (i : Int), c1, c2] w' (RB w' (.bool (p i))))
    (hr : r ≤ n) (h0 : ∀ j, j < r → p j = false) (h1 : ∀ j, r ≤ j → j < n → p j = true) :
    Calls Tryd.prog 77 #[.int .i64 (n : Int), .func (.func F) #[] #[c1, c2]] w (RB w (.int .i64 (r : Int))) := by
  have HF := Lib.hid hf
  have H0 := Lib.hid h0
  have H1 := Lib.hid h1
  clear hf h0 h1
  go_enter Tryd.func77, Tryd.ntmps77
  go_wp2_with fail
  go_loopg [5, 6] n (fun g i j wr => ∃ a b : Nat, a ≤ r ∧ r ≤ b ∧ b ≤ n ∧ i = .int .i64 a ∧ j = .int .i64 b ∧ Bl w wr ∧ g = b - a)
  case atStart => exact ⟨0, n, by omega, hr, by omega, rfl, rfl, Bl.refl _, rfl⟩
  case round =>
    obtain ⟨a, b, ha, hb, hbn, rfl, rfl, hw, hg⟩ := hrel
    have G := Lib.hid hg
    clear hg
    by_cases hlt : a < b
    · obtain ⟨h, hh⟩ : ∃ h : Nat, h = (a + b) / 2 := ⟨_, rfl⟩
      have hh1 : ((a : Int) + (b : Int)) / 2 = (h : Int) := by omega
      have a1 : a ≤ h := by omega
      have a2 : h < b := by omega
      clear hh
      go_wp2_with fail
      clear hh1
      refine (HF.out wr h hw (by omega)).mono ?_; rintro e w1 ⟨rfl, hb1⟩
      by_cases hp : h < r
      · have e := H0.out h hp
        rw [e]
        go_wp2_with fail
        go_roundg (b - (h + 1))
        case rel => exact ⟨h + 1, b, by omega, hb, hbn, by go_num, rfl, hw.trans hb1, rfl⟩
        case measure => rw [G.out]; omega
      · have e := H1.out h (by omega) (by omega)
        rw [e]
        go_wp2_with fail
        go_roundg (h - a)
        case rel => exact ⟨a, h, ha, by omega, by omega, rfl, rfl, hw.trans hb1, rfl⟩
        case measure => rw [G.out]; omega
    · obtain rfl : a = r := by omega
      have hlt' : ¬ (a : Int) < (b : Int) := by omega
      go_wp2_with fail
      go_ret
      exact RB.mk rfl hw
end Go.Proofs.YtndcjgkgkpkklaaDoor
/-
  Contracts of keys.Check, keys.all, keys.common and of the reference's Check, two, common, Order.
-/
namespace Go.Proofs.YtndcjgkgkpkklaaDoor
open Go.RowKit
set_option linter.unusedSimpArgs false
set_option linter.unusedVariables false
set_option maxRecDepth 100000

def kchk (s : ByteArray) : Int := if 32 < s.size then 3 else 0

theorem keysCheck (s : ByteArray) (w : World) (hs : s.size ≤ maxLen) : Calls Tryd.prog 22 #[.string s] w (RD w (.int .i64 (kchk s))) := by
  unfold maxLen at hs
  unfold kchk
  by_cases h : 32 < s.size
  · rw [if_pos h]
    go_enter Tryd.func22, Tryd.ntmps22
    go_wp2
    go_ret
    exact RD.mk rfl (Dr.refl _)
  · rw [if_neg h]
    go_enter Tryd.func22, Tryd.ntmps22
    go_wp2
    go_ret
    exact RD.mk rfl (Dr.refl _)

/-- The first error of two keys. -/
def ktwo (s t : ByteArray) : Int := if 32 < s.size ∨ 32 < t.size then 3 else 0

set_option maxHeartbeats 400000 in
theorem keysCommon (s t : ByteArray) (w : World) (hs : s.size ≤ maxLen) (ht : t.size ≤ maxLen) :
    Calls Tryd.prog 40 #[.string s, .string t] w (RD w (.int .i64 (cmn s.data.toList t.data.toList))) := by
  unfold maxLen at hs ht
  go_enter Tryd.func40, Tryd.ntmps40
  go_wp2
  go_step3
  go_wp2
  go_step3
  go_wp2
  go_loopg [5] s.size (fun g i wr => ∃ k : Nat, k ≤ s.size ∧ k ≤ t.size ∧ i = .int .i64 k ∧ cmn s.data.toList t.data.toList = k + cmn (s.data.toList.drop k) (t.data.toList.drop k) ∧ Dr w wr ∧ g = s.size - k)
  case atStart => exact ⟨0, by omega, by omega, rfl, by simp, Dr.refl _, rfl⟩
  case round =>
    obtain ⟨k, hk1, hk2, rfl, hc, hd, hg⟩ := hrel
    have H := Lib.hid hc
    have G := Lib.hid hg
    clear hc hg
    by_cases h1 : k < s.size
    · by_cases h2 : k < t.size
      · have hm : (k : Int) < if t.size < s.size then (t.size : Int) else (s.size : Int) := by split <;> omega
        by_cases h3 : s[k] = t[k]
        · have h3' : ((s[k].toNat : Int) != (t[k].toNat : Int)) = false := by simp [h3]
          go_wp2
          all_goals
            go_quiet (fail)
            go_wp2
            go_roundg (s.size - (k + 1))
            case rel =>
              refine ⟨k+1, by omega, by omega, by go_num, ?_, hd.drewN _, rfl⟩
              have h4 := cmn_step s.data.toList t.data.toList k h1 h2 h3
              rw [H.out, h4]; omega
            case measure => rw [G.out]; omega
        · have h3' : ((s[k].toNat : Int) != (t[k].toNat : Int)) = true := by
            rw [bne_iff_ne]; intro h; exact h3 (UInt8.toNat.inj (by omega))
          go_wp2
          all_goals
            go_quiet (fail)
            go_wp2
            try rw [Exit.noGoto_ret]
            go_ret
            have h4 := cmn_stop s.data.toList t.data.toList k h1 h2 h3
            exact RD.mk (ival (by rw [H.out, h4]; simp)) (hd.drewN _)
      · have hm : ¬ (k : Int) < if t.size < s.size then (t.size : Int) else (s.size : Int) := by split <;> omega
        go_wp2
        try rw [Exit.noGoto_ret]
        go_ret
        exact RD.mk (ival (by rw [H.out, List.drop_of_length_le (l := t.data.toList) (by simp at *; omega), cmn_nil2]; simp)) hd
    · have hm : ¬ (k : Int) < if t.size < s.size then (t.size : Int) else (s.size : Int) := by split <;> omega
      go_wp2
      try rw [Exit.noGoto_ret]
      go_ret
      exact RD.mk (ival (by rw [H.out, List.drop_of_length_le (l := s.data.toList) (by simp at *; omega), cmn_nil1]; simp)) hd
end Go.Proofs.YtndcjgkgkpkklaaDoor
/-
  Contracts of keys.all, keys.Between and of the reference's Order, Between.
-/
namespace Go.Proofs.YtndcjgkgkpkklaaDoor
open Go.RowKit
set_option linter.unusedSimpArgs false
set_option linter.unusedVariables false
set_option maxRecDepth 100000

/-- Is a key too long? -/
def kbad (l : List ByteArray) : Bool := l.any fun s => 32 < s.size
def kall (l : List ByteArray) : Int := if kbad l then 3 else 0
theorem kall_drop {l : List ByteArray} {k : Nat} {x : ByteArray} (h : l[k]? = some x) : kbad (l.drop k) = (decide (32 < x.size) || kbad (l.drop (k + 1))) := by
  obtain ⟨hk, rfl⟩ := List.getElem?_eq_some_iff.1 h
  rw [List.drop_eq_getElem_cons hk]; rfl

set_option maxHeartbeats 400000 in
theorem keysAll (a : Option Addr) (c : Nat) (l : List ByteArray) (w : World) (hl : Strs w a l) (hn : l.length ≤ maxLen) :
    Calls Tryd.prog 24 #[.slice a l.length c] w (RD w (.int .i64 (kall l))) := by
  unfold maxLen at hn
  go_enter Tryd.func24, Tryd.ntmps24
  go_wp2
  go_loopg [8] l.length (fun g i wr => ∃ k : Nat, k ≤ l.length ∧ i = .int .i64 k ∧ kbad l = kbad (l.drop k) ∧ Dr w wr ∧ g = l.length - k)
  case atStart => exact ⟨0, by omega, rfl, by simp, Dr.refl _, rfl⟩
  case round =>
    obtain ⟨k, hk1, rfl, hc, hd, hg⟩ := hrel
    have H := Lib.hid hc
    have G := Lib.hid hg
    clear hc hg
    by_cases h1 : k < l.length
    · obtain ⟨b, off, rfl, hat⟩ := hl.get h1
      obtain ⟨x, hx⟩ : ∃ x, l[k]? = some x := ⟨_, List.getElem?_eq_getElem h1⟩
      have hcell : wr.cell? ⟨b, off + k, none⟩ = some (.string x) := by rw [hd.cell]; exact hat k x hx
      have hxs : x.size ≤ maxLen := hl.ok x (List.mem_of_getElem? hx)
      have cs := fun w => keysCheck x w hxs
      unfold kchk at cs
      have X := Lib.hid hx
      have hl' := Lib.hid hl
      clear hx hat hl
      by_cases h2 : 32 < x.size
      · simp only [h2, if_true] at cs
        have Cs := Lib.hid cs
        clear cs
        go_wp2_with fail
        refine (Cs.out _).mono ?_
        rintro e w1 ⟨rfl, hd2⟩
        go_wp2_with fail
        go_ret
        refine RD.mk (ival ?_) (hd.trans hd2)
        rw [kall, H.out, kall_drop X.out]; simp [h2]
      · simp only [h2, if_false] at cs
        have Cs := Lib.hid cs
        clear cs
        go_wp2_with fail
        refine (Cs.out _).mono ?_
        rintro e w1 ⟨rfl, hd2⟩
        go_wp2_with fail
        go_roundg (l.length - (k + 1))
        case rel =>
          refine ⟨k + 1, by omega, by go_num, ?_, hd.trans hd2, rfl⟩
          rw [H.out, kall_drop X.out]; simp [h2]
        case measure => rw [G.out]; omega
    · go_wp2
      go_ret
      refine RD.mk (ival ?_) hd
      rw [kall, H.out, List.drop_of_length_le (by omega)]; rfl

theorem cmpS_eq (s t : ByteArray) {n : Nat} (hn : cmn s.data.toList t.data.toList = n) : cmpS s t = if n = s.size ∧ n = t.size then 0
    else if n = s.size ∨ n < t.size ∧ s.data.toList.getD n 0 < t.data.toList.getD n 0 then -1 else 1 := by
  unfold cmpS slt
  have hle := cmn_le s.data.toList t.data.toList
  have h1 := eq_cmn s.data.toList t.data.toList
  rw [toL, toL, bl_cmn, hn]
  rw [hn] at hle h1
  simp only [Array.length_toList, ByteArray.size_data] at *
  by_cases ha : n = s.size <;> by_cases hb : n = t.size
  · have h2 := h1.2 ⟨ha, hb⟩
    have h3 : s.size = t.size := by omega
    simp [ha, h2, h3]
  · have h2 : ¬ s.data.toList = t.data.toList := fun h => hb (h1.1 h).2
    have h3 : n < t.size := by omega
    simp [ha, h2]; omega
  · have h2 : ¬ s.data.toList = t.data.toList := fun h => ha (h1.1 h).1
    have h3 : ¬ n < t.size := by omega
    simp [ha, h2, h3]
  · have h2 : ¬ s.data.toList = t.data.toList := fun h => ha (h1.1 h).1
    have h3 : n < t.size := by omega
    simp [ha, h2, h3]

end Go.Proofs.YtndcjgkgkpkklaaDoor

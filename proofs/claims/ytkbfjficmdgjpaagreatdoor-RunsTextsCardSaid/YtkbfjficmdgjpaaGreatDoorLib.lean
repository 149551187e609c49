
/-
  Small lemmas of our own, of no program: worlds that only drew or only made memory, strings' order, entries in memory.
-/
import Derived.Test.YtkbfjficmdgjpaaGreatDoorRows
import Derived.WalkKit
import Derived.WalkSpells
import Derived.WalkLawsBesides
import Derived.Deep.QuietTactic
import Derived.BigQuiet
import Derived.Lib.Hide
import Derived.Lib.Strings
import Derived.Laws.BytesArg
namespace Go.Proofs.YtkbfjficmdgjpaaGreatDoor
open Go.RowKit

/-! ### Worlds -/
/-- The world only drew. -/
def Dr (w w' : World) : Prop := ∃ n, w' = w.drewN n
theorem Dr.refl (w : World) : Dr w w := ⟨0, rfl⟩
theorem Dr.drewN {w w' : World} (h : Dr w w') (n : Nat) : Dr w (w'.drewN n) := by
  obtain ⟨m, rfl⟩ := h; exact ⟨m + n, by rw [World.drewN_drewN]⟩
theorem Dr.drew {w w' : World} (h : Dr w w') : Dr w w'.drew := by
  obtain ⟨m, rfl⟩ := h; exact ⟨m + 1, rfl⟩
theorem Dr.trans {a b c : World} (h : Dr a b) (k : Dr b c) : Dr a c := by
  obtain ⟨m, rfl⟩ := h; obtain ⟨n, rfl⟩ := k; exact ⟨m + n, by rw [World.drewN_drewN]⟩
theorem Dr.cell {w w' : World} (h : Dr w w') (p : Addr) : w'.cell? p = w.cell? p := by
  obtain ⟨m, rfl⟩ := h; rfl
theorem Dr.size {w w' : World} (h : Dr w w') : w'.heap.size = w.heap.size := by
  obtain ⟨m, rfl⟩ := h; rfl

/-- Nothing that was there has turned. -/
def Bl (w w' : World) : Prop := Below w.heap.size w w'
theorem Bl.refl (w : World) : Bl w w := Below.refl _ _
theorem Bl.size {w w' : World} (h : Bl w w') : w.heap.size ≤ w'.heap.size := Below.size h
theorem Bl.drewN {w w' : World} (h : Bl w w') (n : Nat) : Bl w (w'.drewN n) := ⟨h.os, h.tape, h.output, (Bl.size h : w.heap.size ≤ w'.heap.size), h.block⟩
theorem Bl.drew {w w' : World} (h : Bl w w') : Bl w w'.drew := ⟨h.os, h.tape, h.output, (Bl.size h : w.heap.size ≤ w'.heap.size), h.block⟩
theorem Bl.alloc {w w' : World} (h : Bl w w') (o : Obj) : Bl w (w'.alloc o) := Below.alloc h h.size o
theorem Bl.setCell {w w' : World} (h : Bl w w') (p : Addr) (hp : w.heap.size ≤ p.block) (u : Value) : Bl w (w'.setCell p u) := Below.setCell h hp u
theorem Bl.trans {a b c : World} (h : Bl a b) (k : Bl b c) : Bl a c := Below.trans h (Below.mono k h.size)
theorem Bl.of_dr {w w' : World} (h : Dr w w') : Bl w w' := by obtain ⟨n, rfl⟩ := h; exact (Bl.refl w).drewN n
theorem Bl.dr {a b c : World} (h : Bl a b) (k : Dr b c) : Bl a c := h.trans (.of_dr k)
theorem lt_of_cell {w : World} {p : Addr} {v : Value} (h : w.cell? p = some v) : p.block < w.heap.size := by
  rcases Nat.lt_or_ge p.block w.heap.size with h1 | h1
  · exact h1
  · simp [World.cell?, Array.getElem?_eq_none h1] at h
theorem Bl.cell {w w' : World} (h : Bl w w') {p : Addr} {v : Value} (hp : w.cell? p = some v) : w'.cell? p = some v := by
  rw [Below.cell h (lt_of_cell hp)]; exact hp
theorem Bl.grown {a w w' : World} {row : Option Nat} (h : Bl a w) (hg : w.grownBy w' row) (hr : ∀ k, row = some k → a.heap.size ≤ k) : Bl a w' :=
  Below.grown h hg h.size hr

/-! ### Posts: a plain value; the world drew | made memory -/
def RD (w : World) (v : Value) (e : Ending) (w' : World) : Prop := e = .returned v ∧ Dr w w'
def RB (w : World) (v : Value) (e : Ending) (w' : World) : Prop := e = .returned v ∧ Bl w w'
/-- A result in memory. -/
def RM (w : World) (R : World → Value → Prop) (e : Ending) (w' : World) : Prop := ∃ v, e = .returned v ∧ R w' v ∧ Bl w w'
theorem RD.mk {w w' : World} {v v' : Value} (h : v' = v) (hd : Dr w w') : RD w v (.returned v') w' := ⟨by rw [h], hd⟩
theorem RB.mk {w w' : World} {v v' : Value} (h : v' = v) (hd : Bl w w') : RB w v (.returned v') w' := ⟨by rw [h], hd⟩
theorem RM.mk {w w' : World} {v : Value} {R : World → Value → Prop} (h : R w' v) (hd : Bl w w') : RM w R (.returned v) w' := ⟨v, rfl, h, hd⟩
theorem RD.rb {w : World} {v : Value} {e : Ending} {w' : World} (h : RD w v e w') : RB w v e w' := ⟨h.1, .of_dr h.2⟩
theorem quietD {P : Program} {f : FuncId} {args : Array Value} {w : World} {n : Nat} {v : Value}
    (h : Calls P f args (w.drewN n) (RD (w.drewN n) v)) : Calls P f args (w.drewN n) fun e w'' => e = .returned v ∧ ∃ m, w'' = w.drewN m :=
  h.mono fun _ _ ⟨he, m, hm⟩ => ⟨he, n + m, by rw [hm, World.drewN_drewN]⟩
theorem quietD2 {P : Program} {f : FuncId} {args : Array Value} {w : World} {a n : Nat} {v : Value}
    (h : Calls P f args (w.drewN (a + n)) (RD (w.drewN (a + n)) v)) : Calls P f args (w.drewN (a + n)) fun e w'' => e = .returned v ∧ ∃ m, w'' = w.drewN (a + m) :=
  h.mono fun _ _ ⟨he, m, hm⟩ => ⟨he, n + m, by rw [hm, World.drewN_drewN, Nat.add_assoc]⟩
/-- A world behind w0. -/
structure BW (w0 : World) where
  w : World
  h : Bl w0 w
instance (w0 : World) : Nonempty (BW w0) := ⟨⟨w0, Bl.refl _⟩⟩
theorem BW.cell {w0 : World} {p : Addr} {v : Value} (h : w0.cell? p = some v) (x : BW w0) : x.w.cell? p = some v := x.h.cell h
theorem wp_region_quiet_bw {P : Program} {id : Nat} {Q : Exit → Act → World → Prop} {a : Act} {w : World} {l : List Oper} (w0 : World) (hm : P.follows .mixedOrders = true) (hB : Region.lexB .any l.toArray = true) (hC : Bl w0 w)
    (h : wpQuiet P l.toArray (fun w' => ∃ x : BW w0, w' = x.w) (fun a' => ∀ w', (∃ x : BW w0, w' = x.w) → Q .normal a' w') l a) : (Code.region id l.toArray true).wp P Q a w :=
  wp_region_quiet (C := fun w' => ∃ x : BW w0, w' = x.w) hm hB ⟨⟨_, hC.drew⟩, rfl⟩ (by simpa using h)
theorem quietB {P : Program} {f : FuncId} {args : Array Value} {w0 : World} {x : BW w0} {v : Value}
    (h : Calls P f args x.w (RB x.w v)) : Calls P f args x.w fun e w'' => e = .returned v ∧ ∃ y : BW w0, w'' = y.w :=
  h.mono fun _ _ ⟨he, hb⟩ => ⟨he, ⟨_, x.h.trans hb⟩, rfl⟩
theorem quietBD {P : Program} {f : FuncId} {args : Array Value} {w0 : World} {x : BW w0} {v : Value}
    (h : Calls P f args x.w (RD x.w v)) : Calls P f args x.w fun e w'' => e = .returned v ∧ ∃ y : BW w0, w'' = y.w :=
  quietB (h.mono fun _ _ k => k.rb)
theorem ival {k : IntKind} {a b : Int} (h : a = b) : Value.int k a = .int k b := by rw [h]
theorem bval {a b : Bool} (h : a = b) : Value.bool a = .bool b := by rw [h]

theorem rb_tuple {w w' : World} {a b a' b' : Value} (h : a' = a) (k : b' = b) (hd : Bl w w') : RB w (.tuple #[a, b]) (.returned (.tuple #[a', b'])) w' := by subst h k; exact ⟨rfl, hd⟩
theorem sval {a b : ByteArray} (h : a = b) : Value.string a = .string b := by rw [h]
theorem rb_tuple3 {w w' : World} {a b c a' b' c' : Value} (h : a' = a) (k : b' = b) (j : c' = c) (hd : Bl w w') : RB w (.tuple #[a, b, c]) (.returned (.tuple #[a', b', c'])) w' := by subst h k j; exact ⟨rfl, hd⟩
/-! ### Strings -/
abbrev slt (a b : ByteArray) : Bool := Op.bytesLess a.toList b.toList
theorem bl_irrefl : ∀ a : List UInt8, Op.bytesLess a a = false
  | [] => rfl
  | x :: a => by simp [Op.bytesLess, bl_irrefl a]
theorem bl_trans : ∀ a b c : List UInt8, Op.bytesLess a b = true → Op.bytesLess b c = true → Op.bytesLess a c = true
  | _, [], _, h, _ => by simp [Op.bytesLess] at h
  | _, _ :: _, [], _, h => by simp [Op.bytesLess] at h
  | [], _ :: _, _ :: _, _, _ => by simp [Op.bytesLess]
  | x :: a, y :: b, z :: c, h1, h2 => by
    simp only [Op.bytesLess, Bool.or_eq_true, Bool.and_eq_true, decide_eq_true_eq, beq_iff_eq] at h1 h2 ⊢
    rcases h1 with h1 | ⟨rfl, h1⟩
    · rcases h2 with h2 | ⟨rfl, h2⟩
      · exact .inl (UInt8.lt_trans h1 h2)
      · exact .inl h1
    · rcases h2 with h2 | ⟨rfl, h2⟩
      · exact .inl h2
      · exact .inr ⟨rfl, bl_trans a b c h1 h2⟩
theorem bl_tri : ∀ a b : List UInt8, Op.bytesLess a b = false → Op.bytesLess b a = false → a = b
  | [], [], _, _ => rfl
  | [], _ :: _, h, _ => by simp [Op.bytesLess] at h
  | _ :: _, [], _, h => by simp [Op.bytesLess] at h
  | x :: a, y :: b, h1, h2 => by
    simp only [Op.bytesLess, Bool.or_eq_false_iff, Bool.and_eq_false_iff, decide_eq_false_iff_not, beq_eq_false_iff_ne] at h1 h2
    have hxy : x = y := by
      have h3 := h1.1; have h4 := h2.1
      rw [UInt8.not_lt] at h3 h4
      exact UInt8.le_antisymm h4 h3
    subst hxy
    have h5 := h1.2.resolve_left (by simp); have h6 := h2.2.resolve_left (by simp)
    rw [bl_tri a b h5 h6]
theorem toL (s : ByteArray) : s.toList = s.data.toList := ByteArray.toList_eq s
theorem str_ext {s t : ByteArray} (h : s.toList = t.toList) : s = t := by
  rw [toL, toL] at h
  cases s; cases t; simp at h; simp [h]
theorem slt_irrefl (a : ByteArray) : slt a a = false := bl_irrefl _
theorem slt_trans {a b c : ByteArray} (h : slt a b = true) (k : slt b c = true) : slt a c = true := bl_trans _ _ _ h k
theorem slt_tri {a b : ByteArray} (h : slt a b = false) (k : slt b a = false) : a = b := str_ext (bl_tri _ _ h k)
theorem slt_asymm {a b : ByteArray} (h : slt a b = true) : slt b a = false := by
  cases k : slt b a
  · rfl
  · have := slt_trans h k; rw [slt_irrefl] at this; cases this
/-- The order of two strings as a number. -/
def cmpS (a b : ByteArray) : Int := if slt a b then -1 else if a.toList = b.toList then 0 else 1
def cmn : List UInt8 → List UInt8 → Nat
  | a :: l, b :: r => if a = b then cmn l r + 1 else 0
  | _, _ => 0
theorem cmn_nil1 (t : List UInt8) : cmn [] t = 0 := by cases t <;> rfl
theorem cmn_nil2 (t : List UInt8) : cmn t [] = 0 := by cases t <;> rfl
theorem cmn_le : ∀ s t : List UInt8, cmn s t ≤ s.length ∧ cmn s t ≤ t.length
  | [], _ => by simp [cmn_nil1]
  | _ :: _, [] => by simp [cmn_nil2]
  | a :: l, b :: r => by
    have := cmn_le l r
    by_cases h : a = b <;> simp [cmn, h] <;> omega
theorem cmn_step (s t : List UInt8) (k : Nat) (h1 : k < s.length) (h2 : k < t.length) (h : s[k] = t[k]) : cmn (s.drop k) (t.drop k) = cmn (s.drop (k+1)) (t.drop (k+1)) + 1 := by
  rw [List.drop_eq_getElem_cons h1, List.drop_eq_getElem_cons h2]; simp [cmn, h]
theorem cmn_stop (s t : List UInt8) (k : Nat) (h1 : k < s.length) (h2 : k < t.length) (h : s[k] ≠ t[k]) : cmn (s.drop k) (t.drop k) = 0 := by
  rw [List.drop_eq_getElem_cons h1, List.drop_eq_getElem_cons h2]; simp [cmn, h]
/-- What is at the first place where two lists part. -/
theorem bl_cmn : ∀ s t : List UInt8, Op.bytesLess s t = decide (cmn s t < t.length ∧ (cmn s t = s.length ∨ s.getD (cmn s t) 0 < t.getD (cmn s t) 0))
  | s, [] => by simp [Op.bytesLess, cmn_nil2]
  | [], _ :: _ => by simp [Op.bytesLess, cmn_nil1]
  | a :: l, b :: r => by
    have ih := bl_cmn l r
    by_cases h : a = b
    · subst h; simp [Op.bytesLess, cmn, ih]
    · simp [Op.bytesLess, cmn, h]
theorem eq_cmn : ∀ s t : List UInt8, s = t ↔ (cmn s t = s.length ∧ cmn s t = t.length)
  | [], [] => by simp [cmn_nil1]
  | [], _ :: _ => by simp [cmn_nil1]
  | _ :: _, [] => by simp [cmn_nil2]
  | a :: l, b :: r => by
    have ih := eq_cmn l r
    by_cases h : a = b
    · subst h; simp [cmn, ih]
    · simp [cmn, h]

/-- 'string([]byte{n})'. -/
theorem conv1 {P : Program} (src dst e : TypeId) (hs : P.underlying src = some (.slice e)) (he : P.underlying e = some (.int .u8)) (hd : P.underlying dst = some .string) (W : World) (g cap : Nat) (n : Int)
    (hc : W.cell? ⟨g, 0, none⟩ = some (.int .u8 n)) : (convert src dst (.slice (some ⟨g, 0, none⟩) 1 cap)).run P W = .ok (.string ⟨#[UInt8.ofNat n.toNat]⟩) W := by
  refine (run_convert_bytes_arg W src e hs he g 0 1 cap [n] rfl ?_ dst hd).trans rfl
  intro i hi
  have : i = 0 := by omega
  subst this; simpa using hc
theorem conv1_new {P : Program} (src dst e : TypeId) (hs : P.underlying src = some (.slice e)) (he : P.underlying e = some (.int .u8)) (hd : P.underlying dst = some .string) (W : World) (n : Int) :
    (convert src dst (.slice (some ⟨W.heap.size, 0, none⟩) 1 1)).run P (W.alloc (.cells #[.int .u8 n] e)).drew = .ok (.string ⟨#[UInt8.ofNat n.toNat]⟩) (W.alloc (.cells #[.int .u8 n] e)).drew :=
  conv1 src dst e hs he hd _ _ _ _ (by simp [go_sem])

/-! ### Entries -/
structure Ent where
  key : ByteArray
  val : ByteArray
  dead : Bool
  seq : Int
def Ent.v (x : Ent) : Value := .agg #[.string x.key, .string x.val, .bool x.dead, .int .i64 x.seq]
/-- Its fields fit their types. -/
def Ent.ok (x : Ent) : Prop := x.key.size ≤ maxLen ∧ x.val.size ≤ maxLen ∧ -9223372036854775808 ≤ x.seq ∧ x.seq ≤ 9223372036854775807
structure EntAt (w : World) (b o : Nat) (x : Ent) : Prop where
  key : w.cell? ⟨b, o, none⟩ = some (.string x.key)
  val : w.cell? ⟨b, o + 1, none⟩ = some (.string x.val)
  dead : w.cell? ⟨b, o + 2, none⟩ = some (.bool x.dead)
  seq : w.cell? ⟨b, o + 3, none⟩ = some (.int .i64 x.seq)
theorem EntAt.bl {w w' : World} {b o : Nat} {x : Ent} (h : EntAt w b o x) (k : Bl w w') : EntAt w' b o x := ⟨k.cell h.1, k.cell h.2, k.cell h.3, k.cell h.4⟩
structure Ents (w : World) (a : Option Addr) (l : List Ent) : Prop where
  ok : ∀ x, x ∈ l → x.ok
  at_ : l ≠ [] → ∃ b off, a = some ⟨b, off, none⟩ ∧ ∀ i x, l[i]? = some x → EntAt w b (off + i * 4) x
theorem Ents.bl {w w' : World} {a : Option Addr} {l : List Ent} (h : Ents w a l) (k : Bl w w') : Ents w' a l :=
  ⟨h.ok, fun hn => let ⟨b, off, e, f⟩ := h.at_ hn; ⟨b, off, e, fun i x hx => (f i x hx).bl k⟩⟩
theorem Ents.get {w : World} {a : Option Addr} {l : List Ent} (h : Ents w a l) {k : Nat} (hk : k < l.length) :
    ∃ b off, a = some ⟨b, off, none⟩ ∧ ∀ i x, l[i]? = some x → EntAt w b (off + i * 4) x := h.at_ (by rintro rfl; simp at hk)
/-- Strings in memory. -/
structure Strs (w : World) (a : Option Addr) (l : List ByteArray) : Prop where
  ok : ∀ x, x ∈ l → x.size ≤ maxLen
  at_ : l ≠ [] → ∃ b off, a = some ⟨b, off, none⟩ ∧ ∀ i x, l[i]? = some x → w.cell? ⟨b, off + i, none⟩ = some (.string x)
theorem Strs.bl {w w' : World} {a : Option Addr} {l : List ByteArray} (h : Strs w a l) (k : Bl w w') : Strs w' a l :=
  ⟨h.ok, fun hn => let ⟨b, off, e, f⟩ := h.at_ hn; ⟨b, off, e, fun i x hx => k.cell (f i x hx)⟩⟩
theorem Strs.get {w : World} {a : Option Addr} {l : List ByteArray} (h : Strs w a l) {k : Nat} (hk : k < l.length) :
    ∃ b off, a = some ⟨b, off, none⟩ ∧ ∀ i x, l[i]? = some x → w.cell? ⟨b, off + i, none⟩ = some (.string x) := h.at_ (by rintro rfl; simp at hk)
end Go.Proofs.YtkbfjficmdgjpaaGreatDoor

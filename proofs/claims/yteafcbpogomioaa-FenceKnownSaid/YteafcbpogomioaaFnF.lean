/-
  Contracts of the reference's blocks, below, Block, Span.
-/
import Derived.Test.YteafcbpogomioaaFnE
namespace Go.Proofs.Yteafcbpogomioaa
open Go.RowKit
set_option linter.unusedSimpArgs false
set_option linter.unusedVariables false

theorem ceil_facts (n s : Nat) (hs : 1 ≤ s) : n ≤ (n + s - 1) / s * s ∧ (∀ m, m < (n + s - 1) / s → m * s < n) ∧ (n + s - 1) / s ≤ n := by
  have h1 := Nat.div_add_mod (n + s - 1) s
  have h2 := Nat.mod_lt (n + s - 1) (show 0 < s by omega)
  generalize hq : (n + s - 1) / s = q at *
  have h3 : s * q = q * s := Nat.mul_comm _ _
  refine ⟨by omega, fun m hm => ?_, ?_⟩
  · have h4 : (m + 1) * s ≤ q * s := Nat.mul_le_mul_right s (by omega)
    rw [Nat.add_mul] at h4; omega
  · rcases Nat.lt_or_ge n q with h | h
    · have h4 : (n + 1) * s ≤ q * s := Nat.mul_le_mul_right s (by omega)
      have h5 : n * 1 ≤ n * s := Nat.mul_le_mul_left n hs
      rw [Nat.add_mul] at h4; omega
    · exact h

set_option maxHeartbeats 400000 in
theorem refBlocksN (n s : Nat) (w : World) (hn : n ≤ 1000000) (hs : 1 ≤ s) (hs2 : s ≤ 1000000) :
    Calls Try.prog 55 #[.int .i64 (n : Int), .int .i64 (s : Int)] w (RD w (.int .i64 (((n + s - 1) / s : Nat) : Int))) := by
  obtain ⟨h1, h2, h3⟩ := ceil_facts n s hs
  generalize (n + s - 1) / s = q at *
  have H1 := Lib.hid h1
  have H2 := Lib.hid h2
  clear h1 h2
  go_enter Try.func55, Try.ntmps55
  go_wp2_with fail
  go_loopg [5] q (fun g i wr => ∃ k : Nat, k ≤ q ∧ i = .int .i64 k ∧ Dr w wr ∧ g = q - k)
  case atStart => exact ⟨0, by omega, rfl, Dr.refl _, rfl⟩
  case round =>
    obtain ⟨k, hk, rfl, hd, hg⟩ := hrel
    have G := Lib.hid hg
    clear hg
    have b1 : (k : Int) * (s : Int) ≤ 1000000000000 := by
      have := Nat.mul_le_mul (show k ≤ 1000000 by omega) (show s ≤ 1000000 by omega)
      have e : ((k * s : Nat) : Int) = (k : Int) * (s : Int) := by simp
      omega
    have b0 : 0 ≤ (k : Int) * (s : Int) := Int.mul_nonneg (by omega) (by omega)
    have e : ((k * s : Nat) : Int) = (k : Int) * (s : Int) := by simp
    by_cases hlt : k < q
    · have h4 : (k : Int) * (s : Int) < (n : Int) := by have := H2.out k hlt; omega
      clear e
      go_wp2_with fail
      go_roundg (q - (k + 1))
      case rel => exact ⟨k + 1, by omega, by go_num, hd, rfl⟩
      case measure => rw [G.out]; omega
    · obtain rfl : k = q := by omega
      have h4 : ¬ (k : Int) * (s : Int) < (n : Int) := by have := H1.out; omega
      clear e
      go_wp2_with fail
      go_ret
      exact RD.mk rfl hd

/-- As the reference counts them. -/
theorem cntLt_take {l : List ByteArray} {j : Nat} {x : ByteArray} (h : l[j]? = some x) (k : ByteArray) : cntLt (l.take (j + 1)) k = cntLt (l.take j) k + if slt x k = true then 1 else 0 := by
  obtain ⟨hk, rfl⟩ := List.getElem?_eq_some_iff.1 h
  rw [List.take_succ_eq_append_getElem hk]; unfold cntLt; rw [List.filter_append, List.length_append]
  cases h : slt l[j] k <;> simp [h]
theorem cntLe_take {l : List ByteArray} {j : Nat} {x : ByteArray} (h : l[j]? = some x) (k : ByteArray) : cntLe (l.take (j + 1)) k = cntLe (l.take j) k + if slt k x = true then 0 else 1 := by
  obtain ⟨hk, rfl⟩ := List.getElem?_eq_some_iff.1 h
  rw [List.take_succ_eq_append_getElem hk]; unfold cntLe; rw [List.filter_append, List.length_append]
  cases h : slt k l[j] <;> simp [h]

set_option maxRecDepth 100000 in
set_option maxHeartbeats 1000000 in
theorem refBelow (a : Option Addr) (c : Nat) (f : Fnc) (k : ByteArray) (w : World) (hf : FOk w a f) (hk : k.size ≤ maxLen) :
    Calls Try.prog 47 #[f.v a c, .string k] w (RB w (.tuple #[.int .i64 (cntLt f.marks k : Int), .int .i64 (cntLe f.marks k : Int)])) := by
  obtain ⟨s, l⟩ := f
  obtain ⟨hl, hn, -, -⟩ := hf
  simp only at hl hn
  unfold Fnc.v
  simp only
  go_enter Try.func47, Try.ntmps47
  go_wp2_with fail
  go_loopg [6, 7, 8] l.length (fun g lo hi i wr => ∃ j : Nat, j ≤ l.length ∧ i = .int .i64 j ∧ lo = .int .i64 (cntLt (l.take j) k) ∧ hi = .int .i64 (cntLe (l.take j) k) ∧ Dr (w.alloc (Obj.cells #[Value.int IntKind.i64 s, Value.slice a l.length c] 25)) wr ∧ g = l.length - j)
  case atStart => exact ⟨0, by omega, rfl, by simp [cntLt], by simp [cntLe], Dr.refl _, rfl⟩
  case round =>
    obtain ⟨j, hj, rfl, rfl, rfl, hd, hg⟩ := hrel
    have G := Lib.hid hg
    have hb : Bl w wr := ((Bl.refl w).alloc _).dr hd
    have hbox : wr.cell? ⟨w.heap.size, 1, none⟩ = some (.slice a l.length c) := by rw [hd.cell]; simp [go_sem]
    clear hg
    by_cases h2 : j < l.length
    · obtain ⟨b, off, rfl, hat⟩ := hl.get h2
      obtain ⟨x, hx⟩ : ∃ x, l[j]? = some x := ⟨_, List.getElem?_eq_getElem h2⟩
      have c0 := hb.cell (hat j x hx)
      have hxo : x.size ≤ maxLen := hl.ok x (List.mem_of_getElem? hx)
      have hO := fun w => refOrder x k w hxo hk
      have g1 := cmpS_lss x k
      have g2 := cmpS_leq x k
      have e1 := cntLt_take hx k
      have e2 := cntLe_take hx k
      have l1 := cntLt_le (l.take j) k
      have l2 := cntLe_le (l.take j) k
      have l3 : (l.take j).length ≤ l.length := by simp; omega
      generalize cmpS x k = q at *
      generalize cntLt (l.take j) k = r1 at *
      generalize cntLe (l.take j) k = r2 at *
      have l4 : r1 ≤ l.length := by omega
      have l5 : r2 ≤ l.length := by omega
      have E1 := Lib.hid e1
      have E2 := Lib.hid e2
      have HO := Lib.hid hO
      have Hl := Lib.hid hl
      clear hx hat hO e1 e2 l1 l2 l3 hl
      rcases Int.lt_trichotomy q 0 with hq | hq | hq
      · have g1' : slt x k = true := by rw [← g1]; simpa using hq
        have g2' : slt k x = false := slt_asymm g1'
        have G1 := Lib.hid g1'
        have G2 := Lib.hid g2'
        clear g1 g2 g1' g2'
        have hq2 : q ≤ 0 := by omega
        go_wp2_with fail
        refine (HO.out _).mono ?_; rintro e w' ⟨rfl, n1, rfl⟩
        go_wp2_with fail
        go_roundg (l.length - (j + 1))
        case rel => exact ⟨j + 1, by omega, by go_num, by rw [E1.out, G1.out]; go_num, by rw [E2.out, G2.out]; simp, (by repeat (first | assumption | exact Dr.refl _ | apply Dr.drewN | apply Dr.drew | (refine Dr.trans ?_ (by assumption)))), rfl⟩
        case measure => rw [G.out]; omega
      · have g1' : slt x k = false := by rw [← g1]; simp [hq]
        have g2' : slt k x = false := by rw [hq] at g2; simpa using g2
        have G1 := Lib.hid g1'
        have G2 := Lib.hid g2'
        clear g1 g2 g1' g2'
        have hq2 : q ≤ 0 := by omega
        have hq3 : ¬ q < 0 := by omega
        clear hq
        go_wp2_with fail
        refine (HO.out _).mono ?_; rintro e w' ⟨rfl, n1, rfl⟩
        go_wp2_with fail
        go_roundg (l.length - (j + 1))
        case rel => exact ⟨j + 1, by omega, by go_num, by rw [E1.out, G1.out]; simp, by rw [E2.out, G2.out]; simp, (by repeat (first | assumption | exact Dr.refl _ | apply Dr.drewN | apply Dr.drew | (refine Dr.trans ?_ (by assumption)))), rfl⟩
        case measure => rw [G.out]; omega
      · have g1' : slt x k = false := by rw [← g1]; simp; omega
        have g2' : slt k x = true := by
          have : ¬ q ≤ 0 := by omega
          simpa [this] using g2
        have G1 := Lib.hid g1'
        have G2 := Lib.hid g2'
        clear g1 g2 g1' g2'
        have hq2 : ¬ q ≤ 0 := by omega
        have hq3 : ¬ q < 0 := by omega
        go_wp2_with fail
        refine (HO.out _).mono ?_; rintro e w' ⟨rfl, n1, rfl⟩
        go_wp2_with fail
        go_roundg (l.length - (j + 1))
        case rel => exact ⟨j + 1, by omega, by go_num, by rw [E1.out, G1.out]; simp, by rw [E2.out, G2.out]; simp, (by repeat (first | assumption | exact Dr.refl _ | apply Dr.drewN | apply Dr.drew | (refine Dr.trans ?_ (by assumption)))), rfl⟩
        case measure => rw [G.out]; omega
    · go_wp2
      go_ret2
      exact rb_tuple (ival (by rw [List.take_of_length_le (by omega)])) (ival (by rw [List.take_of_length_le (by omega)])) hb
end Go.Proofs.Yteafcbpogomioaa

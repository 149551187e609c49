/-
  Contracts of fence.fits, Fits and of the reference's fits, Fits.
-/
import Derived.Test.YteafcbpogomioaaFnH
namespace Go.Proofs.Yteafcbpogomioaa
open Go.RowKit
set_option linter.unusedSimpArgs false
set_option linter.unusedVariables false

def fitAt (s : Nat) (m : List ByteArray) (l : List Ent) (i : Nat) : Bool :=
  match m[i]?, l[(i + 1) * s - 1]?, l[(i + 1) * s]? with
  | some m, some x, some y => slt x.key m && !slt y.key m
  | _, _, _ => false
def fitB (s : Nat) (m : List ByteArray) (l : List Ent) : Bool := decide (m.length = cnt l.length s) && (List.range m.length).all (fitAt s m l)
theorem fitB_len {s : Nat} {m : List ByteArray} {l : List Ent} (h : m.length ≠ cnt l.length s) : fitB s m l = false := by simp [fitB, h]
theorem fitB_no {s : Nat} {m : List ByteArray} {l : List Ent} {k : Nat} (hk : k < m.length) (h : fitAt s m l k = false) : fitB s m l = false := by
  unfold fitB
  rw [Bool.and_eq_false_iff]; right
  rw [List.all_eq_false]
  exact ⟨k, by simp [hk], by simp [h]⟩
theorem fitB_yes {s : Nat} {m : List ByteArray} {l : List Ent} (h0 : m.length = cnt l.length s) (h : ∀ k, k < m.length → fitAt s m l k = true) : fitB s m l = true := by
  unfold fitB
  rw [Bool.and_eq_true]
  exact ⟨by simp [h0], by rw [List.all_eq_true]; intro x hx; exact h x (by simpa using hx)⟩
theorem cnt_at {n s k : Nat} (hs : 1 ≤ s) (h : k < cnt n s) : (k + 1) * s < n := by
  unfold cnt at h
  exact (ceil_facts n s hs).2.1 _ (by omega)

set_option maxRecDepth 100000 in
set_option maxHeartbeats 2000000 in
theorem fenceFitsIn (a : Option Addr) (c : Nat) (s : Nat) (m : List ByteArray) (a2 : Option Addr) (c2 : Nat) (l : List Ent) (g : Nat) (w : World) (hm : Strs w a m) (hl : Ents w a2 l)
    (hs1 : 1 ≤ s) (hs2 : s ≤ 64) (hn1 : m.length ≤ 4999) (hn2 : l.length ≤ 5000)
    (h0 : w.cell? ⟨g, 0, none⟩ = some (.int .i64 (s : Int))) (h1 : w.cell? ⟨g, 1, none⟩ = some (.slice a m.length c)) :
    Calls Try.prog 40 #[.pointer (some ⟨g, 0, none⟩), .slice a2 l.length c2] w (RD w (.bool (fitB s m l))) := by
  have hC := fun w => fenceCount l.length s w (by omega) (by omega) (by omega)
  have HC := Lib.hid hC
  clear hC
  by_cases hc : m.length = cnt l.length s
  · have HY := Lib.hid (fitB_yes hc)
    generalize hq : cnt l.length s = q at *
    have hc' : ((m.length : Int) != (q : Int)) = false := by simp [hc]
    have hc2 : m.length ≤ q := by omega
    have HQ := Lib.hid hq
    clear hc hq
    go_enter Try.func40, Try.ntmps40
    go_wp2_with fail
    go_quiet (((go_at_call 54; first | with_reducible exact quietD (HC.out _) | with_reducible exact quietD2 (HC.out _))))
    go_wp2_with fail
    go_loopg [26] m.length (fun g i wr => ∃ k : Nat, k ≤ m.length ∧ i = .int .i64 k ∧ (∀ j, j < k → fitAt s m l j = true) ∧ Dr w wr ∧ g = m.length - k)
    case atStart => exact ⟨0, by omega, rfl, by intro j hj; omega, (by repeat (first | assumption | exact Dr.refl _ | apply Dr.drewN | apply Dr.drew | (refine Dr.trans ?_ (by assumption)))), rfl⟩
    case round =>
      obtain ⟨k, hk1, rfl, hall, hd, hg⟩ := hrel
      have HA := Lib.hid hall
      have G := Lib.hid hg
      have hb : Bl w wr := .of_dr hd
      have d0 := hb.cell h0
      have d1 := hb.cell h1
      clear hg hall
      by_cases h2 : k < m.length
      · have hcnt : k < cnt l.length s := by rw [HQ.out]; omega
        have b1 : ((k : Int) + 1) * (s : Int) = (((k + 1) * s : Nat) : Int) := by simp
        have hlt : (k + 1) * s < l.length := cnt_at (by omega) hcnt
        have hge : 1 ≤ (k + 1) * s := Nat.le_trans (show 1 ≤ s by omega) (Nat.le_mul_of_pos_left s (by omega))
        obtain ⟨b, off, rfl, hat⟩ := hm.get h2
        obtain ⟨b', off', rfl, hat'⟩ := hl.get hlt
        obtain ⟨x, hx⟩ : ∃ x, m[k]? = some x := ⟨_, List.getElem?_eq_getElem h2⟩
        obtain ⟨y, hy⟩ : ∃ y, l[(k + 1) * s - 1]? = some y := ⟨_, List.getElem?_eq_getElem (by omega)⟩
        obtain ⟨z, hz⟩ : ∃ z, l[(k + 1) * s]? = some z := ⟨_, List.getElem?_eq_getElem hlt⟩
        have c0 := hb.cell (hat k x hx)
        have c1 := hb.cell (hat' _ y hy).key
        have c2 := hb.cell (hat' _ z hz).key
        have hfa : fitAt s m l k = (slt y.key x && !slt z.key x) := by simp [fitAt, hx, hy, hz]
        generalize (k + 1) * s = t at *
        have HFA := Lib.hid hfa
        have HM := Lib.hid hm
        have HL := Lib.hid hl
        clear hx hy hz hat hat' hfa hm hl hcnt
        have t1 : (Op.bytesLess x.toList y.key.toList || x.toList == y.key.toList) = !slt y.key x := le_slt x y.key
        have t2 : (!(Op.bytesLess x.toList z.key.toList || x.toList == z.key.toList)) = slt z.key x := gt_slt x z.key
        go_wp2_with fail
        · have q1 : slt z.key x = true := by assumption
          go_ret
          exact RD.mk (bval (fitB_no h2 (by rw [HFA.out, q1]; simp)).symm) (by repeat (first | assumption | exact Dr.refl _ | apply Dr.drewN | apply Dr.drew | (refine Dr.trans ?_ (by assumption))))
        · have q1 : slt z.key x = false := by assumption
          have q2 : slt y.key x = true := by assumption
          have Q1 := Lib.hid q1
          have Q2 := Lib.hid q2
          go_roundg (m.length - (k + 1))
          case rel =>
            refine ⟨k + 1, by omega, by go_num, ?_, (by repeat (first | assumption | exact Dr.refl _ | apply Dr.drewN | apply Dr.drew | (refine Dr.trans ?_ (by assumption)))), rfl⟩
            intro j hj
            rcases Nat.lt_or_ge j k with h | h
            · exact HA.out j h
            · obtain rfl : j = k := by omega
              rw [HFA.out, Q1.out, Q2.out]; rfl
          case measure => rw [G.out]; omega
        · have q1 : ¬ slt y.key x = true := by assumption
          have q2 : slt y.key x = false := by simpa using q1
          go_ret
          exact RD.mk (bval (fitB_no h2 (by rw [HFA.out, q2]; rfl)).symm) (by repeat (first | assumption | exact Dr.refl _ | apply Dr.drewN | apply Dr.drew | (refine Dr.trans ?_ (by assumption))))
      · go_wp2
        go_ret
        exact RD.mk (bval (HY.out (fun j hj => HA.out j (by omega))).symm) (by repeat (first | assumption | exact Dr.refl _ | apply Dr.drewN | apply Dr.drew | (refine Dr.trans ?_ (by assumption))))
  · rw [fitB_len hc]
    generalize cnt l.length s = q at *
    have hc' : ((m.length : Int) != (q : Int)) = true := by rw [bne_iff_ne]; omega
    clear hc
    go_enter Try.func40, Try.ntmps40
    go_wp2_with fail
    go_quiet (((go_at_call 54; first | with_reducible exact quietD (HC.out _) | with_reducible exact quietD2 (HC.out _))))
    go_wp2_with fail
    go_ret
    exact RD.mk rfl (by repeat (first | assumption | exact Dr.refl _ | apply Dr.drewN | apply Dr.drew | (refine Dr.trans ?_ (by assumption))))

set_option maxRecDepth 100000 in
set_option maxHeartbeats 2000000 in
theorem refFitsIn (a : Option Addr) (c : Nat) (s : Nat) (m : List ByteArray) (a2 : Option Addr) (c2 : Nat) (l : List Ent) (w : World) (hm : Strs w a m) (hl : Ents w a2 l)
    (hs1 : 1 ≤ s) (hs2 : s ≤ 64) (hn1 : m.length ≤ 4999) (hn2 : l.length ≤ 5000) :
    Calls Try.prog 41 #[.agg #[.int .i64 (s : Int), .slice a m.length c], .slice a2 l.length c2] w (RB w (.bool (fitB s m l))) := by
  have hC := fun w => refBlocksN l.length s w (by omega) (by omega) (by omega)
  have HC := Lib.hid hC
  have hq3 : (l.length + s - 1) / s ≤ l.length := (ceil_facts l.length s (by omega)).2.2
  clear hC
  by_cases hc : m.length = cnt l.length s
  · have HY := Lib.hid (fitB_yes hc)
    have HQ := Lib.hid hc
    unfold cnt at hc
    generalize (l.length + s - 1) / s = q at *
    have hz : (q : Int) - 1 < 0 ∧ ((m.length : Int) != 0) = false ∨ ¬ (q : Int) - 1 < 0 ∧ ((m.length : Int) != (q : Int) - 1) = false := by
      rcases Nat.eq_zero_or_pos q with h | h
      · left; exact ⟨by omega, by rw [bne_eq_false_iff_eq]; omega⟩
      · right; exact ⟨by omega, by rw [bne_eq_false_iff_eq]; omega⟩
    clear hc
    rcases hz with ⟨hz1, hz2⟩ | ⟨hz1, hz2⟩
    all_goals
      go_enter Try.func41, Try.ntmps41
      go_wp2_with fail
      go_quiet (((go_at_call 55; first | with_reducible exact quietD (HC.out _) | with_reducible exact quietD2 (HC.out _))))
      go_wp2_with fail
      go_loopg [5] m.length (fun g i wr => ∃ k : Nat, k ≤ m.length ∧ i = .int .i64 k ∧ (∀ j, j < k → fitAt s m l j = true) ∧ Dr (w.alloc (Obj.cells #[Value.int IntKind.i64 s, Value.slice a m.length c] 25)) wr ∧ g = m.length - k)
      case atStart => exact ⟨0, by omega, rfl, by intro j hj; omega, (by repeat (first | assumption | exact Dr.refl _ | apply Dr.drewN | apply Dr.drew | (refine Dr.trans ?_ (by assumption)))), rfl⟩
      case round =>
        obtain ⟨k, hk1, rfl, hall, hd, hg⟩ := hrel
        have HA := Lib.hid hall
        have G := Lib.hid hg
        have hb : Bl w wr := ((Bl.refl w).alloc _).dr hd
        have d0 : wr.cell? ⟨w.heap.size, 0, none⟩ = some (.int .i64 (s : Int)) := by rw [hd.cell]; simp [go_sem]
        have d1 : wr.cell? ⟨w.heap.size, 1, none⟩ = some (.slice a m.length c) := by rw [hd.cell]; simp [go_sem]
        clear hg hall
        by_cases h2 : k < m.length
        · have hcnt : k < cnt l.length s := by rw [← HQ.out]; omega
          have b1 : ((k : Int) + 1) * (s : Int) = (((k + 1) * s : Nat) : Int) := by simp
          have hlt : (k + 1) * s < l.length := cnt_at (by omega) hcnt
          have hge : 1 ≤ (k + 1) * s := Nat.le_trans (show 1 ≤ s by omega) (Nat.le_mul_of_pos_left s (by omega))
          obtain ⟨b, off, rfl, hat⟩ := hm.get h2
          obtain ⟨b', off', rfl, hat'⟩ := hl.get hlt
          obtain ⟨x, hx⟩ : ∃ x, m[k]? = some x := ⟨_, List.getElem?_eq_getElem h2⟩
          obtain ⟨y, hy⟩ : ∃ y, l[(k + 1) * s - 1]? = some y := ⟨_, List.getElem?_eq_getElem (by omega)⟩
          obtain ⟨z, hz⟩ : ∃ z, l[(k + 1) * s]? = some z := ⟨_, List.getElem?_eq_getElem hlt⟩
          have c0 := hb.cell (hat k x hx)
          have c1 := hb.cell (hat' _ y hy).key
          have c2 := hb.cell (hat' _ z hz).key
          have hxo : x.size ≤ maxLen := hm.ok x (List.mem_of_getElem? hx)
          have hyo := (hl.ok y (List.mem_of_getElem? hy)).1
          have hzo := (hl.ok z (List.mem_of_getElem? hz)).1
          have hfa : fitAt s m l k = (slt y.key x && !slt z.key x) := by simp [fitAt, hx, hy, hz]
          have O1 := Lib.hid (fun w => refOrder x y.key w hxo hyo)
          have O2 := Lib.hid (fun w => refOrder x z.key w hxo hzo)
          have g1 := cmpS_leq x y.key
          have g2 := cmpS_gt x z.key
          generalize cmpS x y.key = v1 at *
          generalize cmpS x z.key = v2 at *
          generalize (k + 1) * s = t at *
          have HFA := Lib.hid hfa
          have HM := Lib.hid hm
          have HL := Lib.hid hl
          have G1 := Lib.hid g1
          have G2 := Lib.hid g2
          clear hx hy hz hat hat' hfa hm hl hcnt g1 g2
          by_cases p1 : v1 ≤ 0
          · have p1' : slt y.key x = false := by have := G1.out; simpa [p1] using this
            have P1 := Lib.hid p1'
            clear p1'
            have hw1 : IntKind.i64.wrap ((t : Int) - 1) = (t : Int) - 1 := IntWalk.i64_in _ (by omega)
            have hw2 : 0 ≤ (t : Int) - 1 := by omega
            have hw3 : (t : Int) - 1 < (l.length : Int) := by omega
            have hw4 : ((t : Int) - 1).toNat = t - 1 := by omega
            have hw5 : (1 : Int) ≤ (t : Int) := by omega
            go_wp2_with fail
            go_quiet (first | ((go_at_call 19; first | with_reducible exact quietD (O1.out _) | with_reducible exact quietD2 (O1.out _))) | ((go_at_call 19; first | with_reducible exact quietD (O2.out _) | with_reducible exact quietD2 (O2.out _))))
            clear hw1 hw2 hw3 hw4 hw5
            go_wp2_with fail
            go_ret
            exact RB.mk (bval (fitB_no h2 (by rw [HFA.out, P1.out]; rfl)).symm) (by repeat (first | assumption | exact Bl.refl _ | apply Bl.drewN | apply Bl.drew | apply Bl.alloc | (refine Bl.dr ?_ (by assumption)) | (refine Bl.trans ?_ (by assumption))))
          · have p1' : slt y.key x = true := by have := G1.out; simpa [p1] using this
            have P1 := Lib.hid p1'
            clear p1'
            by_cases p2 : 0 < v2
            · have p2' : slt z.key x = true := by have := G2.out; simpa [p2] using this
              have P2 := Lib.hid p2'
              clear p2'
              have hw1 : IntKind.i64.wrap ((t : Int) - 1) = (t : Int) - 1 := IntWalk.i64_in _ (by omega)
              have hw2 : 0 ≤ (t : Int) - 1 := by omega
              have hw3 : (t : Int) - 1 < (l.length : Int) := by omega
              have hw4 : ((t : Int) - 1).toNat = t - 1 := by omega
              have hw5 : (1 : Int) ≤ (t : Int) := by omega
              go_wp2_with fail
              go_quiet (first | ((go_at_call 19; first | with_reducible exact quietD (O1.out _) | with_reducible exact quietD2 (O1.out _))) | ((go_at_call 19; first | with_reducible exact quietD (O2.out _) | with_reducible exact quietD2 (O2.out _))))
              clear hw1 hw2 hw3 hw4 hw5
              go_wp2_with fail
              go_ret
              exact RB.mk (bval (fitB_no h2 (by rw [HFA.out, P1.out, P2.out]; rfl)).symm) (by repeat (first | assumption | exact Bl.refl _ | apply Bl.drewN | apply Bl.drew | apply Bl.alloc | (refine Bl.dr ?_ (by assumption)) | (refine Bl.trans ?_ (by assumption))))
            · have p2' : slt z.key x = false := by have := G2.out; simpa [p2] using this
              have P2 := Lib.hid p2'
              clear p2'
              have hw1 : IntKind.i64.wrap ((t : Int) - 1) = (t : Int) - 1 := IntWalk.i64_in _ (by omega)
              have hw2 : 0 ≤ (t : Int) - 1 := by omega
              have hw3 : (t : Int) - 1 < (l.length : Int) := by omega
              have hw4 : ((t : Int) - 1).toNat = t - 1 := by omega
              have hw5 : (1 : Int) ≤ (t : Int) := by omega
              go_wp2_with fail
              go_quiet (first | ((go_at_call 19; first | with_reducible exact quietD (O1.out _) | with_reducible exact quietD2 (O1.out _))) | ((go_at_call 19; first | with_reducible exact quietD (O2.out _) | with_reducible exact quietD2 (O2.out _))))
              clear hw1 hw2 hw3 hw4 hw5
              go_wp2_with fail
              go_roundg (m.length - (k + 1))
              case rel =>
                refine ⟨k + 1, by omega, by go_num, ?_, (by repeat (first | assumption | exact Dr.refl _ | apply Dr.drewN | apply Dr.drew | (refine Dr.trans ?_ (by assumption)))), rfl⟩
                intro j hj
                rcases Nat.lt_or_ge j k with h | h
                · exact HA.out j h
                · obtain rfl : j = k := by omega
                  rw [HFA.out, P1.out, P2.out]; rfl
              case measure => rw [G.out]; omega
        · go_wp2
          go_ret
          exact RB.mk (bval (HY.out (fun j hj => HA.out j (by omega))).symm) (by repeat (first | assumption | exact Bl.refl _ | apply Bl.drewN | apply Bl.drew | apply Bl.alloc | (refine Bl.dr ?_ (by assumption)) | (refine Bl.trans ?_ (by assumption))))
  · rw [fitB_len hc]
    unfold cnt at hc
    generalize (l.length + s - 1) / s = q at *
    have hz : (q : Int) - 1 < 0 ∧ ((m.length : Int) != 0) = true ∨ ¬ (q : Int) - 1 < 0 ∧ ((m.length : Int) != (q : Int) - 1) = true := by
      rcases Nat.eq_zero_or_pos q with h | h
      · left; exact ⟨by omega, by rw [bne_iff_ne]; omega⟩
      · right; exact ⟨by omega, by rw [bne_iff_ne]; omega⟩
    clear hc
    rcases hz with ⟨hz1, hz2⟩ | ⟨hz1, hz2⟩
    all_goals
      go_enter Try.func41, Try.ntmps41
      go_wp2_with fail
      go_quiet (((go_at_call 55; first | with_reducible exact quietD (HC.out _) | with_reducible exact quietD2 (HC.out _))))
      go_wp2_with fail
      go_ret
      exact RB.mk rfl (by repeat (first | assumption | exact Bl.refl _ | apply Bl.drewN | apply Bl.drew | apply Bl.alloc | (refine Bl.dr ?_ (by assumption)) | (refine Bl.trans ?_ (by assumption))))
end Go.Proofs.Yteafcbpogomioaa

/-
  Own texts laid together: RnB.
-/
import Derived.Test.YtinbdppekhcekaaZg
/-
  Contracts of the searches of a run.
-/
namespace Go.Proofs.Ytinbdppekhcekaa
open Go.RowKit
set_option linter.unusedSimpArgs false
set_option linter.unusedVariables false
set_option maxRecDepth 100000

set_option maxHeartbeats 1000000 in
theorem plainBelow (a : Option Addr) (c : Nat) (l : List Ent) (k : ByteArray) (w : World) (hl : Ents w a l) (hn : l.length ≤ maxLen) (ha : AscE l) :
    Calls Try.prog 80 #[.slice a l.length c, .string k] w (RB w (.int .i64 (cntLtE l k : Int))) := by
  unfold maxLen at hn
  obtain ⟨q, hq⟩ : ∃ q, cntLtE l k = q := ⟨_, rfl⟩
  rw [hq]
  have HQ := Lib.hid hq
  have HA := Lib.hid ha
  clear hq ha
  go_enter Try.func80, Try.ntmps80
  go_wp2_with fail
  go_loopg [5] l.length (fun g i wr => ∃ n : Nat, n ≤ l.length ∧ i = .int .i64 n ∧ (∀ j x, j < n → l[j]? = some x → slt x.key k = true) ∧ Bl w wr ∧ g = l.length - n)
  case atStart => exact ⟨0, by omega, rfl, by intro j x h; omega, Bl.refl _, rfl⟩
  case round =>
    obtain ⟨n, hn1, rfl, hc, hb, hg⟩ := hrel
    have H := Lib.hid hc
    have G := Lib.hid hg
    clear hc hg
    by_cases h1 : n < l.length
    · obtain ⟨b, off, rfl, hat⟩ := hl.get h1
      obtain ⟨x, hx⟩ : ∃ x, l[n]? = some x := ⟨_, List.getElem?_eq_getElem h1⟩
      have c0 := hb.cell (hat n x hx).key
      have X := Lib.hid hx
      have HL := Lib.hid hl
      clear hx hat hl
      cases hs : slt x.key k
      · have HS := Lib.hid hs
        clear hs
        have hs : Op.bytesLess x.key.toList k.toList = false := HS.out
        go_wp2_with fail
        go_ret
        refine RB.mk (ival ?_) (by repeat (first | assumption | exact Bl.refl _ | apply Bl.drewN | apply Bl.drew | apply Bl.alloc | (refine Bl.dr ?_ (by assumption)) | (refine Bl.trans ?_ (by assumption))))
        have := cntLtE_eq HA.out (k := k) hn1 H.out (fun y hy => by rw [X.out] at hy; injection hy with hy; rw [← hy]; exact HS.out)
        rw [HQ.out] at this; rw [this]
      · have HS := Lib.hid hs
        clear hs
        have hs : Op.bytesLess x.key.toList k.toList = true := HS.out
        go_wp2_with fail
        go_roundg (l.length - (n + 1))
        case rel =>
          refine ⟨n + 1, by omega, by go_num, fun j y hj hy => ?_, (by repeat (first | assumption | exact Bl.refl _ | apply Bl.drewN | apply Bl.drew | apply Bl.alloc | (refine Bl.dr ?_ (by assumption)) | (refine Bl.trans ?_ (by assumption)))), rfl⟩
          rcases Nat.lt_or_ge j n with h2 | h2
          · exact H.out j y h2 hy
          · have : j = n := by omega
            subst this; rw [X.out] at hy; injection hy with hy; rw [← hy]; exact HS.out
        case measure => rw [G.out]; omega
    · have hne : n = l.length := by omega
      go_wp2_with fail
      go_ret
      refine RB.mk (ival ?_) (by repeat (first | assumption | exact Bl.refl _ | apply Bl.drewN | apply Bl.drew | apply Bl.alloc | (refine Bl.dr ?_ (by assumption)) | (refine Bl.trans ?_ (by assumption))))
      have := cntLtE_eq HA.out (k := k) hn1 H.out (fun y hy => by rw [List.getElem?_eq_none (by omega)] at hy; cases hy)
      rw [HQ.out] at this; rw [this]

/-- What searched returns. -/
def plainV (a : Option Addr) (n c : Nat) : Value := .iface 85 (.slice a n c)
def fencedV (a : Option Addr) (n c : Nat) (a2 : Option Addr) (n2 c2 : Nat) : Value := .iface 92 (.agg #[.slice a n c, .int .i64 8, .slice a2 n2 c2])
def Srch (a : Option Addr) (c : Nat) (l : List Ent) (w : World) (v : Value) : Prop :=
  v = plainV a l.length c ∨ 8 < l.length ∧ ∃ a2 c2, v = fencedV a l.length c a2 (f8 l).marks.length c2 ∧ Strs w a2 (f8 l).marks

set_option maxHeartbeats 1000000 in
theorem runSearched (a : Option Addr) (c : Nat) (l : List Ent) (w : World) (hl : Ents w a l) (hn : l.length ≤ c) (hc : c ≤ maxLen) (hk : (clchk l).2 = 0) :
    Calls Try.prog 50 #[.slice a l.length c] w (RM w (Srch a c l)) := by
  have hM := fun w h => fenceMake a c l 8 w h hn hc (by omega) (by omega)
  rw [fmake8 hk] at hM
  have HM := Lib.hid hM
  have HE := Lib.hid hl
  clear hM hl hk
  unfold maxLen at hc
  by_cases h : l.length ≤ 8
  · go_enter Try.func50, Try.ntmps50
    go_wp2_with fail
    go_ret
    exact RM.mk (.inl rfl) (by repeat (first | assumption | exact Bl.refl _ | apply Bl.drewN | apply Bl.drew | apply Bl.alloc | (refine Bl.dr ?_ (by assumption)) | (refine Bl.trans ?_ (by assumption))))
  · go_enter Try.func50, Try.ntmps50
    go_wp2_with fail
    refine (HM.out _ (HE.out.bl (by repeat (first | assumption | exact Bl.refl _ | apply Bl.drewN | apply Bl.drew | apply Bl.alloc | (refine Bl.dr ?_ (by assumption)) | (refine Bl.trans ?_ (by assumption)))))).mono ?_; rintro e w1 ⟨v, rfl, ⟨a2, c2, rfl, hs, hc3, hc4⟩, hb1⟩
    unfold Fnc.v
    go_wp2_with fail
    go_ret
    exact RM.mk (.inr ⟨by omega, a2, c2, rfl, hs.bl (by repeat (first | assumption | exact Bl.refl _ | apply Bl.drewN | apply Bl.drew | apply Bl.alloc | (refine Bl.dr ?_ (by assumption)) | (refine Bl.trans ?_ (by assumption))))⟩) (by repeat (first | assumption | exact Bl.refl _ | apply Bl.drewN | apply Bl.drew | apply Bl.alloc | (refine Bl.dr ?_ (by assumption)) | (refine Bl.trans ?_ (by assumption))))

set_option maxHeartbeats 1000000 in
theorem fencedBelow (a : Option Addr) (c : Nat) (a2 : Option Addr) (c2 : Nat) (l : List Ent) (k : ByteArray) (w : World) (hl : Ents w a l) (hn : l.length ≤ c) (hc : c ≤ maxLen) (hk : (clchk l).2 = 0) (hks : k.size ≤ 32) (hm : Strs w a2 (f8 l).marks) (h8 : 8 < l.length) :
    Calls Try.prog 81 #[.agg #[.slice a l.length c, .int .i64 8, .slice a2 (f8 l).marks.length c2], .string k] w (RB w (.int .i64 (cntLtE l k : Int))) := by
  obtain ⟨fr, to, h1, h2, h3, h4⟩ := span8 hk hks
  obtain ⟨l1, l2, l3⟩ := clchk_ok hk
  have hfo : FOk w a2 (f8 l) := ⟨hm, by have := (f8_facts hk).2.2.2; omega, by show -9223372036854775808 ≤ (8:Int); omega, by show (8:Int) ≤ 9223372036854775807; omega⟩
  have hS := fun w h => fenceSpan a2 c2 (f8 l) l.length k w h (by unfold maxLen; omega) (by omega) (by omega)
  rw [h1] at hS
  unfold Fnc.v at hS
  have hst : (f8 l).step = 8 := rfl
  rw [hst] at hS
  generalize (f8 l).marks.length = mn at *
  have HF := Lib.hid hfo
  have HS := Lib.hid hS
  have HE := Lib.hid hl
  have H4 := Lib.hid h4
  clear hS hl h4 h1 hfo hm hk hst l2
  unfold maxLen at hc
  obtain ⟨b, off, rfl, hat⟩ := HE.out.get h8
  have hB := fun a cc w h => plainBelow a cc ((l.drop fr).take (to - fr)) k w h (by unfold maxLen; simp; omega) ((l3.drop).take)
  have hlen : ((l.drop fr).take (to - fr)).length = to - fr := by simp; omega
  rw [hlen] at hB
  have HB := Lib.hid hB
  have HC := Lib.hid (HE.out.cut fr to)
  have HZ : fr = to → ∀ W a', Ents W a' ((l.drop fr).take (to - fr)) := by
    intro h W a'; rw [h, Nat.sub_self]; exact ⟨by simp, fun h => absurd (by simp) h⟩
  have HZ := Lib.hid HZ
  clear hB hlen l3 hat
  go_enter Try.func81, Try.ntmps81
  go_wp2_with fail
  refine (HS.out _ (HF.out.bl (by repeat (first | assumption | exact Bl.refl _ | apply Bl.drewN | apply Bl.drew | apply Bl.alloc | (refine Bl.dr ?_ (by assumption)) | (refine Bl.trans ?_ (by assumption)))))).mono ?_; rintro e w1 ⟨rfl, hb1⟩
  have c0 : w1.cell? ⟨w.heap.size, 0, none⟩ = some (.slice (some ⟨b, off, none⟩) l.length c) := hb1.cell (by simp [go_sem])
  have hb : Bl w w1 := (by repeat (first | assumption | exact Bl.refl _ | apply Bl.drewN | apply Bl.drew | apply Bl.alloc | (refine Bl.dr ?_ (by assumption)) | (refine Bl.trans ?_ (by assumption))))
  clear hb1
  have hr := cntLtE_le ((l.drop fr).take (to - fr)) k
  have hr2 : cntLtE ((l.drop fr).take (to - fr)) k ≤ l.length := by simp at hr; omega
  clear hr
  generalize cntLtE ((l.drop fr).take (to - fr)) k = rr at *
  by_cases hcf : c = fr
  · have hz := HZ.out (by omega)
    go_wp2_with fail
    refine (HB.out _ _ _ (hz _ _)).mono ?_; rintro e w2 ⟨rfl, hb2⟩
    go_wp2_with fail
    go_ret
    exact RB.mk (ival (by rw [← H4.out]; omega)) (by repeat (first | assumption | exact Bl.refl _ | apply Bl.drewN | apply Bl.drew | apply Bl.alloc | (refine Bl.dr ?_ (by assumption)) | (refine Bl.trans ?_ (by assumption))))
  · go_wp2_with fail
    refine (HB.out _ _ _ (HC.out.bl (by repeat (first | assumption | exact Bl.refl _ | apply Bl.drewN | apply Bl.drew | apply Bl.alloc | (refine Bl.dr ?_ (by assumption)) | (refine Bl.trans ?_ (by assumption)))))).mono ?_; rintro e w2 ⟨rfl, hb2⟩
    go_wp2_with fail
    go_ret
    exact RB.mk (ival (by rw [← H4.out]; omega)) (by repeat (first | assumption | exact Bl.refl _ | apply Bl.drewN | apply Bl.drew | apply Bl.alloc | (refine Bl.dr ?_ (by assumption)) | (refine Bl.trans ?_ (by assumption))))

theorem meth_plain (a : Option Addr) (n c : Nat) (w : World) : (method 226 85 (.slice a n c) "bookend/runs.below").run Try.prog w = .ok (80, .slice a n c) w := by kernel_rfl
theorem meth_fenced (a : Option Addr) (n c : Nat) (a2 : Option Addr) (n2 c2 : Nat) (w : World) : (method 226 92 (.agg #[.slice a n c, .int .i64 8, .slice a2 n2 c2]) "bookend/runs.below").run Try.prog w = .ok (81, .agg #[.slice a n c, .int .i64 8, .slice a2 n2 c2]) w := by kernel_rfl

theorem asrt_plain (a : Option Addr) (n c : Nat) (w : World) : (Instr.typeAssert (.iface 85 (.slice a n c)) 72 92 true).run Try.prog w = .ok (.tuple #[.agg #[.slice none 0 0, .int .i64 0, .slice none 0 0], .bool false]) w := by kernel_rfl
theorem asrt_fenced (a : Option Addr) (n c : Nat) (a2 : Option Addr) (n2 c2 : Nat) (w : World) : (Instr.typeAssert (.iface 92 (.agg #[.slice a n c, .int .i64 8, .slice a2 n2 c2])) 72 92 true).run Try.prog w = .ok (.tuple #[.agg #[.slice a n c, .int .i64 8, .slice a2 n2 c2], .bool true]) w := by kernel_rfl

end Go.Proofs.Ytinbdppekhcekaa

/-
  Own texts laid together: RnA RnB RnC RnG RnE RnI RnJ RpA.
-/
import Derived.Test.YtkbfjficmdgjpaaGreatDoorZA
import Derived.IntWalk
import Derived.Test.YtkbfjficmdgjpaaGreatDoorMem
import Derived.Test.YtkbfjficmdgjpaaGreatDoorEpA
/-
  Contracts of runs.Check, asked, at and of the reference's Check, asked.
-/
namespace Go.Proofs.YtkbfjficmdgjpaaGreatDoor
open Go.RowKit
set_option linter.unusedSimpArgs false
set_option linter.unusedVariables false
set_option maxRecDepth 100000


set_option maxRecDepth 100000 in
set_option maxHeartbeats 1000000 in
theorem runCheck (a : Option Addr) (c : Nat) (r : Rn) (w : World) (h : ROk w a c r) :
    Calls Tryz.prog 16 #[r.v a c] w (RB w (.tuple #[.int .i64 (rck r).1, .int .i64 (rck r).2])) := by
  have hL := fun w hh => entCheckList a c r.es w hh (Nat.le_trans h.len h.cap)
  have hlo := h.lo
  have hhi := h.hi
  unfold rck
  generalize hq : clchk r.es = q at *
  obtain ⟨q0, q1⟩ := q
  have HE := Lib.hid h.ents
  have HL := Lib.hid hL
  clear hL hq h
  obtain ⟨id, l⟩ := r
  unfold Rn.v
  simp only at hlo hhi ⊢
  by_cases e : id < 1 ∨ 1000000 < id
  · rw [if_pos e]
    rcases e with e | e
    · go_enter Tryz.func16, Tryz.ntmps16
      go_wp2_with fail
      go_ret2
      exact rb_tuple rfl rfl (by repeat (first | assumption | exact Bl.refl _ | apply Bl.drewN | apply Bl.drew | apply Bl.alloc | (refine Bl.dr ?_ (by assumption)) | (refine Bl.trans ?_ (by assumption))))
    · have e' : ¬ id < 1 := by omega
      go_enter Tryz.func16, Tryz.ntmps16
      go_wp2_with fail
      go_ret2
      exact rb_tuple rfl rfl (by repeat (first | assumption | exact Bl.refl _ | apply Bl.drewN | apply Bl.drew | apply Bl.alloc | (refine Bl.dr ?_ (by assumption)) | (refine Bl.trans ?_ (by assumption))))
  · rw [if_neg e]
    have e1 : ¬ id < 1 := by omega
    have e2 : ¬ 1000000 < id := by omega
    clear e
    go_enter Tryz.func16, Tryz.ntmps16
    go_wp2_with fail
    refine (HL.out _ (HE.out.bl (by repeat (first | assumption | exact Bl.refl _ | apply Bl.drewN | apply Bl.drew | apply Bl.alloc | (refine Bl.dr ?_ (by assumption)) | (refine Bl.trans ?_ (by assumption)))))).mono ?_; rintro e w1 ⟨rfl, hb1⟩
    go_wp2_with fail
    go_ret2
    exact rb_tuple rfl rfl (by repeat (first | assumption | exact Bl.refl _ | apply Bl.drewN | apply Bl.drew | apply Bl.alloc | (refine Bl.dr ?_ (by assumption)) | (refine Bl.trans ?_ (by assumption))))

set_option maxRecDepth 100000 in
set_option maxHeartbeats 1000000 in
theorem refRunCheck (a : Option Addr) (c : Nat) (r : Rn) (w : World) (h : ROk w a c r) :
    Calls Tryz.prog 19 #[r.v a c] w (RB w (.tuple #[.int .i64 (rck r).1, .int .i64 (rck r).2])) := by
  have hL := fun w hh => refCheckList a c r.es w hh (Nat.le_trans h.len h.cap)
  have hlo := h.lo
  have hhi := h.hi
  unfold rck
  generalize hq : clchk r.es = q at *
  obtain ⟨q0, q1⟩ := q
  have HE := Lib.hid h.ents
  have HL := Lib.hid hL
  clear hL hq h
  obtain ⟨id, l⟩ := r
  unfold Rn.v
  simp only at hlo hhi ⊢
  by_cases e : id < 1 ∨ 1000000 < id
  · rw [if_pos e]
    rcases e with e | e
    · go_enter Tryz.func19, Tryz.ntmps19
      go_wp2_with fail
      go_ret2
      exact rb_tuple rfl rfl (by repeat (first | assumption | exact Bl.refl _ | apply Bl.drewN | apply Bl.drew | apply Bl.alloc | (refine Bl.dr ?_ (by assumption)) | (refine Bl.trans ?_ (by assumption))))
    · have e' : ¬ id < 1 := by omega
      go_enter Tryz.func19, Tryz.ntmps19
      go_wp2_with fail
      go_ret2
      exact rb_tuple rfl rfl (by repeat (first | assumption | exact Bl.refl _ | apply Bl.drewN | apply Bl.drew | apply Bl.alloc | (refine Bl.dr ?_ (by assumption)) | (refine Bl.trans ?_ (by assumption))))
  · rw [if_neg e]
    have e1 : ¬ id < 1 := by omega
    have e2 : ¬ 1000000 < id := by omega
    clear e
    go_enter Tryz.func19, Tryz.ntmps19
    go_wp2_with fail
    refine (HL.out _ (HE.out.bl (by repeat (first | assumption | exact Bl.refl _ | apply Bl.drewN | apply Bl.drew | apply Bl.alloc | (refine Bl.dr ?_ (by assumption)) | (refine Bl.trans ?_ (by assumption)))))).mono ?_; rintro e w1 ⟨rfl, hb1⟩
    go_wp2_with fail
    go_ret2
    exact rb_tuple rfl rfl (by repeat (first | assumption | exact Bl.refl _ | apply Bl.drewN | apply Bl.drew | apply Bl.alloc | (refine Bl.dr ?_ (by assumption)) | (refine Bl.trans ?_ (by assumption))))

set_option maxRecDepth 100000 in
set_option maxHeartbeats 1000000 in
theorem runAsked (a : Option Addr) (c : Nat) (r : Rn) (k : ByteArray) (g : Nat) (w : World) (h : ROk w a c r) (hk : k.size ≤ maxLen)
    (h0 : w.cell? ⟨g, 0, none⟩ = some (.int .i64 r.id)) (h1 : w.cell? ⟨g, 1, none⟩ = some (.slice a r.es.length c)) :
    Calls Tryz.prog 29 #[.pointer (some ⟨g, 0, none⟩), .string k] w (RB w (.int .i64 (rask r k))) := by
  have hC := fun w h => runCheck a c r w h
  have hK := fun w => keysCheck k w hk
  have HF := Lib.hid h
  unfold rask
  by_cases e : (rck r).2 = 0
  · rw [if_neg (by simp [e])]
    have e' : ((rck r).2 != 0) = false := by simp [e]
    generalize (rck r).1 = q0 at *
    generalize (rck r).2 = q1 at *
    generalize kchk k = q2 at *
    obtain ⟨id, l⟩ := r
    unfold Rn.v at hC
    simp only at hC h0 h1
    have HC := Lib.hid hC
    have HK := Lib.hid hK
    clear hC hK e h
    go_enter Tryz.func29, Tryz.ntmps29
    go_wp2_with fail
    refine (HC.out _ HF.out).mono ?_; rintro e w1 ⟨rfl, hb1⟩
    go_wp2_with fail
    refine (HK.out _).mono ?_; rintro e w' ⟨rfl, n1, rfl⟩
    go_wp2_with fail
    go_ret
    exact RB.mk rfl (by repeat (first | assumption | exact Bl.refl _ | apply Bl.drewN | apply Bl.drew | apply Bl.alloc | (refine Bl.dr ?_ (by assumption)) | (refine Bl.trans ?_ (by assumption))))
  · rw [if_pos e]
    have e' : ((rck r).2 != 0) = true := by simp [e]
    generalize (rck r).1 = q0 at *
    generalize (rck r).2 = q1 at *
    obtain ⟨id, l⟩ := r
    unfold Rn.v at hC
    simp only at hC h0 h1
    have HC := Lib.hid hC
    clear hC hK e h
    go_enter Tryz.func29, Tryz.ntmps29
    go_wp2_with fail
    refine (HC.out _ HF.out).mono ?_; rintro e w1 ⟨rfl, hb1⟩
    go_wp2_with fail
    go_ret
    exact RB.mk rfl (by repeat (first | assumption | exact Bl.refl _ | apply Bl.drewN | apply Bl.drew | apply Bl.alloc | (refine Bl.dr ?_ (by assumption)) | (refine Bl.trans ?_ (by assumption))))

/-- What at returns. -/
theorem runAt (a : Option Addr) (c : Nat) (l : List Ent) (i : Int) (w : World) (hl : Ents w a l) (hn : l.length ≤ maxLen) (h1 : -9223372036854775808 ≤ i) (h2 : i ≤ 9223372036854775807) :
    Calls Tryz.prog 31 #[.slice a l.length c, .int .i64 i] w (RB w (.tuple #[(atE l i).1.v, .int .i64 (atE l i).2])) := by
  unfold maxLen at hn
  by_cases e : i < 0 ∨ (l.length : Int) ≤ i
  · rw [atE_none e]
    unfold ent0 Ent.v
    rcases e with e | e
    · go_enter Tryz.func31, Tryz.ntmps31
      go_wp2_with fail
      
      refine bodyPost_ret (v := .tuple #[.agg #[.string mt, .string mt, .bool false, .int .i64 0], .int .i64 4]) (by simp [results, Tryz.results31, go_sem, *]) rfl ?_
      exact RB.mk rfl (by repeat (first | assumption | exact Bl.refl _ | apply Bl.drewN | apply Bl.drew | apply Bl.alloc | (refine Bl.setCell ?_ _ (by first | (simp; done) | (simp; omega)) _) | (refine Bl.dr ?_ (by assumption)) | (refine Bl.trans ?_ (by assumption))))
    · by_cases e' : i < 0
      · omega
      · go_enter Tryz.func31, Tryz.ntmps31
        go_wp2_with fail
        
        refine bodyPost_ret (v := .tuple #[.agg #[.string mt, .string mt, .bool false, .int .i64 0], .int .i64 4]) (by simp [results, Tryz.results31, go_sem, *]) rfl ?_
        exact RB.mk rfl (by repeat (first | assumption | exact Bl.refl _ | apply Bl.drewN | apply Bl.drew | apply Bl.alloc | (refine Bl.setCell ?_ _ (by first | (simp; done) | (simp; omega)) _) | (refine Bl.dr ?_ (by assumption)) | (refine Bl.trans ?_ (by assumption))))
  · obtain ⟨n, rfl⟩ := Int.eq_ofNat_of_zero_le (show 0 ≤ i by omega)
    have hi : n < l.length := by omega
    obtain ⟨b, off, rfl, hat⟩ := hl.get hi
    obtain ⟨x, hx⟩ : ∃ x, l[n]? = some x := ⟨_, List.getElem?_eq_getElem hi⟩
    obtain ⟨c0, c1, c2, c3⟩ := hat n x hx
    rw [atE_some hx]
    unfold Ent.v
    have hbz := (Bl.refl w).alloc (Obj.cells #[.string ⟨#[]⟩, .string ⟨#[]⟩, .bool false, .int .i64 0] 35)
    have d0 := hbz.cell c0
    have d1 := hbz.cell c1
    have d2 := hbz.cell c2
    have d3 := hbz.cell c3
    clear hat hx hl hbz
    go_enter Tryz.func31, Tryz.ntmps31
    go_wp2_with fail
    
    refine bodyPost_ret (v := .tuple #[.agg #[.string x.key, .string x.val, .bool x.dead, .int .i64 x.seq], .int .i64 0]) (by simp [results, Tryz.results31, go_sem, *]) rfl ?_
    exact RB.mk rfl (by repeat (first | assumption | exact Bl.refl _ | apply Bl.drewN | apply Bl.drew | apply Bl.alloc | (refine Bl.setCell ?_ _ (by first | (simp; done) | (simp; omega)) _) | (refine Bl.dr ?_ (by assumption)) | (refine Bl.trans ?_ (by assumption))))
end Go.Proofs.YtkbfjficmdgjpaaGreatDoor
/-
  Contracts of the searches of a run.
-/
namespace Go.Proofs.YtkbfjficmdgjpaaGreatDoor
open Go.RowKit
set_option linter.unusedSimpArgs false
set_option linter.unusedVariables false
set_option maxRecDepth 100000

set_option maxHeartbeats 1000000 in
theorem plainBelow (a : Option Addr) (c : Nat) (l : List Ent) (k : ByteArray) (w : World) (hl : Ents w a l) (hn : l.length ≤ maxLen) (ha : AscE l) :
    Calls Tryz.prog 157 #[.slice a l.length c, .string k] w (RB w (.int .i64 (cntLtE l k : Int))) := by
  unfold maxLen at hn
  obtain ⟨q, hq⟩ : ∃ q, cntLtE l k = q := ⟨_, rfl⟩
  rw [hq]
  have HQ := Lib.hid hq
  have HA := Lib.hid ha
  clear hq ha
  go_enter Tryz.func157, Tryz.ntmps157
  go_wp2_with fail
  go_loopg [5] l.length (fun g i wr => ∃ n : Nat, n ≤ l.length ∧ i = .int .i64 n ∧ (∀ j x, j < n → l[j]? = some x → slt x.key k = true) ∧ Bl w wr ∧ g = l.length - n)
  case atStart => exact ⟨0, by omega, rfl, by intro j x h; omega, Bl.refl _, rfl⟩
  case round =>
    obtain ⟨n, hn1, rfl, hc, hb, hg⟩ := hrel
    have H := Lib.hid hc
    have G := Lib.hid hg
    clear hc hg
    by_cases h1 : n < l.length
    · obtain ⟨b, off, rfl, hat⟩ := hl.get h1
      obtain ⟨x, hx⟩ : ∃ x, l[n]? = some x := ⟨_, List.getElem?_eq_getElem h1⟩
      have c0 := hb.cell (hat n x hx).key
      have X := Lib.hid hx
      have HL := Lib.hid hl
      clear hx hat hl
      cases hs : slt x.key k
      · have HS := Lib.hid hs
        clear hs
        have hs : Op.bytesLess x.key.toList k.toList = false := HS.out
        go_wp2_with fail
        go_ret
        refine RB.mk (ival ?_) (by repeat (first | assumption | exact Bl.refl _ | apply Bl.drewN | apply Bl.drew | apply Bl.alloc | (refine Bl.dr ?_ (by assumption)) | (refine Bl.trans ?_ (by assumption))))
        have := cntLtE_eq HA.out (k := k) hn1 H.out (fun y hy => by rw [X.out] at hy; injection hy with hy; rw [← hy]; exact HS.out)
        rw [HQ.out] at this; rw [this]
      · have HS := Lib.hid hs
        clear hs
        have hs : Op.bytesLess x.key.toList k.toList = true := HS.out
        go_wp2_with fail
        go_roundg (l.length - (n + 1))
        case rel =>
          refine ⟨n + 1, by omega, by go_num, fun j y hj hy => ?_, (by repeat (first | assumption | exact Bl.refl _ | apply Bl.drewN | apply Bl.drew | apply Bl.alloc | (refine Bl.dr ?_ (by assumption)) | (refine Bl.trans ?_ (by assumption)))), rfl⟩
          rcases Nat.lt_or_ge j n with h2 | h2
          · exact H.out j y h2 hy
          · have : j = n := by omega
            subst this; rw [X.out] at hy; injection hy with hy; rw [← hy]; exact HS.out
        case measure => rw [G.out]; omega
    · have hne : n = l.length := by omega
      go_wp2_with fail
      go_ret
      refine RB.mk (ival ?_) (by repeat (first | assumption | exact Bl.refl _ | apply Bl.drewN | apply Bl.drew | apply Bl.alloc | (refine Bl.dr ?_ (by assumption)) | (refine Bl.trans ?_ (by assumption))))
      have := cntLtE_eq HA.out (k := k) hn1 H.out (fun y hy => by rw [List.getElem?_eq_none (by omega)] at hy; cases hy)
      rw [HQ.out] at this; rw [this]

/-- What searched returns. -/
def plainV (a : Option Addr) (n c : Nat) : Value := .iface 92 (.slice a n c)
def fencedV (a : Option Addr) (n c : Nat) (a2 : Option Addr) (n2 c2 : Nat) : Value := .iface 96 (.agg #[.slice a n c, .int .i64 8, .slice a2 n2 c2])
def Srch (a : Option Addr) (c : Nat) (l : List Ent) (w : World) (v : Value) : Prop :=
  v = plainV a l.length c ∨ 8 < l.length ∧ ∃ a2 c2, v = fencedV a l.length c a2 (f8 l).marks.length c2 ∧ Strs w a2 (f8 l).marks

set_option maxHeartbeats 1000000 in
theorem runSearched (a : Option Addr) (c : Nat) (l : List Ent) (w : World) (hl : Ents w a l) (hn : l.length ≤ c) (hc : c ≤ maxLen) (hk : (clchk l).2 = 0) :
    Calls Tryz.prog 54 #[.slice a l.length c] w (RM w (Srch a c l)) := by
  have hM := fun w h => fenceMake a c l 8 w h hn hc (by omega) (by omega)
  rw [fmake8 hk] at hM
  have HM := Lib.hid hM
  have HE := Lib.hid hl
  clear hM hl hk
  unfold maxLen at hc
  by_cases h : l.length ≤ 8
  · go_enter Tryz.func54, Tryz.ntmps54
    go_wp2_with fail
    go_ret
    exact RM.mk (.inl rfl) (by repeat (first | assumption | exact Bl.refl _ | apply Bl.drewN | apply Bl.drew | apply Bl.alloc | (refine Bl.dr ?_ (by assumption)) | (refine Bl.trans ?_ (by assumption))))
  · go_enter Tryz.func54, Tryz.ntmps54
    go_wp2_with fail
    refine (HM.out _ (HE.out.bl (by repeat (first | assumption | exact Bl.refl _ | apply Bl.drewN | apply Bl.drew | apply Bl.alloc | (refine Bl.dr ?_ (by assumption)) | (refine Bl.trans ?_ (by assumption)))))).mono ?_; rintro e w1 ⟨v, rfl, ⟨a2, c2, rfl, hs, hc3, hc4⟩, hb1⟩
    unfold Fnc.v
    go_wp2_with fail
    go_ret
    exact RM.mk (.inr ⟨by omega, a2, c2, rfl, hs.bl (by repeat (first | assumption | exact Bl.refl _ | apply Bl.drewN | apply Bl.drew | apply Bl.alloc | (refine Bl.dr ?_ (by assumption)) | (refine Bl.trans ?_ (by assumption))))⟩) (by repeat (first | assumption | exact Bl.refl _ | apply Bl.drewN | apply Bl.drew | apply Bl.alloc | (refine Bl.dr ?_ (by assumption)) | (refine Bl.trans ?_ (by assumption))))

set_option maxHeartbeats 1000000 in
theorem fencedBelow (a : Option Addr) (c : Nat) (a2 : Option Addr) (c2 : Nat) (l : List Ent) (k : ByteArray) (w : World) (hl : Ents w a l) (hn : l.length ≤ c) (hc : c ≤ maxLen) (hk : (clchk l).2 = 0) (hks : k.size ≤ 32) (hm : Strs w a2 (f8 l).marks) (h8 : 8 < l.length) :
    Calls Tryz.prog 158 #[.agg #[.slice a l.length c, .int .i64 8, .slice a2 (f8 l).marks.length c2], .string k] w (RB w (.int .i64 (cntLtE l k : Int))) := by
  obtain ⟨fr, tox, h1, h2, h3, h4⟩ := span8 hk hks
  obtain ⟨l1, l2, l3⟩ := clchk_ok hk
  have hfo : FOk w a2 (f8 l) := ⟨hm, by have := (f8_facts hk).2.2.2; omega, by show -9223372036854775808 ≤ (8:Int); omega, by show (8:Int) ≤ 9223372036854775807; omega⟩
  have hS := fun w h => fenceSpan a2 c2 (f8 l) l.length k w h (by unfold maxLen; omega) (by omega) (by omega)
  rw [h1] at hS
  unfold Fnc.v at hS
  have hst : (f8 l).step = 8 := rfl
  rw [hst] at hS
  generalize (f8 l).marks.length = mn at *
  have HF := Lib.hid hfo
  have HS := Lib.hid hS
  have HE := Lib.hid hl
  have H4 := Lib.hid h4
  clear hS hl h4 h1 hfo hm hk hst l2
  unfold maxLen at hc
  obtain ⟨b, off, rfl, hat⟩ := HE.out.get h8
  have hB := fun a cc w h => plainBelow a cc ((l.drop fr).take (tox - fr)) k w h (by unfold maxLen; simp; omega) ((l3.drop).take)
  have hlen : ((l.drop fr).take (tox - fr)).length = tox - fr := by simp; omega
  rw [hlen] at hB
  have HB := Lib.hid hB
  have HC := Lib.hid (HE.out.cut fr tox)
  have HZ : fr = tox → ∀ W a', Ents W a' ((l.drop fr).take (tox - fr)) := by
    intro h W a'; rw [h, Nat.sub_self]; exact ⟨by simp, fun h => absurd (by simp) h⟩
  have HZ := Lib.hid HZ
  clear hB hlen l3 hat
  go_enter Tryz.func158, Tryz.ntmps158
  go_wp2_with fail
  refine (HS.out _ (HF.out.bl (by repeat (first | assumption | exact Bl.refl _ | apply Bl.drewN | apply Bl.drew | apply Bl.alloc | (refine Bl.dr ?_ (by assumption)) | (refine Bl.trans ?_ (by assumption)))))).mono ?_; rintro e w1 ⟨rfl, hb1⟩
  have c0 : w1.cell? ⟨w.heap.size, 0, none⟩ = some (.slice (some ⟨b, off, none⟩) l.length c) := hb1.cell (by simp [go_sem])
  have hb : Bl w w1 := (by repeat (first | assumption | exact Bl.refl _ | apply Bl.drewN | apply Bl.drew | apply Bl.alloc | (refine Bl.dr ?_ (by assumption)) | (refine Bl.trans ?_ (by assumption))))
  clear hb1
  have hr := cntLtE_le ((l.drop fr).take (tox - fr)) k
  have hr2 : cntLtE ((l.drop fr).take (tox - fr)) k ≤ l.length := by simp at hr; omega
  clear hr
  generalize cntLtE ((l.drop fr).take (tox - fr)) k = rr at *
  by_cases hcf : c = fr
  · have hz := HZ.out (by omega)
    go_wp2_with fail
    refine (HB.out _ _ _ (hz _ _)).mono ?_; rintro e w2 ⟨rfl, hb2⟩
    go_wp2_with fail
    go_ret
    exact RB.mk (ival (by rw [← H4.out]; omega)) (by repeat (first | assumption | exact Bl.refl _ | apply Bl.drewN | apply Bl.drew | apply Bl.alloc | (refine Bl.dr ?_ (by assumption)) | (refine Bl.trans ?_ (by assumption))))
  · go_wp2_with fail
    refine (HB.out _ _ _ (HC.out.bl (by repeat (first | assumption | exact Bl.refl _ | apply Bl.drewN | apply Bl.drew | apply Bl.alloc | (refine Bl.dr ?_ (by assumption)) | (refine Bl.trans ?_ (by assumption)))))).mono ?_; rintro e w2 ⟨rfl, hb2⟩
    go_wp2_with fail
    go_ret
    exact RB.mk (ival (by rw [← H4.out]; omega)) (by repeat (first | assumption | exact Bl.refl _ | apply Bl.drewN | apply Bl.drew | apply Bl.alloc | (refine Bl.dr ?_ (by assumption)) | (refine Bl.trans ?_ (by assumption))))

theorem meth_plain (a : Option Addr) (n c : Nat) (w : World) : (method 303 92 (.slice a n c) "bookend/runs.below").run Tryz.prog w = .ok (157, .slice a n c) w := by kernel_rfl
theorem meth_fenced (a : Option Addr) (n c : Nat) (a2 : Option Addr) (n2 c2 : Nat) (w : World) : (method 303 96 (.agg #[.slice a n c, .int .i64 8, .slice a2 n2 c2]) "bookend/runs.below").run Tryz.prog w = .ok (158, .agg #[.slice a n c, .int .i64 8, .slice a2 n2 c2]) w := by kernel_rfl

theorem asrt_plain (a : Option Addr) (n c : Nat) (w : World) : (Instr.typeAssert (.iface 92 (.slice a n c)) 89 96 true).run Tryz.prog w = .ok (.tuple #[.agg #[.slice none 0 0, .int .i64 0, .slice none 0 0], .bool false]) w := by kernel_rfl
theorem asrt_fenced (a : Option Addr) (n c : Nat) (a2 : Option Addr) (n2 c2 : Nat) (w : World) : (Instr.typeAssert (.iface 96 (.agg #[.slice a n c, .int .i64 8, .slice a2 n2 c2])) 89 96 true).run Tryz.prog w = .ok (.tuple #[.agg #[.slice a n c, .int .i64 8, .slice a2 n2 c2], .bool true]) w := by kernel_rfl

set_option maxHeartbeats 1000000 in
theorem runAround (a : Option Addr) (c : Nat) (l : List Ent) (k : ByteArray) (w : World) (hl : Ents w a l) (hn : l.length ≤ c) (hc : c ≤ maxLen) (hk : (clchk l).2 = 0) (hks : k.size ≤ 32) :
    Calls Tryz.prog 30 #[.slice a l.length c, .string k] w (RB w (.tuple #[.int .i64 (cntLtE l k : Int), .bool (hasK l k)])) := by
  have hS := fun w h => runSearched a c l w h hn hc hk
  have hP := fun w h => plainBelow a c l k w h (by omega) (clchk_ok hk).2.2
  have hF := fun a2 c2 w h hm h8 => fencedBelow a c a2 c2 l k w h hn hc hk hks hm h8
  have HE := Lib.hid hl
  have HS := Lib.hid hS
  have HP := Lib.hid hP
  have HF := Lib.hid hF
  unfold maxLen at hc
  clear hS hP hF hl
  have hq := cntLtE_le l k
  have hh : hasK l k = (match l[cntLtE l k]? with | some x => x.key.toList == k.toList | none => false) := rfl
  rw [hh]
  generalize cntLtE l k = q at *
  have HH := Lib.hid hh
  clear hh
  by_cases hql : q < l.length
  · obtain ⟨b, off, rfl, hat⟩ := HE.out.get hql
    obtain ⟨x, hx⟩ : ∃ x, l[q]? = some x := ⟨_, List.getElem?_eq_getElem hql⟩
    have c0 := (hat q x hx).key
    rw [hx]
    simp only
    clear hat hx
    go_enter Tryz.func30, Tryz.ntmps30
    go_wp2_with fail
    refine (HS.out _ (HE.out.bl (by repeat (first | assumption | exact Bl.refl _ | apply Bl.drewN | apply Bl.drew | apply Bl.alloc | (refine Bl.dr ?_ (by assumption)) | (refine Bl.trans ?_ (by assumption)))))).mono ?_; rintro e w1 ⟨v, rfl, hs, hb1⟩
    rcases hs with rfl | ⟨h8, a2, c2, rfl, hm⟩
    · unfold plainV
      have hm := fun w => meth_plain (some ⟨b, off, none⟩) l.length c w
      have ht := fun w => asrt_plain (some ⟨b, off, none⟩) l.length c w
      go_wp2_with fail
      refine (HP.out _ (HE.out.bl (by repeat (first | assumption | exact Bl.refl _ | apply Bl.drewN | apply Bl.drew | apply Bl.alloc | (refine Bl.dr ?_ (by assumption)) | (refine Bl.trans ?_ (by assumption)))))).mono ?_; rintro e w2 ⟨rfl, hb2⟩
      have hb : Bl w w2 := (by repeat (first | assumption | exact Bl.refl _ | apply Bl.drewN | apply Bl.drew | apply Bl.alloc | (refine Bl.dr ?_ (by assumption)) | (refine Bl.trans ?_ (by assumption))))
      have d0 := (hb.alloc (Obj.cells #[.slice none 0 0, .int .i64 0, .slice none 0 0] 96)).cell c0
      go_wp2_with fail
      go_quiet (fail)
      go_wp2_with fail
      go_ret2
      exact rb_tuple rfl rfl (by repeat (first | assumption | exact Bl.refl _ | apply Bl.drewN | apply Bl.drew | apply Bl.alloc | (refine Bl.dr ?_ (by assumption)) | (refine Bl.trans ?_ (by assumption))))
    · unfold fencedV
      have hme := fun w => meth_fenced (some ⟨b, off, none⟩) l.length c a2 (f8 l).marks.length c2 w
      have ht := fun w => asrt_fenced (some ⟨b, off, none⟩) l.length c a2 (f8 l).marks.length c2 w
      go_wp2_with fail
      refine (HF.out _ _ _ (HE.out.bl (by repeat (first | assumption | exact Bl.refl _ | apply Bl.drewN | apply Bl.drew | apply Bl.alloc | (refine Bl.dr ?_ (by assumption)) | (refine Bl.trans ?_ (by assumption))))) (hm.bl (by repeat (first | assumption | exact Bl.refl _ | apply Bl.drewN | apply Bl.drew | apply Bl.alloc | (refine Bl.dr ?_ (by assumption)) | (refine Bl.trans ?_ (by assumption))))) h8).mono ?_; rintro e w2 ⟨rfl, hb2⟩
      have hb : Bl w w2 := (by repeat (first | assumption | exact Bl.refl _ | apply Bl.drewN | apply Bl.drew | apply Bl.alloc | (refine Bl.dr ?_ (by assumption)) | (refine Bl.trans ?_ (by assumption))))
      have d0 := (hb.alloc (Obj.cells #[.slice (some ⟨b, off, none⟩) l.length c, .int .i64 8, .slice a2 (f8 l).marks.length c2] 96)).cell c0
      go_wp2_with fail
      go_quiet (fail)
      go_wp2_with fail
      go_ret2
      exact rb_tuple rfl rfl (by repeat (first | assumption | exact Bl.refl _ | apply Bl.drewN | apply Bl.drew | apply Bl.alloc | (refine Bl.dr ?_ (by assumption)) | (refine Bl.trans ?_ (by assumption))))
  · have hx : l[q]? = none := List.getElem?_eq_none (by omega)
    rw [hx]
    simp only
    clear hx
    go_enter Tryz.func30, Tryz.ntmps30
    go_wp2_with fail
    refine (HS.out _ (HE.out.bl (by repeat (first | assumption | exact Bl.refl _ | apply Bl.drewN | apply Bl.drew | apply Bl.alloc | (refine Bl.dr ?_ (by assumption)) | (refine Bl.trans ?_ (by assumption)))))).mono ?_; rintro e w1 ⟨v, rfl, hs, hb1⟩
    rcases hs with rfl | ⟨h8, a2, c2, rfl, hm⟩
    · unfold plainV
      have hm := fun w => meth_plain a l.length c w
      have ht := fun w => asrt_plain a l.length c w
      go_wp2_with fail
      refine (HP.out _ (HE.out.bl (by repeat (first | assumption | exact Bl.refl _ | apply Bl.drewN | apply Bl.drew | apply Bl.alloc | (refine Bl.dr ?_ (by assumption)) | (refine Bl.trans ?_ (by assumption)))))).mono ?_; rintro e w2 ⟨rfl, hb2⟩
      go_wp2_with fail
      go_quiet (fail)
      go_wp2_with fail
      go_ret2
      exact rb_tuple rfl rfl (by repeat (first | assumption | exact Bl.refl _ | apply Bl.drewN | apply Bl.drew | apply Bl.alloc | (refine Bl.dr ?_ (by assumption)) | (refine Bl.trans ?_ (by assumption))))
    · unfold fencedV
      have hme := fun w => meth_fenced a l.length c a2 (f8 l).marks.length c2 w
      have ht := fun w => asrt_fenced a l.length c a2 (f8 l).marks.length c2 w
      go_wp2_with fail
      refine (HF.out _ _ _ (HE.out.bl (by repeat (first | assumption | exact Bl.refl _ | apply Bl.drewN | apply Bl.drew | apply Bl.alloc | (refine Bl.dr ?_ (by assumption)) | (refine Bl.trans ?_ (by assumption))))) (hm.bl (by repeat (first | assumption | exact Bl.refl _ | apply Bl.drewN | apply Bl.drew | apply Bl.alloc | (refine Bl.dr ?_ (by assumption)) | (refine Bl.trans ?_ (by assumption))))) h8).mono ?_; rintro e w2 ⟨rfl, hb2⟩
      go_wp2_with fail
      go_quiet (fail)
      go_wp2_with fail
      go_ret2
      exact rb_tuple rfl rfl (by repeat (first | assumption | exact Bl.refl _ | apply Bl.drewN | apply Bl.drew | apply Bl.alloc | (refine Bl.dr ?_ (by assumption)) | (refine Bl.trans ?_ (by assumption))))
end Go.Proofs.YtkbfjficmdgjpaaGreatDoor
/-
  Contracts of runs.Get, Floor and Ceiling.
-/
namespace Go.Proofs.YtkbfjficmdgjpaaGreatDoor
open Go.RowKit
set_option linter.unusedSimpArgs false
set_option linter.unusedVariables false
set_option maxRecDepth 100000


set_option maxHeartbeats 2000000 in
theorem runGet (a : Option Addr) (c : Nat) (r : Rn) (k : ByteArray) (w : World) (h : ROk w a c r) (hk : k.size ≤ maxLen) :
    Calls Tryz.prog 12 #[r.v a c, .string k] w (RB w (.tuple #[(rget r k).1.v, .int .i64 (rget r k).2])) := by
  have hA := fun g w h => runAsked a c r k g w h hk
  unfold rget
  by_cases e : rask r k = 0
  · rw [if_neg (by simp [e])]
    obtain ⟨o1, o2⟩ := rask_ok e
    obtain ⟨-, -, o3, o4, -, -⟩ := rck_ok o1
    rw [e] at hA
    have hR := fun w hh => runAround a c r.es k w hh h.len h.cap o3 o2
    have hq := cntLtE_le r.es k
    generalize cntLtE r.es k = q at *
    generalize hasK r.es k = is at *
    cases is
    · rw [if_neg (by simp)]
      have HA := Lib.hid hA
      have HO := Lib.hid h
      have HR := Lib.hid hR
      obtain ⟨id, l⟩ := r
      unfold Rn.v Ent.v ent0
      simp only at hq o4 ⊢
      clear hA h hR o1 o2 o3 e
      go_enter Tryz.func12, Tryz.ntmps12
      go_wp2_with fail
      refine (HA.out _ _ (HO.out.bl (by repeat (first | assumption | exact Bl.refl _ | apply Bl.drewN | apply Bl.drew | apply Bl.alloc | (refine Bl.dr ?_ (by assumption)) | (refine Bl.trans ?_ (by assumption))))) (by simp [go_sem]) (by simp [go_sem])).mono ?_; rintro e w1 ⟨rfl, hb1⟩
      
      have c1 : World.cell? w1 ⟨w.heap.size, 1, none⟩ = some (.slice a l.length c) := hb1.cell (by simp [go_sem])
      have z0 : World.cell? w1 ⟨w.heap.size + 1, 0, none⟩ = some (.string ⟨#[]⟩) := hb1.cell (by simp [go_sem])
      have z1 : World.cell? w1 ⟨w.heap.size + 1, 1, none⟩ = some (.string ⟨#[]⟩) := hb1.cell (by simp [go_sem])
      have z2 : World.cell? w1 ⟨w.heap.size + 1, 2, none⟩ = some (.bool false) := hb1.cell (by simp [go_sem])
      have z3 : World.cell? w1 ⟨w.heap.size + 1, 3, none⟩ = some (.int .i64 0) := hb1.cell (by simp [go_sem])
      have y0 : World.frozen? w1 ⟨w.heap.size + 1, 0, none⟩ = false := hb1.frozen (by simp [go_sem]; rfl) (by simp [go_sem])
      have y1 : World.frozen? w1 ⟨w.heap.size + 1, 1, none⟩ = false := hb1.frozen (by simp [go_sem]; rfl) (by simp [go_sem])
      have y2 : World.frozen? w1 ⟨w.heap.size + 1, 2, none⟩ = false := hb1.frozen (by simp [go_sem]; rfl) (by simp [go_sem])
      have y3 : World.frozen? w1 ⟨w.heap.size + 1, 3, none⟩ = false := hb1.frozen (by simp [go_sem]; rfl) (by simp [go_sem])
      have hb : Bl w w1 := (by repeat (first | assumption | exact Bl.refl _ | apply Bl.drewN | apply Bl.drew | apply Bl.alloc | (refine Bl.dr ?_ (by assumption)) | (refine Bl.trans ?_ (by assumption))))
      clear hb1
      go_wp2_with fail
      refine (HR.out _ (HO.out.ents.bl (by repeat (first | assumption | exact Bl.refl _ | apply Bl.drewN | apply Bl.drew | apply Bl.alloc | (refine Bl.dr ?_ (by assumption)) | (refine Bl.trans ?_ (by assumption)))))).mono ?_; rintro e w2 ⟨rfl, hb2⟩
      
      have y0 := Bl.frozen hb2 z0 y0
      have y1 := Bl.frozen hb2 z1 y1
      have y2 := Bl.frozen hb2 z2 y2
      have y3 := Bl.frozen hb2 z3 y3
      have c1 := Bl.cell hb2 c1
      have z0 := Bl.cell hb2 z0
      have z1 := Bl.cell hb2 z1
      have z2 := Bl.cell hb2 z2
      have z3 := Bl.cell hb2 z3
      have hb := hb.trans hb2
      clear hb2
      go_wp2_with fail
      
      refine bodyPost_ret (v := .tuple #[.agg #[.string ⟨#[]⟩, .string ⟨#[]⟩, .bool false, .int .i64 0], .int .i64 4]) (by simp [results, Tryz.results12, go_sem, *]) rfl ?_
      exact RB.mk rfl (by repeat (first | assumption | exact Bl.refl _ | apply Bl.drewN | apply Bl.drew | apply Bl.alloc | (refine Bl.setCell ?_ _ (by first | (simp; done) | (simp; omega)) _) | (refine Bl.dr ?_ (by assumption)) | (refine Bl.trans ?_ (by assumption))))
    · rw [if_pos rfl]
      have hT := fun w hh => runAt a c r.es ((q : Int)) w hh (Nat.le_trans h.len h.cap) (by omega) (by omega)
      generalize atE r.es ((q : Int)) = p at *
      obtain ⟨⟨kk, vv, dd, ss⟩, pe⟩ := p
      simp only [Ent.v] at hT ⊢
      have HA := Lib.hid hA
      have HO := Lib.hid h
      have HR := Lib.hid hR
      have HT := Lib.hid hT
      obtain ⟨id, l⟩ := r
      unfold Rn.v
      simp only at hq o4 ⊢
      clear hA h hR hT o1 o2 o3 e
      go_enter Tryz.func12, Tryz.ntmps12
      go_wp2_with fail
      refine (HA.out _ _ (HO.out.bl (by repeat (first | assumption | exact Bl.refl _ | apply Bl.drewN | apply Bl.drew | apply Bl.alloc | (refine Bl.dr ?_ (by assumption)) | (refine Bl.trans ?_ (by assumption))))) (by simp [go_sem]) (by simp [go_sem])).mono ?_; rintro e w1 ⟨rfl, hb1⟩
      
      have c1 : World.cell? w1 ⟨w.heap.size, 1, none⟩ = some (.slice a l.length c) := hb1.cell (by simp [go_sem])
      have z0 : World.cell? w1 ⟨w.heap.size + 1, 0, none⟩ = some (.string ⟨#[]⟩) := hb1.cell (by simp [go_sem])
      have z1 : World.cell? w1 ⟨w.heap.size + 1, 1, none⟩ = some (.string ⟨#[]⟩) := hb1.cell (by simp [go_sem])
      have z2 : World.cell? w1 ⟨w.heap.size + 1, 2, none⟩ = some (.bool false) := hb1.cell (by simp [go_sem])
      have z3 : World.cell? w1 ⟨w.heap.size + 1, 3, none⟩ = some (.int .i64 0) := hb1.cell (by simp [go_sem])
      have y0 : World.frozen? w1 ⟨w.heap.size + 1, 0, none⟩ = false := hb1.frozen (by simp [go_sem]; rfl) (by simp [go_sem])
      have y1 : World.frozen? w1 ⟨w.heap.size + 1, 1, none⟩ = false := hb1.frozen (by simp [go_sem]; rfl) (by simp [go_sem])
      have y2 : World.frozen? w1 ⟨w.heap.size + 1, 2, none⟩ = false := hb1.frozen (by simp [go_sem]; rfl) (by simp [go_sem])
      have y3 : World.frozen? w1 ⟨w.heap.size + 1, 3, none⟩ = false := hb1.frozen (by simp [go_sem]; rfl) (by simp [go_sem])
      have hb : Bl w w1 := (by repeat (first | assumption | exact Bl.refl _ | apply Bl.drewN | apply Bl.drew | apply Bl.alloc | (refine Bl.dr ?_ (by assumption)) | (refine Bl.trans ?_ (by assumption))))
      clear hb1
      go_wp2_with fail
      refine (HR.out _ (HO.out.ents.bl (by repeat (first | assumption | exact Bl.refl _ | apply Bl.drewN | apply Bl.drew | apply Bl.alloc | (refine Bl.dr ?_ (by assumption)) | (refine Bl.trans ?_ (by assumption)))))).mono ?_; rintro e w2 ⟨rfl, hb2⟩
      
      have y0 := Bl.frozen hb2 z0 y0
      have y1 := Bl.frozen hb2 z1 y1
      have y2 := Bl.frozen hb2 z2 y2
      have y3 := Bl.frozen hb2 z3 y3
      have c1 := Bl.cell hb2 c1
      have z0 := Bl.cell hb2 z0
      have z1 := Bl.cell hb2 z1
      have z2 := Bl.cell hb2 z2
      have z3 := Bl.cell hb2 z3
      have hb := hb.trans hb2
      clear hb2
      go_wp2_with fail
      refine (HT.out _ (HO.out.ents.bl (by repeat (first | assumption | exact Bl.refl _ | apply Bl.drewN | apply Bl.drew | apply Bl.alloc | (refine Bl.dr ?_ (by assumption)) | (refine Bl.trans ?_ (by assumption)))))).mono ?_; rintro e w3 ⟨rfl, hb3⟩
      
      have y0 := Bl.frozen hb3 z0 y0
      have y1 := Bl.frozen hb3 z1 y1
      have y2 := Bl.frozen hb3 z2 y2
      have y3 := Bl.frozen hb3 z3 y3
      have c1 := Bl.cell hb3 c1
      have z0 := Bl.cell hb3 z0
      have z1 := Bl.cell hb3 z1
      have z2 := Bl.cell hb3 z2
      have z3 := Bl.cell hb3 z3
      have hb := hb.trans hb3
      clear hb3
      go_wp2_with fail
      
      refine bodyPost_ret (v := .tuple #[.agg #[.string kk, .string vv, .bool dd, .int .i64 ss], .int .i64 pe]) (by simp [results, Tryz.results12, go_sem, *]) rfl ?_
      exact RB.mk rfl (by repeat (first | assumption | exact Bl.refl _ | apply Bl.drewN | apply Bl.drew | apply Bl.alloc | (refine Bl.setCell ?_ _ (by first | (simp; done) | (simp; omega)) _) | (refine Bl.dr ?_ (by assumption)) | (refine Bl.trans ?_ (by assumption))))
  · rw [if_pos e]
    have e' : (rask r k != 0) = true := by simp [e]
    generalize rask r k = q at *
    have HA := Lib.hid hA
    have HO := Lib.hid h
    obtain ⟨id, l⟩ := r
    unfold Rn.v Ent.v ent0
    simp only
    clear hA h e
    go_enter Tryz.func12, Tryz.ntmps12
    go_wp2_with fail
    refine (HA.out _ _ (HO.out.bl (by repeat (first | assumption | exact Bl.refl _ | apply Bl.drewN | apply Bl.drew | apply Bl.alloc | (refine Bl.dr ?_ (by assumption)) | (refine Bl.trans ?_ (by assumption))))) (by simp [go_sem]) (by simp [go_sem])).mono ?_; rintro e w1 ⟨rfl, hb1⟩
    
    have c1 : World.cell? w1 ⟨w.heap.size, 1, none⟩ = some (.slice a l.length c) := hb1.cell (by simp [go_sem])
    have z0 : World.cell? w1 ⟨w.heap.size + 1, 0, none⟩ = some (.string ⟨#[]⟩) := hb1.cell (by simp [go_sem])
    have z1 : World.cell? w1 ⟨w.heap.size + 1, 1, none⟩ = some (.string ⟨#[]⟩) := hb1.cell (by simp [go_sem])
    have z2 : World.cell? w1 ⟨w.heap.size + 1, 2, none⟩ = some (.bool false) := hb1.cell (by simp [go_sem])
    have z3 : World.cell? w1 ⟨w.heap.size + 1, 3, none⟩ = some (.int .i64 0) := hb1.cell (by simp [go_sem])
    have y0 : World.frozen? w1 ⟨w.heap.size + 1, 0, none⟩ = false := hb1.frozen (by simp [go_sem]; rfl) (by simp [go_sem])
    have y1 : World.frozen? w1 ⟨w.heap.size + 1, 1, none⟩ = false := hb1.frozen (by simp [go_sem]; rfl) (by simp [go_sem])
    have y2 : World.frozen? w1 ⟨w.heap.size + 1, 2, none⟩ = false := hb1.frozen (by simp [go_sem]; rfl) (by simp [go_sem])
    have y3 : World.frozen? w1 ⟨w.heap.size + 1, 3, none⟩ = false := hb1.frozen (by simp [go_sem]; rfl) (by simp [go_sem])
    have hb : Bl w w1 := (by repeat (first | assumption | exact Bl.refl _ | apply Bl.drewN | apply Bl.drew | apply Bl.alloc | (refine Bl.dr ?_ (by assumption)) | (refine Bl.trans ?_ (by assumption))))
    clear hb1
    go_wp2_with fail
    
    refine bodyPost_ret (v := .tuple #[.agg #[.string ⟨#[]⟩, .string ⟨#[]⟩, .bool false, .int .i64 0], .int .i64 q]) (by simp [results, Tryz.results12, go_sem, *]) rfl ?_
    exact RB.mk rfl (by repeat (first | assumption | exact Bl.refl _ | apply Bl.drewN | apply Bl.drew | apply Bl.alloc | (refine Bl.setCell ?_ _ (by first | (simp; done) | (simp; omega)) _) | (refine Bl.dr ?_ (by assumption)) | (refine Bl.trans ?_ (by assumption))))

set_option maxHeartbeats 4000000 in
theorem runFloor (a : Option Addr) (c : Nat) (r : Rn) (k : ByteArray) (s : Bool) (w : World) (h : ROk w a c r) (hk : k.size ≤ maxLen) :
    Calls Tryz.prog 13 #[r.v a c, .string k, .bool s] w (RB w (.tuple #[(rflo r k s).1.v, .int .i64 (rflo r k s).2])) := by
  have hA := fun g w h => runAsked a c r k g w h hk
  unfold rflo
  by_cases e : rask r k = 0
  · rw [if_neg (by simp [e])]
    obtain ⟨o1, o2⟩ := rask_ok e
    obtain ⟨-, -, o3, o4, -, -⟩ := rck_ok o1
    rw [e] at hA
    have hR := fun w hh => runAround a c r.es k w hh h.len h.cap o3 o2
    have hq := cntLtE_le r.es k
    generalize cntLtE r.es k = q at *
    generalize hasK r.es k = is at *
    by_cases hs : (is && !s) = true
    · rw [if_pos hs]
      obtain ⟨rfl, rfl⟩ : is = true ∧ s = false := by simpa using hs
      clear hs
      have hT := fun w hh => runAt a c r.es ((q : Int)) w hh (Nat.le_trans h.len h.cap) (by omega) (by omega)
      generalize atE r.es ((q : Int)) = p at *
      obtain ⟨⟨kk, vv, dd, ss⟩, pe⟩ := p
      simp only [Ent.v] at hT ⊢
      have HA := Lib.hid hA
      have HO := Lib.hid h
      have HR := Lib.hid hR
      have HT := Lib.hid hT
      obtain ⟨id, l⟩ := r
      unfold Rn.v
      simp only at hq o4 ⊢
      clear hA h hR hT o1 o2 o3 e
      go_enter Tryz.func13, Tryz.ntmps13
      go_wp2_with fail
      refine (HA.out _ _ (HO.out.bl (by repeat (first | assumption | exact Bl.refl _ | apply Bl.drewN | apply Bl.drew | apply Bl.alloc | (refine Bl.dr ?_ (by assumption)) | (refine Bl.trans ?_ (by assumption))))) (by simp [go_sem]) (by simp [go_sem])).mono ?_; rintro e w1 ⟨rfl, hb1⟩
      
      have c1 : World.cell? w1 ⟨w.heap.size, 1, none⟩ = some (.slice a l.length c) := hb1.cell (by simp [go_sem])
      have z0 : World.cell? w1 ⟨w.heap.size + 1, 0, none⟩ = some (.string ⟨#[]⟩) := hb1.cell (by simp [go_sem])
      have z1 : World.cell? w1 ⟨w.heap.size + 1, 1, none⟩ = some (.string ⟨#[]⟩) := hb1.cell (by simp [go_sem])
      have z2 : World.cell? w1 ⟨w.heap.size + 1, 2, none⟩ = some (.bool false) := hb1.cell (by simp [go_sem])
      have z3 : World.cell? w1 ⟨w.heap.size + 1, 3, none⟩ = some (.int .i64 0) := hb1.cell (by simp [go_sem])
      have y0 : World.frozen? w1 ⟨w.heap.size + 1, 0, none⟩ = false := hb1.frozen (by simp [go_sem]; rfl) (by simp [go_sem])
      have y1 : World.frozen? w1 ⟨w.heap.size + 1, 1, none⟩ = false := hb1.frozen (by simp [go_sem]; rfl) (by simp [go_sem])
      have y2 : World.frozen? w1 ⟨w.heap.size + 1, 2, none⟩ = false := hb1.frozen (by simp [go_sem]; rfl) (by simp [go_sem])
      have y3 : World.frozen? w1 ⟨w.heap.size + 1, 3, none⟩ = false := hb1.frozen (by simp [go_sem]; rfl) (by simp [go_sem])
      have hb : Bl w w1 := (by repeat (first | assumption | exact Bl.refl _ | apply Bl.drewN | apply Bl.drew | apply Bl.alloc | (refine Bl.dr ?_ (by assumption)) | (refine Bl.trans ?_ (by assumption))))
      clear hb1
      go_wp2_with fail
      refine (HR.out _ (HO.out.ents.bl (by repeat (first | assumption | exact Bl.refl _ | apply Bl.drewN | apply Bl.drew | apply Bl.alloc | (refine Bl.dr ?_ (by assumption)) | (refine Bl.trans ?_ (by assumption)))))).mono ?_; rintro e w2 ⟨rfl, hb2⟩
      
      have y0 := Bl.frozen hb2 z0 y0
      have y1 := Bl.frozen hb2 z1 y1
      have y2 := Bl.frozen hb2 z2 y2
      have y3 := Bl.frozen hb2 z3 y3
      have c1 := Bl.cell hb2 c1
      have z0 := Bl.cell hb2 z0
      have z1 := Bl.cell hb2 z1
      have z2 := Bl.cell hb2 z2
      have z3 := Bl.cell hb2 z3
      have hb := hb.trans hb2
      clear hb2
      go_wp2_with fail
      refine (HT.out _ (HO.out.ents.bl (by repeat (first | assumption | exact Bl.refl _ | apply Bl.drewN | apply Bl.drew | apply Bl.alloc | (refine Bl.dr ?_ (by assumption)) | (refine Bl.trans ?_ (by assumption)))))).mono ?_; rintro e w3 ⟨rfl, hb3⟩
      
      have y0 := Bl.frozen hb3 z0 y0
      have y1 := Bl.frozen hb3 z1 y1
      have y2 := Bl.frozen hb3 z2 y2
      have y3 := Bl.frozen hb3 z3 y3
      have c1 := Bl.cell hb3 c1
      have z0 := Bl.cell hb3 z0
      have z1 := Bl.cell hb3 z1
      have z2 := Bl.cell hb3 z2
      have z3 := Bl.cell hb3 z3
      have hb := hb.trans hb3
      clear hb3
      go_wp2_with fail
      
      refine bodyPost_ret (v := .tuple #[.agg #[.string kk, .string vv, .bool dd, .int .i64 ss], .int .i64 pe]) (by simp [results, Tryz.results13, go_sem, *]) rfl ?_
      exact RB.mk rfl (by repeat (first | assumption | exact Bl.refl _ | apply Bl.drewN | apply Bl.drew | apply Bl.alloc | (refine Bl.setCell ?_ _ (by first | (simp; done) | (simp; omega)) _) | (refine Bl.dr ?_ (by assumption)) | (refine Bl.trans ?_ (by assumption))))
    · rw [if_neg hs]
      have hT := fun w hh => runAt a c r.es ((q : Int) - 1) w hh (Nat.le_trans h.len h.cap) (by omega) (by omega)
      generalize atE r.es ((q : Int) - 1) = p at *
      obtain ⟨⟨kk, vv, dd, ss⟩, pe⟩ := p
      simp only [Ent.v] at hT ⊢
      have HA := Lib.hid hA
      have HO := Lib.hid h
      have HR := Lib.hid hR
      have HT := Lib.hid hT
      obtain ⟨id, l⟩ := r
      unfold Rn.v
      simp only at hq o4 ⊢
      clear hA h hR hT o1 o2 o3 e
      have hw : IntKind.i64.wrap ((q : Int) - 1) = (q : Int) - 1 := IntWalk.i64_in _ (by omega)
      cases is <;> cases s
      case true.false => exact absurd rfl hs
      all_goals
        clear hs
        go_enter Tryz.func13, Tryz.ntmps13
        go_wp2_with fail
        refine (HA.out _ _ (HO.out.bl (by repeat (first | assumption | exact Bl.refl _ | apply Bl.drewN | apply Bl.drew | apply Bl.alloc | (refine Bl.dr ?_ (by assumption)) | (refine Bl.trans ?_ (by assumption))))) (by simp [go_sem]) (by simp [go_sem])).mono ?_; rintro e w1 ⟨rfl, hb1⟩
        
        have c1 : World.cell? w1 ⟨w.heap.size, 1, none⟩ = some (.slice a l.length c) := hb1.cell (by simp [go_sem])
        have z0 : World.cell? w1 ⟨w.heap.size + 1, 0, none⟩ = some (.string ⟨#[]⟩) := hb1.cell (by simp [go_sem])
        have z1 : World.cell? w1 ⟨w.heap.size + 1, 1, none⟩ = some (.string ⟨#[]⟩) := hb1.cell (by simp [go_sem])
        have z2 : World.cell? w1 ⟨w.heap.size + 1, 2, none⟩ = some (.bool false) := hb1.cell (by simp [go_sem])
        have z3 : World.cell? w1 ⟨w.heap.size + 1, 3, none⟩ = some (.int .i64 0) := hb1.cell (by simp [go_sem])
        have y0 : World.frozen? w1 ⟨w.heap.size + 1, 0, none⟩ = false := hb1.frozen (by simp [go_sem]; rfl) (by simp [go_sem])
        have y1 : World.frozen? w1 ⟨w.heap.size + 1, 1, none⟩ = false := hb1.frozen (by simp [go_sem]; rfl) (by simp [go_sem])
        have y2 : World.frozen? w1 ⟨w.heap.size + 1, 2, none⟩ = false := hb1.frozen (by simp [go_sem]; rfl) (by simp [go_sem])
        have y3 : World.frozen? w1 ⟨w.heap.size + 1, 3, none⟩ = false := hb1.frozen (by simp [go_sem]; rfl) (by simp [go_sem])
        have hb : Bl w w1 := (by repeat (first | assumption | exact Bl.refl _ | apply Bl.drewN | apply Bl.drew | apply Bl.alloc | (refine Bl.dr ?_ (by assumption)) | (refine Bl.trans ?_ (by assumption))))
        clear hb1
        go_wp2_with fail
        refine (HR.out _ (HO.out.ents.bl (by repeat (first | assumption | exact Bl.refl _ | apply Bl.drewN | apply Bl.drew | apply Bl.alloc | (refine Bl.dr ?_ (by assumption)) | (refine Bl.trans ?_ (by assumption)))))).mono ?_; rintro e w2 ⟨rfl, hb2⟩
        
        have y0 := Bl.frozen hb2 z0 y0
        have y1 := Bl.frozen hb2 z1 y1
        have y2 := Bl.frozen hb2 z2 y2
        have y3 := Bl.frozen hb2 z3 y3
        have c1 := Bl.cell hb2 c1
        have z0 := Bl.cell hb2 z0
        have z1 := Bl.cell hb2 z1
        have z2 := Bl.cell hb2 z2
        have z3 := Bl.cell hb2 z3
        have hb := hb.trans hb2
        clear hb2
        go_wp2_with fail
        refine (HT.out _ (HO.out.ents.bl (by repeat (first | assumption | exact Bl.refl _ | apply Bl.drewN | apply Bl.drew | apply Bl.alloc | (refine Bl.dr ?_ (by assumption)) | (refine Bl.trans ?_ (by assumption)))))).mono ?_; rintro e w3 ⟨rfl, hb3⟩
        
        have y0 := Bl.frozen hb3 z0 y0
        have y1 := Bl.frozen hb3 z1 y1
        have y2 := Bl.frozen hb3 z2 y2
        have y3 := Bl.frozen hb3 z3 y3
        have c1 := Bl.cell hb3 c1
        have z0 := Bl.cell hb3 z0
        have z1 := Bl.cell hb3 z1
        have z2 := Bl.cell hb3 z2
        have z3 := Bl.cell hb3 z3
        have hb := hb.trans hb3
        clear hb3
        go_wp2_with fail
        
        refine bodyPost_ret (v := .tuple #[.agg #[.string kk, .string vv, .bool dd, .int .i64 ss], .int .i64 pe]) (by simp [results, Tryz.results13, go_sem, *]) rfl ?_
        exact RB.mk rfl (by repeat (first | assumption | exact Bl.refl _ | apply Bl.drewN | apply Bl.drew | apply Bl.alloc | (refine Bl.setCell ?_ _ (by first | (simp; done) | (simp; omega)) _) | (refine Bl.dr ?_ (by assumption)) | (refine Bl.trans ?_ (by assumption))))
  · rw [if_pos e]
    have e' : (rask r k != 0) = true := by simp [e]
    generalize rask r k = q at *
    have HA := Lib.hid hA
    have HO := Lib.hid h
    obtain ⟨id, l⟩ := r
    unfold Rn.v Ent.v ent0
    simp only
    clear hA h e
    go_enter Tryz.func13, Tryz.ntmps13
    go_wp2_with fail
    refine (HA.out _ _ (HO.out.bl (by repeat (first | assumption | exact Bl.refl _ | apply Bl.drewN | apply Bl.drew | apply Bl.alloc | (refine Bl.dr ?_ (by assumption)) | (refine Bl.trans ?_ (by assumption))))) (by simp [go_sem]) (by simp [go_sem])).mono ?_; rintro e w1 ⟨rfl, hb1⟩
    
    have c1 : World.cell? w1 ⟨w.heap.size, 1, none⟩ = some (.slice a l.length c) := hb1.cell (by simp [go_sem])
    have z0 : World.cell? w1 ⟨w.heap.size + 1, 0, none⟩ = some (.string ⟨#[]⟩) := hb1.cell (by simp [go_sem])
    have z1 : World.cell? w1 ⟨w.heap.size + 1, 1, none⟩ = some (.string ⟨#[]⟩) := hb1.cell (by simp [go_sem])
    have z2 : World.cell? w1 ⟨w.heap.size + 1, 2, none⟩ = some (.bool false) := hb1.cell (by simp [go_sem])
    have z3 : World.cell? w1 ⟨w.heap.size + 1, 3, none⟩ = some (.int .i64 0) := hb1.cell (by simp [go_sem])
    have y0 : World.frozen? w1 ⟨w.heap.size + 1, 0, none⟩ = false := hb1.frozen (by simp [go_sem]; rfl) (by simp [go_sem])
    have y1 : World.frozen? w1 ⟨w.heap.size + 1, 1, none⟩ = false := hb1.frozen (by simp [go_sem]; rfl) (by simp [go_sem])
    have y2 : World.frozen? w1 ⟨w.heap.size + 1, 2, none⟩ = false := hb1.frozen (by simp [go_sem]; rfl) (by simp [go_sem])
    have y3 : World.frozen? w1 ⟨w.heap.size + 1, 3, none⟩ = false := hb1.frozen (by simp [go_sem]; rfl) (by simp [go_sem])
    have hb : Bl w w1 := (by repeat (first | assumption | exact Bl.refl _ | apply Bl.drewN | apply Bl.drew | apply Bl.alloc | (refine Bl.dr ?_ (by assumption)) | (refine Bl.trans ?_ (by assumption))))
    clear hb1
    go_wp2_with fail
    
    refine bodyPost_ret (v := .tuple #[.agg #[.string ⟨#[]⟩, .string ⟨#[]⟩, .bool false, .int .i64 0], .int .i64 q]) (by simp [results, Tryz.results13, go_sem, *]) rfl ?_
    exact RB.mk rfl (by repeat (first | assumption | exact Bl.refl _ | apply Bl.drewN | apply Bl.drew | apply Bl.alloc | (refine Bl.setCell ?_ _ (by first | (simp; done) | (simp; omega)) _) | (refine Bl.dr ?_ (by assumption)) | (refine Bl.trans ?_ (by assumption))))

set_option maxHeartbeats 4000000 in
theorem runCeiling (a : Option Addr) (c : Nat) (r : Rn) (k : ByteArray) (s : Bool) (w : World) (h : ROk w a c r) (hk : k.size ≤ maxLen) :
    Calls Tryz.prog 14 #[r.v a c, .string k, .bool s] w (RB w (.tuple #[(rcei r k s).1.v, .int .i64 (rcei r k s).2])) := by
  have hA := fun g w h => runAsked a c r k g w h hk
  unfold rcei
  by_cases e : rask r k = 0
  · rw [if_neg (by simp [e])]
    obtain ⟨o1, o2⟩ := rask_ok e
    obtain ⟨-, -, o3, o4, -, -⟩ := rck_ok o1
    rw [e] at hA
    have hR := fun w hh => runAround a c r.es k w hh h.len h.cap o3 o2
    have hq := cntLtE_le r.es k
    generalize cntLtE r.es k = q at *
    generalize hasK r.es k = is at *
    by_cases hs : (is && s) = true
    · rw [if_pos hs]
      obtain ⟨rfl, rfl⟩ : is = true ∧ s = true := by simpa using hs
      clear hs
      have hT := fun w hh => runAt a c r.es ((q : Int) + 1) w hh (Nat.le_trans h.len h.cap) (by omega) (by omega)
      generalize atE r.es ((q : Int) + 1) = p at *
      obtain ⟨⟨kk, vv, dd, ss⟩, pe⟩ := p
      simp only [Ent.v] at hT ⊢
      have HA := Lib.hid hA
      have HO := Lib.hid h
      have HR := Lib.hid hR
      have HT := Lib.hid hT
      obtain ⟨id, l⟩ := r
      unfold Rn.v
      simp only at hq o4 ⊢
      clear hA h hR hT o1 o2 o3 e
      have hw : IntKind.i64.wrap ((q : Int) + 1) = (q : Int) + 1 := IntWalk.i64_in _ (by omega)
      go_enter Tryz.func14, Tryz.ntmps14
      go_wp2_with fail
      refine (HA.out _ _ (HO.out.bl (by repeat (first | assumption | exact Bl.refl _ | apply Bl.drewN | apply Bl.drew | apply Bl.alloc | (refine Bl.dr ?_ (by assumption)) | (refine Bl.trans ?_ (by assumption))))) (by simp [go_sem]) (by simp [go_sem])).mono ?_; rintro e w1 ⟨rfl, hb1⟩
      
      have c1 : World.cell? w1 ⟨w.heap.size, 1, none⟩ = some (.slice a l.length c) := hb1.cell (by simp [go_sem])
      have z0 : World.cell? w1 ⟨w.heap.size + 1, 0, none⟩ = some (.string ⟨#[]⟩) := hb1.cell (by simp [go_sem])
      have z1 : World.cell? w1 ⟨w.heap.size + 1, 1, none⟩ = some (.string ⟨#[]⟩) := hb1.cell (by simp [go_sem])
      have z2 : World.cell? w1 ⟨w.heap.size + 1, 2, none⟩ = some (.bool false) := hb1.cell (by simp [go_sem])
      have z3 : World.cell? w1 ⟨w.heap.size + 1, 3, none⟩ = some (.int .i64 0) := hb1.cell (by simp [go_sem])
      have y0 : World.frozen? w1 ⟨w.heap.size + 1, 0, none⟩ = false := hb1.frozen (by simp [go_sem]; rfl) (by simp [go_sem])
      have y1 : World.frozen? w1 ⟨w.heap.size + 1, 1, none⟩ = false := hb1.frozen (by simp [go_sem]; rfl) (by simp [go_sem])
      have y2 : World.frozen? w1 ⟨w.heap.size + 1, 2, none⟩ = false := hb1.frozen (by simp [go_sem]; rfl) (by simp [go_sem])
      have y3 : World.frozen? w1 ⟨w.heap.size + 1, 3, none⟩ = false := hb1.frozen (by simp [go_sem]; rfl) (by simp [go_sem])
      have hb : Bl w w1 := (by repeat (first | assumption | exact Bl.refl _ | apply Bl.drewN | apply Bl.drew | apply Bl.alloc | (refine Bl.dr ?_ (by assumption)) | (refine Bl.trans ?_ (by assumption))))
      clear hb1
      go_wp2_with fail
      refine (HR.out _ (HO.out.ents.bl (by repeat (first | assumption | exact Bl.refl _ | apply Bl.drewN | apply Bl.drew | apply Bl.alloc | (refine Bl.dr ?_ (by assumption)) | (refine Bl.trans ?_ (by assumption)))))).mono ?_; rintro e w2 ⟨rfl, hb2⟩
      
      have y0 := Bl.frozen hb2 z0 y0
      have y1 := Bl.frozen hb2 z1 y1
      have y2 := Bl.frozen hb2 z2 y2
      have y3 := Bl.frozen hb2 z3 y3
      have c1 := Bl.cell hb2 c1
      have z0 := Bl.cell hb2 z0
      have z1 := Bl.cell hb2 z1
      have z2 := Bl.cell hb2 z2
      have z3 := Bl.cell hb2 z3
      have hb := hb.trans hb2
      clear hb2
      go_wp2_with fail
      refine (HT.out _ (HO.out.ents.bl (by repeat (first | assumption | exact Bl.refl _ | apply Bl.drewN | apply Bl.drew | apply Bl.alloc | (refine Bl.dr ?_ (by assumption)) | (refine Bl.trans ?_ (by assumption)))))).mono ?_; rintro e w3 ⟨rfl, hb3⟩
      
      have y0 := Bl.frozen hb3 z0 y0
      have y1 := Bl.frozen hb3 z1 y1
      have y2 := Bl.frozen hb3 z2 y2
      have y3 := Bl.frozen hb3 z3 y3
      have c1 := Bl.cell hb3 c1
      have z0 := Bl.cell hb3 z0
      have z1 := Bl.cell hb3 z1
      have z2 := Bl.cell hb3 z2
      have z3 := Bl.cell hb3 z3
      have hb := hb.trans hb3
      clear hb3
      go_wp2_with fail
      
      refine bodyPost_ret (v := .tuple #[.agg #[.string kk, .string vv, .bool dd, .int .i64 ss], .int .i64 pe]) (by simp [results, Tryz.results14, go_sem, *]) rfl ?_
      exact RB.mk rfl (by repeat (first | assumption | exact Bl.refl _ | apply Bl.drewN | apply Bl.drew | apply Bl.alloc | (refine Bl.setCell ?_ _ (by first | (simp; done) | (simp; omega)) _) | (refine Bl.dr ?_ (by assumption)) | (refine Bl.trans ?_ (by assumption))))
    · rw [if_neg hs]
      have hT := fun w hh => runAt a c r.es ((q : Int)) w hh (Nat.le_trans h.len h.cap) (by omega) (by omega)
      generalize atE r.es ((q : Int)) = p at *
      obtain ⟨⟨kk, vv, dd, ss⟩, pe⟩ := p
      simp only [Ent.v] at hT ⊢
      have HA := Lib.hid hA
      have HO := Lib.hid h
      have HR := Lib.hid hR
      have HT := Lib.hid hT
      obtain ⟨id, l⟩ := r
      unfold Rn.v
      simp only at hq o4 ⊢
      clear hA h hR hT o1 o2 o3 e
      cases is <;> cases s
      case true.true => exact absurd rfl hs
      all_goals
        clear hs
        go_enter Tryz.func14, Tryz.ntmps14
        go_wp2_with fail
        refine (HA.out _ _ (HO.out.bl (by repeat (first | assumption | exact Bl.refl _ | apply Bl.drewN | apply Bl.drew | apply Bl.alloc | (refine Bl.dr ?_ (by assumption)) | (refine Bl.trans ?_ (by assumption))))) (by simp [go_sem]) (by simp [go_sem])).mono ?_; rintro e w1 ⟨rfl, hb1⟩
        
        have c1 : World.cell? w1 ⟨w.heap.size, 1, none⟩ = some (.slice a l.length c) := hb1.cell (by simp [go_sem])
        have z0 : World.cell? w1 ⟨w.heap.size + 1, 0, none⟩ = some (.string ⟨#[]⟩) := hb1.cell (by simp [go_sem])
        have z1 : World.cell? w1 ⟨w.heap.size + 1, 1, none⟩ = some (.string ⟨#[]⟩) := hb1.cell (by simp [go_sem])
        have z2 : World.cell? w1 ⟨w.heap.size + 1, 2, none⟩ = some (.bool false) := hb1.cell (by simp [go_sem])
        have z3 : World.cell? w1 ⟨w.heap.size + 1, 3, none⟩ = some (.int .i64 0) := hb1.cell (by simp [go_sem])
        have y0 : World.frozen? w1 ⟨w.heap.size + 1, 0, none⟩ = false := hb1.frozen (by simp [go_sem]; rfl) (by simp [go_sem])
        have y1 : World.frozen? w1 ⟨w.heap.size + 1, 1, none⟩ = false := hb1.frozen (by simp [go_sem]; rfl) (by simp [go_sem])
        have y2 : World.frozen? w1 ⟨w.heap.size + 1, 2, none⟩ = false := hb1.frozen (by simp [go_sem]; rfl) (by simp [go_sem])
        have y3 : World.frozen? w1 ⟨w.heap.size + 1, 3, none⟩ = false := hb1.frozen (by simp [go_sem]; rfl) (by simp [go_sem])
        have hb : Bl w w1 := (by repeat (first | assumption | exact Bl.refl _ | apply Bl.drewN | apply Bl.drew | apply Bl.alloc | (refine Bl.dr ?_ (by assumption)) | (refine Bl.trans ?_ (by assumption))))
        clear hb1
        go_wp2_with fail
        refine (HR.out _ (HO.out.ents.bl (by repeat (first | assumption | exact Bl.refl _ | apply Bl.drewN | apply Bl.drew | apply Bl.alloc | (refine Bl.dr ?_ (by assumption)) | (refine Bl.trans ?_ (by assumption)))))).mono ?_; rintro e w2 ⟨rfl, hb2⟩
        
        have y0 := Bl.frozen hb2 z0 y0
        have y1 := Bl.frozen hb2 z1 y1
        have y2 := Bl.frozen hb2 z2 y2
        have y3 := Bl.frozen hb2 z3 y3
        have c1 := Bl.cell hb2 c1
        have z0 := Bl.cell hb2 z0
        have z1 := Bl.cell hb2 z1
        have z2 := Bl.cell hb2 z2
        have z3 := Bl.cell hb2 z3
        have hb := hb.trans hb2
        clear hb2
        go_wp2_with fail
        refine (HT.out _ (HO.out.ents.bl (by repeat (first | assumption | exact Bl.refl _ | apply Bl.drewN | apply Bl.drew | apply Bl.alloc | (refine Bl.dr ?_ (by assumption)) | (refine Bl.trans ?_ (by assumption)))))).mono ?_; rintro e w3 ⟨rfl, hb3⟩
        
        have y0 := Bl.frozen hb3 z0 y0
        have y1 := Bl.frozen hb3 z1 y1
        have y2 := Bl.frozen hb3 z2 y2
        have y3 := Bl.frozen hb3 z3 y3
        have c1 := Bl.cell hb3 c1
        have z0 := Bl.cell hb3 z0
        have z1 := Bl.cell hb3 z1
        have z2 := Bl.cell hb3 z2
        have z3 := Bl.cell hb3 z3
        have hb := hb.trans hb3
        clear hb3
        go_wp2_with fail
        
        refine bodyPost_ret (v := .tuple #[.agg #[.string kk, .string vv, .bool dd, .int .i64 ss], .int .i64 pe]) (by simp [results, Tryz.results14, go_sem, *]) rfl ?_
        exact RB.mk rfl (by repeat (first | assumption | exact Bl.refl _ | apply Bl.drewN | apply Bl.drew | apply Bl.alloc | (refine Bl.setCell ?_ _ (by first | (simp; done) | (simp; omega)) _) | (refine Bl.dr ?_ (by assumption)) | (refine Bl.trans ?_ (by assumption))))
  · rw [if_pos e]
    have e' : (rask r k != 0) = true := by simp [e]
    generalize rask r k = q at *
    have HA := Lib.hid hA
    have HO := Lib.hid h
    obtain ⟨id, l⟩ := r
    unfold Rn.v Ent.v ent0
    simp only
    clear hA h e
    go_enter Tryz.func14, Tryz.ntmps14
    go_wp2_with fail
    refine (HA.out _ _ (HO.out.bl (by repeat (first | assumption | exact Bl.refl _ | apply Bl.drewN | apply Bl.drew | apply Bl.alloc | (refine Bl.dr ?_ (by assumption)) | (refine Bl.trans ?_ (by assumption))))) (by simp [go_sem]) (by simp [go_sem])).mono ?_; rintro e w1 ⟨rfl, hb1⟩
    
    have c1 : World.cell? w1 ⟨w.heap.size, 1, none⟩ = some (.slice a l.length c) := hb1.cell (by simp [go_sem])
    have z0 : World.cell? w1 ⟨w.heap.size + 1, 0, none⟩ = some (.string ⟨#[]⟩) := hb1.cell (by simp [go_sem])
    have z1 : World.cell? w1 ⟨w.heap.size + 1, 1, none⟩ = some (.string ⟨#[]⟩) := hb1.cell (by simp [go_sem])
    have z2 : World.cell? w1 ⟨w.heap.size + 1, 2, none⟩ = some (.bool false) := hb1.cell (by simp [go_sem])
    have z3 : World.cell? w1 ⟨w.heap.size + 1, 3, none⟩ = some (.int .i64 0) := hb1.cell (by simp [go_sem])
    have y0 : World.frozen? w1 ⟨w.heap.size + 1, 0, none⟩ = false := hb1.frozen (by simp [go_sem]; rfl) (by simp [go_sem])
    have y1 : World.frozen? w1 ⟨w.heap.size + 1, 1, none⟩ = false := hb1.frozen (by simp [go_sem]; rfl) (by simp [go_sem])
    have y2 : World.frozen? w1 ⟨w.heap.size + 1, 2, none⟩ = false := hb1.frozen (by simp [go_sem]; rfl) (by simp [go_sem])
    have y3 : World.frozen? w1 ⟨w.heap.size + 1, 3, none⟩ = false := hb1.frozen (by simp [go_sem]; rfl) (by simp [go_sem])
    have hb : Bl w w1 := (by repeat (first | assumption | exact Bl.refl _ | apply Bl.drewN | apply Bl.drew | apply Bl.alloc | (refine Bl.dr ?_ (by assumption)) | (refine Bl.trans ?_ (by assumption))))
    clear hb1
    go_wp2_with fail
    
    refine bodyPost_ret (v := .tuple #[.agg #[.string ⟨#[]⟩, .string ⟨#[]⟩, .bool false, .int .i64 0], .int .i64 q]) (by simp [results, Tryz.results14, go_sem, *]) rfl ?_
    exact RB.mk rfl (by repeat (first | assumption | exact Bl.refl _ | apply Bl.drewN | apply Bl.drew | apply Bl.alloc | (refine Bl.setCell ?_ _ (by first | (simp; done) | (simp; omega)) _) | (refine Bl.dr ?_ (by assumption)) | (refine Bl.trans ?_ (by assumption))))
end Go.Proofs.YtkbfjficmdgjpaaGreatDoor
/-
  Contracts of Cover and Overlap of runs, of both.
-/
namespace Go.Proofs.YtkbfjficmdgjpaaGreatDoor
open Go.RowKit
set_option linter.unusedSimpArgs false
set_option linter.unusedVariables false
set_option maxRecDepth 100000


end Go.Proofs.YtkbfjficmdgjpaaGreatDoor
/-
  Contracts of Part, of both.
-/
namespace Go.Proofs.YtkbfjficmdgjpaaGreatDoor
open Go.RowKit
set_option linter.unusedSimpArgs false
set_option linter.unusedVariables false
set_option maxRecDepth 100000

/-- A run's own cells and a range's, in a loop. -/
structure RP (w wr : World) (a : Option Addr) (n c : Nat) (x : Rng) : Prop where
  c1 : wr.cell? ⟨w.heap.size, 1, none⟩ = some (.slice a n c)
  x0 : wr.cell? ⟨w.heap.size + 1, 0, none⟩ = some (.string x.lo)
  x1 : wr.cell? ⟨w.heap.size + 1, 1, none⟩ = some (.string x.hi)
  x2 : wr.cell? ⟨w.heap.size + 1, 2, none⟩ = some (.bool x.bd)
  hb : Bl w wr
theorem RP.bl {w wr wq : World} {a : Option Addr} {n c : Nat} {x : Rng} (h : RP w wr a n c x) (k : Bl wr wq) : RP w wq a n c x :=
  ⟨k.cell h.c1, k.cell h.x0, k.cell h.x1, k.cell h.x2, h.hb.trans k⟩
theorem rb_tuple3' {w w' : World} {a b c a' b' c' : Value} (h : a' = a) (k : b' = b) (j : c' = c) (hd : Bl w w') : RB w (.tuple #[a, b, c]) (.returned (.tuple #[a', b', c'])) w' := by subst h k j; exact ⟨rfl, hd⟩

theorem min_in {n q m : Nat} (h : min n q = m) (k : n < q) : m + 1 = min (n + 1) q := by omega
theorem min_out {n q m : Nat} (h : min n q = m) (k : q ≤ n) : m = min (n + 1) q := by omega


set_option maxHeartbeats 4000000 in
theorem runPart (a : Option Addr) (c : Nat) (r : Rn) (x : Rng) (w : World) (h : ROk w a c r) (hx : x.ok) :
    Calls Tryz.prog 32 #[r.v a c, x.v] w (RB w (.tuple #[.int .i64 (rpart r x).1, .int .i64 (rpart r x).2.1, .int .i64 (rpart r x).2.2])) := by
  have hC := fun w h => runCheck a c r w h
  have hX := fun w => keysCheckRange x w hx
  by_cases e : (rck r).2 = 0
  · by_cases f : rchk x = 0
    · obtain ⟨-, -, o3, o4, -, o5⟩ := rck_ok e
      have o6 : x.lo.size ≤ 32 ∧ x.hi.size ≤ 32 := by
        unfold rchk at f
        rcases ktwo_cases x.lo x.hi with g | g
        · rw [g] at f; simp at f
        · unfold ktwo at g
          split at g
          · cases g
          · omega
      have hS := fun w hh => runSearched a c r.es w hh h.len h.cap o3
      have hP := fun k w hh => plainBelow a c r.es k w hh (Nat.le_trans h.len h.cap) o5
      have hF := fun k a2 c2 w hh hks hm h8 => fencedBelow a c a2 c2 r.es k w hh h.len h.cap o3 hks hm h8
      have hres : rpart r x = ((cntLtE r.es x.lo : Int), (pTo r.es x : Int), 0) := by
        unfold rpart; rw [if_neg (by simp [e]), if_neg (by simp [f])]
      rw [hres]
      have hpt : pTo r.es x = if x.bd = true then max (cntLtE r.es x.hi) (cntLtE r.es x.lo) else r.es.length := rfl
      have hq1 := cntLtE_le r.es x.lo
      have hq2 := cntLtE_le r.es x.hi
      have hP1 := hP x.lo
      have hP2 := hP x.hi
      have hF1 := fun a2 c2 w hh hm h8 => hF x.lo a2 c2 w hh o6.1 hm h8
      have hF2 := fun a2 c2 w hh hm h8 => hF x.hi a2 c2 w hh o6.2 hm h8
      rw [f] at hX
      rw [e] at hC
      generalize pTo r.es x = pt at *
      generalize cntLtE r.es x.lo = q1 at *
      generalize cntLtE r.es x.hi = q2 at *
      clear hP hF e f o3 o5 hres
      have HS := Lib.hid hS
      have HP1 := Lib.hid hP1
      have HP2 := Lib.hid hP2
      have HF1 := Lib.hid hF1
      have HF2 := Lib.hid hF2
      have HPT := Lib.hid hpt
      clear hS hP1 hP2 hF1 hF2 hpt o6
      generalize hp : (rck r).1 = p1 at *
      have HC := Lib.hid hC
      have HO := Lib.hid h
      have HX := Lib.hid hX
      obtain ⟨id, l⟩ := r
      obtain ⟨lo, hi, bd⟩ := x
      unfold Rn.v Rng.v
      simp only at *
      clear hC h hX hx
      go_enter Tryz.func32, Tryz.ntmps32
      go_wp2_with fail
      refine (HC.out _ (HO.out.bl (by repeat (first | assumption | exact Bl.refl _ | apply Bl.drewN | apply Bl.drew | apply Bl.alloc | (refine Bl.dr ?_ (by assumption)) | (refine Bl.trans ?_ (by assumption)))))).mono ?_; rintro e w1 ⟨rfl, hb1⟩
      have hrp : RP w w1 a l.length c ⟨lo, hi, bd⟩ := ⟨hb1.cell (by simp [go_sem]), hb1.cell (by simp [go_sem]), hb1.cell (by simp [go_sem]), hb1.cell (by simp [go_sem]), (by repeat (first | assumption | exact Bl.refl _ | apply Bl.drewN | apply Bl.drew | apply Bl.alloc | (refine Bl.dr ?_ (by assumption)) | (refine Bl.trans ?_ (by assumption))))⟩
      have HRP := Lib.hid hrp
      obtain ⟨c1, x0, x1, x2, hb⟩ := hrp
      clear hb1
      go_wp2_with fail
      refine (HX.out _).mono ?_; rintro e w2 ⟨rfl, hb2⟩
      have hrp := HRP.out.bl hb2
      clear HRP c1 x0 x1 x2 hb hb2
      have HRP := Lib.hid hrp
      obtain ⟨c1, x0, x1, x2, hb⟩ := hrp
      go_wp2_with fail
      refine (HS.out _ (HO.out.ents.bl (by repeat (first | assumption | exact Bl.refl _ | apply Bl.drewN | apply Bl.drew | apply Bl.alloc | (refine Bl.dr ?_ (by assumption)) | (refine Bl.trans ?_ (by assumption)))))).mono ?_; rintro e w3 ⟨v, rfl, hs, hb3⟩
      have hrp := HRP.out.bl hb3
      clear HRP c1 x0 x1 x2 hb hb3
      have HRP := Lib.hid hrp
      obtain ⟨c1, x0, x1, x2, hb⟩ := hrp
      have c1' : ∀ z : BW w3, z.w.cell? ⟨w.heap.size, 1, none⟩ = some (.slice a l.length c) := BW.cell c1
      have x0' : ∀ z : BW w3, z.w.cell? ⟨w.heap.size + 1, 0, none⟩ = some (.string lo) := BW.cell x0
      rcases hs with rfl | ⟨h8, a2, c2, rfl, hm⟩
      · unfold plainV
        have hme := fun w => meth_plain a l.length c w
        go_wp2_with fail
        
        refine wp_region_quiet_bw w3 (by kernel_rfl) (by kernel_rfl) (Bl.refl w3) ?_
        repeat (go_big_quiet_step ((go_at_call 157; exact quietB (HP1.out _ (HO.out.ents.bl (hb.trans (BW.h _)))))))
        refine wpQuiet_nil ?_
        intro wq hw'
        have hwq : Bl w3 wq := by obtain ⟨x, hx⟩ := hw'; rw [hx]; exact x.h
        clear hw'
        have hrp := HRP.out.bl hwq
        clear HRP c1 x0 x1 x2 hb hwq c1' x0'
        obtain ⟨c1, x0, x1, x2, hb⟩ := hrp
        cases bd
        · go_wp2_with fail
          go_ret3
          exact rb_tuple3' rfl (ival (by rw [HPT.out]; rfl)) rfl (by repeat (first | assumption | exact Bl.refl _ | apply Bl.drewN | apply Bl.drew | apply Bl.alloc | (refine Bl.dr ?_ (by assumption)) | (refine Bl.trans ?_ (by assumption))))
        · go_wp2_with fail
          refine (HP2.out _ (HO.out.ents.bl (by repeat (first | assumption | exact Bl.refl _ | apply Bl.drewN | apply Bl.drew | apply Bl.alloc | (refine Bl.dr ?_ (by assumption)) | (refine Bl.trans ?_ (by assumption)))))).mono ?_; rintro e w4 ⟨rfl, hb4⟩
          go_wp2_with fail
          all_goals
            go_ret3
            exact rb_tuple3' rfl (ival (by rw [HPT.out]; simp only [if_true]; omega)) rfl (by repeat (first | assumption | exact Bl.refl _ | apply Bl.drewN | apply Bl.drew | apply Bl.alloc | (refine Bl.dr ?_ (by assumption)) | (refine Bl.trans ?_ (by assumption))))
      · unfold fencedV
        have hme := fun w => meth_fenced a l.length c a2 (f8 l).marks.length c2 w
        go_wp2_with fail
        
        refine wp_region_quiet_bw w3 (by kernel_rfl) (by kernel_rfl) (Bl.refl w3) ?_
        repeat (go_big_quiet_step ((go_at_call 158; exact quietB (HF1.out _ _ _ (HO.out.ents.bl (hb.trans (BW.h _))) (hm.bl (BW.h _)) h8))))
        refine wpQuiet_nil ?_
        intro wq hw'
        have hwq : Bl w3 wq := by obtain ⟨x, hx⟩ := hw'; rw [hx]; exact x.h
        clear hw'
        have hm := hm.bl hwq
        have hrp := HRP.out.bl hwq
        clear HRP c1 x0 x1 x2 hb hwq c1' x0'
        obtain ⟨c1, x0, x1, x2, hb⟩ := hrp
        cases bd
        · go_wp2_with fail
          go_ret3
          exact rb_tuple3' rfl (ival (by rw [HPT.out]; rfl)) rfl (by repeat (first | assumption | exact Bl.refl _ | apply Bl.drewN | apply Bl.drew | apply Bl.alloc | (refine Bl.dr ?_ (by assumption)) | (refine Bl.trans ?_ (by assumption))))
        · go_wp2_with fail
          refine (HF2.out _ _ _ (HO.out.ents.bl (by repeat (first | assumption | exact Bl.refl _ | apply Bl.drewN | apply Bl.drew | apply Bl.alloc | (refine Bl.dr ?_ (by assumption)) | (refine Bl.trans ?_ (by assumption))))) (hm.bl (by repeat (first | assumption | exact Bl.refl _ | apply Bl.drewN | apply Bl.drew | apply Bl.alloc | (refine Bl.dr ?_ (by assumption)) | (refine Bl.trans ?_ (by assumption))))) h8).mono ?_; rintro e w4 ⟨rfl, hb4⟩
          go_wp2_with fail
          all_goals
            go_ret3
            exact rb_tuple3' rfl (ival (by rw [HPT.out]; simp only [if_true]; omega)) rfl (by repeat (first | assumption | exact Bl.refl _ | apply Bl.drewN | apply Bl.drew | apply Bl.alloc | (refine Bl.dr ?_ (by assumption)) | (refine Bl.trans ?_ (by assumption))))
    · have hres : rpart r x = (0, 0, rchk x) := by unfold rpart; rw [if_neg (by simp [e]), if_pos f]
      rw [hres]
      rw [e] at hC
      have f' : (rchk x != 0) = true := by simp [f]
      generalize rchk x = q at *
      clear hres f e
      generalize hp : (rck r).1 = p1 at *
      have HC := Lib.hid hC
      have HO := Lib.hid h
      have HX := Lib.hid hX
      obtain ⟨id, l⟩ := r
      obtain ⟨lo, hi, bd⟩ := x
      unfold Rn.v Rng.v
      simp only at *
      clear hC h hX hx
      go_enter Tryz.func32, Tryz.ntmps32
      go_wp2_with fail
      refine (HC.out _ (HO.out.bl (by repeat (first | assumption | exact Bl.refl _ | apply Bl.drewN | apply Bl.drew | apply Bl.alloc | (refine Bl.dr ?_ (by assumption)) | (refine Bl.trans ?_ (by assumption)))))).mono ?_; rintro e w1 ⟨rfl, hb1⟩
      have hrp : RP w w1 a l.length c ⟨lo, hi, bd⟩ := ⟨hb1.cell (by simp [go_sem]), hb1.cell (by simp [go_sem]), hb1.cell (by simp [go_sem]), hb1.cell (by simp [go_sem]), (by repeat (first | assumption | exact Bl.refl _ | apply Bl.drewN | apply Bl.drew | apply Bl.alloc | (refine Bl.dr ?_ (by assumption)) | (refine Bl.trans ?_ (by assumption))))⟩
      have HRP := Lib.hid hrp
      obtain ⟨c1, x0, x1, x2, hb⟩ := hrp
      clear hb1
      go_wp2_with fail
      refine (HX.out _).mono ?_; rintro e w2 ⟨rfl, hb2⟩
      have hrp := HRP.out.bl hb2
      clear HRP c1 x0 x1 x2 hb hb2
      have HRP := Lib.hid hrp
      obtain ⟨c1, x0, x1, x2, hb⟩ := hrp
      go_wp2_with fail
      go_ret3
      exact rb_tuple3' rfl rfl rfl (by repeat (first | assumption | exact Bl.refl _ | apply Bl.drewN | apply Bl.drew | apply Bl.alloc | (refine Bl.dr ?_ (by assumption)) | (refine Bl.trans ?_ (by assumption))))
  · have hres : rpart r x = (0, 0, (rck r).2) := by unfold rpart; rw [if_pos e]
    rw [hres]
    have e' : ((rck r).2 != 0) = true := by simp [e]
    generalize (rck r).2 = q at *
    clear hres e
    generalize hp : (rck r).1 = p1 at *
    have HC := Lib.hid hC
    have HO := Lib.hid h
    have HX := Lib.hid hX
    obtain ⟨id, l⟩ := r
    obtain ⟨lo, hi, bd⟩ := x
    unfold Rn.v Rng.v
    simp only at *
    clear hC h hX hx
    go_enter Tryz.func32, Tryz.ntmps32
    go_wp2_with fail
    refine (HC.out _ (HO.out.bl (by repeat (first | assumption | exact Bl.refl _ | apply Bl.drewN | apply Bl.drew | apply Bl.alloc | (refine Bl.dr ?_ (by assumption)) | (refine Bl.trans ?_ (by assumption)))))).mono ?_; rintro e w1 ⟨rfl, hb1⟩
    have hrp : RP w w1 a l.length c ⟨lo, hi, bd⟩ := ⟨hb1.cell (by simp [go_sem]), hb1.cell (by simp [go_sem]), hb1.cell (by simp [go_sem]), hb1.cell (by simp [go_sem]), (by repeat (first | assumption | exact Bl.refl _ | apply Bl.drewN | apply Bl.drew | apply Bl.alloc | (refine Bl.dr ?_ (by assumption)) | (refine Bl.trans ?_ (by assumption))))⟩
    have HRP := Lib.hid hrp
    obtain ⟨c1, x0, x1, x2, hb⟩ := hrp
    clear hb1
    go_wp2_with fail
    go_ret3
    exact rb_tuple3' rfl rfl rfl (by repeat (first | assumption | exact Bl.refl _ | apply Bl.drewN | apply Bl.drew | apply Bl.alloc | (refine Bl.dr ?_ (by assumption)) | (refine Bl.trans ?_ (by assumption))))

end Go.Proofs.YtkbfjficmdgjpaaGreatDoor
/-
  Contracts of Count, of both.
-/
namespace Go.Proofs.YtkbfjficmdgjpaaGreatDoor
open Go.RowKit
set_option linter.unusedSimpArgs false
set_option linter.unusedVariables false
set_option maxRecDepth 100000

theorem count_err {r : Rn} {x : Rng} (h : (rpart r x).2.2 ≠ 0) : rpart r x = (0, 0, (rpart r x).2.2) ∧ rcount r x = (0, 0, (rpart r x).2.2) := by
  unfold rpart rcount at *
  by_cases e : (rck r).2 ≠ 0
  · rw [if_pos e, if_pos e]; exact ⟨rfl, rfl⟩
  · by_cases f : rchk x ≠ 0
    · rw [if_neg e, if_neg e, if_pos f, if_pos f]; exact ⟨rfl, rfl⟩
    · rw [if_neg e, if_neg f] at h; exact absurd rfl h
theorem part_zero {r : Rn} {x : Rng} (h : (rpart r x).2.2 = 0) : (rck r).2 = 0 ∧ rchk x = 0 := by
  unfold rpart at h
  by_cases e : (rck r).2 ≠ 0
  · rw [if_pos e] at h; exact absurd h e
  · by_cases f : rchk x ≠ 0
    · rw [if_neg e, if_pos f] at h; exact absurd h f
    · exact ⟨by omega, by omega⟩

/-- The world of the loop of Count. -/
structure RK (w wr : World) (B : Nat) (p q : Int) : Prop where
  k0 : wr.cell? ⟨B, 0, none⟩ = some (.int .i64 p)
  k1 : wr.cell? ⟨B, 1, none⟩ = some (.int .i64 q)
  f0 : wr.frozen? ⟨B, 0, none⟩ = false
  f1 : wr.frozen? ⟨B, 1, none⟩ = false
  hB : w.heap.size ≤ B
  hb : Bl w wr
theorem RK.set0 {w wr : World} {B : Nat} {p q : Int} (h : RK w wr B p q) (v : Int) : RK w (wr.setCell ⟨B, 0, none⟩ (.int .i64 v)) B v q :=
  ⟨World.cell?_setCell_same wr _ _ h.k0, (World.cell?_setCell_other wr _ _ _ (by simp)).trans h.k1, (frozen_set _ _ _ _).trans h.f0, (frozen_set _ _ _ _).trans h.f1, h.hB, h.hb.setCell _ h.hB _⟩
theorem RK.set1 {w wr : World} {B : Nat} {p q : Int} (h : RK w wr B p q) (v : Int) : RK w (wr.setCell ⟨B, 1, none⟩ (.int .i64 v)) B p v :=
  ⟨(World.cell?_setCell_other wr _ _ _ (by simp)).trans h.k0, World.cell?_setCell_same wr _ _ h.k1, (frozen_set _ _ _ _).trans h.f0, (frozen_set _ _ _ _).trans h.f1, h.hB, h.hb.setCell _ h.hB _⟩
theorem RK.alloc {w wr : World} {B : Nat} {p q : Int} (h : RK w wr B p q) (o : Obj) : RK w (wr.alloc o) B p q :=
  ⟨((Bl.refl wr).alloc o).cell h.k0, ((Bl.refl wr).alloc o).cell h.k1, ((Bl.refl wr).alloc o).frozen h.k0 h.f0, ((Bl.refl wr).alloc o).frozen h.k1 h.f1, h.hB, h.hb.alloc o⟩

set_option maxHeartbeats 4000000 in
theorem runCount (a : Option Addr) (c : Nat) (r : Rn) (x : Rng) (w : World) (h : ROk w a c r) (hx : x.ok) :
    Calls Tryz.prog 15 #[r.v a c, x.v] w (RB w (.tuple #[.int .i64 (rcount r x).1, .int .i64 (rcount r x).2.1, .int .i64 (rcount r x).2.2])) := by
  have hC := fun w h => runPart a c r x w h hx
  by_cases e : (rpart r x).2.2 = 0
  · obtain ⟨e1, e2⟩ := part_zero e
    have o4 : r.es.length ≤ 5000 := (rck_ok e1).2.2.2.1
    rw [rpart_ok e1 e2] at hC
    rw [rcount_ok e1 e2]
    have hle := pTo_le r.es x
    have hge := pTo_ge r.es x
    have hlc := h.len
    have hcc := h.cap
    unfold maxLen at hcc
    generalize cntLtE r.es x.lo = fr at *
    generalize pTo r.es x = tt at *
    clear e e1 e2
    have HC := Lib.hid hC
    have HO := Lib.hid h
    obtain ⟨id, l⟩ := r
    obtain ⟨lo, hi, bd⟩ := x
    unfold Rn.v Rng.v
    simp only at *
    clear hC h hx
    go_enter Tryz.func15, Tryz.ntmps15
    go_wp2_with fail
    refine (HC.out _ (HO.out.bl (by repeat (first | assumption | exact Bl.refl _ | apply Bl.drewN | apply Bl.drew | apply Bl.alloc | (refine Bl.dr ?_ (by assumption)) | (refine Bl.trans ?_ (by assumption)))))).mono ?_; rintro e w1 ⟨rfl, hb1⟩
    have hrp : RP w w1 a l.length c ⟨lo, hi, bd⟩ := ⟨hb1.cell (by simp [go_sem]), hb1.cell (by simp [go_sem]), hb1.cell (by simp [go_sem]), hb1.cell (by simp [go_sem]), (by repeat (first | assumption | exact Bl.refl _ | apply Bl.drewN | apply Bl.drew | apply Bl.alloc | (refine Bl.dr ?_ (by assumption)) | (refine Bl.trans ?_ (by assumption))))⟩
    clear hb1
    have cc := ((Bl.refl w1).alloc (Obj.cells #[.int .i64 0, .int .i64 0] 62)).cell hrp.c1
    have hb := hrp.hb
    have hbs := hb.size
    clear hrp
    by_cases hft : fr = tt
    · subst hft
      have hz : fr - fr = 0 := by omega
      by_cases hcf : c = fr
      all_goals
        go_wp2_with fail
        go_loopg [11, 28] 0 (fun g p i wr => i = .int .i64 0 ∧ RK w wr w1.heap.size 0 0 ∧ g = 0)
        case atStart => exact ⟨rfl, ⟨by simp [go_sem], by simp [go_sem], by simp [go_sem], by simp [go_sem], hbs, (by repeat (first | assumption | exact Bl.refl _ | apply Bl.drewN | apply Bl.drew | apply Bl.alloc | (refine Bl.dr ?_ (by assumption)) | (refine Bl.trans ?_ (by assumption))))⟩, rfl⟩
        case round =>
          clear cc hb
          obtain ⟨rfl, hrk, hg⟩ := hrel
          obtain ⟨k0, k1, f0, f1, hB, hb⟩ := hrk
          go_wp2_with fail
          go_quiet (fail)
          go_wp2_with fail
          go_ret3
          exact rb_tuple3' (ival (by rw [cutE_nil]; rfl)) (ival (by rw [cutE_nil]; rfl)) rfl (by repeat (first | assumption | exact Bl.refl _ | apply Bl.drewN | apply Bl.drew | apply Bl.alloc | (refine Bl.dr ?_ (by assumption)) | (refine Bl.trans ?_ (by assumption))))
    · have hcf : ¬ c = fr := by omega
      obtain ⟨b, off, rfl, hat⟩ := HO.out.ents.get (show fr < l.length by omega)
      have HA := Lib.hid hat
      clear hat
      go_wp2_with fail
      go_loopg [11, 28] (tt - fr) (fun g p i wr => ∃ n : Nat, fr + n ≤ tt ∧ i = .int .i64 n ∧ RK w wr w1.heap.size (nLive (cutE l fr (fr + n)) : Nat) (nDead (cutE l fr (fr + n)) : Nat) ∧ g = tt - fr - n)
      case atStart => exact ⟨0, by omega, rfl, ⟨by simp [go_sem, cutE_nil, nLive], by simp [go_sem, cutE_nil, nDead], by simp [go_sem], by simp [go_sem], hbs, (by repeat (first | assumption | exact Bl.refl _ | apply Bl.drewN | apply Bl.drew | apply Bl.alloc | (refine Bl.dr ?_ (by assumption)) | (refine Bl.trans ?_ (by assumption))))⟩, rfl⟩
      case round =>
        clear cc hb
        obtain ⟨n, hn, rfl, hrk, hg⟩ := hrel
        have HRK := Lib.hid hrk
        obtain ⟨k0, k1, f0, f1, hB, hb⟩ := hrk
        have G := Lib.hid hg
        clear hg
        have b1 := live_dead (cutE l fr (fr + n))
        rw [cutE_len (show fr + n ≤ l.length by omega)] at b1
        by_cases h1 : n < tt - fr
        · obtain ⟨y, hy⟩ : ∃ y, l[fr + n]? = some y := ⟨_, List.getElem?_eq_getElem (by omega)⟩
          have hd := (HA.out _ y hy).bl hb
          rw [show off + (fr + n) * 4 = off + fr * 4 + n * 4 by omega] at hd
          obtain ⟨d0, d1, d2, d3⟩ := hd
          have s1 := nLive_snoc (cutE l fr (fr + n)) y
          have s2 := nDead_snoc (cutE l fr (fr + n)) y
          rw [← cutE_succ hy (by omega)] at s1 s2
          have S1 := Lib.hid s1
          have S2 := Lib.hid s2
          clear hy s1 s2
          generalize nLive (cutE l fr (fr + n)) = m1 at *
          generalize nDead (cutE l fr (fr + n)) = m2 at *
          obtain ⟨kk, vv, dd, ss⟩ := y
          simp only at d0 d1 d2 d3
          have hbz := (Bl.refl wr).alloc (Obj.cells #[.string kk, .string vv, .bool dd, .int .i64 ss] 35)
          have e0 := hbz.cell k0
          have e1 := hbz.cell k1
          have g0 := hbz.frozen k0 f0
          have g1 := hbz.frozen k1 f1
          have hlt : w1.heap.size < wr.heap.size := lt_of_cell k0
          clear hbz
          cases dd
          all_goals
            go_wp2_with fail
            go_roundg (tt - fr - (n + 1))
            case rel =>
              refine ⟨n + 1, by omega, by go_num, ?_, rfl⟩
              have e1 := S1.out
              have e2 := S2.out
              simp at e1 e2
              rw [show fr + (n + 1) = fr + n + 1 from rfl, e1, e2]
              first
              | (rw [show ((m1 + 1 : Nat) : Int) = (m1 : Int) + 1 by omega]; exact (HRK.out.set0 _).alloc _)
              | (rw [show ((m2 + 1 : Nat) : Int) = (m2 : Int) + 1 by omega]; exact (HRK.out.set1 _).alloc _)
            case measure => rw [G.out]; omega
        · obtain rfl : tt = fr + n := by omega
          go_wp2_with fail
          go_quiet (fail)
          go_wp2_with fail
          go_ret3
          exact rb_tuple3' rfl rfl rfl (by repeat (first | assumption | exact Bl.refl _ | apply Bl.drewN | apply Bl.drew | apply Bl.alloc | (refine Bl.dr ?_ (by assumption)) | (refine Bl.trans ?_ (by assumption))))
  · obtain ⟨f1, f2⟩ := count_err e
    rw [f2]
    rw [f1] at hC
    have e' : ((rpart r x).2.2 != 0) = true := by simp [e]
    generalize (rpart r x).2.2 = q at *
    clear f1 f2 e
    have HC := Lib.hid hC
    have HO := Lib.hid h
    obtain ⟨id, l⟩ := r
    obtain ⟨lo, hi, bd⟩ := x
    unfold Rn.v Rng.v
    simp only at *
    clear hC h hx
    go_enter Tryz.func15, Tryz.ntmps15
    go_wp2_with fail
    refine (HC.out _ (HO.out.bl (by repeat (first | assumption | exact Bl.refl _ | apply Bl.drewN | apply Bl.drew | apply Bl.alloc | (refine Bl.dr ?_ (by assumption)) | (refine Bl.trans ?_ (by assumption)))))).mono ?_; rintro e w1 ⟨rfl, hb1⟩
    go_wp2_with fail
    go_ret3
    exact rb_tuple3' rfl rfl rfl (by repeat (first | assumption | exact Bl.refl _ | apply Bl.drewN | apply Bl.drew | apply Bl.alloc | (refine Bl.dr ?_ (by assumption)) | (refine Bl.trans ?_ (by assumption))))
end Go.Proofs.YtkbfjficmdgjpaaGreatDoor
/-
  Contracts of the laws' own helpers of runs: Far, example, awake.
-/
namespace Go.Proofs.YtkbfjficmdgjpaaGreatDoor
open Go.RowKit
set_option linter.unusedSimpArgs false
set_option linter.unusedVariables false
set_option maxRecDepth 100000

set_option maxHeartbeats 1000000 in
theorem lawRunFar (a : Option Addr) (c : Nat) (r : Rn) (w : World) (h : ROk w a c r) :
    Calls Tryz.prog 4 #[r.v a c] w (SomeB w) := by
  have hn := Nat.le_trans h.len h.cap
  have HO := Lib.hid h
  unfold maxLen at hn
  obtain ⟨id, l⟩ := r
  unfold Rn.v
  simp only at *
  clear h
  by_cases h : 80 < l.length
  · by_cases h1 : l.length ≤ 5000
    · go_enter Tryz.func4, Tryz.ntmps4
      go_wp2_with fail
      all_goals
        go_ret
        exact SomeB.mk (by repeat (first | assumption | exact Bl.refl _ | apply Bl.drewN | apply Bl.drew | apply Bl.alloc | (refine Bl.dr ?_ (by assumption)) | (refine Bl.trans ?_ (by assumption))))
    · go_enter Tryz.func4, Tryz.ntmps4
      go_wp2_with fail
      all_goals
        go_ret
        exact SomeB.mk (by repeat (first | assumption | exact Bl.refl _ | apply Bl.drewN | apply Bl.drew | apply Bl.alloc | (refine Bl.dr ?_ (by assumption)) | (refine Bl.trans ?_ (by assumption))))
  · go_enter Tryz.func4, Tryz.ntmps4
    go_wp2_with fail
    go_loopg [3] l.length (fun g i wr => ∃ k : Nat, k ≤ l.length ∧ i = .int .i64 k ∧ Dr (w.alloc (Obj.cells #[Value.int IntKind.i64 id, Value.slice a l.length c] 24)) wr ∧ g = l.length - k)
    case atStart => exact ⟨0, by omega, rfl, Dr.refl _, rfl⟩
    case round =>
      obtain ⟨k, hk1, rfl, hd, hg⟩ := hrel
      have G := Lib.hid hg
      have cb : wr.cell? ⟨w.heap.size, 1, none⟩ = some (.slice a l.length c) := by rw [hd.cell]; simp [go_sem]
      have hb : Bl w wr := ((Bl.refl w).alloc _).dr hd
      clear hg
      by_cases h2 : k < l.length
      · obtain ⟨b, off, rfl, hat⟩ := HO.out.ents.get h2
        obtain ⟨x, hx⟩ : ∃ x, l[k]? = some x := ⟨_, List.getElem?_eq_getElem h2⟩
        obtain ⟨c0, c1, -, -⟩ := (hat k x hx).bl hb
        obtain ⟨o1, o2, -, -⟩ := HO.out.ents.ok x (List.mem_of_getElem? hx)
        unfold maxLen at o1 o2
        clear hat hx
        by_cases p1 : 100 < x.key.size
        · go_wp2_with fail
          go_ret
          exact SomeB.mk (by repeat (first | assumption | exact Bl.refl _ | apply Bl.drewN | apply Bl.drew | apply Bl.alloc | (refine Bl.dr ?_ (by assumption)) | (refine Bl.trans ?_ (by assumption))))
        · by_cases p2 : 100 < x.val.size
          · go_wp2_with fail
            go_ret
            exact SomeB.mk (by repeat (first | assumption | exact Bl.refl _ | apply Bl.drewN | apply Bl.drew | apply Bl.alloc | (refine Bl.dr ?_ (by assumption)) | (refine Bl.trans ?_ (by assumption))))
          · go_wp2_with fail
            go_roundg (l.length - (k + 1))
            case rel => exact ⟨k + 1, by omega, by go_num, hd, rfl⟩
            case measure => rw [G.out]; omega
      · go_wp2_with fail
        go_ret
        exact SomeB.mk (by repeat (first | assumption | exact Bl.refl _ | apply Bl.drewN | apply Bl.drew | apply Bl.alloc | (refine Bl.dr ?_ (by assumption)) | (refine Bl.trans ?_ (by assumption))))

/-! ### The run R -/
def exE1 : Ent := ⟨⟨#[97]⟩, ⟨#[49]⟩, false, 1⟩
def exE2 : Ent := ⟨⟨#[99]⟩, ⟨#[]⟩, true, 2⟩
def exE3 : Ent := ⟨⟨#[101]⟩, ⟨#[50]⟩, false, 3⟩
def exR : Rn := ⟨7, [exE1, exE2, exE3]⟩
def RunOut (r : Rn) (w : World) (v : Value) : Prop := ∃ a c, v = r.v a c ∧ ROk w a c r
theorem small_str {n : Nat} (s : ByteArray) (h : s.size ≤ n) (hn : n ≤ 1000) : s.size ≤ maxLen := Nat.le_trans h (by unfold maxLen; omega)
theorem exR_ok : ∀ x, x ∈ exR.es → x.ok := by
  intro x hx
  simp only [exR, List.mem_cons, List.not_mem_nil, or_false] at hx
  rcases hx with rfl | rfl | rfl <;> exact ⟨small_str (n := 3) _ (by decide) (by omega), small_str (n := 3) _ (by decide) (by omega), by decide, by decide⟩
theorem exR_cells : entCells exR.es = [.string ⟨#[97]⟩, .string ⟨#[49]⟩, .bool false, .int .i64 1, .string ⟨#[99]⟩, .string ⟨#[]⟩, .bool true, .int .i64 2, .string ⟨#[101]⟩, .string ⟨#[50]⟩, .bool false, .int .i64 3] := rfl
/-- Entries in a block of their own. -/
theorem ents_new (w : World) (l : List Ent) (g : Nat) (ho : ∀ x, x ∈ l → x.ok) (hc : ∀ i v, (entCells l)[i]? = some v → w.cell? ⟨g, i, none⟩ = some v) : Ents w (some ⟨g, 0, none⟩) l :=
  ⟨ho, fun _ => ⟨g, 0, rfl, fun i x hx => by
    obtain ⟨h0, h1, h2, h3⟩ := entCells_get l i x hx
    rw [Nat.zero_add]
    exact ⟨hc _ _ h0, hc _ _ h1, hc _ _ h2, hc _ _ h3⟩⟩⟩

set_option maxHeartbeats 2000000 in
theorem lawRunExample (w : World) : Calls Tryz.prog 11 #[] w (RM w (RunOut exR)) := by
  go_enter Tryz.func11, Tryz.ntmps11
  go_wp2_with fail
  
  refine bodyPost_ret (v := .agg #[.int .i64 7, .slice (some ⟨w.heap.size + 1, 0, none⟩) 3 3]) (by simp [results, Tryz.results11, go_sem, *]) rfl ?_
  refine RM.mk ⟨some ⟨w.heap.size + 1, 0, none⟩, 3, rfl, ⟨ents_new _ _ _ exR_ok ?_, by decide, by unfold maxLen; omega, by decide, by decide⟩⟩ (by repeat (first | assumption | exact Bl.refl _ | apply Bl.drewN | apply Bl.drew | apply Bl.alloc | (refine Bl.setCell ?_ _ (by first | (simp; done) | (simp; omega)) _) | (refine Bl.dr ?_ (by assumption)) | (refine Bl.trans ?_ (by assumption))))
  rw [exR_cells]
  intro i v hi
  have hlt := (List.getElem?_eq_some_iff.1 hi).1
  simp at hlt
  rcases (show i = 0 ∨ i = 1 ∨ i = 2 ∨ i = 3 ∨ i = 4 ∨ i = 5 ∨ i = 6 ∨ i = 7 ∨ i = 8 ∨ i = 9 ∨ i = 10 ∨ i = 11 by omega) with rfl | rfl | rfl | rfl | rfl | rfl | rfl | rfl | rfl | rfl | rfl | rfl <;> (simp at hi; subst hi; simp [go_sem])

theorem ev_get : rget exR ⟨#[99]⟩ = (exE2, 0) := by kernel_rfl
theorem ev_flo : rflo exR ⟨#[99]⟩ true = (exE1, 0) := by kernel_rfl
theorem ev_cei : rcei exR ⟨#[100]⟩ false = (exE3, 0) := by kernel_rfl
theorem ev_cnt : rcount exR ⟨mt, mt, false⟩ = (2, 1, 0) := by kernel_rfl

theorem fld_es (x v : Value) (w : World) : (Instr.field 24 (.agg #[x, v]) 1).run Tryz.prog w = .ok v w := by kernel_rfl
set_option maxHeartbeats 4000000 in
theorem lawRunAwake (w : World) : Calls Tryz.prog 5 #[] w (RB w (.bool true)) := by
  have hG := fun a c w h => runGet a c exR ⟨#[99]⟩ w h (small_str (n := 3) _ (by decide) (by omega))
  rw [ev_get] at hG
  have hF := fun a c w h => runFloor a c exR ⟨#[99]⟩ true w h (small_str (n := 3) _ (by decide) (by omega))
  rw [ev_flo] at hF
  have hC := fun a c w h => runCeiling a c exR ⟨#[100]⟩ false w h (small_str (n := 3) _ (by decide) (by omega))
  rw [ev_cei] at hC
  have hN := fun a c w h => runCount a c exR ⟨mt, mt, false⟩ w h ⟨small_str (n := 3) _ (by decide) (by omega), small_str (n := 3) _ (by decide) (by omega)⟩
  rw [ev_cnt] at hN
  simp only [Ent.v, exE1, exE2, exE3] at hG hF hC
  unfold Rng.v at hN
  have HX := Lib.hid (fun w => lawRunExample w)
  have HG := Lib.hid hG
  have HF := Lib.hid hF
  have HC := Lib.hid hC
  have HN := Lib.hid hN
  clear hG hF hC hN
  go_enter Tryz.func5, Tryz.ntmps5
  go_wp2_with fail
  refine (HX.out _).mono ?_; rintro e w1 ⟨v, rfl, ⟨a, c, rfl, ho⟩, hb1⟩
  unfold Rn.v exR
  simp only
  obtain ⟨b, off, rfl, hat⟩ := ho.ents.get (k := 0) (by decide)
  have p1 := (hat 0 exE1 rfl)
  have p2 := (hat 1 exE2 rfl)
  have p3 := (hat 2 exE3 rfl)
  have P := Lib.hid (And.intro p1 (And.intro p2 p3))
  clear p1 p2 p3 hat ho
  have hb : Bl w w1 := (by repeat (first | assumption | exact Bl.refl _ | apply Bl.drewN | apply Bl.drew | apply Bl.alloc | (refine Bl.dr ?_ (by assumption)) | (refine Bl.trans ?_ (by assumption))))
  clear hb1
  have hfl := fun v w => fld_es (.int .i64 7) v w
  go_wp2_with fail
  clear hfl
  refine (HX.out _).mono ?_; rintro e w2 ⟨v, rfl, ⟨a2, c2, rfl, ho⟩, hb1⟩
  have hb12 : Bl w1 w2 := (by repeat (first | assumption | exact Bl.refl _ | apply Bl.drewN | apply Bl.drew | apply Bl.alloc | (refine Bl.dr ?_ (by assumption)) | (refine Bl.trans ?_ (by assumption))))
  clear hb1
  go_wp2_with fail
  refine (HG.out _ _ _ ho).mono ?_; rintro e w3 ⟨rfl, hb1⟩
  have hb13 : Bl w1 w3 := (by repeat (first | assumption | exact Bl.refl _ | apply Bl.drewN | apply Bl.drew | apply Bl.alloc | (refine Bl.dr ?_ (by assumption)) | (refine Bl.trans ?_ (by assumption))))
  clear hb1 hb12 ho
  go_wp2_with fail
  refine (HX.out _).mono ?_; rintro e w4 ⟨v, rfl, ⟨a3, c3, rfl, ho⟩, hb1⟩
  have hm : Mem w4 (VE w3.heap.size ⟨⟨#[99]⟩, ⟨#[]⟩, true, 2⟩) := (Mem.new4 w3 ⟨⟨#[99]⟩, ⟨#[]⟩, true, 2⟩ _).bl hb1
  have hb14 : Bl w1 w4 := (by repeat (first | assumption | exact Bl.refl _ | apply Bl.drewN | apply Bl.drew | apply Bl.alloc | (refine Bl.dr ?_ (by assumption)) | (refine Bl.trans ?_ (by assumption))))
  clear hb1 hb13
  go_wp2_with fail
  refine (HF.out _ _ _ ho).mono ?_; rintro e w5 ⟨rfl, hb1⟩
  have hb15 : Bl w1 w5 := (by repeat (first | assumption | exact Bl.refl _ | apply Bl.drewN | apply Bl.drew | apply Bl.alloc | (refine Bl.dr ?_ (by assumption)) | (refine Bl.trans ?_ (by assumption))))
  have hm := hm.bl hb1
  clear hb1 hb14 ho
  go_wp2_with fail
  refine (HX.out _).mono ?_; rintro e w6 ⟨v, rfl, ⟨a4, c4, rfl, ho⟩, hb1⟩
  have hm := (hm.alloc (Obj.cells #[.string ⟨#[97]⟩, .string ⟨#[49]⟩, .bool false, .int .i64 1] 35)).bl hb1
  have hm2 : Mem w6 (VE w5.heap.size ⟨⟨#[97]⟩, ⟨#[49]⟩, false, 1⟩) := (Mem.new4 w5 ⟨⟨#[97]⟩, ⟨#[49]⟩, false, 1⟩ _).bl hb1
  have hb16 : Bl w1 w6 := (by repeat (first | assumption | exact Bl.refl _ | apply Bl.drewN | apply Bl.drew | apply Bl.alloc | (refine Bl.dr ?_ (by assumption)) | (refine Bl.trans ?_ (by assumption))))
  clear hb1 hb15
  go_wp2_with fail
  refine (HC.out _ _ _ ho).mono ?_; rintro e w7 ⟨rfl, hb1⟩
  have hb17 : Bl w1 w7 := (by repeat (first | assumption | exact Bl.refl _ | apply Bl.drewN | apply Bl.drew | apply Bl.alloc | (refine Bl.dr ?_ (by assumption)) | (refine Bl.trans ?_ (by assumption))))
  have hm := (hm.app hm2).bl hb1
  clear hb1 hb16 ho hm2
  go_wp2_with fail
  refine (HX.out _).mono ?_; rintro e w8 ⟨v, rfl, ⟨a5, c5, rfl, ho⟩, hb1⟩
  have hm := (hm.alloc (Obj.cells #[.string ⟨#[101]⟩, .string ⟨#[50]⟩, .bool false, .int .i64 3] 35)).bl hb1
  have hm2 : Mem w8 (VE w7.heap.size ⟨⟨#[101]⟩, ⟨#[50]⟩, false, 3⟩) := (Mem.new4 w7 ⟨⟨#[101]⟩, ⟨#[50]⟩, false, 3⟩ _).bl hb1
  have hb18 : Bl w1 w8 := (by repeat (first | assumption | exact Bl.refl _ | apply Bl.drewN | apply Bl.drew | apply Bl.alloc | (refine Bl.dr ?_ (by assumption)) | (refine Bl.trans ?_ (by assumption))))
  clear hb1 hb17
  go_wp2_with fail
  refine (HN.out _ _ _ ho).mono ?_; rintro e w9 ⟨rfl, hb1⟩
  have hb19 : Bl w1 w9 := (by repeat (first | assumption | exact Bl.refl _ | apply Bl.drewN | apply Bl.drew | apply Bl.alloc | (refine Bl.dr ?_ (by assumption)) | (refine Bl.trans ?_ (by assumption))))
  have hm := (hm.app hm2).bl hb1
  clear hb1 hb18 ho hm2
  obtain ⟨p1, p2, p3⟩ := P.out
  obtain ⟨d0, d1, d2, d3⟩ := p1.bl hb19
  obtain ⟨e0, e1, e2, e3⟩ := p2.bl hb19
  obtain ⟨f0, f1, f2, f3⟩ := p3.bl hb19
  simp only [Mem, VE, List.cons_append, List.nil_append, and_true] at hm
  simp only [exE1, exE2, exE3, Nat.zero_mul, Nat.add_zero, Nat.one_mul] at d0 d1 d2 d3 e0 e1 e2 e3 f0 f1 f2 f3
  clear p1 p2 p3
  go_wp2_with fail
  go_quiet (fail)
  go_wp2_with fail
  go_ret
  exact RB.mk rfl (by repeat (first | assumption | exact Bl.refl _ | apply Bl.drewN | apply Bl.drew | apply Bl.alloc | (refine Bl.dr ?_ (by assumption)) | (refine Bl.trans ?_ (by assumption))))
end Go.Proofs.YtkbfjficmdgjpaaGreatDoor
/-
  Contracts of runs: Print; the law RunsKnown.
-/
namespace Go.Proofs.YtkbfjficmdgjpaaGreatDoor
open Go.RowKit
set_option linter.unusedSimpArgs false
set_option linter.unusedVariables false
set_option maxRecDepth 100000

def rheadB (id : Int) : List UInt8 := [114, 117, 110, 32] ++ Lib.itoa id ++ [10]
def rprint (r : Rn) : List UInt8 × Int := if (rck r).2 ≠ 0 then ([], (rck r).2) else if (eprint r.es).2 ≠ 0 then ([], (eprint r.es).2) else if 1048576 < (rheadB r.id ++ (eprint r.es).1).length then ([], 3) else (rheadB r.id ++ (eprint r.es).1, 0)
theorem eprint_len (l : List Ent) : (eprint l).1.length ≤ 1048576 := by
  unfold eprint
  split
  · simp
  · split
    · simp
    · split
      · simp
      · simp only; omega
theorem catR (a b c : ByteArray) : (a ++ b ++ c).data.toList = a.data.toList ++ b.data.toList ++ c.data.toList := by rw [catB, catB]
set_option maxHeartbeats 4000000 in
theorem runPrint (a : Option Addr) (c : Nat) (r : Rn) (w : World) (h : ROk w a c r) (hE : PEnv w) : Calls Tryz.prog 6 #[r.v a c] w (RB w (.tuple #[.string ⟨(rprint r).1.toArray⟩, .int .i64 (rprint r).2])) := by
  obtain ⟨res, hres⟩ : ∃ x, rprint r = x := ⟨_, rfl⟩
  rw [hres]
  unfold rprint at hres
  have hC := fun w h => runCheck a c r w h
  have hP := fun w h hE => entPrint a c r.es w h (Nat.le_trans (ROk.len (by assumption : ROk _ a c r)) (ROk.cap (by assumption : ROk _ a c r))) hE
  have hel := eprint_len r.es
  have HO := Lib.hid h
  have HE := Lib.hid hE
  obtain ⟨ck, hck⟩ : ∃ x, (rck r).2 = x := ⟨_, rfl⟩
  rw [hck] at hC hres
  have hD := fun (h1 : (rck r).2 = 0) w h => digitsP r.id (by have := rck_ok h1; omega) (by have := rck_ok h1; omega) w h
  have him := fun (h1 : (rck r).2 = 0) => Lib.itoa_length_le r.id (by have := rck_ok h1; omega) (by have := rck_ok h1; omega)
  unfold Rn.v at hC ⊢
  generalize eprint r.es = ep at hP hres hel
  obtain ⟨el, en⟩ := ep
  simp only at hP hres hel
  obtain ⟨es, hes⟩ : ∃ q : ByteArray, (⟨el.toArray⟩ : ByteArray) = q := ⟨_, rfl⟩
  have hed : el = es.data.toList := by rw [← hes]
  subst hed
  rw [hes] at hP
  rw [← Lib.size_eq] at hel
  have HC := Lib.hid hC
  have HP := Lib.hid hP
  clear hC hP h hE hes
  have hb0 : Bl w (w.alloc (.cells #[.int .i64 r.id, .slice a r.es.length c] 24)) := (by repeat (first | assumption | exact Bl.refl _ | apply Bl.drewN | apply Bl.drew | apply Bl.alloc | (refine Bl.dr ?_ (by assumption)) | (refine Bl.trans ?_ (by assumption))))
  by_cases hc0 : ck = 0
  · subst hc0
    rw [if_neg (by simp)] at hres
    have hD := hD hck
    have him := him hck
    clear hck
    by_cases hen : en = 0
    · subst hen
      rw [if_neg (by simp)] at hres
      obtain ⟨q, hq⟩ : ∃ q : ByteArray, (⟨(Lib.itoa r.id).toArray⟩ : ByteArray) = q := ⟨_, rfl⟩
      have hqd : q.data.toList = Lib.itoa r.id := by rw [← hq]
      have hqs : q.size ≤ 21 := by rw [Lib.size_eq, hqd]; exact him
      rw [hq] at hD
      have HD := Lib.hid hD
      have HQ := Lib.hid hqd
      have i4 : ¬ 9223372036854775807 < 4 + q.size := by omega
      have i5 : ¬ 9223372036854775807 < 4 + q.size + 1 := by omega
      have i6 : ¬ 9223372036854775807 < 4 + q.size + 1 + es.size := by omega
      obtain ⟨T, hT⟩ : ∃ T : ByteArray, (⟨#[114, 117, 110, 32]⟩ : ByteArray) ++ q ++ ⟨#[10]⟩ ++ es = T := ⟨_, rfl⟩
      have hTd : T.data.toList = rheadB r.id ++ es.data.toList := by rw [← hT, catB, catR, hqd]; rfl
      have hTs : T.size = 4 + q.size + 1 + es.size := by rw [← hT, ByteArray.size_append, ByteArray.size_append, ByteArray.size_append]; rfl
      rw [← hTd, ← Lib.size_eq] at hres
      have HT := Lib.hid hT
      have HTl := Lib.hid (show T = ⟨T.data.toList.toArray⟩ from rfl)
      clear hD hq hqd hT him hTd
      by_cases hbig : 1048576 < T.size
      · rw [if_pos hbig] at hres
        subst hres
        have n1 : decide (1048576 < 4 + q.size + 1 + es.size) = true := by rw [decide_eq_true_eq, ← hTs]; exact hbig
        have n2 : decide ((1048576 : Int) < 4 + (q.size : Int) + 1 + (es.size : Int)) = true := by rw [decide_eq_true_eq]; omega
        have n3 : (1048576 : Int) < 4 + (q.size : Int) + 1 + (es.size : Int) := by omega
        clear hbig hTs
        go_enter Tryz.func6, Tryz.ntmps6
        go_wp2_with fail
        refine (HC.out _ (HO.out.bl hb0)).mono ?_; rintro e w1 ⟨rfl, hb1⟩
        have c0 : w1.cell? ⟨w.heap.size, 0, none⟩ = some (.int .i64 r.id) := hb1.cell (by simp [go_sem])
        have c1 : w1.cell? ⟨w.heap.size, 1, none⟩ = some (.slice a r.es.length c) := hb1.cell (by simp [go_sem])
        have hbw := hb0.trans hb1
        go_wp2_with fail
        refine (HP.out _ (HO.out.bl hbw).ents (HE.out.bl hbw)).mono ?_; rintro e w2 ⟨rfl, hb2⟩
        have c0 := hb2.cell c0
        have hbw2 := hbw.trans hb2
        go_wp2_with fail
        refine (HD.out _ (HE.out.bl hbw2)).mono ?_; rintro e w3 ⟨rfl, hb3⟩
        have hbF := hbw2.trans hb3
        go_wp2_with fail
        go_ret2
        exact rb_tuple rfl rfl hbF
      · rw [if_neg hbig] at hres
        subst hres
        have n1 : decide (1048576 < 4 + q.size + 1 + es.size) = false := by rw [decide_eq_false_iff_not, ← hTs]; exact hbig
        have n2 : decide ((1048576 : Int) < 4 + (q.size : Int) + 1 + (es.size : Int)) = false := by rw [decide_eq_false_iff_not]; omega
        have n3 : ¬ (1048576 : Int) < 4 + (q.size : Int) + 1 + (es.size : Int) := by omega
        clear hbig hTs
        go_enter Tryz.func6, Tryz.ntmps6
        go_wp2_with fail
        refine (HC.out _ (HO.out.bl hb0)).mono ?_; rintro e w1 ⟨rfl, hb1⟩
        have c0 : w1.cell? ⟨w.heap.size, 0, none⟩ = some (.int .i64 r.id) := hb1.cell (by simp [go_sem])
        have c1 : w1.cell? ⟨w.heap.size, 1, none⟩ = some (.slice a r.es.length c) := hb1.cell (by simp [go_sem])
        have hbw := hb0.trans hb1
        go_wp2_with fail
        refine (HP.out _ (HO.out.bl hbw).ents (HE.out.bl hbw)).mono ?_; rintro e w2 ⟨rfl, hb2⟩
        have c0 := hb2.cell c0
        have hbw2 := hbw.trans hb2
        go_wp2_with fail
        refine (HD.out _ (HE.out.bl hbw2)).mono ?_; rintro e w3 ⟨rfl, hb3⟩
        have hbF := hbw2.trans hb3
        go_wp2_with fail
        go_ret2
        exact rb_tuple (sval HT.out) rfl hbF
    · rw [if_pos hen] at hres
      subst hres
      have t1 : (en != 0) = true := by rw [bne_iff_ne]; exact hen
      clear hen hD him
      go_enter Tryz.func6, Tryz.ntmps6
      go_wp2_with fail
      refine (HC.out _ (HO.out.bl hb0)).mono ?_; rintro e w1 ⟨rfl, hb1⟩
      have c1 : w1.cell? ⟨w.heap.size, 1, none⟩ = some (.slice a r.es.length c) := hb1.cell (by simp [go_sem])
      have hbw := hb0.trans hb1
      go_wp2_with fail
      refine (HP.out _ (HO.out.bl hbw).ents (HE.out.bl hbw)).mono ?_; rintro e w2 ⟨rfl, hb2⟩
      go_wp2_with fail
      go_ret2
      exact rb_tuple rfl rfl (hbw.trans hb2)
  · rw [if_pos hc0] at hres
    subst hres
    have t1 : (ck != 0) = true := by rw [bne_iff_ne]; exact hc0
    clear hc0 hD him hck
    go_enter Tryz.func6, Tryz.ntmps6
    go_wp2_with fail
    refine (HC.out _ (HO.out.bl hb0)).mono ?_; rintro e w1 ⟨rfl, hb1⟩
    go_wp2_with fail
    go_ret2
    exact rb_tuple rfl rfl (hb0.trans hb1)

theorem rk_G : rget exR ⟨#[98]⟩ = (ent0, 4) := by kernel_rfl
theorem rk_F1 : rflo exR ⟨#[99]⟩ false = (exE2, 0) := by kernel_rfl
theorem rk_F2 : rflo exR ⟨#[100]⟩ true = (exE2, 0) := by kernel_rfl
theorem rk_F3 : rflo exR ⟨#[65]⟩ false = (ent0, 4) := by kernel_rfl
theorem rk_C1 : rcei exR ⟨#[99]⟩ true = (exE3, 0) := by kernel_rfl
theorem rk_C2 : rcei exR ⟨#[102]⟩ false = (ent0, 4) := by kernel_rfl
def rkB : Rng := ⟨⟨#[98]⟩, ⟨#[101]⟩, true⟩
theorem rkB_ok : rkB.ok := ⟨small_str (n := 3) _ (by decide) (by omega), small_str (n := 3) _ (by decide) (by omega)⟩
theorem rk_P : rpart exR rkB = (1, 2, 0) := by kernel_rfl
theorem rk_N : rcount exR rkB = (0, 1, 0) := by kernel_rfl
theorem rk_V : rcov exR = (⟨⟨#[97]⟩, ⟨#[101, 0]⟩, true⟩, 0) := by kernel_rfl
def rkE : Ent := ⟨⟨#[99]⟩, ⟨#[]⟩, true, 5⟩
theorem rk_T : rprint ⟨7, [rkE]⟩ = ([114, 117, 110, 32, 55, 10, 100, 101, 108, 32, 34, 99, 34, 32, 53, 10], 0) := by
  have e : ∀ n : Nat, n < 10 → Lib.itoa (n : Int) = [UInt8.ofNat (48 + n)] := by
    intro n h
    unfold Lib.itoa
    rw [if_neg (by omega), Int.toNat_natCast, Lib.decDigits_one h]
  have i7 : Lib.itoa 7 = [55] := e 7 (by omega)
  have i5 : Lib.itoa 5 = [53] := e 5 (by omega)
  have hc : rck ⟨7, [rkE]⟩ = (0, 0) := by kernel_rfl
  have ha : eall [rkE] = 0 := by kernel_rfl
  have hl : linesE [rkE] = [100, 101, 108, 32, 34, 99, 34, 32, 53, 10] := by
    unfold linesE lineE lhdE ltlE
    simp only [List.flatMap_cons, List.flatMap_nil, rkE, i5]
    kernel_rfl
  have hp : eprint [rkE] = ([100, 101, 108, 32, 34, 99, 34, 32, 53, 10], 0) := by
    unfold eprint
    rw [ha, hl]
    kernel_rfl
  show (if (rck ⟨7, [rkE]⟩).2 ≠ 0 then _ else if (eprint [rkE]).2 ≠ 0 then _ else if 1048576 < (rheadB 7 ++ (eprint [rkE]).1).length then _ else (rheadB 7 ++ (eprint [rkE]).1, 0)) = _
  rw [hc, hp]
  unfold rheadB
  rw [i7]
  rfl
theorem rkE_ents (w : World) (g : Nat) (h : Mem w (VE g rkE)) : Ents w (some ⟨g, 0, none⟩) [rkE] := by
  refine ents_new w [rkE] g ?_ ?_
  · intro x hx
    rw [List.mem_singleton.1 hx]
    exact ⟨small_str (n := 3) _ (by decide) (by omega), small_str (n := 3) _ (by decide) (by omega), by decide, by decide⟩
  · obtain ⟨a0, -, a1, -, a2, -, a3, -, -⟩ := h
    intro i v hi
    match i, hi with
    | 0, hi => simp [entCells] at hi; subst hi; exact a0
    | 1, hi => simp [entCells] at hi; subst hi; exact a1
    | 2, hi => simp [entCells] at hi; subst hi; exact a2
    | 3, hi => simp [entCells] at hi; subst hi; exact a3
    | n + 4, hi => simp [entCells] at hi
end Go.Proofs.YtkbfjficmdgjpaaGreatDoor

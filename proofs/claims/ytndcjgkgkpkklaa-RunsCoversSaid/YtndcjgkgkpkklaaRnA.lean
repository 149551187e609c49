
/-
  Contracts of runs.Check, asked, at and of the reference's Check, asked.
-/
import Derived.Test.YtndcjgkgkpkklaaRnQ
import Derived.Test.YtndcjgkgkpkklaaEntB
namespace Go.Proofs.Ytndcjgkgkpkklaa
open Go.RowKit
set_option linter.unusedSimpArgs false
set_option linter.unusedVariables false
set_option maxRecDepth 100000


set_option maxRecDepth 100000 in
set_option maxHeartbeats 1000000 in
theorem runCheck (a : Option Addr) (c : Nat) (r : Rn) (w : World) (h : ROk w a c r) :
    Calls Try.prog 11 #[r.v a c] w (RB w (.tuple #[.int .i64 (rck r).1, .int .i64 (rck r).2])) := by
  have hL := fun w hh => entCheckList a c r.es w hh (Nat.le_trans h.len h.cap)
  have hlo := h.lo
  have hhi := h.hi
  unfold rck
  generalize hq : clchk r.es = q at *
  obtain ⟨q0, q1⟩ := q
  have HE := Lib.hid h.ents
  have HL := Lib.hid hL
  clear hL hq h
  obtain ⟨id, l⟩ := r
  unfold Rn.v
  simp only at hlo hhi ⊢
  by_cases e : id < 1 ∨ 1000000 < id
  · rw [if_pos e]
    rcases e with e | e
    · go_enter Try.func11, Try.ntmps11
      go_wp2_with fail
      go_ret2
      exact rb_tuple rfl rfl (by repeat (first | assumption | exact Bl.refl _ | apply Bl.drewN | apply Bl.drew | apply Bl.alloc | (refine Bl.dr ?_ (by assumption)) | (refine Bl.trans ?_ (by assumption))))
    · have e' : ¬ id < 1 := by omega
      go_enter Try.func11, Try.ntmps11
      go_wp2_with fail
      go_ret2
      exact rb_tuple rfl rfl (by repeat (first | assumption | exact Bl.refl _ | apply Bl.drewN | apply Bl.drew | apply Bl.alloc | (refine Bl.dr ?_ (by assumption)) | (refine Bl.trans ?_ (by assumption))))
  · rw [if_neg e]
    have e1 : ¬ id < 1 := by omega
    have e2 : ¬ 1000000 < id := by omega
    clear e
    go_enter Try.func11, Try.ntmps11
    go_wp2_with fail
    refine (HL.out _ (HE.out.bl (by repeat (first | assumption | exact Bl.refl _ | apply Bl.drewN | apply Bl.drew | apply Bl.alloc | (refine Bl.dr ?_ (by assumption)) | (refine Bl.trans ?_ (by assumption)))))).mono ?_; rintro e w1 ⟨rfl, hb1⟩
    go_wp2_with fail
    go_ret2
    exact rb_tuple rfl rfl (by repeat (first | assumption | exact Bl.refl _ | apply Bl.drewN | apply Bl.drew | apply Bl.alloc | (refine Bl.dr ?_ (by assumption)) | (refine Bl.trans ?_ (by assumption))))

set_option maxRecDepth 100000 in
set_option maxHeartbeats 1000000 in
theorem refRunCheck (a : Option Addr) (c : Nat) (r : Rn) (w : World) (h : ROk w a c r) :
    Calls Try.prog 12 #[r.v a c] w (RB w (.tuple #[.int .i64 (rck r).1, .int .i64 (rck r).2])) := by
  have hL := fun w hh => refCheckList a c r.es w hh (Nat.le_trans h.len h.cap)
  have hlo := h.lo
  have hhi := h.hi
  unfold rck
  generalize hq : clchk r.es = q at *
  obtain ⟨q0, q1⟩ := q
  have HE := Lib.hid h.ents
  have HL := Lib.hid hL
  clear hL hq h
  obtain ⟨id, l⟩ := r
  unfold Rn.v
  simp only at hlo hhi ⊢
  by_cases e : id < 1 ∨ 1000000 < id
  · rw [if_pos e]
    rcases e with e | e
    · go_enter Try.func12, Try.ntmps12
      go_wp2_with fail
      go_ret2
      exact rb_tuple rfl rfl (by repeat (first | assumption | exact Bl.refl _ | apply Bl.drewN | apply Bl.drew | apply Bl.alloc | (refine Bl.dr ?_ (by assumption)) | (refine Bl.trans ?_ (by assumption))))
    · have e' : ¬ id < 1 := by omega
      go_enter Try.func12, Try.ntmps12
      go_wp2_with fail
      go_ret2
      exact rb_tuple rfl rfl (by repeat (first | assumption | exact Bl.refl _ | apply Bl.drewN | apply Bl.drew | apply Bl.alloc | (refine Bl.dr ?_ (by assumption)) | (refine Bl.trans ?_ (by assumption))))
  · rw [if_neg e]
    have e1 : ¬ id < 1 := by omega
    have e2 : ¬ 1000000 < id := by omega
    clear e
    go_enter Try.func12, Try.ntmps12
    go_wp2_with fail
    refine (HL.out _ (HE.out.bl (by repeat (first | assumption | exact Bl.refl _ | apply Bl.drewN | apply Bl.drew | apply Bl.alloc | (refine Bl.dr ?_ (by assumption)) | (refine Bl.trans ?_ (by assumption)))))).mono ?_; rintro e w1 ⟨rfl, hb1⟩
    go_wp2_with fail
    go_ret2
    exact rb_tuple rfl rfl (by repeat (first | assumption | exact Bl.refl _ | apply Bl.drewN | apply Bl.drew | apply Bl.alloc | (refine Bl.dr ?_ (by assumption)) | (refine Bl.trans ?_ (by assumption))))

set_option maxRecDepth 100000 in
set_option maxHeartbeats 1000000 in
theorem runAsked (a : Option Addr) (c : Nat) (r : Rn) (k : ByteArray) (g : Nat) (w : World) (h : ROk w a c r) (hk : k.size ≤ maxLen)
    (h0 : w.cell? ⟨g, 0, none⟩ = some (.int .i64 r.id)) (h1 : w.cell? ⟨g, 1, none⟩ = some (.slice a r.es.length c)) :
    Calls Try.prog 37 #[.pointer (some ⟨g, 0, none⟩), .string k] w (RB w (.int .i64 (rask r k))) := by
  have hC := fun w h => runCheck a c r w h
  have hK := fun w => keysCheck k w hk
  have HF := Lib.hid h
  unfold rask
  by_cases e : (rck r).2 = 0
  · rw [if_neg (by simp [e])]
    have e' : ((rck r).2 != 0) = false := by simp [e]
    generalize (rck r).1 = q0 at *
    generalize (rck r).2 = q1 at *
    generalize kchk k = q2 at *
    obtain ⟨id, l⟩ := r
    unfold Rn.v at hC
    simp only at hC h0 h1
    have HC := Lib.hid hC
    have HK := Lib.hid hK
    clear hC hK e h
    go_enter Try.func37, Try.ntmps37
    go_wp2_with fail
    refine (HC.out _ HF.out).mono ?_; rintro e w1 ⟨rfl, hb1⟩
    go_wp2_with fail
    refine (HK.out _).mono ?_; rintro e w' ⟨rfl, n1, rfl⟩
    go_wp2_with fail
    go_ret
    exact RB.mk rfl (by repeat (first | assumption | exact Bl.refl _ | apply Bl.drewN | apply Bl.drew | apply Bl.alloc | (refine Bl.dr ?_ (by assumption)) | (refine Bl.trans ?_ (by assumption))))
  · rw [if_pos e]
    have e' : ((rck r).2 != 0) = true := by simp [e]
    generalize (rck r).1 = q0 at *
    generalize (rck r).2 = q1 at *
    obtain ⟨id, l⟩ := r
    unfold Rn.v at hC
    simp only at hC h0 h1
    have HC := Lib.hid hC
    clear hC hK e h
    go_enter Try.func37, Try.ntmps37
    go_wp2_with fail
    refine (HC.out _ HF.out).mono ?_; rintro e w1 ⟨rfl, hb1⟩
    go_wp2_with fail
    go_ret
    exact RB.mk rfl (by repeat (first | assumption | exact Bl.refl _ | apply Bl.drewN | apply Bl.drew | apply Bl.alloc | (refine Bl.dr ?_ (by assumption)) | (refine Bl.trans ?_ (by assumption))))

set_option maxRecDepth 100000 in
set_option maxHeartbeats 1000000 in
theorem refRunAsked (a : Option Addr) (c : Nat) (r : Rn) (k : ByteArray) (w : World) (h : ROk w a c r) (hk : k.size ≤ maxLen) :
    Calls Try.prog 40 #[r.v a c, .string k] w (RB w (.int .i64 (rask r k))) := by
  have hC := fun w h => refRunCheck a c r w h
  have hK := fun w => refCheck k w hk
  have HF := Lib.hid h
  unfold rask
  by_cases e : (rck r).2 = 0
  · rw [if_neg (by simp [e])]
    have e' : ((rck r).2 == 0) = true := by simp [e]
    generalize (rck r).1 = q0 at *
    generalize (rck r).2 = q1 at *
    generalize kchk k = q2 at *
    obtain ⟨id, l⟩ := r
    unfold Rn.v at hC ⊢
    simp only at hC ⊢
    have HC := Lib.hid hC
    have HK := Lib.hid hK
    clear hC hK e h
    go_enter Try.func40, Try.ntmps40
    go_wp2_with fail
    refine (HC.out _ (HF.out.bl (by repeat (first | assumption | exact Bl.refl _ | apply Bl.drewN | apply Bl.drew | apply Bl.alloc | (refine Bl.dr ?_ (by assumption)) | (refine Bl.trans ?_ (by assumption)))))).mono ?_; rintro e w1 ⟨rfl, hb1⟩
    go_wp2_with fail
    refine (HK.out _).mono ?_; rintro e w' ⟨rfl, n1, rfl⟩
    go_wp2_with fail
    go_ret
    exact RB.mk rfl (by repeat (first | assumption | exact Bl.refl _ | apply Bl.drewN | apply Bl.drew | apply Bl.alloc | (refine Bl.dr ?_ (by assumption)) | (refine Bl.trans ?_ (by assumption))))
  · rw [if_pos e]
    have e' : ((rck r).2 == 0) = false := by simp [e]
    generalize (rck r).1 = q0 at *
    generalize (rck r).2 = q1 at *
    obtain ⟨id, l⟩ := r
    unfold Rn.v at hC ⊢
    simp only at hC ⊢
    have HC := Lib.hid hC
    clear hC hK e h
    go_enter Try.func40, Try.ntmps40
    go_wp2_with fail
    refine (HC.out _ (HF.out.bl (by repeat (first | assumption | exact Bl.refl _ | apply Bl.drewN | apply Bl.drew | apply Bl.alloc | (refine Bl.dr ?_ (by assumption)) | (refine Bl.trans ?_ (by assumption)))))).mono ?_; rintro e w1 ⟨rfl, hb1⟩
    go_wp2_with fail
    go_ret
    exact RB.mk rfl (by repeat (first | assumption | exact Bl.refl _ | apply Bl.drewN | apply Bl.drew | apply Bl.alloc | (refine Bl.dr ?_ (by assumption)) | (refine Bl.trans ?_ (by assumption))))

/-- What at returns. -/
theorem runAt (a : Option Addr) (c : Nat) (l : List Ent) (i : Int) (w : World) (hl : Ents w a l) (hn : l.length ≤ maxLen) (h1 : -9223372036854775808 ≤ i) (h2 : i ≤ 9223372036854775807) :
    Calls Try.prog 39 #[.slice a l.length c, .int .i64 i] w (RB w (.tuple #[(atE l i).1.v, .int .i64 (atE l i).2])) := by
  unfold maxLen at hn
  by_cases e : i < 0 ∨ (l.length : Int) ≤ i
  · rw [atE_none e]
    unfold ent0 Ent.v
    rcases e with e | e
    · go_enter Try.func39, Try.ntmps39
      go_wp2_with fail
      
      refine bodyPost_ret (v := .tuple #[.agg #[.string mt, .string mt, .bool false, .int .i64 0], .int .i64 4]) (by simp [results, Try.results39, go_sem, *]) rfl ?_
      exact RB.mk rfl (by repeat (first | assumption | exact Bl.refl _ | apply Bl.drewN | apply Bl.drew | apply Bl.alloc | (refine Bl.setCell ?_ _ (by first | (simp; done) | (simp; omega)) _) | (refine Bl.dr ?_ (by assumption)) | (refine Bl.trans ?_ (by assumption))))
    · by_cases e' : i < 0
      · omega
      · go_enter Try.func39, Try.ntmps39
        go_wp2_with fail
        
        refine bodyPost_ret (v := .tuple #[.agg #[.string mt, .string mt, .bool false, .int .i64 0], .int .i64 4]) (by simp [results, Try.results39, go_sem, *]) rfl ?_
        exact RB.mk rfl (by repeat (first | assumption | exact Bl.refl _ | apply Bl.drewN | apply Bl.drew | apply Bl.alloc | (refine Bl.setCell ?_ _ (by first | (simp; done) | (simp; omega)) _) | (refine Bl.dr ?_ (by assumption)) | (refine Bl.trans ?_ (by assumption))))
  · obtain ⟨n, rfl⟩ := Int.eq_ofNat_of_zero_le (show 0 ≤ i by omega)
    have hi : n < l.length := by omega
    obtain ⟨b, off, rfl, hat⟩ := hl.get hi
    obtain ⟨x, hx⟩ : ∃ x, l[n]? = some x := ⟨_, List.getElem?_eq_getElem hi⟩
    obtain ⟨c0, c1, c2, c3⟩ := hat n x hx
    rw [atE_some hx]
    unfold Ent.v
    have hbz := (Bl.refl w).alloc (Obj.cells #[.string ⟨#[]⟩, .string ⟨#[]⟩, .bool false, .int .i64 0] 31)
    have d0 := hbz.cell c0
    have d1 := hbz.cell c1
    have d2 := hbz.cell c2
    have d3 := hbz.cell c3
    clear hat hx hl hbz
    go_enter Try.func39, Try.ntmps39
    go_wp2_with fail
    
    refine bodyPost_ret (v := .tuple #[.agg #[.string x.key, .string x.val, .bool x.dead, .int .i64 x.seq], .int .i64 0]) (by simp [results, Try.results39, go_sem, *]) rfl ?_
    exact RB.mk rfl (by repeat (first | assumption | exact Bl.refl _ | apply Bl.drewN | apply Bl.drew | apply Bl.alloc | (refine Bl.setCell ?_ _ (by first | (simp; done) | (simp; omega)) _) | (refine Bl.dr ?_ (by assumption)) | (refine Bl.trans ?_ (by assumption))))
end Go.Proofs.Ytndcjgkgkpkklaa

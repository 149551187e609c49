
/-
  Contracts of entries.Check, CheckList and of the reference's Check, CheckList, at, Find.
-/
import Derived.Test.YtkbfjficmdgjpaaGreatDoorKeysB
namespace Go.Proofs.YtkbfjficmdgjpaaGreatDoor
open Go.RowKit
set_option linter.unusedSimpArgs false
set_option linter.unusedVariables false
set_option maxRecDepth 100000

def echk (x : Ent) : Int := if 32 < x.key.size ∨ 64 < x.val.size then 3 else if x.dead = true ∧ x.val.size ≠ 0 then 6 else if x.seq < 1 ∨ 1000000000 < x.seq then 7 else 0
theorem empty_iff' (s : ByteArray) : (s.toList.isEmpty = true) ↔ s.size = 0 := by
  rw [toL, List.isEmpty_iff_length_eq_zero]; simp
theorem nonempty_of {s : ByteArray} (h : s.size ≠ 0) : s.toList.isEmpty = false := by
  cases h' : s.toList.isEmpty; rfl; exact absurd ((empty_iff' s).1 h') h


set_option maxHeartbeats 1000000 in
theorem entCheck (x : Ent) (w : World) (hx : x.ok) : Calls Tryz.prog 56 #[x.v] w (RB w (.int .i64 (echk x))) := by
  obtain ⟨s, t, d, q⟩ := x
  obtain ⟨hs, ht, hq1, hq2⟩ := hx
  simp only at hs ht hq1 hq2
  have hk := fun w => keysCheck s w hs
  unfold maxLen at hs ht
  unfold Ent.v echk
  unfold kchk at hk
  simp only
  by_cases h1 : 32 < s.size
  · rw [if_pos h1] at hk
    rw [if_pos (.inl h1)]
    have Hk := Lib.hid hk
    clear hk
    go_enter Tryz.func56, Tryz.ntmps56
    go_wp2_with (go_at_call 53; refine (Hk.out _).mono ?_; rintro e w' ⟨rfl, n1, rfl⟩)
    go_ret
    exact RB.mk rfl (by repeat (first | assumption | exact Bl.refl _ | apply Bl.drewN | apply Bl.drew | apply Bl.alloc | (refine Bl.dr ?_ (by assumption)) | (refine Bl.trans ?_ (by assumption))))
  · rw [if_neg h1] at hk
    have Hk := Lib.hid hk
    clear hk
    by_cases h2 : 64 < t.size
    · rw [if_pos (.inr h2)]
      go_enter Tryz.func56, Tryz.ntmps56
      go_wp2_with (go_at_call 53; refine (Hk.out _).mono ?_; rintro e w' ⟨rfl, n1, rfl⟩)
      go_ret
      exact RB.mk rfl (by repeat (first | assumption | exact Bl.refl _ | apply Bl.drewN | apply Bl.drew | apply Bl.alloc | (refine Bl.dr ?_ (by assumption)) | (refine Bl.trans ?_ (by assumption))))
    · rw [if_neg (by omega)]
      have he := empty_iff' t
      cases d
      · rw [if_neg (by simp)]
        clear he
        by_cases h3 : q < 1 ∨ 1000000000 < q
        · rw [if_pos h3]
          rcases h3 with h3 | h3
          · go_enter Tryz.func56, Tryz.ntmps56
            go_wp2_with (go_at_call 53; refine (Hk.out _).mono ?_; rintro e w' ⟨rfl, n1, rfl⟩)
            go_ret
            exact RB.mk rfl (by repeat (first | assumption | exact Bl.refl _ | apply Bl.drewN | apply Bl.drew | apply Bl.alloc | (refine Bl.dr ?_ (by assumption)) | (refine Bl.trans ?_ (by assumption))))
          · have h3' : ¬ q < 1 := by omega
            go_enter Tryz.func56, Tryz.ntmps56
            go_wp2_with (go_at_call 53; refine (Hk.out _).mono ?_; rintro e w' ⟨rfl, n1, rfl⟩)
            go_ret
            exact RB.mk rfl (by repeat (first | assumption | exact Bl.refl _ | apply Bl.drewN | apply Bl.drew | apply Bl.alloc | (refine Bl.dr ?_ (by assumption)) | (refine Bl.trans ?_ (by assumption))))
        · rw [if_neg h3]
          have h3' : ¬ q < 1 := by omega
          have h3'' : ¬ 1000000000 < q := by omega
          clear h3
          go_enter Tryz.func56, Tryz.ntmps56
          go_wp2_with (go_at_call 53; refine (Hk.out _).mono ?_; rintro e w' ⟨rfl, n1, rfl⟩)
          go_ret
          exact RB.mk rfl (by repeat (first | assumption | exact Bl.refl _ | apply Bl.drewN | apply Bl.drew | apply Bl.alloc | (refine Bl.dr ?_ (by assumption)) | (refine Bl.trans ?_ (by assumption))))
      · by_cases h5 : t.size = 0
        · rw [if_neg (by simp [h5])]
          have he' := he.2 h5
          clear he h5
          by_cases h3 : q < 1 ∨ 1000000000 < q
          · rw [if_pos h3]
            rcases h3 with h3 | h3
            · go_enter Tryz.func56, Tryz.ntmps56
              go_wp2_with (go_at_call 53; refine (Hk.out _).mono ?_; rintro e w' ⟨rfl, n1, rfl⟩)
              go_ret
              exact RB.mk rfl (by repeat (first | assumption | exact Bl.refl _ | apply Bl.drewN | apply Bl.drew | apply Bl.alloc | (refine Bl.dr ?_ (by assumption)) | (refine Bl.trans ?_ (by assumption))))
            · have h3' : ¬ q < 1 := by omega
              go_enter Tryz.func56, Tryz.ntmps56
              go_wp2_with (go_at_call 53; refine (Hk.out _).mono ?_; rintro e w' ⟨rfl, n1, rfl⟩)
              go_ret
              exact RB.mk rfl (by repeat (first | assumption | exact Bl.refl _ | apply Bl.drewN | apply Bl.drew | apply Bl.alloc | (refine Bl.dr ?_ (by assumption)) | (refine Bl.trans ?_ (by assumption))))
          · rw [if_neg h3]
            have h3' : ¬ q < 1 := by omega
            have h3'' : ¬ 1000000000 < q := by omega
            clear h3
            go_enter Tryz.func56, Tryz.ntmps56
            go_wp2_with (go_at_call 53; refine (Hk.out _).mono ?_; rintro e w' ⟨rfl, n1, rfl⟩)
            go_ret
            exact RB.mk rfl (by repeat (first | assumption | exact Bl.refl _ | apply Bl.drewN | apply Bl.drew | apply Bl.alloc | (refine Bl.dr ?_ (by assumption)) | (refine Bl.trans ?_ (by assumption))))
        · rw [if_pos (by simp [h5])]
          have he' := nonempty_of h5
          clear he h5
          go_enter Tryz.func56, Tryz.ntmps56
          go_wp2_with (go_at_call 53; refine (Hk.out _).mono ?_; rintro e w' ⟨rfl, n1, rfl⟩)
          go_ret
          exact RB.mk rfl (by repeat (first | assumption | exact Bl.refl _ | apply Bl.drewN | apply Bl.drew | apply Bl.alloc | (refine Bl.dr ?_ (by assumption)) | (refine Bl.trans ?_ (by assumption))))

set_option maxHeartbeats 1000000 in
theorem refEntCheck (x : Ent) (w : World) (hx : x.ok) : Calls Tryz.prog 61 #[x.v] w (RB w (.int .i64 (echk x))) := by
  obtain ⟨s, t, d, q⟩ := x
  obtain ⟨hs, ht, hq1, hq2⟩ := hx
  simp only at hs ht hq1 hq2
  have hk := fun w => keysCheck s w hs
  unfold maxLen at hs ht
  unfold Ent.v echk
  unfold kchk at hk
  simp only
  by_cases h1 : 32 < s.size
  · rw [if_pos h1] at hk
    rw [if_pos (.inl h1)]
    have Hk := Lib.hid hk
    clear hk
    go_enter Tryz.func61, Tryz.ntmps61
    go_wp2_with fail
    go_ret
    exact RB.mk rfl (by repeat (first | assumption | exact Bl.refl _ | apply Bl.drewN | apply Bl.drew | apply Bl.alloc | (refine Bl.dr ?_ (by assumption)) | (refine Bl.trans ?_ (by assumption))))
  · rw [if_neg h1] at hk
    have Hk := Lib.hid hk
    clear hk
    by_cases h2 : 64 < t.size
    · rw [if_pos (.inr h2)]
      go_enter Tryz.func61, Tryz.ntmps61
      go_wp2_with fail
      go_ret
      exact RB.mk rfl (by repeat (first | assumption | exact Bl.refl _ | apply Bl.drewN | apply Bl.drew | apply Bl.alloc | (refine Bl.dr ?_ (by assumption)) | (refine Bl.trans ?_ (by assumption))))
    · rw [if_neg (by omega)]
      have he := empty_iff' t
      cases d
      · rw [if_neg (by simp)]
        clear he
        by_cases h3 : q < 1 ∨ 1000000000 < q
        · rw [if_pos h3]
          rcases h3 with h3 | h3
          · go_enter Tryz.func61, Tryz.ntmps61
            go_wp2_with fail
            go_ret
            exact RB.mk rfl (by repeat (first | assumption | exact Bl.refl _ | apply Bl.drewN | apply Bl.drew | apply Bl.alloc | (refine Bl.dr ?_ (by assumption)) | (refine Bl.trans ?_ (by assumption))))
          · have h3' : ¬ q < 1 := by omega
            go_enter Tryz.func61, Tryz.ntmps61
            go_wp2_with fail
            go_ret
            exact RB.mk rfl (by repeat (first | assumption | exact Bl.refl _ | apply Bl.drewN | apply Bl.drew | apply Bl.alloc | (refine Bl.dr ?_ (by assumption)) | (refine Bl.trans ?_ (by assumption))))
        · rw [if_neg h3]
          have h3' : ¬ q < 1 := by omega
          have h3'' : ¬ 1000000000 < q := by omega
          clear h3
          go_enter Tryz.func61, Tryz.ntmps61
          go_wp2_with fail
          go_ret
          exact RB.mk rfl (by repeat (first | assumption | exact Bl.refl _ | apply Bl.drewN | apply Bl.drew | apply Bl.alloc | (refine Bl.dr ?_ (by assumption)) | (refine Bl.trans ?_ (by assumption))))
      · by_cases h5 : t.size = 0
        · rw [if_neg (by simp [h5])]
          have he' := he.2 h5
          clear he h5
          by_cases h3 : q < 1 ∨ 1000000000 < q
          · rw [if_pos h3]
            rcases h3 with h3 | h3
            · go_enter Tryz.func61, Tryz.ntmps61
              go_wp2_with fail
              go_ret
              exact RB.mk rfl (by repeat (first | assumption | exact Bl.refl _ | apply Bl.drewN | apply Bl.drew | apply Bl.alloc | (refine Bl.dr ?_ (by assumption)) | (refine Bl.trans ?_ (by assumption))))
            · have h3' : ¬ q < 1 := by omega
              go_enter Tryz.func61, Tryz.ntmps61
              go_wp2_with fail
              go_ret
              exact RB.mk rfl (by repeat (first | assumption | exact Bl.refl _ | apply Bl.drewN | apply Bl.drew | apply Bl.alloc | (refine Bl.dr ?_ (by assumption)) | (refine Bl.trans ?_ (by assumption))))
          · rw [if_neg h3]
            have h3' : ¬ q < 1 := by omega
            have h3'' : ¬ 1000000000 < q := by omega
            clear h3
            go_enter Tryz.func61, Tryz.ntmps61
            go_wp2_with fail
            go_ret
            exact RB.mk rfl (by repeat (first | assumption | exact Bl.refl _ | apply Bl.drewN | apply Bl.drew | apply Bl.alloc | (refine Bl.dr ?_ (by assumption)) | (refine Bl.trans ?_ (by assumption))))
        · rw [if_pos (by simp [h5])]
          have he' := nonempty_of h5
          clear he h5
          go_enter Tryz.func61, Tryz.ntmps61
          go_wp2_with fail
          go_ret
          exact RB.mk rfl (by repeat (first | assumption | exact Bl.refl _ | apply Bl.drewN | apply Bl.drew | apply Bl.alloc | (refine Bl.dr ?_ (by assumption)) | (refine Bl.trans ?_ (by assumption))))

/-! ### Ascending lists -/
def pbad (p : Option ByteArray) (k : ByteArray) : Bool := match p with
  | some q => !slt q k
  | none => false
def clGo : Nat → Option ByteArray → List Ent → Int × Int
  | _, _, [] => (0, 0)
  | i, p, x :: r => if echk x ≠ 0 then ((i : Int), echk x) else if pbad p x.key = true then ((i : Int), 6) else clGo (i + 1) (some x.key) r
def clchk (l : List Ent) : Int × Int := if 5000 < l.length then (-1, 3) else clGo 0 none l
def prevK (l : List Ent) (k : Nat) : Option ByteArray := if k = 0 then none else (l[k - 1]?).map (·.key)
theorem clGo_drop {l : List Ent} {k : Nat} {x : Ent} (h : l[k]? = some x) (p : Option ByteArray) : clGo k p (l.drop k) = if echk x ≠ 0 then ((k : Int), echk x) else if pbad p x.key = true then ((k : Int), 6) else clGo (k + 1) (some x.key) (l.drop (k + 1)) := by
  obtain ⟨hk, rfl⟩ := List.getElem?_eq_some_iff.1 h
  rw [List.drop_eq_getElem_cons hk]; rfl
theorem prevK_succ {l : List Ent} {k : Nat} {x : Ent} (h : l[k]? = some x) : prevK l (k + 1) = some x.key := by simp [prevK, h]

set_option maxHeartbeats 1000000 in
theorem entCheckList (a : Option Addr) (c : Nat) (l : List Ent) (w : World) (hl : Ents w a l) (hn : l.length ≤ maxLen) :
    Calls Tryz.prog 33 #[.slice a l.length c] w (RB w (.tuple #[.int .i64 (clchk l).1, .int .i64 (clchk l).2])) := by
  unfold maxLen at hn
  unfold clchk
  by_cases h0 : 5000 < l.length
  · rw [if_pos h0]
    go_enter Tryz.func33, Tryz.ntmps33
    go_wp2
    go_ret2
    exact rb_tuple rfl rfl (by repeat (first | assumption | exact Bl.refl _ | apply Bl.drewN | apply Bl.drew | apply Bl.alloc | (refine Bl.dr ?_ (by assumption)) | (refine Bl.trans ?_ (by assumption))))
  · rw [if_neg h0]
    generalize hR : clGo 0 none l = R
    go_enter Tryz.func33, Tryz.ntmps33
    go_wp2
    go_loopg [12] l.length (fun g i wr => ∃ k : Nat, k ≤ l.length ∧ i = .int .i64 k ∧ R = clGo k (prevK l k) (l.drop k) ∧ Bl w wr ∧ g = l.length - k)
    case atStart => exact ⟨0, by omega, rfl, by rw [← hR]; rfl, Bl.refl _, rfl⟩
    case round =>
      obtain ⟨k, hk1, rfl, hc, hb, hg⟩ := hrel
      have H := Lib.hid hc
      have G := Lib.hid hg
      clear hc hg hR
      by_cases h1 : k < l.length
      · obtain ⟨b, off, rfl, hat⟩ := hl.get h1
        obtain ⟨x, hx⟩ : ∃ x, l[k]? = some x := ⟨_, List.getElem?_eq_getElem h1⟩
        obtain ⟨c0, c1, c2, c3⟩ := (hat k x hx).bl hb
        have hxo : x.ok := hl.ok x (List.mem_of_getElem? hx)
        have X := Lib.hid hx
        clear hx
        have hE := fun w => entCheck x w hxo
        unfold Ent.v at hE
        by_cases e1 : echk x = 0
        · have e1' : (echk x != 0) = false := by simp [e1]
          generalize hq : echk x = q at *
          have Hq := Lib.hid hq
          have HE := Lib.hid hE
          have E1 := Lib.hid e1
          clear hE hq e1
          by_cases hk0 : 0 < k
          · obtain ⟨y, hy⟩ : ∃ y, l[k - 1]? = some y := ⟨_, List.getElem?_eq_getElem (by omega)⟩
            have d0 := ((hat (k - 1) y hy).bl hb).key
            have hpk : prevK l k = some y.key := by simp [prevK, show k ≠ 0 by omega, hy]
            have Hp := Lib.hid hpk
            clear hpk hy
            by_cases hlt : slt y.key x.key = true
            · have hlt1 : Op.bytesLess x.key.toList y.key.toList = false := slt_asymm hlt
              have hlt2 : (x.key.toList == y.key.toList) = false := by
                rw [beq_eq_false_iff_ne]; intro h; have := str_ext h; rw [this, slt_irrefl] at hlt; cases hlt
              have Hlt := Lib.hid hlt
              clear hlt
              go_wp2_with fail
              refine (HE.out _).mono ?_; rintro e w1 ⟨rfl, hb1⟩
              have d0' : w1.cell? ⟨b, off + (k - 1) * 4, none⟩ = some (.string y.key) := (Bl.trans ((Bl.refl wr).alloc _) hb1).cell d0
              have d1' : w1.cell? ⟨wr.heap.size, 0, none⟩ = some (.string x.key) := hb1.cell (by simp [go_sem])
              go_wp2_with fail
              go_quiet (fail)
              go_wp2
              go_roundg (l.length - (k + 1))
              case rel =>
                refine ⟨k + 1, by omega, by go_num, ?_, ((hb.alloc _).trans hb1).drewN _, rfl⟩
                rw [H.out, clGo_drop X.out, Hq.out, E1.out, prevK_succ X.out, Hp.out]; simp [pbad, Hlt.out]
              case measure => rw [G.out]; omega
            · have hge : (Op.bytesLess x.key.toList y.key.toList || x.key.toList == y.key.toList) = true := by
                cases h : Op.bytesLess x.key.toList y.key.toList
                · have := slt_tri (a := x.key) (b := y.key) h (by simpa using hlt); rw [this]; simp
                · rfl
              have hlt1 : slt y.key x.key = false := by simpa using hlt
              have Hlt := Lib.hid hlt1
              clear hlt hlt1
              go_wp2_with fail
              refine (HE.out _).mono ?_; rintro e w1 ⟨rfl, hb1⟩
              have d0' : w1.cell? ⟨b, off + (k - 1) * 4, none⟩ = some (.string y.key) := (Bl.trans ((Bl.refl wr).alloc _) hb1).cell d0
              have d1' : w1.cell? ⟨wr.heap.size, 0, none⟩ = some (.string x.key) := hb1.cell (by simp [go_sem])
              go_wp2_with fail
              go_quiet (fail)
              go_wp2
              go_ret2
              refine rb_tuple (ival ?_) (ival ?_) (((hb.alloc _).trans hb1).drewN _) <;> (rw [H.out, clGo_drop X.out, Hq.out, E1.out, Hp.out]; simp [pbad, Hlt.out])
          · have hpk : prevK l k = none := by simp [prevK, show k = 0 by omega]
            have Hp := Lib.hid hpk
            clear hpk
            go_wp2_with fail
            refine (HE.out _).mono ?_; rintro e w1 ⟨rfl, hb1⟩
            go_wp2_with fail
            go_quiet (fail)
            go_wp2
            go_roundg (l.length - (k + 1))
            case rel =>
              refine ⟨k + 1, by omega, by go_num, ?_, ((hb.alloc _).trans hb1).drewN _, rfl⟩
              rw [H.out, clGo_drop X.out, Hq.out, E1.out, prevK_succ X.out, Hp.out]; simp [pbad]
            case measure => rw [G.out]; omega
        · have e1' : (echk x != 0) = true := by simp [e1]
          generalize hq : echk x = q at *
          have Hq := Lib.hid hq
          have HE := Lib.hid hE
          have E1 := Lib.hid e1
          clear hE hq e1
          go_wp2_with fail
          refine (HE.out _).mono ?_; rintro e w1 ⟨rfl, hb1⟩
          go_wp2_with fail
          go_ret2
          refine rb_tuple (ival ?_) (ival ?_) ((hb.alloc _).trans hb1) <;> (rw [H.out, clGo_drop X.out, Hq.out]; simp [E1.out])
      · go_wp2
        go_ret2
        refine rb_tuple (ival ?_) (ival ?_) hb <;> (rw [H.out, List.drop_of_length_le (by omega)]; rfl)
end Go.Proofs.YtkbfjficmdgjpaaGreatDoor

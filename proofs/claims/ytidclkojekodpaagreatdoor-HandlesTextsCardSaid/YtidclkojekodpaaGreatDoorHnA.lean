
/-
  Contracts of handles: New, Check; the law's bound.
-/
import Derived.Test.YtidclkojekodpaaGreatDoorHnP
import Derived.Test.YtidclkojekodpaaGreatDoorMem
import Derived.IntWalk
import Derived.Deep.LoopGhost
import Derived.Deep.DeepCutAuto
namespace Go.Proofs.YtidclkojekodpaaGreatDoor
open Go.RowKit
set_option linter.unusedSimpArgs false
set_option linter.unusedVariables false
set_option maxRecDepth 100000

def tnew (m : Int) : Tb × Int := if m < 1 ∨ 16 < m then (tnil, 7) else (⟨m, []⟩, 0)
theorem rb_tup {w w' : World} {a b a' b' : Int} (h : a' = a) (k : b' = b) (hd : Bl w w') : RB w (.tuple #[.int .i64 a, .int .i64 b]) (.returned (.tuple #[.int .i64 a', .int .i64 b'])) w' := by subst h k; exact ⟨rfl, hd⟩
theorem tchk_a {t : Tb} (h : t.most < 1 ∨ 16 < t.most) : tchk t = (-1, 7) := by unfold tchk; rw [if_pos h]
theorem tchk_b {t : Tb} (h : ¬ (t.most < 1 ∨ 16 < t.most)) (k : t.most < (t.slots.length : Int)) : tchk t = (-1, 3) := by unfold tchk; rw [if_neg h, if_pos k]
theorem tchk_c {t : Tb} (h : ¬ (t.most < 1 ∨ 16 < t.most)) (k : ¬ t.most < (t.slots.length : Int)) {i : Nat} {s : Slot} (hs : t.slots[i]? = some s) (hg : ∀ (j : Nat) s, j < i → t.slots[j]? = some s → sbadAt s = false) (hb : sbadAt s = true) : tchk t = ((i : Int), 7) := by
  unfold tchk; rw [if_neg h, if_neg k, sbad_some _ _ _ hs hg hb]
theorem tchk_d {t : Tb} (h : ¬ (t.most < 1 ∨ 16 < t.most)) (k : ¬ t.most < (t.slots.length : Int)) (hg : ∀ (j : Nat) s, t.slots[j]? = some s → sbadAt s = false) : tchk t = (0, 0) := by
  unfold tchk; rw [if_neg h, if_neg k, sbad_none _ hg]
set_option maxHeartbeats 4000000 in
theorem hnCheck (a : Option Addr) (c : Nat) (t : Tb) (w : World) (h : TOk w a c t) : Calls Tryz.prog 13 #[t.v a c] w (RB w (.tuple #[.int .i64 (tchk t).1, .int .i64 (tchk t).2])) := by
  by_cases h1 : t.most < 1 ∨ 16 < t.most
  · rw [tchk_a h1]
    obtain ⟨mo, l⟩ := t
    have hs := h.slots
    have hc1 := h.len
    have hc2 := h.cap
    have hlo := h.lo
    have hhi := h.hi
    simp only at hs hc1 hlo hhi
    unfold maxLen at hc2
    unfold Tb.v
    simp only
    clear h
    simp only at h1
    clear hs
    by_cases h2 : mo < 1
    · clear h1
      go_enter Tryz.func13, Tryz.ntmps13
      go_wp2_with fail
      go_ret2
      exact rb_tup rfl rfl (by repeat (first | assumption | exact Bl.refl _ | apply Bl.drewN | apply Bl.drew | apply Bl.alloc | (refine Bl.dr ?_ (by assumption)) | (refine Bl.trans ?_ (by assumption))))
    · have h3 : 16 < mo := by omega
      clear h1
      go_enter Tryz.func13, Tryz.ntmps13
      go_wp2_with fail
      go_ret2
      exact rb_tup rfl rfl (by repeat (first | assumption | exact Bl.refl _ | apply Bl.drewN | apply Bl.drew | apply Bl.alloc | (refine Bl.dr ?_ (by assumption)) | (refine Bl.trans ?_ (by assumption))))
  · by_cases h2 : t.most < (t.slots.length : Int)
    · rw [tchk_b h1 h2]
      obtain ⟨mo, l⟩ := t
      have hs := h.slots
      have hc1 := h.len
      have hc2 := h.cap
      have hlo := h.lo
      have hhi := h.hi
      simp only at hs hc1 hlo hhi
      unfold maxLen at hc2
      unfold Tb.v
      simp only
      clear h
      simp only at h1 h2
      clear hs
      have h3 : ¬ mo < 1 := by omega
      have h4 : ¬ 16 < mo := by omega
      clear h1
      go_enter Tryz.func13, Tryz.ntmps13
      go_wp2_with fail
      go_ret2
      exact rb_tup rfl rfl (by repeat (first | assumption | exact Bl.refl _ | apply Bl.drewN | apply Bl.drew | apply Bl.alloc | (refine Bl.dr ?_ (by assumption)) | (refine Bl.trans ?_ (by assumption))))
    · have H := Lib.hid (And.intro h1 h2)
      obtain ⟨R, hR⟩ : ∃ R, tchk t = R := ⟨_, rfl⟩
      rw [hR]
      have kc := fun (i : Nat) (s : Slot) (hs : t.slots[i]? = some s) (hg : ∀ (j : Nat) s, j < i → t.slots[j]? = some s → sbadAt s = false) (hb : sbadAt s = true) => hR.symm.trans (tchk_c h1 h2 hs hg hb)
      have kd := fun (hg : ∀ (j : Nat) s, t.slots[j]? = some s → sbadAt s = false) => hR.symm.trans (tchk_d h1 h2 hg)
      clear hR
      obtain ⟨mo, l⟩ := t
      have hs := h.slots
      have hc1 := h.len
      have hc2 := h.cap
      have hlo := h.lo
      have hhi := h.hi
      simp only at hs hc1 hlo hhi
      unfold maxLen at hc2
      unfold Tb.v
      simp only
      clear h
      simp only at h1 h2 kc kd
      have KC := Lib.hid kc
      have KD := Lib.hid kd
      have HS := Lib.hid hs
      have h3 : ¬ mo < 1 := by omega
      have h4 : ¬ 16 < mo := by omega
      have h5 : l.length ≤ 16 := by omega
      clear h1 kc kd hs H
      go_enter Tryz.func13, Tryz.ntmps13
      go_wp2_with fail
      go_loopg [25] l.length (fun g i wr => ∃ k : Nat, k ≤ l.length ∧ i = .int .i64 k ∧ (∀ (j : Nat) s, j < k → l[j]? = some s → sbadAt s = false) ∧ Bl w wr ∧ wr.cell? ⟨w.heap.size, 1, none⟩ = some (.slice a l.length c) ∧ g = l.length - k)
      case atStart => exact ⟨0, by omega, rfl, fun j s hj => by omega, (by repeat (first | assumption | exact Bl.refl _ | apply Bl.drewN | apply Bl.drew | apply Bl.alloc | (refine Bl.dr ?_ (by assumption)) | (refine Bl.trans ?_ (by assumption)))), by simp [go_sem], rfl⟩
      case round =>
        obtain ⟨k, hk, rfl, hno, hb, hx, hg⟩ := hrel
        have G := Lib.hid hg
        have HN := Lib.hid hno
        clear hg hno
        by_cases hkl : k < l.length
        · obtain ⟨b, off, rfl, hat⟩ := HS.out.get hkl
          obtain ⟨z, hz⟩ : ∃ z, l[k]? = some z := ⟨_, List.getElem?_eq_getElem hkl⟩
          obtain ⟨d0, d1⟩ := (hat k z hz).bl hb
          have HZ := Lib.hid hz
          have hz2 := HS.out.ok z (List.mem_of_getElem? hz)
          obtain ⟨z1, z2⟩ := hz2
          have hk0 : (0 : Int) ≤ (k : Int) := by omega
          have hkL : (k : Int) < (l.length : Int) := by omega
          clear hat hz
          by_cases b1 : z.gen < 1
          · have hr := KC.out k z HZ.out HN.out (by simp [sbadAt]; omega)
            subst hr
            go_wp2_with fail
            go_ret2
            exact rb_tup rfl rfl (by repeat (first | assumption | exact Bl.refl _ | apply Bl.drewN | apply Bl.drew | apply Bl.alloc | (refine Bl.dr ?_ (by assumption)) | (refine Bl.trans ?_ (by assumption))))
          · by_cases b2 : 1000000000 < z.gen
            · have hr := KC.out k z HZ.out HN.out (by simp [sbadAt]; omega)
              subst hr
              go_wp2_with fail
              go_ret2
              exact rb_tup rfl rfl (by repeat (first | assumption | exact Bl.refl _ | apply Bl.drewN | apply Bl.drew | apply Bl.alloc | (refine Bl.dr ?_ (by assumption)) | (refine Bl.trans ?_ (by assumption))))
            · go_wp2_with fail
              go_roundg (l.length - (k + 1))
              case rel =>
                refine ⟨k + 1, by omega, by go_num, fun j s hj hs => ?_, (by repeat (first | assumption | exact Bl.refl _ | apply Bl.drewN | apply Bl.drew | apply Bl.alloc | (refine Bl.dr ?_ (by assumption)) | (refine Bl.trans ?_ (by assumption)))), by first | exact hx | exact ((Bl.refl wr).alloc _).cell hx, rfl⟩
                by_cases e : j = k
                · subst e; rw [HZ.out] at hs; injection hs with hs; subst hs; simp [sbadAt]; omega
                · exact HN.out j s (by omega) hs
              case measure => rw [G.out]; omega
        · obtain rfl : k = l.length := by omega
          have hr := KD.out (fun j s hs => HN.out j s (List.getElem?_eq_some_iff.1 hs).1 hs)
          subst hr
          go_wp2_with fail
          go_ret2
          exact rb_tup rfl rfl (by repeat (first | assumption | exact Bl.refl _ | apply Bl.drewN | apply Bl.drew | apply Bl.alloc | (refine Bl.dr ?_ (by assumption)) | (refine Bl.trans ?_ (by assumption))))
set_option maxHeartbeats 4000000 in
theorem refHnCheck (a : Option Addr) (c : Nat) (t : Tb) (w : World) (h : TOk w a c t) : Calls Tryz.prog 17 #[t.v a c] w (RB w (.tuple #[.int .i64 (tchk t).1, .int .i64 (tchk t).2])) := by
  by_cases h1 : t.most < 1 ∨ 16 < t.most
  · rw [tchk_a h1]
    obtain ⟨mo, l⟩ := t
    have hs := h.slots
    have hc1 := h.len
    have hc2 := h.cap
    have hlo := h.lo
    have hhi := h.hi
    simp only at hs hc1 hlo hhi
    unfold maxLen at hc2
    unfold Tb.v
    simp only
    clear h
    simp only at h1
    clear hs
    by_cases h2 : mo < 1
    · clear h1
      go_enter Tryz.func17, Tryz.ntmps17
      go_wp2_with fail
      go_ret2
      exact rb_tup rfl rfl (by repeat (first | assumption | exact Bl.refl _ | apply Bl.drewN | apply Bl.drew | apply Bl.alloc | (refine Bl.dr ?_ (by assumption)) | (refine Bl.trans ?_ (by assumption))))
    · have h3 : 16 < mo := by omega
      clear h1
      go_enter Tryz.func17, Tryz.ntmps17
      go_wp2_with fail
      go_ret2
      exact rb_tup rfl rfl (by repeat (first | assumption | exact Bl.refl _ | apply Bl.drewN | apply Bl.drew | apply Bl.alloc | (refine Bl.dr ?_ (by assumption)) | (refine Bl.trans ?_ (by assumption))))
  · by_cases h2 : t.most < (t.slots.length : Int)
    · rw [tchk_b h1 h2]
      obtain ⟨mo, l⟩ := t
      have hs := h.slots
      have hc1 := h.len
      have hc2 := h.cap
      have hlo := h.lo
      have hhi := h.hi
      simp only at hs hc1 hlo hhi
      unfold maxLen at hc2
      unfold Tb.v
      simp only
      clear h
      simp only at h1 h2
      clear hs
      have h3 : ¬ mo < 1 := by omega
      have h4 : ¬ 16 < mo := by omega
      clear h1
      go_enter Tryz.func17, Tryz.ntmps17
      go_wp2_with fail
      go_ret2
      exact rb_tup rfl rfl (by repeat (first | assumption | exact Bl.refl _ | apply Bl.drewN | apply Bl.drew | apply Bl.alloc | (refine Bl.dr ?_ (by assumption)) | (refine Bl.trans ?_ (by assumption))))
    · have H := Lib.hid (And.intro h1 h2)
      obtain ⟨R, hR⟩ : ∃ R, tchk t = R := ⟨_, rfl⟩
      rw [hR]
      have kc := fun (i : Nat) (s : Slot) (hs : t.slots[i]? = some s) (hg : ∀ (j : Nat) s, j < i → t.slots[j]? = some s → sbadAt s = false) (hb : sbadAt s = true) => hR.symm.trans (tchk_c h1 h2 hs hg hb)
      have kd := fun (hg : ∀ (j : Nat) s, t.slots[j]? = some s → sbadAt s = false) => hR.symm.trans (tchk_d h1 h2 hg)
      clear hR
      obtain ⟨mo, l⟩ := t
      have hs := h.slots
      have hc1 := h.len
      have hc2 := h.cap
      have hlo := h.lo
      have hhi := h.hi
      simp only at hs hc1 hlo hhi
      unfold maxLen at hc2
      unfold Tb.v
      simp only
      clear h
      simp only at h1 h2 kc kd
      have KC := Lib.hid kc
      have KD := Lib.hid kd
      have HS := Lib.hid hs
      have h3 : ¬ mo < 1 := by omega
      have h4 : ¬ 16 < mo := by omega
      have h5 : l.length ≤ 16 := by omega
      clear h1 kc kd hs H
      go_enter Tryz.func17, Tryz.ntmps17
      go_wp2_with fail
      go_loopg [4] l.length (fun g i wr => ∃ k : Nat, k ≤ l.length ∧ i = .int .i64 k ∧ (∀ (j : Nat) s, j < k → l[j]? = some s → sbadAt s = false) ∧ Bl w wr ∧ wr.cell? ⟨w.heap.size, 1, none⟩ = some (.slice a l.length c) ∧ g = l.length - k)
      case atStart => exact ⟨0, by omega, rfl, fun j s hj => by omega, (by repeat (first | assumption | exact Bl.refl _ | apply Bl.drewN | apply Bl.drew | apply Bl.alloc | (refine Bl.dr ?_ (by assumption)) | (refine Bl.trans ?_ (by assumption)))), by simp [go_sem], rfl⟩
      case round =>
        obtain ⟨k, hk, rfl, hno, hb, hx, hg⟩ := hrel
        have G := Lib.hid hg
        have HN := Lib.hid hno
        clear hg hno
        by_cases hkl : k < l.length
        · obtain ⟨b, off, rfl, hat⟩ := HS.out.get hkl
          obtain ⟨z, hz⟩ : ∃ z, l[k]? = some z := ⟨_, List.getElem?_eq_getElem hkl⟩
          obtain ⟨d0, d1⟩ := (hat k z hz).bl hb
          have HZ := Lib.hid hz
          have hz2 := HS.out.ok z (List.mem_of_getElem? hz)
          obtain ⟨z1, z2⟩ := hz2
          have hk0 : (0 : Int) ≤ (k : Int) := by omega
          have hkL : (k : Int) < (l.length : Int) := by omega
          clear hat hz
          by_cases b1 : z.gen < 1
          · have hr := KC.out k z HZ.out HN.out (by simp [sbadAt]; omega)
            subst hr
            go_wp2_with fail
            go_ret2
            exact rb_tup rfl rfl (by repeat (first | assumption | exact Bl.refl _ | apply Bl.drewN | apply Bl.drew | apply Bl.alloc | (refine Bl.dr ?_ (by assumption)) | (refine Bl.trans ?_ (by assumption))))
          · by_cases b2 : 1000000000 < z.gen
            · have hr := KC.out k z HZ.out HN.out (by simp [sbadAt]; omega)
              subst hr
              go_wp2_with fail
              go_ret2
              exact rb_tup rfl rfl (by repeat (first | assumption | exact Bl.refl _ | apply Bl.drewN | apply Bl.drew | apply Bl.alloc | (refine Bl.dr ?_ (by assumption)) | (refine Bl.trans ?_ (by assumption))))
            · go_wp2_with fail
              go_roundg (l.length - (k + 1))
              case rel =>
                refine ⟨k + 1, by omega, by go_num, fun j s hj hs => ?_, (by repeat (first | assumption | exact Bl.refl _ | apply Bl.drewN | apply Bl.drew | apply Bl.alloc | (refine Bl.dr ?_ (by assumption)) | (refine Bl.trans ?_ (by assumption)))), by first | exact hx | exact ((Bl.refl wr).alloc _).cell hx, rfl⟩
                by_cases e : j = k
                · subst e; rw [HZ.out] at hs; injection hs with hs; subst hs; simp [sbadAt]; omega
                · exact HN.out j s (by omega) hs
              case measure => rw [G.out]; omega
        · obtain rfl : k = l.length := by omega
          have hr := KD.out (fun j s hs => HN.out j s (List.getElem?_eq_some_iff.1 hs).1 hs)
          subst hr
          go_wp2_with fail
          go_ret2
          exact rb_tup rfl rfl (by repeat (first | assumption | exact Bl.refl _ | apply Bl.drewN | apply Bl.drew | apply Bl.alloc | (refine Bl.dr ?_ (by assumption)) | (refine Bl.trans ?_ (by assumption))))
theorem lawHnFar (a : Option Addr) (c : Nat) (t : Tb) (w : World) (h : TOk w a c t) : Calls Tryz.prog 4 #[t.v a c] w (RB w (.bool (decide (40 < t.slots.length)))) := by
  obtain ⟨mo, l⟩ := t
  have hs := h.slots
  have hc1 := h.len
  have hc2 := h.cap
  have hlo := h.lo
  have hhi := h.hi
  simp only at hs hc1 hlo hhi
  unfold maxLen at hc2
  unfold Tb.v
  simp only
  clear h
  clear hs
  by_cases h1 : 40 < l.length
  · have h2 : (40 : Int) < (l.length : Int) := by omega
    rw [show decide (40 < l.length) = true by simpa using h1]
    go_enter Tryz.func4, Tryz.ntmps4
    go_wp2_with fail
    go_ret
    exact RB.mk (by simp) (by repeat (first | assumption | exact Bl.refl _ | apply Bl.drewN | apply Bl.drew | apply Bl.alloc | (refine Bl.dr ?_ (by assumption)) | (refine Bl.trans ?_ (by assumption))))
  · rw [show decide (40 < l.length) = false by simpa using h1]
    have h2 : ¬ (40 : Int) < (l.length : Int) := by omega
    go_enter Tryz.func4, Tryz.ntmps4
    go_wp2_with fail
    go_ret
    exact RB.mk (by simp) (by repeat (first | assumption | exact Bl.refl _ | apply Bl.drewN | apply Bl.drew | apply Bl.alloc | (refine Bl.dr ?_ (by assumption)) | (refine Bl.trans ?_ (by assumption))))
end Go.Proofs.YtidclkojekodpaaGreatDoor


/-
  Newest; the reference's order, Sort, Newest.
-/
import Derived.Test.YtcgpkcaaojkpcaaGreatDoorEsK
import Derived.Test.YtcgpkcaaojkpcaaGreatDoorKeysB
namespace Go.Proofs.YtcgpkcaaojkpcaaGreatDoor
open Go.RowKit Go.Sort
set_option linter.unusedSimpArgs false
set_option linter.unusedVariables false
set_option maxRecDepth 100000

theorem cmpct_short {l : List Ent} (h : l.length < 2) : cmpct l = l := by
  match l, h with
  | [], _ => rfl
  | [x], _ => rfl
set_option maxHeartbeats 2000000 in
theorem slCompact (B : Nat) (l : List Ent) (v : Value) (w0 w : World) (hw : Bl w0 w) (hB : w0.heap.size ≤ B) (h : OwnE B l w v) (hl : l.length ≤ 400000) :
    Calls Tryz.prog 33 #[v, .func (.func 34) #[] #[]] w fun e w' => ∃ v', e = .returned v' ∧ OwnE B (cmpct l) w' v' ∧ Bl w0 w' := by
  have short : l.length < 2 → ∀ a c, v = .slice a l.length c → Calls Tryz.prog 33 #[v, .func (.func 34) #[] #[]] w fun e w' => ∃ v', e = .returned v' ∧ OwnE B (cmpct l) w' v' ∧ Bl w0 w' := by
    intro hl2 a c hv
    have HF := Lib.hid (And.intro h (And.intro hw hl2))
    have i1 : (l.length : Int) < 2 := by omega
    subst hv
    clear h hw hl2 hB hl
    go_enter Tryz.func33, Tryz.ntmps33
    go_wp2_with fail
    go_ret
    obtain ⟨h, hw, hl2⟩ := HF.out
    exact ⟨_, rfl, by rw [cmpct_short hl2]; exact h, hw⟩
  rcases h with ⟨rfl, rfl⟩ | ⟨g, c, rfl, h1, h2, h3, h4, h5⟩
  · exact short (by simp) none 0 rfl
  · by_cases hl2 : l.length < 2
    · exact short hl2 _ c rfl
    · have := slCompactB g c l.zipIdx (by simp; omega) (by simpa using h1) h2 (by simpa using hl) w (RW.start h5 h4)
      rw [List.length_zipIdx] at this
      refine this.mono ?_
      rintro e w' ⟨n, he, hn, hH, hg, s1, s2, s3, s4, s5⟩
      have e1 : (keepD none l.zipIdx).map Prod.fst = cmpct l := by rw [keepD_cmpct, zip_fst]
      have e2 : n = (cmpct l).length := by rw [hn, ← e1, List.length_map]
      have e3 := keepD_len l.zipIdx none
      rw [List.length_zipIdx] at e3
      refine ⟨_, he, .inr ⟨g, c, by rw [e2], by omega, h2, h3, hg, by rw [← e1]; exact holdsK_zip hH⟩, ?_⟩
      exact ⟨s1.trans hw.os, s2.trans hw.tape, s3.trans hw.output, Nat.le_trans hw.size s4, fun k hk => (s5 k (Nat.lt_of_lt_of_le hk hw.size) (by omega)).trans (hw.block k hk)⟩
theorem enewest_of (l : List Ent) : enewest l = (cmpct (esort l).1, (esort l).2) := by
  unfold enewest esort newest
  split
  · rfl
  · split <;> rfl
theorem esort_len (l : List Ent) : (esort l).1.length ≤ 5000 := by
  unfold esort
  split
  · simp
  · split
    · simp
    · simp only [isort_len]; omega
set_option maxHeartbeats 2000000 in
theorem entNewest (a : Option Addr) (c : Nat) (l : List Ent) (w : World) (hl : Ents w a l) (hn : l.length ≤ maxLen) : Calls Tryz.prog 16 #[.slice a l.length c] w (RM w (OutE w.heap.size (enewest l))) := by
  rw [enewest_of]
  have HS := Lib.hid (entSort a c l w hl hn)
  have HLn := Lib.hid (esort_len l)
  generalize esort l = p at HS HLn ⊢
  clear hl
  go_enter Tryz.func16, Tryz.ntmps16
  go_wp2_with fail
  refine HS.out.mono ?_; rintro e w1 ⟨v, rfl, ⟨s, rfl, hO⟩, hb1⟩
  have HC := Lib.hid (slCompact w.heap.size p.1 s w w1 hb1 (Nat.le_refl _) hO (by have := HLn.out; omega))
  clear hO hb1
  go_wp2_with fail
  refine HC.out.mono ?_; rintro e w2 ⟨v', rfl, hO2, hb2⟩
  have HO := Lib.hid hO2
  clear hO2
  go_wp2_with fail
  go_ret2
  exact RM.mk ⟨v', rfl, HO.out⟩ hb2
end Go.Proofs.YtcgpkcaaojkpcaaGreatDoor


/-
  Plain laws of fences that fit a list.
-/
import Derived.Test.YtndcjgkgkpkklaaFnN
namespace Go.Proofs.Ytndcjgkgkpkklaa
open Go.RowKit
set_option linter.unusedSimpArgs false
set_option linter.unusedVariables false
set_option maxRecDepth 100000

structure Fits (f : Fnc) (l : List Ent) : Prop where
  s1 : 1 ≤ f.step
  s2 : f.step ≤ 64
  ms : f.marks.length ≤ 4999
  asc : Asc f.marks
  ascE : AscE l
  ls : l.length ≤ 5000
  fit : fitB f.step.toNat f.marks l = true
  keys : ∀ x, x ∈ l → x.key.size ≤ 32
  e1 : (fchk f).2 = 0
  e2 : (clchk l).2 = 0
theorem fits_facts {f : Fnc} {l : List Ent} (h : (ffits f l).2 = 0) (h' : (ffits f l).1 = true) : Fits f l := by
  obtain ⟨a, b, c⟩ := ffits_ok h
  obtain ⟨f1, f2, f3, f4, f5⟩ := fchk_ok a
  obtain ⟨l1, l2, l3⟩ := clchk_ok b
  exact ⟨f1, f2, f3, f5, l3, l1, by rw [← c]; exact h', fun x hx => (echk_key (l2 x hx)).1, a, b⟩
theorem atGo_own {l : List Ent} (h : AscE l) {i : Nat} {x : Ent} (hx : l[i]? = some x) : atGo 0 x.key l = (i : Int) := by
  have := atGo_from l 0 x.key i x hx rfl (fun j y hj hy he => by
    have := ascE_lt h hy hx hj
    rw [he, slt_irrefl] at this; cases this)
  rw [this]; omega
theorem spans_at {f : Fnc} {l : List Ent} (h : Fits f l) (ht : (ffits f l).2 = 0) (ht' : (ffits f l).1 = true) {i : Nat} {x : Ent} (hx : l[i]? = some x) :
    ∃ A B : Int, spn f l.length x.key = (A, B, 0) ∧ ffind f l x.key = ((i : Int), 0) ∧ A ≤ i ∧ (i : Int) < B ∧ B - A ≤ f.step ∧ 1 ≤ B - A ∧ 0 ≤ A ∧ B ≤ 5000 := by
  have hk := h.keys x (List.mem_of_getElem? hx)
  have hk0 : kchk x.key = 0 := kchk_zero.2 hk
  have hin := in_block (show 1 ≤ f.step.toNat by have := h.s1; omega) h.asc h.ascE h.fit hx
  have hlen := (fitB_spec h.fit).1
  have hi : i < l.length := (List.getElem?_eq_some_iff.1 hx).1
  have hls := h.ls
  have hs1 := h.s1
  have hc : ((cntLe f.marks x.key * f.step.toNat : Nat) : Int) = (cntLe f.marks x.key : Int) * f.step := by
    rw [Int.natCast_mul]; congr 1; omega
  have h0 := h.e1
  refine ⟨(cntLe f.marks x.key : Int) * f.step, min ((cntLe f.marks x.key : Int) * f.step + f.step) l.length, ?_, ?_, ?_⟩
  · unfold spn
    rw [if_neg (by simp [h0, hk0]), if_neg (by omega), if_neg (by simpa using hlen)]
  · unfold ffind
    rw [if_neg (by simp [ht]), if_neg (by simp [hk0]), if_neg (by simp [ht']), atGo_own h.ascE hx, if_neg (by omega)]
  · rw [← hc]; omega
theorem find_same {f : Fnc} {l : List Ent} (ht : (ffits f l).2 = 0) (ht' : (ffits f l).1 = true) (k : ByteArray) : ffind f l k = fnd l k := by
  have h := (fits_facts ht ht').e2
  unfold ffind fnd
  simp [ht, ht', h]
end Go.Proofs.Ytndcjgkgkpkklaa

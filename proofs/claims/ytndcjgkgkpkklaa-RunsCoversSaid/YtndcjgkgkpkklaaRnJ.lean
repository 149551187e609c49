
/-
  Contracts of the laws' own helpers of runs: Far, example, awake.
-/
import Derived.Test.YtndcjgkgkpkklaaMem
import Derived.Test.YtndcjgkgkpkklaaRnC
import Derived.Test.YtndcjgkgkpkklaaRnI
namespace Go.Proofs.Ytndcjgkgkpkklaa
open Go.RowKit
set_option linter.unusedSimpArgs false
set_option linter.unusedVariables false
set_option maxRecDepth 100000

set_option maxHeartbeats 1000000 in
theorem lawRunFar (a : Option Addr) (c : Nat) (r : Rn) (w : World) (h : ROk w a c r) :
    Calls Try.prog 9 #[r.v a c] w (SomeB w) := by
  have hn := Nat.le_trans h.len h.cap
  have HO := Lib.hid h
  unfold maxLen at hn
  obtain ⟨id, l⟩ := r
  unfold Rn.v
  simp only at *
  clear h
  by_cases h : 80 < l.length
  · by_cases h1 : l.length ≤ 5000
    · go_enter Try.func9, Try.ntmps9
      go_wp2_with fail
      all_goals
        go_ret
        exact SomeB.mk (by repeat (first | assumption | exact Bl.refl _ | apply Bl.drewN | apply Bl.drew | apply Bl.alloc | (refine Bl.dr ?_ (by assumption)) | (refine Bl.trans ?_ (by assumption))))
    · go_enter Try.func9, Try.ntmps9
      go_wp2_with fail
      all_goals
        go_ret
        exact SomeB.mk (by repeat (first | assumption | exact Bl.refl _ | apply Bl.drewN | apply Bl.drew | apply Bl.alloc | (refine Bl.dr ?_ (by assumption)) | (refine Bl.trans ?_ (by assumption))))
  · go_enter Try.func9, Try.ntmps9
    go_wp2_with fail
    go_loopg [3] l.length (fun g i wr => ∃ k : Nat, k ≤ l.length ∧ i = .int .i64 k ∧ Dr (w.alloc (Obj.cells #[Value.int IntKind.i64 id, Value.slice a l.length c] 24)) wr ∧ g = l.length - k)
    case atStart => exact ⟨0, by omega, rfl, Dr.refl _, rfl⟩
    case round =>
      obtain ⟨k, hk1, rfl, hd, hg⟩ := hrel
      have G := Lib.hid hg
      have cb : wr.cell? ⟨w.heap.size, 1, none⟩ = some (.slice a l.length c) := by rw [hd.cell]; simp [go_sem]
      have hb : Bl w wr := ((Bl.refl w).alloc _).dr hd
      clear hg
      by_cases h2 : k < l.length
      · obtain ⟨b, off, rfl, hat⟩ := HO.out.ents.get h2
        obtain ⟨x, hx⟩ : ∃ x, l[k]? = some x := ⟨_, List.getElem?_eq_getElem h2⟩
        obtain ⟨c0, c1, -, -⟩ := (hat k x hx).bl hb
        obtain ⟨o1, o2, -, -⟩ := HO.out.ents.ok x (List.mem_of_getElem? hx)
        unfold maxLen at o1 o2
        clear hat hx
        by_cases p1 : 100 < x.key.size
        · go_wp2_with fail
          go_ret
          exact SomeB.mk (by repeat (first | assumption | exact Bl.refl _ | apply Bl.drewN | apply Bl.drew | apply Bl.alloc | (refine Bl.dr ?_ (by assumption)) | (refine Bl.trans ?_ (by assumption))))
        · by_cases p2 : 100 < x.val.size
          · go_wp2_with fail
            go_ret
            exact SomeB.mk (by repeat (first | assumption | exact Bl.refl _ | apply Bl.drewN | apply Bl.drew | apply Bl.alloc | (refine Bl.dr ?_ (by assumption)) | (refine Bl.trans ?_ (by assumption))))
          · go_wp2_with fail
            go_roundg (l.length - (k + 1))
            case rel => exact ⟨k + 1, by omega, by go_num, hd, rfl⟩
            case measure => rw [G.out]; omega
      · go_wp2_with fail
        go_ret
        exact SomeB.mk (by repeat (first | assumption | exact Bl.refl _ | apply Bl.drewN | apply Bl.drew | apply Bl.alloc | (refine Bl.dr ?_ (by assumption)) | (refine Bl.trans ?_ (by assumption))))

/-! ### The run R -/
def exE1 : Ent := ⟨⟨#[97]⟩, ⟨#[49]⟩, false, 1⟩
def exE2 : Ent := ⟨⟨#[99]⟩, ⟨#[]⟩, true, 2⟩
def exE3 : Ent := ⟨⟨#[101]⟩, ⟨#[50]⟩, false, 3⟩
def exR : Rn := ⟨7, [exE1, exE2, exE3]⟩
def RunOut (r : Rn) (w : World) (v : Value) : Prop := ∃ a c, v = r.v a c ∧ ROk w a c r
theorem small_str {n : Nat} (s : ByteArray) (h : s.size ≤ n) (hn : n ≤ 1000) : s.size ≤ maxLen := Nat.le_trans h (by unfold maxLen; omega)
theorem exR_ok : ∀ x, x ∈ exR.es → x.ok := by
  intro x hx
  simp only [exR, List.mem_cons, List.not_mem_nil, or_false] at hx
  rcases hx with rfl | rfl | rfl <;> exact ⟨small_str (n := 3) _ (by decide) (by omega), small_str (n := 3) _ (by decide) (by omega), by decide, by decide⟩
theorem exR_cells : entCells exR.es = [.string ⟨#[97]⟩, .string ⟨#[49]⟩, .bool false, .int .i64 1, .string ⟨#[99]⟩, .string ⟨#[]⟩, .bool true, .int .i64 2, .string ⟨#[101]⟩, .string ⟨#[50]⟩, .bool false, .int .i64 3] := rfl
/-- Entries in a block of their own. -/
theorem ents_new (w : World) (l : List Ent) (g : Nat) (ho : ∀ x, x ∈ l → x.ok) (hc : ∀ i v, (entCells l)[i]? = some v → w.cell? ⟨g, i, none⟩ = some v) : Ents w (some ⟨g, 0, none⟩) l :=
  ⟨ho, fun _ => ⟨g, 0, rfl, fun i x hx => by
    obtain ⟨h0, h1, h2, h3⟩ := entCells_get l i x hx
    rw [Nat.zero_add]
    exact ⟨hc _ _ h0, hc _ _ h1, hc _ _ h2, hc _ _ h3⟩⟩⟩

set_option maxHeartbeats 2000000 in
theorem lawRunExample (w : World) : Calls Try.prog 34 #[] w (RM w (RunOut exR)) := by
  go_enter Try.func34, Try.ntmps34
  go_wp2_with fail
  
  refine bodyPost_ret (v := .agg #[.int .i64 7, .slice (some ⟨w.heap.size + 1, 0, none⟩) 3 3]) (by simp [results, Try.results34, go_sem, *]) rfl ?_
  refine RM.mk ⟨some ⟨w.heap.size + 1, 0, none⟩, 3, rfl, ⟨ents_new _ _ _ exR_ok ?_, by decide, by unfold maxLen; omega, by decide, by decide⟩⟩ (by repeat (first | assumption | exact Bl.refl _ | apply Bl.drewN | apply Bl.drew | apply Bl.alloc | (refine Bl.setCell ?_ _ (by first | (simp; done) | (simp; omega)) _) | (refine Bl.dr ?_ (by assumption)) | (refine Bl.trans ?_ (by assumption))))
  rw [exR_cells]
  intro i v hi
  have hlt := (List.getElem?_eq_some_iff.1 hi).1
  simp at hlt
  rcases (show i = 0 ∨ i = 1 ∨ i = 2 ∨ i = 3 ∨ i = 4 ∨ i = 5 ∨ i = 6 ∨ i = 7 ∨ i = 8 ∨ i = 9 ∨ i = 10 ∨ i = 11 by omega) with rfl | rfl | rfl | rfl | rfl | rfl | rfl | rfl | rfl | rfl | rfl | rfl <;> (simp at hi; subst hi; simp [go_sem])

theorem ev_get : rget exR ⟨#[99]⟩ = (exE2, 0) := by kernel_rfl
theorem ev_flo : rflo exR ⟨#[99]⟩ true = (exE1, 0) := by kernel_rfl
theorem ev_cei : rcei exR ⟨#[100]⟩ false = (exE3, 0) := by kernel_rfl
theorem ev_cnt : rcount exR ⟨mt, mt, false⟩ = (2, 1, 0) := by kernel_rfl

theorem fld_es (x v : Value) (w : World) : (Instr.field 24 (.agg #[x, v]) 1).run Try.prog w = .ok v w := by kernel_rfl
set_option maxHeartbeats 4000000 in
theorem lawRunAwake (w : World) : Calls Try.prog 10 #[] w (RB w (.bool true)) := by
  have hG := fun a c w h => runGet a c exR ⟨#[99]⟩ w h (small_str (n := 3) _ (by decide) (by omega))
  rw [ev_get] at hG
  have hF := fun a c w h => runFloor a c exR ⟨#[99]⟩ true w h (small_str (n := 3) _ (by decide) (by omega))
  rw [ev_flo] at hF
  have hC := fun a c w h => runCeiling a c exR ⟨#[100]⟩ false w h (small_str (n := 3) _ (by decide) (by omega))
  rw [ev_cei] at hC
  have hN := fun a c w h => runCount a c exR ⟨mt, mt, false⟩ w h ⟨small_str (n := 3) _ (by decide) (by omega), small_str (n := 3) _ (by decide) (by omega)⟩
  rw [ev_cnt] at hN
  simp only [Ent.v, exE1, exE2, exE3] at hG hF hC
  unfold Rng.v at hN
  have HX := Lib.hid (fun w => lawRunExample w)
  have HG := Lib.hid hG
  have HF := Lib.hid hF
  have HC := Lib.hid hC
  have HN := Lib.hid hN
  clear hG hF hC hN
  go_enter Try.func10, Try.ntmps10
  go_wp2_with fail
  refine (HX.out _).mono ?_; rintro e w1 ⟨v, rfl, ⟨a, c, rfl, ho⟩, hb1⟩
  unfold Rn.v exR
  simp only
  obtain ⟨b, off, rfl, hat⟩ := ho.ents.get (k := 0) (by decide)
  have p1 := (hat 0 exE1 rfl)
  have p2 := (hat 1 exE2 rfl)
  have p3 := (hat 2 exE3 rfl)
  have P := Lib.hid (And.intro p1 (And.intro p2 p3))
  clear p1 p2 p3 hat ho
  have hb : Bl w w1 := (by repeat (first | assumption | exact Bl.refl _ | apply Bl.drewN | apply Bl.drew | apply Bl.alloc | (refine Bl.dr ?_ (by assumption)) | (refine Bl.trans ?_ (by assumption))))
  clear hb1
  have hfl := fun v w => fld_es (.int .i64 7) v w
  go_wp2_with fail
  clear hfl
  refine (HX.out _).mono ?_; rintro e w2 ⟨v, rfl, ⟨a2, c2, rfl, ho⟩, hb1⟩
  have hb12 : Bl w1 w2 := (by repeat (first | assumption | exact Bl.refl _ | apply Bl.drewN | apply Bl.drew | apply Bl.alloc | (refine Bl.dr ?_ (by assumption)) | (refine Bl.trans ?_ (by assumption))))
  clear hb1
  go_wp2_with fail
  refine (HG.out _ _ _ ho).mono ?_; rintro e w3 ⟨rfl, hb1⟩
  have hb13 : Bl w1 w3 := (by repeat (first | assumption | exact Bl.refl _ | apply Bl.drewN | apply Bl.drew | apply Bl.alloc | (refine Bl.dr ?_ (by assumption)) | (refine Bl.trans ?_ (by assumption))))
  clear hb1 hb12 ho
  go_wp2_with fail
  refine (HX.out _).mono ?_; rintro e w4 ⟨v, rfl, ⟨a3, c3, rfl, ho⟩, hb1⟩
  have hm : Mem w4 (VE w3.heap.size ⟨⟨#[99]⟩, ⟨#[]⟩, true, 2⟩) := (Mem.new4 w3 ⟨⟨#[99]⟩, ⟨#[]⟩, true, 2⟩ _).bl hb1
  have hb14 : Bl w1 w4 := (by repeat (first | assumption | exact Bl.refl _ | apply Bl.drewN | apply Bl.drew | apply Bl.alloc | (refine Bl.dr ?_ (by assumption)) | (refine Bl.trans ?_ (by assumption))))
  clear hb1 hb13
  go_wp2_with fail
  refine (HF.out _ _ _ ho).mono ?_; rintro e w5 ⟨rfl, hb1⟩
  have hb15 : Bl w1 w5 := (by repeat (first | assumption | exact Bl.refl _ | apply Bl.drewN | apply Bl.drew | apply Bl.alloc | (refine Bl.dr ?_ (by assumption)) | (refine Bl.trans ?_ (by assumption))))
  have hm := hm.bl hb1
  clear hb1 hb14 ho
  go_wp2_with fail
  refine (HX.out _).mono ?_; rintro e w6 ⟨v, rfl, ⟨a4, c4, rfl, ho⟩, hb1⟩
  have hm := (hm.alloc (Obj.cells #[.string ⟨#[97]⟩, .string ⟨#[49]⟩, .bool false, .int .i64 1] 31)).bl hb1
  have hm2 : Mem w6 (VE w5.heap.size ⟨⟨#[97]⟩, ⟨#[49]⟩, false, 1⟩) := (Mem.new4 w5 ⟨⟨#[97]⟩, ⟨#[49]⟩, false, 1⟩ _).bl hb1
  have hb16 : Bl w1 w6 := (by repeat (first | assumption | exact Bl.refl _ | apply Bl.drewN | apply Bl.drew | apply Bl.alloc | (refine Bl.dr ?_ (by assumption)) | (refine Bl.trans ?_ (by assumption))))
  clear hb1 hb15
  go_wp2_with fail
  refine (HC.out _ _ _ ho).mono ?_; rintro e w7 ⟨rfl, hb1⟩
  have hb17 : Bl w1 w7 := (by repeat (first | assumption | exact Bl.refl _ | apply Bl.drewN | apply Bl.drew | apply Bl.alloc | (refine Bl.dr ?_ (by assumption)) | (refine Bl.trans ?_ (by assumption))))
  have hm := (hm.app hm2).bl hb1
  clear hb1 hb16 ho hm2
  go_wp2_with fail
  refine (HX.out _).mono ?_; rintro e w8 ⟨v, rfl, ⟨a5, c5, rfl, ho⟩, hb1⟩
  have hm := (hm.alloc (Obj.cells #[.string ⟨#[101]⟩, .string ⟨#[50]⟩, .bool false, .int .i64 3] 31)).bl hb1
  have hm2 : Mem w8 (VE w7.heap.size ⟨⟨#[101]⟩, ⟨#[50]⟩, false, 3⟩) := (Mem.new4 w7 ⟨⟨#[101]⟩, ⟨#[50]⟩, false, 3⟩ _).bl hb1
  have hb18 : Bl w1 w8 := (by repeat (first | assumption | exact Bl.refl _ | apply Bl.drewN | apply Bl.drew | apply Bl.alloc | (refine Bl.dr ?_ (by assumption)) | (refine Bl.trans ?_ (by assumption))))
  clear hb1 hb17
  go_wp2_with fail
  refine (HN.out _ _ _ ho).mono ?_; rintro e w9 ⟨rfl, hb1⟩
  have hb19 : Bl w1 w9 := (by repeat (first | assumption | exact Bl.refl _ | apply Bl.drewN | apply Bl.drew | apply Bl.alloc | (refine Bl.dr ?_ (by assumption)) | (refine Bl.trans ?_ (by assumption))))
  have hm := (hm.app hm2).bl hb1
  clear hb1 hb18 ho hm2
  obtain ⟨p1, p2, p3⟩ := P.out
  obtain ⟨d0, d1, d2, d3⟩ := p1.bl hb19
  obtain ⟨e0, e1, e2, e3⟩ := p2.bl hb19
  obtain ⟨f0, f1, f2, f3⟩ := p3.bl hb19
  simp only [Mem, VE, List.cons_append, List.nil_append, and_true] at hm
  simp only [exE1, exE2, exE3, Nat.zero_mul, Nat.add_zero, Nat.one_mul] at d0 d1 d2 d3 e0 e1 e2 e3 f0 f1 f2 f3
  clear p1 p2 p3
  go_wp2_with fail
  go_quiet (fail)
  go_wp2_with fail
  go_ret
  exact RB.mk rfl (by repeat (first | assumption | exact Bl.refl _ | apply Bl.drewN | apply Bl.drew | apply Bl.alloc | (refine Bl.dr ?_ (by assumption)) | (refine Bl.trans ?_ (by assumption))))
end Go.Proofs.Ytndcjgkgkpkklaa

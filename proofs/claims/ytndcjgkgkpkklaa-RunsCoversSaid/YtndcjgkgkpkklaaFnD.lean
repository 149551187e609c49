
/-
  Contracts of fence.Size, asked, block, Block and of the reference's Size, below, Block.
-/
import Derived.Test.YtndcjgkgkpkklaaFnC
namespace Go.Proofs.Ytndcjgkgkpkklaa
open Go.RowKit
set_option linter.unusedSimpArgs false
set_option linter.unusedVariables false
set_option maxRecDepth 100000

/-! ### Plain facts on ascending lists -/
abbrev Asc (l : List ByteArray) : Prop := l.Pairwise (fun a b => slt a b = true)
theorem kchk_zero {m : ByteArray} : kchk m = 0 ↔ m.size ≤ 32 := by unfold kchk; split <;> simp <;> omega
theorem fmGo_ok : ∀ (l : List ByteArray) (i : Nat) (p : Option ByteArray), (fmGo i p l).2 = 0 →
    (∀ m, m ∈ l → m.size ≤ 32) ∧ (∀ q, p = some q → ∀ m, m ∈ l → slt q m = true) ∧ Asc l
  | [], _, _, _ => by simp
  | m :: r, i, p, h => by
    unfold fmGo at h
    split at h
    · rename_i h1; exact absurd h h1
    · rename_i h1
      split at h
      · simp at h
      · rename_i h2
        obtain ⟨a, b, c⟩ := fmGo_ok r (i + 1) (some m) h
        have hm := b m rfl
        refine ⟨?_, ?_, ?_⟩
        · intro x hx
          rcases List.mem_cons.1 hx with rfl | hx
          · exact kchk_zero.1 (by simpa using h1)
          · exact a x hx
        · rintro q rfl x hx
          have hq : slt q m = true := by simpa [pbad] using h2
          rcases List.mem_cons.1 hx with rfl | hx
          · exact hq
          · exact slt_trans hq (hm x hx)
        · exact List.pairwise_cons.2 ⟨hm, c⟩
theorem fchk_ok {f : Fnc} (h : (fchk f).2 = 0) : 1 ≤ f.step ∧ f.step ≤ 64 ∧ f.marks.length ≤ 4999 ∧ (∀ m, m ∈ f.marks → m.size ≤ 32) ∧ Asc f.marks := by
  unfold fchk at h
  split at h
  · simp at h
  · split at h
    · simp at h
    · obtain ⟨a, b, c⟩ := fmGo_ok _ _ _ h
      exact ⟨by omega, by omega, by omega, a, c⟩
theorem part_point {α : Type} {R : α → α → Prop} (p : α → Bool) (hm : ∀ a b, R a b → p a = true → p b = true) : ∀ (l : List α), l.Pairwise R →
    (∀ j x, l[j]? = some x → j < (l.filter fun x => !p x).length → p x = false) ∧ (∀ j x, l[j]? = some x → (l.filter fun x => !p x).length ≤ j → p x = true)
  | [], _ => by simp
  | a :: l, h => by
    obtain ⟨h1, h2⟩ := List.pairwise_cons.1 h
    obtain ⟨i1, i2⟩ := part_point p hm l h2
    cases ha : p a
    · simp only [List.filter_cons, ha, Bool.not_false, if_true, List.length_cons]
      refine ⟨fun j x hx hj => ?_, fun j x hx hj => ?_⟩
      · cases j with
        | zero => simp at hx; rw [← hx]; exact ha
        | succ j => simp at hx; exact i1 j x hx (by omega)
      · cases j with
        | zero => omega
        | succ j => simp at hx; exact i2 j x hx (by omega)
    · have hall : ∀ x, x ∈ l → p x = true := fun x hx => hm a x (h1 x hx) ha
      have hf : (l.filter fun x => !p x) = [] := by
        rw [List.filter_eq_nil_iff]; intro x hx; simp [hall x hx]
      simp only [List.filter_cons, ha, Bool.not_true, hf]
      refine ⟨fun j x hx hj => by simp at hj, fun j x hx hj => ?_⟩
      rcases List.mem_cons.1 (List.mem_of_getElem? hx) with rfl | hx'
      · exact ha
      · exact hall x hx'
/-- How many are not greater | less. -/
def cntLe (l : List ByteArray) (k : ByteArray) : Nat := (l.filter fun m => !slt k m).length
def cntLt (l : List ByteArray) (k : ByteArray) : Nat := (l.filter fun m => !!slt m k).length
theorem cntLe_le (l : List ByteArray) (k : ByteArray) : cntLe l k ≤ l.length := List.length_filter_le _ _
theorem cntLt_le (l : List ByteArray) (k : ByteArray) : cntLt l k ≤ l.length := List.length_filter_le _ _
theorem cntLe_part {l : List ByteArray} (h : Asc l) (k : ByteArray) :
    (∀ j x, l[j]? = some x → j < cntLe l k → slt k x = false) ∧ (∀ j x, l[j]? = some x → cntLe l k ≤ j → slt k x = true) :=
  part_point (fun m => slt k m) (fun a b hab ha => slt_trans ha hab) l h
theorem cntLt_part {l : List ByteArray} (h : Asc l) (k : ByteArray) :
    (∀ j x, l[j]? = some x → j < cntLt l k → (!slt x k) = false) ∧ (∀ j x, l[j]? = some x → cntLt l k ≤ j → (!slt x k) = true) :=
  part_point (fun m => !slt m k) (fun a b hab ha => by
    cases hb : slt b k
    · rfl
    · have := slt_trans hab hb; rw [this] at ha; cases ha) l h
def sumSz (l : List ByteArray) : Nat := (l.map (·.size)).sum
theorem sumSz_take {l : List ByteArray} {k : Nat} {x : ByteArray} (h : l[k]? = some x) : sumSz (l.take (k + 1)) = sumSz (l.take k) + x.size := by
  obtain ⟨hk, rfl⟩ := List.getElem?_eq_some_iff.1 h
  rw [List.take_succ_eq_append_getElem hk]; simp only [sumSz, List.map_append, List.sum_append, List.map_cons, List.map_nil, List.sum_cons, List.sum_nil, Nat.add_zero]
theorem sumSz_bd : ∀ {l : List ByteArray}, (∀ m, m ∈ l → m.size ≤ 32) → sumSz l ≤ 32 * l.length
  | [], _ => by simp [sumSz]
  | m :: l, h => by
    have := sumSz_bd (l := l) (fun x hx => h x (by simp [hx]))
    have := h m (by simp)
    simp [sumSz] at *; omega
def fsz (f : Fnc) : Int × Int := if (fchk f).2 ≠ 0 then (0, (fchk f).2) else ((sumSz f.marks : Int), 0)
def fblk (f : Fnc) (k : ByteArray) : Int × Int := if (fchk f).2 ≠ 0 then (0, (fchk f).2) else if kchk k ≠ 0 then (0, kchk k) else ((cntLe f.marks k : Int), 0)

/-! ### Block -/
theorem fenceAsked (a : Option Addr) (c : Nat) (f : Fnc) (k : ByteArray) (g : Nat) (w : World) (hf : FOk w a f) (hk : k.size ≤ maxLen)
    (h0 : w.cell? ⟨g, 0, none⟩ = some (.int .i64 f.step)) (h1 : w.cell? ⟨g, 1, none⟩ = some (.slice a f.marks.length c)) :
    Calls Try.prog 74 #[.pointer (some ⟨g, 0, none⟩), .string k] w (RB w (.int .i64 (if (fchk f).2 ≠ 0 then (fchk f).2 else kchk k))) := by
  have hC := fun w h => fenceCheck a c f w h
  have hK := fun w => keysCheck k w hk
  have HF := Lib.hid hf
  by_cases e : (fchk f).2 = 0
  · rw [if_neg (by simp [e])]
    have e' : ((fchk f).2 != 0) = false := by simp [e]
    generalize (fchk f).1 = q0 at *
    generalize (fchk f).2 = q1 at *
    generalize kchk k = q2 at *
    obtain ⟨s, l⟩ := f
    unfold Fnc.v at hC
    simp only at hC h0 h1
    have HC := Lib.hid hC
    have HK := Lib.hid hK
    clear hC hK e hf
    go_enter Try.func74, Try.ntmps74
    go_wp2_with fail
    refine (HC.out _ HF.out).mono ?_; rintro e w1 ⟨rfl, hb1⟩
    go_wp2_with fail
    refine (HK.out _).mono ?_; rintro e w' ⟨rfl, n1, rfl⟩
    go_wp2_with fail
    go_ret
    exact RB.mk rfl (by repeat (first | assumption | exact Bl.refl _ | apply Bl.drewN | apply Bl.drew | apply Bl.alloc | (refine Bl.dr ?_ (by assumption)) | (refine Bl.trans ?_ (by assumption))))
  · rw [if_pos e]
    have e' : ((fchk f).2 != 0) = true := by simp [e]
    generalize (fchk f).1 = q0 at *
    generalize (fchk f).2 = q1 at *
    obtain ⟨s, l⟩ := f
    unfold Fnc.v at hC
    simp only at hC h0 h1
    have HC := Lib.hid hC
    clear hC hK e hf
    go_enter Try.func74, Try.ntmps74
    go_wp2_with fail
    refine (HC.out _ HF.out).mono ?_; rintro e w1 ⟨rfl, hb1⟩
    go_wp2_with fail
    go_ret
    exact RB.mk rfl (by repeat (first | assumption | exact Bl.refl _ | apply Bl.drewN | apply Bl.drew | apply Bl.alloc | (refine Bl.dr ?_ (by assumption)) | (refine Bl.trans ?_ (by assumption))))

theorem fenceBlockIn (a : Option Addr) (c : Nat) (l : List ByteArray) (k : ByteArray) (g : Nat) (w : World) (hl : Strs w a l) (hn : l.length ≤ 4611686018427387904) (hs : Asc l)
    (h1 : w.cell? ⟨g, 1, none⟩ = some (.slice a l.length c)) :
    Calls Try.prog 76 #[.pointer (some ⟨g, 0, none⟩), .string k] w (RB w (.int .i64 (cntLe l k : Int))) := by
  have hp := cntLe_part hs k
  have hF := fun W (hb : Bl w W) (g : Nat) (hg : W.cell? ⟨g, 0, none⟩ = some (.string k)) =>
    firstS 79 #[.pointer (some ⟨g, 0, none⟩)] a c l (fun m => slt k m) (cntLe l k) W cfBlock1 (hl.bl hb) hn
      (fun x w' _ hb' => block1 x k g w' (hb'.cell hg)) (cntLe_le l k) hp.1 hp.2
  have HF := Lib.hid hF
  have h1' := ((Bl.refl w).alloc (Obj.cells #[.string k] 9)).cell h1
  clear hF hp hs hl
  go_enter Try.func76, Try.ntmps76
  go_wp2_with fail
  refine (HF.out _ (by repeat (first | assumption | exact Bl.refl _ | apply Bl.drewN | apply Bl.drew | apply Bl.alloc | (refine Bl.dr ?_ (by assumption)) | (refine Bl.trans ?_ (by assumption)))) _ (by simp [go_sem])).mono ?_; rintro e w1 ⟨rfl, hb1⟩
  go_wp2_with fail
  go_ret
  exact RB.mk rfl (by repeat (first | assumption | exact Bl.refl _ | apply Bl.drewN | apply Bl.drew | apply Bl.alloc | (refine Bl.dr ?_ (by assumption)) | (refine Bl.trans ?_ (by assumption))))

end Go.Proofs.Ytndcjgkgkpkklaa

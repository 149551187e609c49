/-
  Contracts of fence.Size, asked, block, Block and of the reference's Size, below, Block.
-/
import Derived.Test.YteafcbpogomioaaFnC
namespace Go.Proofs.Yteafcbpogomioaa
open Go.RowKit
set_option linter.unusedSimpArgs false
set_option linter.unusedVariables false

/-! ### Plain facts on ascending lists -/
abbrev Asc (l : List ByteArray) : Prop := l.Pairwise (fun a b => slt a b = true)
theorem kchk_zero {m : ByteArray} : kchk m = 0 ↔ m.size ≤ 32 := by unfold kchk; split <;> simp <;> omega
theorem fmGo_ok : ∀ (l : List ByteArray) (i : Nat) (p : Option ByteArray), (fmGo i p l).2 = 0 →
    (∀ m, m ∈ l → m.size ≤ 32) ∧ (∀ q, p = some q → ∀ m, m ∈ l → slt q m = true) ∧ Asc l
  | [], _, _, _ => by simp
  | m :: r, i, p, h => by
    unfold fmGo at h
    split at h
    · rename_i h1; exact absurd h h1
    · rename_i h1
      split at h
      · simp at h
      · rename_i h2
        obtain ⟨a, b, c⟩ := fmGo_ok r (i + 1) (some m) h
        have hm := b m rfl
        refine ⟨?_, ?_, ?_⟩
        · intro x hx
          rcases List.mem_cons.1 hx with rfl | hx
          · exact kchk_zero.1 (by simpa using h1)
          · exact a x hx
        · rintro q rfl x hx
          have hq : slt q m = true := by simpa [pbad] using h2
          rcases List.mem_cons.1 hx with rfl | hx
          · exact hq
          · exact slt_trans hq (hm x hx)
        · exact List.pairwise_cons.2 ⟨hm, c⟩
theorem fchk_ok {f : Fnc} (h : (fchk f).2 = 0) : 1 ≤ f.step ∧ f.step ≤ 64 ∧ f.marks.length ≤ 4999 ∧ (∀ m, m ∈ f.marks → m.size ≤ 32) ∧ Asc f.marks := by
  unfold fchk at h
  split at h
  · simp at h
  · split at h
    · simp at h
    · obtain ⟨a, b, c⟩ := fmGo_ok _ _ _ h
      exact ⟨by omega, by omega, by omega, a, c⟩
theorem part_point {α : Type} {R : α → α → Prop} (p : α → Bool) (hm : ∀ a b, R a b → p a = true → p b = true) : ∀ (l : List α), l.Pairwise R →
    (∀ j x, l[j]? = some x → j < (l.filter fun x => !p x).length → p x = false) ∧ (∀ j x, l[j]? = some x → (l.filter fun x => !p x).length ≤ j → p x = true)
  | [], _ => by simp
  | a :: l, h => by
    obtain ⟨h1, h2⟩ := List.pairwise_cons.1 h
    obtain ⟨i1, i2⟩ := part_point p hm l h2
    cases ha : p a
    · simp only [List.filter_cons, ha, Bool.not_false, if_true, List.length_cons]
      refine ⟨fun j x hx hj => ?_, fun j x hx hj => ?_⟩
      · cases j with
        | zero => simp at hx; rw [← hx]; exact ha
        | succ j => simp at hx; exact i1 j x hx (by omega)
      · cases j with
        | zero => omega
        | succ j => simp at hx; exact i2 j x hx (by omega)
    · have hall : ∀ x, x ∈ l → p x = true := fun x hx => hm a x (h1 x hx) ha
      have hf : (l.filter fun x => !p x) = [] := by
        rw [List.filter_eq_nil_iff]; intro x hx; simp [hall x hx]
      simp only [List.filter_cons, ha, Bool.not_true, hf]
      refine ⟨fun j x hx hj => by simp at hj, fun j x hx hj => ?_⟩
      rcases List.mem_cons.1 (List.mem_of_getElem? hx) with rfl | hx'
      · exact ha
      · exact hall x hx'
/-- How many are not greater | less. -/
def cntLe (l : List ByteArray) (k : ByteArray) : Nat := (l.filter fun m => !slt k m).length
def cntLt (l : List ByteArray) (k : ByteArray) : Nat := (l.filter fun m => !!slt m k).length
theorem cntLe_le (l : List ByteArray) (k : ByteArray) : cntLe l k ≤ l.length := List.length_filter_le _ _
theorem cntLt_le (l : List ByteArray) (k : ByteArray) : cntLt l k ≤ l.length := List.length_filter_le _ _
theorem cntLe_part {l : List ByteArray} (h : Asc l) (k : ByteArray) :
    (∀ j x, l[j]? = some x → j < cntLe l k → slt k x = false) ∧ (∀ j x, l[j]? = some x → cntLe l k ≤ j → slt k x = true) :=
  part_point (fun m => slt k m) (fun a b hab ha => slt_trans ha hab) l h
theorem cntLt_part {l : List ByteArray} (h : Asc l) (k : ByteArray) :
    (∀ j x, l[j]? = some x → j < cntLt l k → (!slt x k) = false) ∧ (∀ j x, l[j]? = some x → cntLt l k ≤ j → (!slt x k) = true) :=
  part_point (fun m => !slt m k) (fun a b hab ha => by
    cases hb : slt b k
    · rfl
    · have := slt_trans hab hb; rw [this] at ha; cases ha) l h
def sumSz (l : List ByteArray) : Nat := (l.map (·.size)).sum
theorem sumSz_take {l : List ByteArray} {k : Nat} {x : ByteArray} (h : l[k]? = some x) : sumSz (l.take (k + 1)) = sumSz (l.take k) + x.size := by
  obtain ⟨hk, rfl⟩ := List.getElem?_eq_some_iff.1 h
  rw [List.take_succ_eq_append_getElem hk]; simp only [sumSz, List.map_append, List.sum_append, List.map_cons, List.map_nil, List.sum_cons, List.sum_nil, Nat.add_zero]
theorem sumSz_bd : ∀ {l : List ByteArray}, (∀ m, m ∈ l → m.size ≤ 32) → sumSz l ≤ 32 * l.length
  | [], _ => by simp [sumSz]
  | m :: l, h => by
    have := sumSz_bd (l := l) (fun x hx => h x (by simp [hx]))
    have := h m (by simp)
    simp [sumSz] at *; omega
def fsz (f : Fnc) : Int × Int := if (fchk f).2 ≠ 0 then (0, (fchk f).2) else ((sumSz f.marks : Int), 0)
def fblk (f : Fnc) (k : ByteArray) : Int × Int := if (fchk f).2 ≠ 0 then (0, (fchk f).2) else if kchk k ≠ 0 then (0, kchk k) else ((cntLe f.marks k : Int), 0)

/-! ### Size -/

set_option maxHeartbeats 1000000 in
theorem fenceSize (a : Option Addr) (c : Nat) (f : Fnc) (w : World) (hf : FOk w a f) :
    Calls Try.prog 20 #[f.v a c] w (RB w (.tuple #[.int .i64 (fsz f).1, .int .i64 (fsz f).2])) := by
  have hC := fun w h => fenceCheck a c f w h
  by_cases h0 : (fchk f).2 = 0
  · obtain ⟨s1, s2, s3, s4, s5⟩ := fchk_ok h0
    have e : fsz f = ((sumSz f.marks : Int), 0) := by simp [fsz, h0]
    rw [e]
    rw [h0] at hC
    generalize (fchk f).1 = q0 at *
    obtain ⟨s, l⟩ := f
    have hl := hf.strs
    unfold Fnc.v at hC ⊢
    simp only at hC hl s1 s2 s3 s4 s5 e ⊢
    have HC := Lib.hid hC
    have HF := Lib.hid hf
    have S4 := Lib.hid s4
    clear hC e h0 hf s5 s4
    go_enter Try.func20, Try.ntmps20
    go_wp2_with fail
    refine (HC.out _ (HF.out.bl (by repeat (first | assumption | exact Bl.refl _ | apply Bl.drewN | apply Bl.drew | apply Bl.alloc | (refine Bl.dr ?_ (by assumption)) | (refine Bl.trans ?_ (by assumption)))))).mono ?_; rintro e w1 ⟨rfl, hb1⟩
    have cb : w1.cell? ⟨w.heap.size, 1, none⟩ = some (.slice a l.length c) := hb1.cell (by simp [go_sem])
    have hb : Bl w w1 := (by repeat (first | assumption | exact Bl.refl _ | apply Bl.drewN | apply Bl.drew | apply Bl.alloc | (refine Bl.dr ?_ (by assumption)) | (refine Bl.trans ?_ (by assumption))))
    clear hb1
    go_wp2_with fail
    go_loopg [6, 20] l.length (fun g n i wr => ∃ k : Nat, k ≤ l.length ∧ i = .int .i64 k ∧ n = .int .i64 (sumSz (l.take k)) ∧ Dr w1 wr ∧ g = l.length - k)
    case atStart => exact ⟨0, by omega, rfl, by simp [sumSz], Dr.refl _, rfl⟩
    case round =>
      obtain ⟨k, hk1, rfl, rfl, hd, hg⟩ := hrel
      have G := Lib.hid hg
      have cb' : wr.cell? ⟨w.heap.size, 1, none⟩ = some (.slice a l.length c) := by rw [hd.cell]; exact cb
      clear hg
      by_cases h2 : k < l.length
      · obtain ⟨b, off, rfl, hat⟩ := hl.get h2
        obtain ⟨x, hx⟩ : ∃ x, l[k]? = some x := ⟨_, List.getElem?_eq_getElem h2⟩
        have c0 := (hb.dr hd).cell (hat k x hx)
        have hxo : x.size ≤ 32 := S4.out x (List.mem_of_getElem? hx)
        have hs := sumSz_take hx
        have hbd := sumSz_bd (l := l.take k) (fun m hm => S4.out m (List.mem_of_mem_take hm))
        have hbd2 : sumSz (l.take k) ≤ 200000 := by simp at hbd; omega
        generalize sumSz (l.take k) = m at *
        have HS := Lib.hid hs
        clear hs hx hat hbd
        go_wp2_with fail
        go_roundg (l.length - (k + 1))
        case rel => exact ⟨k + 1, by omega, by go_num, by rw [HS.out]; go_num, hd, rfl⟩
        case measure => rw [G.out]; omega
      · go_wp2
        go_ret2
        exact rb_tuple (ival (by rw [List.take_of_length_le (by omega)])) rfl (by repeat (first | assumption | exact Bl.refl _ | apply Bl.drewN | apply Bl.drew | apply Bl.alloc | (refine Bl.dr ?_ (by assumption)) | (refine Bl.trans ?_ (by assumption))))
  · have e : fsz f = (0, (fchk f).2) := by simp [fsz, h0]
    rw [e]
    have h0' : ((fchk f).2 != 0) = true := by simp [h0]
    generalize (fchk f).1 = q0 at *
    generalize (fchk f).2 = q1 at *
    obtain ⟨s, l⟩ := f
    unfold Fnc.v at hC ⊢
    simp only at hC ⊢
    have HC := Lib.hid hC
    have HF := Lib.hid hf
    clear hC e h0 hf
    go_enter Try.func20, Try.ntmps20
    go_wp2_with fail
    refine (HC.out _ (HF.out.bl (by repeat (first | assumption | exact Bl.refl _ | apply Bl.drewN | apply Bl.drew | apply Bl.alloc | (refine Bl.dr ?_ (by assumption)) | (refine Bl.trans ?_ (by assumption)))))).mono ?_; rintro e w1 ⟨rfl, hb1⟩
    go_wp2_with fail
    go_ret2
    exact rb_tuple rfl rfl (by repeat (first | assumption | exact Bl.refl _ | apply Bl.drewN | apply Bl.drew | apply Bl.alloc | (refine Bl.dr ?_ (by assumption)) | (refine Bl.trans ?_ (by assumption))))

set_option maxHeartbeats 1000000 in
theorem refFenceSize (a : Option Addr) (c : Nat) (f : Fnc) (w : World) (hf : FOk w a f) :
    Calls Try.prog 26 #[f.v a c] w (RB w (.tuple #[.int .i64 (fsz f).1, .int .i64 (fsz f).2])) := by
  have hC := fun w h => refFenceCheck a c f w h
  by_cases h0 : (fchk f).2 = 0
  · obtain ⟨s1, s2, s3, s4, s5⟩ := fchk_ok h0
    have e : fsz f = ((sumSz f.marks : Int), 0) := by simp [fsz, h0]
    rw [e]
    rw [h0] at hC
    generalize (fchk f).1 = q0 at *
    obtain ⟨s, l⟩ := f
    have hl := hf.strs
    unfold Fnc.v at hC ⊢
    simp only at hC hl s1 s2 s3 s4 s5 e ⊢
    have HC := Lib.hid hC
    have HF := Lib.hid hf
    have S4 := Lib.hid s4
    clear hC e h0 hf s5 s4
    go_enter Try.func26, Try.ntmps26
    go_wp2_with fail
    refine (HC.out _ (HF.out.bl (by repeat (first | assumption | exact Bl.refl _ | apply Bl.drewN | apply Bl.drew | apply Bl.alloc | (refine Bl.dr ?_ (by assumption)) | (refine Bl.trans ?_ (by assumption)))))).mono ?_; rintro e w1 ⟨rfl, hb1⟩
    have cb : w1.cell? ⟨w.heap.size, 1, none⟩ = some (.slice a l.length c) := hb1.cell (by simp [go_sem])
    have hb : Bl w w1 := (by repeat (first | assumption | exact Bl.refl _ | apply Bl.drewN | apply Bl.drew | apply Bl.alloc | (refine Bl.dr ?_ (by assumption)) | (refine Bl.trans ?_ (by assumption))))
    clear hb1
    go_wp2_with fail
    go_loopg [6, 7] l.length (fun g n i wr => ∃ k : Nat, k ≤ l.length ∧ i = .int .i64 k ∧ n = .int .i64 (sumSz (l.take k)) ∧ Dr w1 wr ∧ g = l.length - k)
    case atStart => exact ⟨0, by omega, rfl, by simp [sumSz], Dr.refl _, rfl⟩
    case round =>
      obtain ⟨k, hk1, rfl, rfl, hd, hg⟩ := hrel
      have G := Lib.hid hg
      have cb' : wr.cell? ⟨w.heap.size, 1, none⟩ = some (.slice a l.length c) := by rw [hd.cell]; exact cb
      clear hg
      by_cases h2 : k < l.length
      · obtain ⟨b, off, rfl, hat⟩ := hl.get h2
        obtain ⟨x, hx⟩ : ∃ x, l[k]? = some x := ⟨_, List.getElem?_eq_getElem h2⟩
        have c0 := (hb.dr hd).cell (hat k x hx)
        have hxo : x.size ≤ 32 := S4.out x (List.mem_of_getElem? hx)
        have hs := sumSz_take hx
        have hbd := sumSz_bd (l := l.take k) (fun m hm => S4.out m (List.mem_of_mem_take hm))
        have hbd2 : sumSz (l.take k) ≤ 200000 := by simp at hbd; omega
        generalize sumSz (l.take k) = m at *
        have HS := Lib.hid hs
        clear hs hx hat hbd
        go_wp2_with fail
        go_roundg (l.length - (k + 1))
        case rel => exact ⟨k + 1, by omega, by go_num, by rw [HS.out]; go_num, hd, rfl⟩
        case measure => rw [G.out]; omega
      · go_wp2
        go_ret2
        exact rb_tuple (ival (by rw [List.take_of_length_le (by omega)])) rfl (by repeat (first | assumption | exact Bl.refl _ | apply Bl.drewN | apply Bl.drew | apply Bl.alloc | (refine Bl.dr ?_ (by assumption)) | (refine Bl.trans ?_ (by assumption))))
  · have e : fsz f = (0, (fchk f).2) := by simp [fsz, h0]
    rw [e]
    have h0' : ((fchk f).2 != 0) = true := by simp [h0]
    generalize (fchk f).1 = q0 at *
    generalize (fchk f).2 = q1 at *
    obtain ⟨s, l⟩ := f
    unfold Fnc.v at hC ⊢
    simp only at hC ⊢
    have HC := Lib.hid hC
    have HF := Lib.hid hf
    clear hC e h0 hf
    go_enter Try.func26, Try.ntmps26
    go_wp2_with fail
    refine (HC.out _ (HF.out.bl (by repeat (first | assumption | exact Bl.refl _ | apply Bl.drewN | apply Bl.drew | apply Bl.alloc | (refine Bl.dr ?_ (by assumption)) | (refine Bl.trans ?_ (by assumption)))))).mono ?_; rintro e w1 ⟨rfl, hb1⟩
    go_wp2_with fail
    go_ret2
    exact rb_tuple rfl rfl (by repeat (first | assumption | exact Bl.refl _ | apply Bl.drewN | apply Bl.drew | apply Bl.alloc | (refine Bl.dr ?_ (by assumption)) | (refine Bl.trans ?_ (by assumption))))

/-! ### Block -/
theorem fenceAsked (a : Option Addr) (c : Nat) (f : Fnc) (k : ByteArray) (g : Nat) (w : World) (hf : FOk w a f) (hk : k.size ≤ maxLen)
    (h0 : w.cell? ⟨g, 0, none⟩ = some (.int .i64 f.step)) (h1 : w.cell? ⟨g, 1, none⟩ = some (.slice a f.marks.length c)) :
    Calls Try.prog 45 #[.pointer (some ⟨g, 0, none⟩), .string k] w (RB w (.int .i64 (if (fchk f).2 ≠ 0 then (fchk f).2 else kchk k))) := by
  have hC := fun w h => fenceCheck a c f w h
  have hK := fun w => keysCheck k w hk
  have HF := Lib.hid hf
  by_cases e : (fchk f).2 = 0
  · rw [if_neg (by simp [e])]
    have e' : ((fchk f).2 != 0) = false := by simp [e]
    generalize (fchk f).1 = q0 at *
    generalize (fchk f).2 = q1 at *
    generalize kchk k = q2 at *
    obtain ⟨s, l⟩ := f
    unfold Fnc.v at hC
    simp only at hC h0 h1
    have HC := Lib.hid hC
    have HK := Lib.hid hK
    clear hC hK e hf
    go_enter Try.func45, Try.ntmps45
    go_wp2_with fail
    refine (HC.out _ HF.out).mono ?_; rintro e w1 ⟨rfl, hb1⟩
    go_wp2_with fail
    refine (HK.out _).mono ?_; rintro e w' ⟨rfl, n1, rfl⟩
    go_wp2_with fail
    go_ret
    exact RB.mk rfl (by repeat (first | assumption | exact Bl.refl _ | apply Bl.drewN | apply Bl.drew | apply Bl.alloc | (refine Bl.dr ?_ (by assumption)) | (refine Bl.trans ?_ (by assumption))))
  · rw [if_pos e]
    have e' : ((fchk f).2 != 0) = true := by simp [e]
    generalize (fchk f).1 = q0 at *
    generalize (fchk f).2 = q1 at *
    obtain ⟨s, l⟩ := f
    unfold Fnc.v at hC
    simp only at hC h0 h1
    have HC := Lib.hid hC
    clear hC hK e hf
    go_enter Try.func45, Try.ntmps45
    go_wp2_with fail
    refine (HC.out _ HF.out).mono ?_; rintro e w1 ⟨rfl, hb1⟩
    go_wp2_with fail
    go_ret
    exact RB.mk rfl (by repeat (first | assumption | exact Bl.refl _ | apply Bl.drewN | apply Bl.drew | apply Bl.alloc | (refine Bl.dr ?_ (by assumption)) | (refine Bl.trans ?_ (by assumption))))

theorem fenceBlockIn (a : Option Addr) (c : Nat) (l : List ByteArray) (k : ByteArray) (g : Nat) (w : World) (hl : Strs w a l) (hn : l.length ≤ 4611686018427387904) (hs : Asc l)
    (h1 : w.cell? ⟨g, 1, none⟩ = some (.slice a l.length c)) :
    Calls Try.prog 46 #[.pointer (some ⟨g, 0, none⟩), .string k] w (RB w (.int .i64 (cntLe l k : Int))) := by
  have hp := cntLe_part hs k
  have hF := fun W (hb : Bl w W) (g : Nat) (hg : W.cell? ⟨g, 0, none⟩ = some (.string k)) =>
    firstS 62 #[.pointer (some ⟨g, 0, none⟩)] a c l (fun m => slt k m) (cntLe l k) W cfBlock1 (hl.bl hb) hn
      (fun x w' _ hb' => block1 x k g w' (hb'.cell hg)) (cntLe_le l k) hp.1 hp.2
  have HF := Lib.hid hF
  have h1' := ((Bl.refl w).alloc (Obj.cells #[.string k] 9)).cell h1
  clear hF hp hs hl
  go_enter Try.func46, Try.ntmps46
  go_wp2_with fail
  refine (HF.out _ (by repeat (first | assumption | exact Bl.refl _ | apply Bl.drewN | apply Bl.drew | apply Bl.alloc | (refine Bl.dr ?_ (by assumption)) | (refine Bl.trans ?_ (by assumption)))) _ (by simp [go_sem])).mono ?_; rintro e w1 ⟨rfl, hb1⟩
  go_wp2_with fail
  go_ret
  exact RB.mk rfl (by repeat (first | assumption | exact Bl.refl _ | apply Bl.drewN | apply Bl.drew | apply Bl.alloc | (refine Bl.dr ?_ (by assumption)) | (refine Bl.trans ?_ (by assumption))))

set_option maxHeartbeats 1000000 in
theorem fenceBlock (a : Option Addr) (c : Nat) (f : Fnc) (k : ByteArray) (w : World) (hf : FOk w a f) (hk : k.size ≤ maxLen) :
    Calls Try.prog 22 #[f.v a c, .string k] w (RB w (.tuple #[.int .i64 (fblk f k).1, .int .i64 (fblk f k).2])) := by
  have hA := fun g w h => fenceAsked a c f k g w h hk
  have hB := fun (hs : Asc f.marks) g w h => fenceBlockIn a c f.marks k g w h hf.len hs
  have e : fblk f k = if (if (fchk f).2 ≠ 0 then (fchk f).2 else kchk k) = 0 then ((cntLe f.marks k : Int), 0) else (0, if (fchk f).2 ≠ 0 then (fchk f).2 else kchk k) := by
    unfold fblk; by_cases h : (fchk f).2 = 0 <;> by_cases h' : kchk k = 0 <;> simp [h, h']
  rw [e]
  have ho : (if (fchk f).2 ≠ 0 then (fchk f).2 else kchk k) = 0 → Asc f.marks := by
    intro h; by_cases h' : (fchk f).2 = 0
    · exact (fchk_ok h').2.2.2.2
    · simp [h'] at h
  generalize (if (fchk f).2 ≠ 0 then (fchk f).2 else kchk k) = q at *
  have HF := Lib.hid hf
  obtain ⟨s, l⟩ := f
  unfold Fnc.v
  simp only at hA hB ho ⊢
  have HA := Lib.hid hA
  clear e hf hA
  by_cases hq : q = 0
  · rw [if_pos hq]
    have hq' : (q != 0) = false := by simp [hq]
    have hB' := hB (ho hq)
    have HB := Lib.hid hB'
    clear hB hB' ho hq
    generalize cntLe l k = r at *
    go_enter Try.func22, Try.ntmps22
    go_wp2_with fail
    refine (HA.out _ _ (HF.out.bl (by repeat (first | assumption | exact Bl.refl _ | apply Bl.drewN | apply Bl.drew | apply Bl.alloc | (refine Bl.dr ?_ (by assumption)) | (refine Bl.trans ?_ (by assumption))))) (by simp [go_sem]) (by simp [go_sem])).mono ?_; rintro e w1 ⟨rfl, hb1⟩
    have hb : Bl w w1 := (by repeat (first | assumption | exact Bl.refl _ | apply Bl.drewN | apply Bl.drew | apply Bl.alloc | (refine Bl.dr ?_ (by assumption)) | (refine Bl.trans ?_ (by assumption))))
    have c1 : w1.cell? ⟨w.heap.size, 1, none⟩ = some (.slice a l.length c) := hb1.cell (by simp [go_sem])
    go_wp2_with fail
    refine (HB.out _ _ (HF.out.strs.bl (by repeat (first | assumption | exact Bl.refl _ | apply Bl.drewN | apply Bl.drew | apply Bl.alloc | (refine Bl.dr ?_ (by assumption)) | (refine Bl.trans ?_ (by assumption))))) c1).mono ?_; rintro e w2 ⟨rfl, hb2⟩
    go_wp2_with fail
    go_ret2
    exact rb_tuple rfl rfl (by repeat (first | assumption | exact Bl.refl _ | apply Bl.drewN | apply Bl.drew | apply Bl.alloc | (refine Bl.dr ?_ (by assumption)) | (refine Bl.trans ?_ (by assumption))))
  · rw [if_neg hq]
    have hq' : (q != 0) = true := by simp [hq]
    clear hB ho hq
    go_enter Try.func22, Try.ntmps22
    go_wp2_with fail
    refine (HA.out _ _ (HF.out.bl (by repeat (first | assumption | exact Bl.refl _ | apply Bl.drewN | apply Bl.drew | apply Bl.alloc | (refine Bl.dr ?_ (by assumption)) | (refine Bl.trans ?_ (by assumption))))) (by simp [go_sem]) (by simp [go_sem])).mono ?_; rintro e w1 ⟨rfl, hb1⟩
    go_wp2_with fail
    go_ret2
    exact rb_tuple rfl rfl (by repeat (first | assumption | exact Bl.refl _ | apply Bl.drewN | apply Bl.drew | apply Bl.alloc | (refine Bl.dr ?_ (by assumption)) | (refine Bl.trans ?_ (by assumption))))
end Go.Proofs.Yteafcbpogomioaa

/-
  Own texts laid together: RpA.
-/
import Derived.Test.YtndcjgkgkpkklaaDoorZm
import Derived.Test.YtndcjgkgkpkklaaDoorZh
import Derived.Test.YtndcjgkgkpkklaaDoorZk
import Derived.Test.YtndcjgkgkpkklaaDoorZj
/-
  Contracts of runs: Print; the law RunsKnown.
-/
namespace Go.Proofs.YtndcjgkgkpkklaaDoor
open Go.RowKit
set_option linter.unusedSimpArgs false
set_option linter.unusedVariables false
set_option maxRecDepth 100000

def rheadB (id : Int) : List UInt8 := [114, 117, 110, 32] ++ Lib.itoa id ++ [10]
def rprint (r : Rn) : List UInt8 × Int := if (rck r).2 ≠ 0 then ([], (rck r).2) else if (eprint r.es).2 ≠ 0 then ([], (eprint r.es).2) else if 1048576 < (rheadB r.id ++ (eprint r.es).1).length then ([], 3) else (rheadB r.id ++ (eprint r.es).1, 0)
theorem eprint_len (l : List Ent) : (eprint l).1.length ≤ 1048576 := by
  unfold eprint
  split
  · simp
  · split
    · simp
    · split
      · simp
      · simp only; omega
theorem catR (a b c : ByteArray) : (a ++ b ++ c).data.toList = a.data.toList ++ b.data.toList ++ c.data.toList := by rw [catB, catB]
set_option maxHeartbeats 4000000 in
theorem runPrint (a : Option Addr) (c : Nat) (r : Rn) (w : World) (h : ROk w a c r) (hE : PEnv w) : Calls Tryd.prog 11 #[r.v a c] w (RB w (.tuple #[.string ⟨(rprint r).1.toArray⟩, .int .i64 (rprint r).2])) := by
  obtain ⟨res, hres⟩ : ∃ x, rprint r = x := ⟨_, rfl⟩
  rw [hres]
  unfold rprint at hres
  have hC := fun w h => runCheck a c r w h
  have hP := fun w h hE => entPrint a c r.es w h (Nat.le_trans (ROk.len (by assumption : ROk _ a c r)) (ROk.cap (by assumption : ROk _ a c r))) hE
  have hel := eprint_len r.es
  have HO := Lib.hid h
  have HE := Lib.hid hE
  obtain ⟨ck, hck⟩ : ∃ x, (rck r).2 = x := ⟨_, rfl⟩
  rw [hck] at hC hres
  have hD := fun (h1 : (rck r).2 = 0) w h => digitsP r.id (by have := rck_ok h1; omega) (by have := rck_ok h1; omega) w h
  have him := fun (h1 : (rck r).2 = 0) => Lib.itoa_length_le r.id (by have := rck_ok h1; omega) (by have := rck_ok h1; omega)
  unfold Rn.v at hC ⊢
  generalize eprint r.es = ep at hP hres hel
  obtain ⟨el, en⟩ := ep
  simp only at hP hres hel
  obtain ⟨es, hes⟩ : ∃ q : ByteArray, (⟨el.toArray⟩ : ByteArray) = q := ⟨_, rfl⟩
  have hed : el = es.data.toList := by rw [← hes]
  subst hed
  rw [hes] at hP
  rw [← Lib.size_eq] at hel
  have HC := Lib.hid hC
  have HP := Lib.hid hP
  clear hC hP h hE hes
  have hb0 : Bl w (w.alloc (.cells #[.int .i64 r.id, .slice a r.es.length c] 24)) := (by repeat (first | assumption | exact Bl.refl _ | apply Bl.drewN | apply Bl.drew | apply Bl.alloc | (refine Bl.dr ?_ (by assumption)) | (refine Bl.trans ?_ (by assumption))))
  by_cases hc0 : ck = 0
  · subst hc0
    rw [if_neg (by simp)] at hres
    have hD := hD hck
    have him := him hck
    clear hck
    by_cases hen : en = 0
    · subst hen
      rw [if_neg (by simp)] at hres
      obtain ⟨q, hq⟩ : ∃ q : ByteArray, (⟨(Lib.itoa r.id).toArray⟩ : ByteArray) = q := ⟨_, rfl⟩
      have hqd : q.data.toList = Lib.itoa r.id := by rw [← hq]
      have hqs : q.size ≤ 21 := by rw [Lib.size_eq, hqd]; exact him
      rw [hq] at hD
      have HD := Lib.hid hD
      have HQ := Lib.hid hqd
      have i4 : ¬ 9223372036854775807 < 4 + q.size := by omega
      have i5 : ¬ 9223372036854775807 < 4 + q.size + 1 := by omega
      have i6 : ¬ 9223372036854775807 < 4 + q.size + 1 + es.size := by omega
      obtain ⟨T, hT⟩ : ∃ T : ByteArray, (⟨#[114, 117, 110, 32]⟩ : ByteArray) ++ q ++ ⟨#[10]⟩ ++ es = T := ⟨_, rfl⟩
      have hTd : T.data.toList = rheadB r.id ++ es.data.toList := by rw [← hT, catB, catR, hqd]; rfl
      have hTs : T.size = 4 + q.size + 1 + es.size := by rw [← hT, ByteArray.size_append, ByteArray.size_append, ByteArray.size_append]; rfl
      rw [← hTd, ← Lib.size_eq] at hres
      have HT := Lib.hid hT
      have HTl := Lib.hid (show T = ⟨T.data.toList.toArray⟩ from rfl)
      clear hD hq hqd hT him hTd
      by_cases hbig : 1048576 < T.size
      · rw [if_pos hbig] at hres
        subst hres
        have n1 : decide (1048576 < 4 + q.size + 1 + es.size) = true := by rw [decide_eq_true_eq, ← hTs]; exact hbig
        have n2 : decide ((1048576 : Int) < 4 + (q.size : Int) + 1 + (es.size : Int)) = true := by rw [decide_eq_true_eq]; omega
        have n3 : (1048576 : Int) < 4 + (q.size : Int) + 1 + (es.size : Int) := by omega
        clear hbig hTs
        go_enter Tryd.func11, Tryd.ntmps11
        go_wp2_with fail
        refine (HC.out _ (HO.out.bl hb0)).mono ?_; rintro e w1 ⟨rfl, hb1⟩
        have c0 : w1.cell? ⟨w.heap.size, 0, none⟩ = some (.int .i64 r.id) := hb1.cell (by simp [go_sem])
        have c1 : w1.cell? ⟨w.heap.size, 1, none⟩ = some (.slice a r.es.length c) := hb1.cell (by simp [go_sem])
        have hbw := hb0.trans hb1
        go_wp2_with fail
        refine (HP.out _ (HO.out.bl hbw).ents (HE.out.bl hbw)).mono ?_; rintro e w2 ⟨rfl, hb2⟩
        have c0 := hb2.cell c0
        have hbw2 := hbw.trans hb2
        go_wp2_with fail
        refine (HD.out _ (HE.out.bl hbw2)).mono ?_; rintro e w3 ⟨rfl, hb3⟩
        have hbF := hbw2.trans hb3
        go_wp2_with fail
        go_ret2
        exact rb_tuple rfl rfl hbF
      · rw [if_neg hbig] at hres
        subst hres
        have n1 : decide (1048576 < 4 + q.size + 1 + es.size) = false := by rw [decide_eq_false_iff_not, ← hTs]; exact hbig
        have n2 : decide ((1048576 : Int) < 4 + (q.size : Int) + 1 + (es.size : Int)) = false := by rw [decide_eq_false_iff_not]; omega
        have n3 : ¬ (1048576 : Int) < 4 + (q.size : Int) + 1 + (es.size : Int) := by omega
        clear hbig hTs
        go_enter Tryd.func11, Tryd.ntmps11
        go_wp2_with fail
        refine (HC.out _ (HO.out.bl hb0)).mono ?_; rintro e w1 ⟨rfl, hb1⟩
        have c0 : w1.cell? ⟨w.heap.size, 0, none⟩ = some (.int .i64 r.id) := hb1.cell (by simp [go_sem])
        have c1 : w1.cell? ⟨w.heap.size, 1, none⟩ = some (.slice a r.es.length c) := hb1.cell (by simp [go_sem])
        have hbw := hb0.trans hb1
        go_wp2_with fail
        refine (HP.out _ (HO.out.bl hbw).ents (HE.out.bl hbw)).mono ?_; rintro e w2 ⟨rfl, hb2⟩
        have c0 := hb2.cell c0
        have hbw2 := hbw.trans hb2
        go_wp2_with fail
        refine (HD.out _ (HE.out.bl hbw2)).mono ?_; rintro e w3 ⟨rfl, hb3⟩
        have hbF := hbw2.trans hb3
        go_wp2_with fail
        go_ret2
        exact rb_tuple (sval HT.out) rfl hbF
    · rw [if_pos hen] at hres
      subst hres
      have t1 : (en != 0) = true := by rw [bne_iff_ne]; exact hen
      clear hen hD him
      go_enter Tryd.func11, Tryd.ntmps11
      go_wp2_with fail
      refine (HC.out _ (HO.out.bl hb0)).mono ?_; rintro e w1 ⟨rfl, hb1⟩
      have c1 : w1.cell? ⟨w.heap.size, 1, none⟩ = some (.slice a r.es.length c) := hb1.cell (by simp [go_sem])
      have hbw := hb0.trans hb1
      go_wp2_with fail
      refine (HP.out _ (HO.out.bl hbw).ents (HE.out.bl hbw)).mono ?_; rintro e w2 ⟨rfl, hb2⟩
      go_wp2_with fail
      go_ret2
      exact rb_tuple rfl rfl (hbw.trans hb2)
  · rw [if_pos hc0] at hres
    subst hres
    have t1 : (ck != 0) = true := by rw [bne_iff_ne]; exact hc0
    clear hc0 hD him hck
    go_enter Tryd.func11, Tryd.ntmps11
    go_wp2_with fail
    refine (HC.out _ (HO.out.bl hb0)).mono ?_; rintro e w1 ⟨rfl, hb1⟩
    go_wp2_with fail
    go_ret2
    exact rb_tuple rfl rfl (hb0.trans hb1)

theorem rk_G : rget exR ⟨#[98]⟩ = (ent0, 4) := by kernel_rfl
theorem rk_F1 : rflo exR ⟨#[99]⟩ false = (exE2, 0) := by kernel_rfl
theorem rk_F2 : rflo exR ⟨#[100]⟩ true = (exE2, 0) := by kernel_rfl
theorem rk_F3 : rflo exR ⟨#[65]⟩ false = (ent0, 4) := by kernel_rfl
theorem rk_C1 : rcei exR ⟨#[99]⟩ true = (exE3, 0) := by kernel_rfl
theorem rk_C2 : rcei exR ⟨#[102]⟩ false = (ent0, 4) := by kernel_rfl
def rkB : Rng := ⟨⟨#[98]⟩, ⟨#[101]⟩, true⟩
theorem rkB_ok : rkB.ok := ⟨small_str (n := 3) _ (by decide) (by omega), small_str (n := 3) _ (by decide) (by omega)⟩
theorem rk_P : rpart exR rkB = (1, 2, 0) := by kernel_rfl
theorem rk_N : rcount exR rkB = (0, 1, 0) := by kernel_rfl
theorem rk_V : rcov exR = (⟨⟨#[97]⟩, ⟨#[101, 0]⟩, true⟩, 0) := by kernel_rfl
def rkE : Ent := ⟨⟨#[99]⟩, ⟨#[]⟩, true, 5⟩
theorem rk_T : rprint ⟨7, [rkE]⟩ = ([114, 117, 110, 32, 55, 10, 100, 101, 108, 32, 34, 99, 34, 32, 53, 10], 0) := by
  have e : ∀ n : Nat, n < 10 → Lib.itoa (n : Int) = [UInt8.ofNat (48 + n)] := by
    intro n h
    unfold Lib.itoa
    rw [if_neg (by omega), Int.toNat_natCast, Lib.decDigits_one h]
  have i7 : Lib.itoa 7 = [55] := e 7 (by omega)
  have i5 : Lib.itoa 5 = [53] := e 5 (by omega)
  have hc : rck ⟨7, [rkE]⟩ = (0, 0) := by kernel_rfl
  have ha : eall [rkE] = 0 := by kernel_rfl
  have hl : linesE [rkE] = [100, 101, 108, 32, 34, 99, 34, 32, 53, 10] := by
    unfold linesE lineE lhdE ltlE
    simp only [List.flatMap_cons, List.flatMap_nil, rkE, i5]
    kernel_rfl
  have hp : eprint [rkE] = ([100, 101, 108, 32, 34, 99, 34, 32, 53, 10], 0) := by
    unfold eprint
    rw [ha, hl]
    kernel_rfl
  show (if (rck ⟨7, [rkE]⟩).2 ≠ 0 then _ else if (eprint [rkE]).2 ≠ 0 then _ else if 1048576 < (rheadB 7 ++ (eprint [rkE]).1).length then _ else (rheadB 7 ++ (eprint [rkE]).1, 0)) = _
  rw [hc, hp]
  unfold rheadB
  rw [i7]
  rfl
theorem rkE_ents (w : World) (g : Nat) (h : Mem w (VE g rkE)) : Ents w (some ⟨g, 0, none⟩) [rkE] := by
  refine ents_new w [rkE] g ?_ ?_
  · intro x hx
    rw [List.mem_singleton.1 hx]
    exact ⟨small_str (n := 3) _ (by decide) (by omega), small_str (n := 3) _ (by decide) (by omega), by decide, by decide⟩
  · obtain ⟨a0, -, a1, -, a2, -, a3, -, -⟩ := h
    intro i v hi
    match i, hi with
    | 0, hi => simp [entCells] at hi; subst hi; exact a0
    | 1, hi => simp [entCells] at hi; subst hi; exact a1
    | 2, hi => simp [entCells] at hi; subst hi; exact a2
    | 3, hi => simp [entCells] at hi; subst hi; exact a3
    | n + 4, hi => simp [entCells] at hi
end Go.Proofs.YtndcjgkgkpkklaaDoor


/-
  Contracts of words: the reference's digit, and its form of a byte between quotes.
-/
import Derived.Test.YtkbfjficmdgjpaaGreatDoorWoC
import Derived.Lib.ConvBytes
import Derived.Test.YtkbfjficmdgjpaaGreatDoorOwn
namespace Go.Proofs.YtkbfjficmdgjpaaGreatDoor
open Go.RowKit
set_option linter.unusedSimpArgs false
set_option linter.unusedVariables false
set_option maxRecDepth 100000

theorem conv_backW {P : Program} (src dst e : TypeId) (hs : P.underlying src = some (.slice e)) (he : P.underlying e = some (.int .u8)) (hd : P.underlying dst = some .string) (w : World) (g n cap : Nat) (l : List UInt8) (hn : l.length = n)
    (hc : ∀ j (hj : j < l.length), w.cell? ⟨g, j, none⟩ = some (.int .u8 (l[j].toNat : Int))) :
    (convert src dst (.slice (some ⟨g, 0, none⟩) n cap)).run P w = .ok (.string ⟨l.toArray⟩) w := by
  subst hn
  exact run_convert_bytes_back w src dst e ⟨g, 0, none⟩ cap l hs he hd (fun j hj => by
    have : (⟨g, 0, none⟩ : Addr).add j = ⟨g, j, none⟩ := by unfold Addr.add; split <;> simp_all
    rw [this]; exact hc j hj)
theorem conv_nil (w : World) : (convert 66 9 (.slice none 0 0)).run Tryz.prog w = .ok (.string ⟨#[]⟩) w := by kernel_rfl
theorem conv_own {wr : World} {acc : List UInt8} {v : Value} {base : Nat} (h : wr.ownsRow base 5 1 v acc.length (Lib.byteCells acc)) : (convert 66 9 v).run Tryz.prog wr = .ok (.string ⟨acc.toArray⟩) wr := by
  have hf := own_form h
  obtain ⟨hl, h⟩ := h
  rcases h with ⟨rfl, h2⟩ | ⟨g, cap, cur, rfl, hb, hg, hn, hc, hs, ht⟩
  · have : acc = [] := List.length_eq_zero_iff.1 h2
    subst this; exact conv_nil wr
  · refine conv_backW 66 9 5 Tryz.underlying66 Tryz.underlying5 Tryz.underlying9 wr g acc.length cap acc rfl (fun j hj => ?_)
    obtain ⟨a, c, e, -, -, h4⟩ := hf
    obtain ⟨g', e', -, -, h5⟩ := h4 (by omega)
    injection e with e1 e2 e3
    rw [e'] at e1
    injection e1 with e1; injection e1 with e1
    subst e1
    exact h5 j _ (by simp [Lib.byteCells, hj])
theorem cnv1 (W : World) (c : UInt8) : (convert 66 9 (.slice (some ⟨W.heap.size, 0, none⟩) 1 1)).run Tryz.prog (W.alloc (.cells #[.int .u8 (c.toNat : Nat)] 5)) = .ok (.string ⟨#[c]⟩) (W.alloc (.cells #[.int .u8 (c.toNat : Nat)] 5)) :=
  conv_backW 66 9 5 Tryz.underlying66 Tryz.underlying5 Tryz.underlying9 _ W.heap.size 1 1 [c] rfl (fun j hj => by
    match j, hj with
    | 0, _ => simp [go_sem])
theorem cnv2 (W : World) (c d : UInt8) : (convert 66 9 (.slice (some ⟨W.heap.size, 0, none⟩) 2 2)).run Tryz.prog (W.alloc (.cells #[.int .u8 (c.toNat : Nat), .int .u8 (d.toNat : Nat)] 5)) = .ok (.string ⟨#[c, d]⟩) (W.alloc (.cells #[.int .u8 (c.toNat : Nat), .int .u8 (d.toNat : Nat)] 5)) :=
  conv_backW 66 9 5 Tryz.underlying66 Tryz.underlying5 Tryz.underlying9 _ W.heap.size 2 2 [c, d] rfl (fun j hj => by
    match j, hj with
    | 0, _ => simp [go_sem]
    | 1, _ => simp [go_sem])
theorem hxs_get : ∀ (n : Nat) (h : n < 16), (⟨#[48, 49, 50, 51, 52, 53, 54, 55, 56, 57, 97, 98, 99, 100, 101, 102]⟩ : ByteArray)[n]'h = hxd n
  | 0, _ => rfl
  | 1, _ => rfl
  | 2, _ => rfl
  | 3, _ => rfl
  | 4, _ => rfl
  | 5, _ => rfl
  | 6, _ => rfl
  | 7, _ => rfl
  | 8, _ => rfl
  | 9, _ => rfl
  | 10, _ => rfl
  | 11, _ => rfl
  | 12, _ => rfl
  | 13, _ => rfl
  | 14, _ => rfl
  | 15, _ => rfl
  | n + 16, h => by omega
set_option maxHeartbeats 2000000 in
theorem refHex (n : Nat) (h : n < 16) (w : World) : Calls Tryz.prog 118 #[.int .u8 (n : Nat)] w (RB w (.int .u8 ((hxd n).toNat : Nat))) := by
  have h1 : (0 : Int) ≤ (n : Int) := by omega
  have h2 : (n : Int) < 16 := by omega
  go_enter Tryz.func118, Tryz.ntmps118
  go_wp2_with fail
  go_ret
  exact RB.mk (by rw [← hxs_get n h]; rfl) (by repeat (first | assumption | exact Bl.refl _ | apply Bl.drewN | apply Bl.drew | apply Bl.alloc | (refine Bl.dr ?_ (by assumption)) | (refine Bl.trans ?_ (by assumption))))
set_option maxHeartbeats 4000000 in
theorem refEscaped (c : UInt8) (w : World) : Calls Tryz.prog 87 #[.int .u8 (c.toNat : Nat)] w (RB w (.string ⟨(escW c).toArray⟩)) := by
  by_cases hp : plainB c = true
  · have he : escW c = [c] := by unfold escW; rw [if_pos hp]
    rw [he]
    clear he
    go_enter Tryz.func87, Tryz.ntmps87
    go_wp2_with fail
    refine (refPlain _ _).mono ?_; rintro e w1 ⟨rfl, hb1⟩
    rw [hp]
    have hcv := cnv1 w1 c
    clear hp
    go_wp2_with fail
    go_ret
    exact RB.mk rfl (by repeat (first | assumption | exact Bl.refl _ | apply Bl.drewN | apply Bl.drew | apply Bl.alloc | (refine Bl.dr ?_ (by assumption)) | (refine Bl.trans ?_ (by assumption))))
  · by_cases h1 : c = 34
    · have e : c = 34 := by assumption
      clear hp
      subst e
      go_enter Tryz.func87, Tryz.ntmps87
      go_wp2_with fail
      refine (refPlain 34 _).mono ?_; rintro e w1 ⟨rfl, hb1⟩
      rw [show plainB 34 = false from rfl]
      go_wp2_with fail
      go_ret
      exact RB.mk rfl (by repeat (first | assumption | exact Bl.refl _ | apply Bl.drewN | apply Bl.drew | apply Bl.alloc | (refine Bl.dr ?_ (by assumption)) | (refine Bl.trans ?_ (by assumption))))
    · by_cases h2 : c = 92
      · have e : c = 92 := by assumption
        clear hp
        subst e
        go_enter Tryz.func87, Tryz.ntmps87
        go_wp2_with fail
        refine (refPlain 92 _).mono ?_; rintro e w1 ⟨rfl, hb1⟩
        rw [show plainB 92 = false from rfl]
        go_wp2_with fail
        go_ret
        exact RB.mk rfl (by repeat (first | assumption | exact Bl.refl _ | apply Bl.drewN | apply Bl.drew | apply Bl.alloc | (refine Bl.dr ?_ (by assumption)) | (refine Bl.trans ?_ (by assumption))))
      · by_cases h3 : c = 10
        · have e : c = 10 := by assumption
          clear hp
          subst e
          go_enter Tryz.func87, Tryz.ntmps87
          go_wp2_with fail
          refine (refPlain 10 _).mono ?_; rintro e w1 ⟨rfl, hb1⟩
          rw [show plainB 10 = false from rfl]
          go_wp2_with fail
          go_ret
          exact RB.mk rfl (by repeat (first | assumption | exact Bl.refl _ | apply Bl.drewN | apply Bl.drew | apply Bl.alloc | (refine Bl.dr ?_ (by assumption)) | (refine Bl.trans ?_ (by assumption))))
        · by_cases h4 : c = 13
          · have e : c = 13 := by assumption
            clear hp
            subst e
            go_enter Tryz.func87, Tryz.ntmps87
            go_wp2_with fail
            refine (refPlain 13 _).mono ?_; rintro e w1 ⟨rfl, hb1⟩
            rw [show plainB 13 = false from rfl]
            go_wp2_with fail
            go_ret
            exact RB.mk rfl (by repeat (first | assumption | exact Bl.refl _ | apply Bl.drewN | apply Bl.drew | apply Bl.alloc | (refine Bl.dr ?_ (by assumption)) | (refine Bl.trans ?_ (by assumption))))
          · by_cases h5 : c = 9
            · have e : c = 9 := by assumption
              clear hp
              subst e
              go_enter Tryz.func87, Tryz.ntmps87
              go_wp2_with fail
              refine (refPlain 9 _).mono ?_; rintro e w1 ⟨rfl, hb1⟩
              rw [show plainB 9 = false from rfl]
              go_wp2_with fail
              go_ret
              exact RB.mk rfl (by repeat (first | assumption | exact Bl.refl _ | apply Bl.drewN | apply Bl.drew | apply Bl.alloc | (refine Bl.dr ?_ (by assumption)) | (refine Bl.trans ?_ (by assumption))))
            · have hp' : plainB c = false := by simpa using hp
              have hl : letB c = 0 := by unfold letB; rw [if_neg h1, if_neg h2, if_neg h3, if_neg h4, if_neg h5]
              have he : escW c = [92, 120, hxd (c.toNat / 16), hxd (c.toNat % 16)] := by unfold escW; rw [hp', hl]; rfl
              rw [he]
              have e1 : ((c.toNat : Int) == 34) = false := u8_ne (d := 34) h1
              have e2 : ((c.toNat : Int) == 92) = false := u8_ne (d := 92) h2
              have e3 : ((c.toNat : Int) == 10) = false := u8_ne (d := 10) h3
              have e4 : ((c.toNat : Int) == 13) = false := u8_ne (d := 13) h4
              have e5 : ((c.toNat : Int) == 9) = false := u8_ne (d := 9) h5
              have hlt : c.toNat < 256 := c.toNat_lt
              obtain ⟨n1, k1⟩ : ∃ n, n = c.toNat / 16 := ⟨_, rfl⟩
              obtain ⟨n2, k2⟩ : ∃ n, n = c.toNat % 16 := ⟨_, rfl⟩
              have hn1 : n1 < 16 := by omega
              have hn2 : n2 < 16 := by omega
              have hd : (c.toNat : Int) / 16 = (n1 : Int) := by omega
              have hr : (c.toNat : Int) % 16 = (n2 : Int) := by omega
              rw [← k1, ← k2]
              have H1 := Lib.hid (fun w => refHex n1 hn1 w)
              have H2 := Lib.hid (fun w => refHex n2 hn2 w)
              clear he hl hp h1 h2 h3 h4 h5 k1 k2
              go_enter Tryz.func87, Tryz.ntmps87
              go_wp2_with fail
              refine (refPlain _ _).mono ?_; rintro e w1 ⟨rfl, hb1⟩
              rw [hp']
              go_wp2_with fail
              refine (H1.out _).mono ?_; rintro e w2 ⟨rfl, hb2⟩
              go_wp2_with fail
              refine (H2.out _).mono ?_; rintro e w3 ⟨rfl, hb3⟩
              have hcv := cnv2 w3 (hxd n1) (hxd n2)
              have hb4 : Bl w w3 := (hb1.trans hb2).trans hb3
              clear hb1 hb2 hb3
              go_wp2_with fail
              go_ret
              exact RB.mk (sval (ByteArray.ext (by simp [ByteArray.data_append]))) (by repeat (first | assumption | exact Bl.refl _ | apply Bl.drewN | apply Bl.drew | apply Bl.alloc | (refine Bl.dr ?_ (by assumption)) | (refine Bl.trans ?_ (by assumption))))
end Go.Proofs.YtkbfjficmdgjpaaGreatDoor

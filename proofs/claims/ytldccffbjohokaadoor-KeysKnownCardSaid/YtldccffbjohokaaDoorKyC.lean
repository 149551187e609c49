
/-
  Contract of the reference's text.
-/
import Derived.Test.YtldccffbjohokaaDoorKyB
namespace Go.Proofs.YtldccffbjohokaaDoor
open Go.RowKit
set_option linter.unusedSimpArgs false
set_option linter.unusedVariables false
set_option maxRecDepth 100000

def sizeN (c : Nat) : Nat := if c < 128 then 1 else if c < 2048 then 2 else if c < 65536 then 3 else 4
theorem good_size {l : List UInt8} {c n : Nat} (h : Good l c n) : sizeN c = n := by
  have h1 := h.len
  have h2 := h.max
  have h3 := h.n1
  unfold Lib.runeLen at h1
  unfold sizeN
  repeat' split at h1
  all_goals first | (exfalso; omega) | (repeat' split) <;> omega
theorem bad_not {l : List UInt8} (h : Lib.decodeL l = (65533, 1)) : l.take 3 ≠ [239, 191, 189] := by
  intro hl
  match l, hl with
  | [], hl => simp at hl
  | [_], hl => simp at hl
  | [_, _], hl => simp at hl
  | a :: b :: c :: t, hl =>
    simp at hl
    obtain ⟨rfl, rfl, rfl⟩ := hl
    rw [Lib.decodeL_N] at h
    simp [Lib.decodeN] at h
theorem fffd {l : List UInt8} {n : Nat} (h : Good l 65533 n) : n = 3 ∧ l.take 3 = [239, 191, 189] := by
  have h1 := good_size h
  have h2 := h.enc
  have : n = 3 := by rw [← h1]; rfl
  subst this
  exact ⟨rfl, by rw [← h2]; rfl⟩

theorem refSize (c : Nat) (w : World) : Calls Tryd.prog 62 #[.int .i32 (c : Int)] w (RD w (.int .i64 (sizeN c))) := by
  unfold sizeN
  by_cases h1 : c < 128
  · rw [if_pos h1]
    have k1 : (c : Int) < 128 := by omega
    go_enter Tryd.func62, Tryd.ntmps62
    go_wp2_with fail
    go_ret
    exact RD.mk rfl (by repeat (first | assumption | exact Dr.refl _ | apply Dr.drewN | apply Dr.drew | (refine Dr.trans ?_ (by assumption))))
  · rw [if_neg h1]
    have k1 : ¬ (c : Int) < 128 := by omega
    by_cases h2 : c < 2048
    · rw [if_pos h2]
      have k1 : (c : Int) < 2048 := by omega
      go_enter Tryd.func62, Tryd.ntmps62
      go_wp2_with fail
      go_ret
      exact RD.mk rfl (by repeat (first | assumption | exact Dr.refl _ | apply Dr.drewN | apply Dr.drew | (refine Dr.trans ?_ (by assumption))))
    · rw [if_neg h2]
      have k1 : ¬ (c : Int) < 2048 := by omega
      by_cases h3 : c < 65536
      · rw [if_pos h3]
        have k1 : (c : Int) < 65536 := by omega
        go_enter Tryd.func62, Tryd.ntmps62
        go_wp2_with fail
        go_ret
        exact RD.mk rfl (by repeat (first | assumption | exact Dr.refl _ | apply Dr.drewN | apply Dr.drew | (refine Dr.trans ?_ (by assumption))))
      · rw [if_neg h3]
        have k1 : ¬ (c : Int) < 65536 := by omega
        go_enter Tryd.func62, Tryd.ntmps62
        go_wp2_with fail
        go_ret
        exact RD.mk rfl (by repeat (first | assumption | exact Dr.refl _ | apply Dr.drewN | apply Dr.drew | (refine Dr.trans ?_ (by assumption))))

/-- 'string([]byte{a, b})'. -/
theorem conv2_new {P : Program} (src dst e : TypeId) (hs : P.underlying src = some (.slice e)) (he : P.underlying e = some (.int .u8)) (hd : P.underlying dst = some .string) (W : World) (a b : Int) :
    (convert src dst (.slice (some ⟨W.heap.size, 0, none⟩) 2 2)).run P (W.alloc (.cells #[.int .u8 a, .int .u8 b] e)).drew = .ok (.string ⟨#[UInt8.ofNat a.toNat, UInt8.ofNat b.toNat]⟩) (W.alloc (.cells #[.int .u8 a, .int .u8 b] e)).drew := by
  refine (run_convert_bytes_arg _ src e hs he W.heap.size 0 2 2 [a, b] rfl ?_ dst hd).trans rfl
  intro i hi
  match i, hi with
  | 0, _ => simp [go_sem]
  | 1, _ => simp [go_sem]

theorem esc_cat {l acc : List UInt8} {j : Nat} {q : ByteArray} {x : UInt8} (hq : q = ⟨(acc ++ (l.take j).flatMap escB).toArray⟩) (h : l[j]? = some x) {hp : x.toNat / 16 < 16} {hr : x.toNat % 16 < 16} :
    q ++ ⟨#[92, 120]⟩ ++ ⟨#[(⟨#[48, 49, 50, 51, 52, 53, 54, 55, 56, 57, 97, 98, 99, 100, 101, 102]⟩ : ByteArray)[x.toNat / 16]'hp, (⟨#[48, 49, 50, 51, 52, 53, 54, 55, 56, 57, 97, 98, 99, 100, 101, 102]⟩ : ByteArray)[x.toNat % 16]'hr]⟩ = (⟨(acc ++ (l.take (j + 1)).flatMap escB).toArray⟩ : ByteArray) := by
  rw [hexS_get _ hp, hexS_get _ hr]
  obtain ⟨hj, hx⟩ := List.getElem?_eq_some_iff.1 h
  rw [List.take_succ_eq_append_getElem hj, hx, List.flatMap_append, hq]
  apply str_ext
  rw [toL, toL]
  simp [ByteArray.data_append, escB]
theorem cat_of {q t : ByteArray} {acc : List UInt8} (hq : q = ⟨acc.toArray⟩) : q ++ t = ⟨(acc ++ t.data.toList).toArray⟩ := by
  subst hq
  apply str_ext
  rw [toL, toL]
  simp [ByteArray.data_append]

set_option maxHeartbeats 4000000 in
set_option maxRecDepth 1000000 in
theorem refText (s : ByteArray) (w : World) (hs : s.size ≤ 200) :
    Calls Tryd.prog 50 #[.string s] w (RB w (.string ⟨(showL s).toArray⟩)) := by
  obtain ⟨R, hR⟩ : ∃ R, R = showL s := ⟨_, rfl⟩
  rw [← hR]
  have HR := Lib.hid hR
  have HS := Lib.hid (fun c w => refSize c w)
  clear hR
  have hcv := fun (W : World) (a b : Int) => conv2_new (P := Tryd.prog) 49 9 5 Tryd.underlying49 Tryd.underlying5 Tryd.underlying9 W a b
  go_enter Tryd.func50, Tryd.ntmps50
  go_wp2_with fail
  go_loopg [3] s.size (fun g v wr => ∃ (q : ByteArray) (pos fuel : Nat) (acc : List UInt8), v = .string q ∧ q = ⟨acc.toArray⟩ ∧ wr.heap[w.heap.size]? = some (.stringIter s pos) ∧ Bl w wr ∧ acc ++ showG fuel (s.data.toList.drop pos) = R ∧ s.size ≤ pos + fuel ∧ acc.length ≤ 4 * pos ∧ pos ≤ s.size ∧ g = s.size - pos)
  case atStart =>
    exact ⟨_, 0, s.size, [], rfl, rfl, World.iter_heap w s 0, (Below.refl _ w).alloc (Nat.le_refl _) _, by rw [HR.out]; rfl, by omega, by simp, by omega, rfl⟩
  case round =>
    obtain ⟨q, pos, fuel, acc, rfl, hq, hit, hbw, hacc, hfu, hal, hps, hg⟩ := hrel
    have hqs : q.size ≤ 800 := by rw [hq]; show acc.toArray.size ≤ _; simp; omega
    have HQ := Lib.hid hq
    clear hq
    have G := Lib.hid hg
    have HA := Lib.hid hacc
    clear hg hacc
    have hsz : w.heap.size < wr.heap.size := (Array.getElem?_eq_some_iff.1 hit).1
    by_cases hp : pos < s.size
    · have hnx : ∀ ty, (Instr.next (.pointer (some ⟨w.heap.size, 0, none⟩)) true ty).run Tryd.prog wr = _ := fun ty => Lib.run_next_any_at wr w.heap.size s pos ty hit hp
      rw [← Lib.decodeL_drop] at hnx
      have hne : s.data.toList.drop pos ≠ [] := by
        intro h
        have := congrArg List.length h
        simp at this; omega
      obtain ⟨f, rfl⟩ : ∃ f, fuel = f + 1 := ⟨fuel - 1, by omega⟩
      have hsp := dec_spec _ hne
      have hll : (s.data.toList.drop pos).length = s.size - pos := by simp
      have hacc := HA.out
      unfold showG at hacc
      rw [if_neg hne] at hacc
      clear HA
      obtain ⟨l, hl⟩ : ∃ l, l = s.data.toList.drop pos := ⟨_, rfl⟩
      rw [← hl] at hnx hsp hll hacc
      have HDL := Lib.hid hl
      clear hl hne
      have hit2 := fun n => Lib.iterAt_heap wr w.heap.size s pos (pos + n) hit
      have hbw2 := fun n => Lib.below_iterAt hbw (k := w.heap.size) (by omega) s (pos + n)
      have h3 : ∀ k, (s.extract pos (pos + k)).data.toList = l.take k := fun k => by rw [ext_take, HDL.out]
      rcases hsp with hbad | ⟨c, n, hgood⟩
      · have hb3 := bad_not hbad
        rw [hbad] at hnx hacc
        simp only at hnx hacc
        have hit2 := hit2 1
        have hbw2 := hbw2 1
        obtain ⟨W0, hW0⟩ : ∃ W0, W0 = wr.iterAt w.heap.size s (pos + 1) := ⟨_, rfl⟩
        rw [← hW0] at hit2 hbw2 hnx
        obtain ⟨pc, hpc⟩ : ∃ pc, pc = piece 65533 1 l := ⟨_, rfl⟩
        rw [← hpc] at hacc
        have HPc := Lib.hid (show pc = (l.take 1).flatMap escB by rw [hpc]; rfl)
        have HA := Lib.hid hacc
        have HLL := Lib.hid hll
        have HIt := Lib.hid hit2
        have hs3 : sizeN 65533 = 3 := by decide
        have H3 := Lib.hid h3
        have HB3 := Lib.hid hb3
        clear hit hit2 hacc hll hbad hW0 hpc h3 hb3
        by_cases c2 : (pos : Int) + 2 < (s.size : Int)
        · go_wp2_with fail
          refine (HS.out 65533 _).mono ?_; rintro e W1 ⟨rfl, hd1⟩
          have HIt := Lib.hid (heap_bl HIt.out (.of_dr hd1))
          have hbw2 : Bl w W1 := Bl.dr hbw2 hd1
          clear hd1
          have k3 : ((s.extract pos (pos + 3)).toList == [239, 191, 189]) = false := by
            rw [beq_eq_false_iff_ne, toL, H3.out 3]; exact HB3.out
          go_wp2_with fail
          go_loopg [3, 7] 1 (fun g2 v i wi => ∃ (q : ByteArray) (j : Nat), v = .string q ∧ q = ⟨(acc ++ (l.take j).flatMap escB).toArray⟩ ∧ i = .int .i64 ((pos + j : Nat) : Int) ∧ j ≤ 1 ∧ wi.heap[w.heap.size]? = some (.stringIter s (pos + 1)) ∧ Bl w wi ∧ g2 = 1 - j)
          case atStart => exact ⟨q, 0, rfl, by rw [HQ.out]; simp, rfl, by omega, HIt.out, hbw2, rfl⟩
          case round =>
            obtain ⟨q, j, rfl, hq, rfl, hj, hit3, hbw3, hg3⟩ := hrel
            have hqs : q.size ≤ 1000 := by
              have h1 := escs_len (l.take j)
              have h2 := List.length_take_le j l
              rw [hq]; show List.length (acc ++ (l.take j).flatMap escB) ≤ _
              rw [List.length_append]; omega
            have HQ := Lib.hid hq
            have G3 := Lib.hid hg3
            have HIt3 := Lib.hid hit3
            clear hg3 hit3 hq
            by_cases hlt : j < 1
            · have hps3 : pos + j < s.size := by omega
              have hlx : l[j]? = some (s[pos + j]) := by rw [HDL.out, List.getElem?_drop, List.getElem?_eq_getElem (by simpa using hps3)]; rfl
              have HLX := Lib.hid hlx
              have hx256 := (s[pos + j]).toNat_lt
              have e1 : (s[pos + j].toNat : Int) / 16 < 16 := by omega
              have e2 : (0 : Int) ≤ (s[pos + j].toNat : Int) / 16 := by omega
              have e3 : (s[pos + j].toNat : Int) % 16 < 16 := by omega
              have e4 : (0 : Int) ≤ (s[pos + j].toNat : Int) % 16 := by omega
              have e5 : IntKind.u8.wrap ((s[pos + j].toNat : Int) / 16) = (s[pos + j].toNat : Int) / 16 := by simp [IntKind.wrap, IntKind.bits, IntKind.signed]; omega
              have e6 : ((s[pos + j].toNat : Int) / 16).toNat = s[pos + j].toNat / 16 := by omega
              have e7 : ((s[pos + j].toNat : Int) % 16).toNat = s[pos + j].toNat % 16 := by omega
              have k4 : ((pos + j : Nat) : Int) < (s.size : Int) := by omega
              have k5 : (0 : Int) ≤ ((pos + j : Nat) : Int) := by omega
              have k6 : (pos : Int) + (j : Int) < (s.size : Int) := by omega
              have k7 : (0 : Int) ≤ (pos : Int) + (j : Int) := by omega
              have k8 : ((pos : Int) + (j : Int)).toNat = pos + j := by omega
              have kq : ¬ (9223372036854775807 < q.size + 2) := by omega
              have kq2 : ¬ (9223372036854775807 < q.size + 2 + 2) := by omega
              clear hlx
              go_wp2_with fail
              go_region
              go_wp2_with fail
              go_roundg (1 - (j + 1))
              case rel => exact ⟨_, j + 1, rfl, esc_cat HQ.out HLX.out, by go_num, by omega, heap_bl HIt3.out (((Bl.refl _).alloc _).drew), (Bl.alloc hbw3 _).drew, rfl⟩
              case measure => rw [G3.out]; omega
            · have hjm : 1 = j := by omega
              subst hjm
              go_wp2_with fail
              go_roundg (s.size - (pos + 1))
              case rel =>
                refine ⟨q, pos + 1, f, acc ++ pc, rfl, by rw [HQ.out, HPc.out], HIt3.out, hbw3, ?_, by omega, ?_, by omega, rfl⟩
                · rw [← HA.out, HDL.out, List.drop_drop, List.append_assoc]
                · rw [List.length_append, HPc.out, escs_len]; have := List.length_take_le 1 l; omega
              case measure => rw [G.out]; omega
        · go_wp2_with fail
          refine (HS.out 65533 _).mono ?_; rintro e W1 ⟨rfl, hd1⟩
          have HIt := Lib.hid (heap_bl HIt.out (.of_dr hd1))
          have hbw2 : Bl w W1 := Bl.dr hbw2 hd1
          clear hd1
          go_wp2_with fail
          go_loopg [3, 7] 1 (fun g2 v i wi => ∃ (q : ByteArray) (j : Nat), v = .string q ∧ q = ⟨(acc ++ (l.take j).flatMap escB).toArray⟩ ∧ i = .int .i64 ((pos + j : Nat) : Int) ∧ j ≤ 1 ∧ wi.heap[w.heap.size]? = some (.stringIter s (pos + 1)) ∧ Bl w wi ∧ g2 = 1 - j)
          case atStart => exact ⟨q, 0, rfl, by rw [HQ.out]; simp, rfl, by omega, HIt.out, hbw2, rfl⟩
          case round =>
            obtain ⟨q, j, rfl, hq, rfl, hj, hit3, hbw3, hg3⟩ := hrel
            have hqs : q.size ≤ 1000 := by
              have h1 := escs_len (l.take j)
              have h2 := List.length_take_le j l
              rw [hq]; show List.length (acc ++ (l.take j).flatMap escB) ≤ _
              rw [List.length_append]; omega
            have HQ := Lib.hid hq
            have G3 := Lib.hid hg3
            have HIt3 := Lib.hid hit3
            clear hg3 hit3 hq
            by_cases hlt : j < 1
            · have hps3 : pos + j < s.size := by omega
              have hlx : l[j]? = some (s[pos + j]) := by rw [HDL.out, List.getElem?_drop, List.getElem?_eq_getElem (by simpa using hps3)]; rfl
              have HLX := Lib.hid hlx
              have hx256 := (s[pos + j]).toNat_lt
              have e1 : (s[pos + j].toNat : Int) / 16 < 16 := by omega
              have e2 : (0 : Int) ≤ (s[pos + j].toNat : Int) / 16 := by omega
              have e3 : (s[pos + j].toNat : Int) % 16 < 16 := by omega
              have e4 : (0 : Int) ≤ (s[pos + j].toNat : Int) % 16 := by omega
              have e5 : IntKind.u8.wrap ((s[pos + j].toNat : Int) / 16) = (s[pos + j].toNat : Int) / 16 := by simp [IntKind.wrap, IntKind.bits, IntKind.signed]; omega
              have e6 : ((s[pos + j].toNat : Int) / 16).toNat = s[pos + j].toNat / 16 := by omega
              have e7 : ((s[pos + j].toNat : Int) % 16).toNat = s[pos + j].toNat % 16 := by omega
              have k4 : ((pos + j : Nat) : Int) < (s.size : Int) := by omega
              have k5 : (0 : Int) ≤ ((pos + j : Nat) : Int) := by omega
              have k6 : (pos : Int) + (j : Int) < (s.size : Int) := by omega
              have k7 : (0 : Int) ≤ (pos : Int) + (j : Int) := by omega
              have k8 : ((pos : Int) + (j : Int)).toNat = pos + j := by omega
              have kq : ¬ (9223372036854775807 < q.size + 2) := by omega
              have kq2 : ¬ (9223372036854775807 < q.size + 2 + 2) := by omega
              clear hlx
              go_wp2_with fail
              go_region
              go_wp2_with fail
              go_roundg (1 - (j + 1))
              case rel => exact ⟨_, j + 1, rfl, esc_cat HQ.out HLX.out, by go_num, by omega, heap_bl HIt3.out (((Bl.refl _).alloc _).drew), (Bl.alloc hbw3 _).drew, rfl⟩
              case measure => rw [G3.out]; omega
            · have hjm : 1 = j := by omega
              subst hjm
              go_wp2_with fail
              go_roundg (s.size - (pos + 1))
              case rel =>
                refine ⟨q, pos + 1, f, acc ++ pc, rfl, by rw [HQ.out, HPc.out], HIt3.out, hbw3, ?_, by omega, ?_, by omega, rfl⟩
                · rw [← HA.out, HDL.out, List.drop_drop, List.append_assoc]
                · rw [List.length_append, HPc.out, escs_len]; have := List.length_take_le 1 l; omega
              case measure => rw [G.out]; omega
      · have gdec := hgood.dec
        have gsz := good_size hgood
        have gn1 := hgood.n1
        have gn4 := hgood.n4
        have gle := hgood.le
        have ghigh := hgood.high
        have gff : c = 65533 → n = 3 ∧ l.take 3 = [239, 191, 189] := fun h => by subst h; exact fffd hgood
        rw [gdec] at hnx hacc
        simp only at hnx hacc
        have hit2 := hit2 n
        have hbw2 := hbw2 n
        obtain ⟨W0, hW0⟩ : ∃ W0, W0 = wr.iterAt w.heap.size s (pos + n) := ⟨_, rfl⟩
        rw [← hW0] at hit2 hbw2 hnx
        obtain ⟨pc, hpc⟩ : ∃ pc, pc = piece c n l := ⟨_, rfl⟩
        rw [← hpc] at hacc
        have HA := Lib.hid hacc
        have HLL := Lib.hid hll
        have HIt := Lib.hid hit2
        have H3 := Lib.hid h3
        have hpn : pos + n ≤ s.size := by omega
        have hnb : ¬ (c = 65533 ∧ n = 1) := by
          rintro ⟨rfl, rfl⟩; exact absurd (ghigh (by omega)).1 (by omega)
        have GS := Lib.hid gsz
        have kq : ¬ (9223372036854775807 < q.size + 2) := by omega
        have kq3 : ¬ (9223372036854775807 < q.size + n) := by omega
        clear hit hit2 hacc hll hgood hW0 gdec ghigh gle h3 gsz
        by_cases cff : c = 65533
        · obtain ⟨f1, f2⟩ := gff cff
          have c2 : (pos : Int) + 2 < (s.size : Int) := by omega
          have k3 : ((s.extract pos (pos + 3)).toList == [239, 191, 189]) = true := by
            rw [beq_iff_eq, toL, H3.out 3, f2]
          have kf : ((c : Int) == 65533) = true := by rw [cff]; rfl
          have c92' : ((c : Int) == 92) = false := by rw [cff]; rfl
          have hp2 : pc = l.take n := by rw [hpc, cff]; unfold piece; rw [if_neg (by omega), if_neg (by omega), if_pos (.inr (by omega))]
          have HPc := Lib.hid hp2
          have p1 : (32 : Int) ≤ (c : Int) := by omega
          have p2 : ¬ (c : Int) ≤ 126 := by omega
          have p3 : (160 : Int) ≤ (c : Int) := by omega
          clear hpc hp2 hnb cff f1 f2 gff
          go_wp2_with fail
          refine (HS.out c _).mono ?_; rintro e W1 ⟨rfl, hd1⟩
          have HIt := Lib.hid (heap_bl HIt.out (.of_dr hd1))
          have hbw2 : Bl w W1 := Bl.dr hbw2 hd1
          rw [GS.out]
          clear hd1
          go_wp2_with fail
          go_roundg (s.size - (pos + n))
          case rel =>
            refine ⟨_, pos + n, f, acc ++ pc, rfl, ?_, HIt.out, hbw2, ?_, by omega, ?_, hpn, rfl⟩
            · rw [HPc.out, ← H3.out n]; exact cat_of HQ.out
            · rw [← HA.out, HDL.out, List.drop_drop, List.append_assoc]
            · rw [List.length_append, HPc.out]; have := List.length_take_le n l; omega
          case measure => rw [G.out]; omega
        · have kf : ((c : Int) == 65533) = false := by rw [beq_eq_false_iff_ne]; omega
          clear gff cff
          by_cases c92 : c = 92
          · have hp2 : pc = [92, 92] := by rw [hpc, c92]; rfl
            have c92' : ((c : Int) == 92) = true := by rw [c92]; rfl
            have HPc := Lib.hid hp2
            clear hpc hp2 hnb c92
            go_wp2_with fail
            refine (HS.out c _).mono ?_; rintro e W1 ⟨rfl, hd1⟩
            have HIt := Lib.hid (heap_bl HIt.out (.of_dr hd1))
            have hbw2 : Bl w W1 := Bl.dr hbw2 hd1
            rw [GS.out]
            clear hd1
            go_wp2_with fail
            go_roundg (s.size - (pos + n))
            case rel =>
              refine ⟨_, pos + n, f, acc ++ pc, rfl, ?_, HIt.out, hbw2, ?_, by omega, ?_, hpn, rfl⟩
              · rw [HPc.out]; exact cat_of HQ.out
              · rw [← HA.out, HDL.out, List.drop_drop, List.append_assoc]
              · rw [List.length_append, HPc.out]; simp; omega
            case measure => rw [G.out]; omega
          · have c92' : ((c : Int) == 92) = false := by rw [beq_eq_false_iff_ne]; omega
            by_cases cp : 32 ≤ c ∧ c ≤ 126
            · have hp2 : pc = l.take n := by rw [hpc]; unfold piece; rw [if_neg hnb, if_neg c92, if_pos (.inl cp)]
              have HPc := Lib.hid hp2
              have p1 : (32 : Int) ≤ (c : Int) := by omega
              have p2 : (c : Int) ≤ 126 := by omega
              clear hpc hp2 hnb c92
              go_wp2_with fail
              refine (HS.out c _).mono ?_; rintro e W1 ⟨rfl, hd1⟩
              have HIt := Lib.hid (heap_bl HIt.out (.of_dr hd1))
              have hbw2 : Bl w W1 := Bl.dr hbw2 hd1
              rw [GS.out]
              clear hd1
              go_wp2_with fail
              go_roundg (s.size - (pos + n))
              case rel =>
                refine ⟨_, pos + n, f, acc ++ pc, rfl, ?_, HIt.out, hbw2, ?_, by omega, ?_, hpn, rfl⟩
                · rw [HPc.out, ← H3.out n]; exact cat_of HQ.out
                · rw [← HA.out, HDL.out, List.drop_drop, List.append_assoc]
                · rw [List.length_append, HPc.out]; have := List.length_take_le n l; omega
              case measure => rw [G.out]; omega
            · by_cases cq : 160 ≤ c
              · have hp2 : pc = l.take n := by rw [hpc]; unfold piece; rw [if_neg hnb, if_neg c92, if_pos (.inr cq)]
                have HPc := Lib.hid hp2
                have p1 : (32 : Int) ≤ (c : Int) := by omega
                have p2 : ¬ (c : Int) ≤ 126 := by omega
                have p3 : (160 : Int) ≤ (c : Int) := by omega
                clear hpc hp2 hnb c92
                go_wp2_with fail
                refine (HS.out c _).mono ?_; rintro e W1 ⟨rfl, hd1⟩
                have HIt := Lib.hid (heap_bl HIt.out (.of_dr hd1))
                have hbw2 : Bl w W1 := Bl.dr hbw2 hd1
                rw [GS.out]
                clear hd1
                go_wp2_with fail
                go_roundg (s.size - (pos + n))
                case rel =>
                  refine ⟨_, pos + n, f, acc ++ pc, rfl, ?_, HIt.out, hbw2, ?_, by omega, ?_, hpn, rfl⟩
                  · rw [HPc.out, ← H3.out n]; exact cat_of HQ.out
                  · rw [← HA.out, HDL.out, List.drop_drop, List.append_assoc]
                  · rw [List.length_append, HPc.out]; have := List.length_take_le n l; omega
                case measure => rw [G.out]; omega
              · have hp2 : pc = (l.take n).flatMap escB := by rw [hpc]; unfold piece; rw [if_neg hnb, if_neg c92, if_neg (by omega)]
                have HPc := Lib.hid hp2
                have p3 : ¬ (160 : Int) ≤ (c : Int) := by omega
                clear hpc hp2 hnb c92
                by_cases c32 : (32 : Int) ≤ (c : Int)
                · have p2 : ¬ (c : Int) ≤ 126 := by omega
                  go_wp2_with fail
                  refine (HS.out c _).mono ?_; rintro e W1 ⟨rfl, hd1⟩
                  have HIt := Lib.hid (heap_bl HIt.out (.of_dr hd1))
                  have hbw2 : Bl w W1 := Bl.dr hbw2 hd1
                  rw [GS.out]
                  clear hd1
                  go_wp2_with fail
                  go_loopg [3, 7] n (fun g2 v i wi => ∃ (q : ByteArray) (j : Nat), v = .string q ∧ q = ⟨(acc ++ (l.take j).flatMap escB).toArray⟩ ∧ i = .int .i64 ((pos + j : Nat) : Int) ∧ j ≤ n ∧ wi.heap[w.heap.size]? = some (.stringIter s (pos + n)) ∧ Bl w wi ∧ g2 = n - j)
                  case atStart => exact ⟨q, 0, rfl, by rw [HQ.out]; simp, rfl, by omega, HIt.out, hbw2, rfl⟩
                  case round =>
                    obtain ⟨q, j, rfl, hq, rfl, hj, hit3, hbw3, hg3⟩ := hrel
                    have hqs : q.size ≤ 1000 := by
                      have h1 := escs_len (l.take j)
                      have h2 := List.length_take_le j l
                      rw [hq]; show List.length (acc ++ (l.take j).flatMap escB) ≤ _
                      rw [List.length_append]; omega
                    have HQ := Lib.hid hq
                    have G3 := Lib.hid hg3
                    have HIt3 := Lib.hid hit3
                    clear hg3 hit3 hq
                    by_cases hlt : j < n
                    · have hps3 : pos + j < s.size := by omega
                      have hlx : l[j]? = some (s[pos + j]) := by rw [HDL.out, List.getElem?_drop, List.getElem?_eq_getElem (by simpa using hps3)]; rfl
                      have HLX := Lib.hid hlx
                      have hx256 := (s[pos + j]).toNat_lt
                      have e1 : (s[pos + j].toNat : Int) / 16 < 16 := by omega
                      have e2 : (0 : Int) ≤ (s[pos + j].toNat : Int) / 16 := by omega
                      have e3 : (s[pos + j].toNat : Int) % 16 < 16 := by omega
                      have e4 : (0 : Int) ≤ (s[pos + j].toNat : Int) % 16 := by omega
                      have e5 : IntKind.u8.wrap ((s[pos + j].toNat : Int) / 16) = (s[pos + j].toNat : Int) / 16 := by simp [IntKind.wrap, IntKind.bits, IntKind.signed]; omega
                      have e6 : ((s[pos + j].toNat : Int) / 16).toNat = s[pos + j].toNat / 16 := by omega
                      have e7 : ((s[pos + j].toNat : Int) % 16).toNat = s[pos + j].toNat % 16 := by omega
                      have k4 : ((pos + j : Nat) : Int) < (s.size : Int) := by omega
                      have k5 : (0 : Int) ≤ ((pos + j : Nat) : Int) := by omega
                      have k6 : (pos : Int) + (j : Int) < (s.size : Int) := by omega
                      have k7 : (0 : Int) ≤ (pos : Int) + (j : Int) := by omega
                      have k8 : ((pos : Int) + (j : Int)).toNat = pos + j := by omega
                      have kq : ¬ (9223372036854775807 < q.size + 2) := by omega
                      have kq2 : ¬ (9223372036854775807 < q.size + 2 + 2) := by omega
                      clear hlx
                      go_wp2_with fail
                      go_region
                      go_wp2_with fail
                      go_roundg (n - (j + 1))
                      case rel => exact ⟨_, j + 1, rfl, esc_cat HQ.out HLX.out, by go_num, by omega, heap_bl HIt3.out (((Bl.refl _).alloc _).drew), (Bl.alloc hbw3 _).drew, rfl⟩
                      case measure => rw [G3.out]; omega
                    · have hjm : n = j := by omega
                      subst hjm
                      go_wp2_with fail
                      go_roundg (s.size - (pos + n))
                      case rel =>
                        refine ⟨q, pos + n, f, acc ++ pc, rfl, by rw [HQ.out, HPc.out], HIt3.out, hbw3, ?_, by omega, ?_, by omega, rfl⟩
                        · rw [← HA.out, HDL.out, List.drop_drop, List.append_assoc]
                        · rw [List.length_append, HPc.out, escs_len]; have := List.length_take_le n l; omega
                      case measure => rw [G.out]; omega
                · go_wp2_with fail
                  refine (HS.out c _).mono ?_; rintro e W1 ⟨rfl, hd1⟩
                  have HIt := Lib.hid (heap_bl HIt.out (.of_dr hd1))
                  have hbw2 : Bl w W1 := Bl.dr hbw2 hd1
                  rw [GS.out]
                  clear hd1
                  go_wp2_with fail
                  go_loopg [3, 7] n (fun g2 v i wi => ∃ (q : ByteArray) (j : Nat), v = .string q ∧ q = ⟨(acc ++ (l.take j).flatMap escB).toArray⟩ ∧ i = .int .i64 ((pos + j : Nat) : Int) ∧ j ≤ n ∧ wi.heap[w.heap.size]? = some (.stringIter s (pos + n)) ∧ Bl w wi ∧ g2 = n - j)
                  case atStart => exact ⟨q, 0, rfl, by rw [HQ.out]; simp, rfl, by omega, HIt.out, hbw2, rfl⟩
                  case round =>
                    obtain ⟨q, j, rfl, hq, rfl, hj, hit3, hbw3, hg3⟩ := hrel
                    have hqs : q.size ≤ 1000 := by
                      have h1 := escs_len (l.take j)
                      have h2 := List.length_take_le j l
                      rw [hq]; show List.length (acc ++ (l.take j).flatMap escB) ≤ _
                      rw [List.length_append]; omega
                    have HQ := Lib.hid hq
                    have G3 := Lib.hid hg3
                    have HIt3 := Lib.hid hit3
                    clear hg3 hit3 hq
                    by_cases hlt : j < n
                    · have hps3 : pos + j < s.size := by omega
                      have hlx : l[j]? = some (s[pos + j]) := by rw [HDL.out, List.getElem?_drop, List.getElem?_eq_getElem (by simpa using hps3)]; rfl
                      have HLX := Lib.hid hlx
                      have hx256 := (s[pos + j]).toNat_lt
                      have e1 : (s[pos + j].toNat : Int) / 16 < 16 := by omega
                      have e2 : (0 : Int) ≤ (s[pos + j].toNat : Int) / 16 := by omega
                      have e3 : (s[pos + j].toNat : Int) % 16 < 16 := by omega
                      have e4 : (0 : Int) ≤ (s[pos + j].toNat : Int) % 16 := by omega
                      have e5 : IntKind.u8.wrap ((s[pos + j].toNat : Int) / 16) = (s[pos + j].toNat : Int) / 16 := by simp [IntKind.wrap, IntKind.bits, IntKind.signed]; omega
                      have e6 : ((s[pos + j].toNat : Int) / 16).toNat = s[pos + j].toNat / 16 := by omega
                      have e7 : ((s[pos + j].toNat : Int) % 16).toNat = s[pos + j].toNat % 16 := by omega
                      have k4 : ((pos + j : Nat) : Int) < (s.size : Int) := by omega
                      have k5 : (0 : Int) ≤ ((pos + j : Nat) : Int) := by omega
                      have k6 : (pos : Int) + (j : Int) < (s.size : Int) := by omega
                      have k7 : (0 : Int) ≤ (pos : Int) + (j : Int) := by omega
                      have k8 : ((pos : Int) + (j : Int)).toNat = pos + j := by omega
                      have kq : ¬ (9223372036854775807 < q.size + 2) := by omega
                      have kq2 : ¬ (9223372036854775807 < q.size + 2 + 2) := by omega
                      clear hlx
                      go_wp2_with fail
                      go_region
                      go_wp2_with fail
                      go_roundg (n - (j + 1))
                      case rel => exact ⟨_, j + 1, rfl, esc_cat HQ.out HLX.out, by go_num, by omega, heap_bl HIt3.out (((Bl.refl _).alloc _).drew), (Bl.alloc hbw3 _).drew, rfl⟩
                      case measure => rw [G3.out]; omega
                    · have hjm : n = j := by omega
                      subst hjm
                      go_wp2_with fail
                      go_roundg (s.size - (pos + n))
                      case rel =>
                        refine ⟨q, pos + n, f, acc ++ pc, rfl, by rw [HQ.out, HPc.out], HIt3.out, hbw3, ?_, by omega, ?_, by omega, rfl⟩
                        · rw [← HA.out, HDL.out, List.drop_drop, List.append_assoc]
                        · rw [List.length_append, HPc.out, escs_len]; have := List.length_take_le n l; omega
                      case measure => rw [G.out]; omega
    · have hnx : ∀ ty, (Instr.next (.pointer (some ⟨w.heap.size, 0, none⟩)) true ty).run Tryd.prog wr = _ := fun ty => Lib.run_next_end_at wr w.heap.size s pos ty hit hp
      have hRa : R = acc := by
        rw [← HA.out]
        have : s.data.toList.drop pos = [] := List.drop_of_length_le (by simp; omega)
        rw [this, showG_nil, List.append_nil]
      have HRa := Lib.hid hRa
      clear hRa
      go_wp2_with fail
      go_ret
      exact RB.mk (sval (by rw [HRa.out, HQ.out])) hbw
end Go.Proofs.YtldccffbjohokaaDoor

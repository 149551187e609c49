
/-
  Contracts of words: Join.
-/
import Derived.Test.YtfjdcfmoodlnaaaGreatDoorWoR
import Derived.Test.YtfjdcfmoodlnaaaGreatDoorWoK
import Derived.Test.YtfjdcfmoodlnaaaGreatDoorWoF
import Derived.Lib.Join
namespace Go.Proofs.YtfjdcfmoodlnaaaGreatDoor
open Go.RowKit
set_option linter.unusedSimpArgs false
set_option linter.unusedVariables false
set_option maxRecDepth 100000

def wjoin (l : List Fld) : List UInt8 × Int := if 64 < l.length then ([], 3) else if tooL l = true then ([], 3) else if l.all Fld.val = false then ([], 6) else if 8192 < (joinW l).length then ([], 3) else (joinW l, 0)
theorem join_is : ∀ l : List Fld, Lib.join (l.map Fld.txt) [32] = joinW l
  | [] => rfl
  | [f] => by simp [Lib.join_one, joinW]
  | f :: g :: l => by
    have ih := join_is (g :: l)
    rw [List.map_cons, Lib.join_cons] at ih ⊢
    rw [List.map_cons, Lib.joinTail, List.map_cons, List.flatten_cons]
    rw [Lib.joinTail] at ih
    simp only [joinW]
    rw [← ih]; simp
theorem quote_len (l : List UInt8) : (quoteW l).length ≤ 4 * l.length + 2 := by
  have := escs_len l
  unfold quoteW
  simp only [List.length_cons, List.length_append, List.length_nil]; omega
theorem txt_len {f : Fld} (h : f.s.length ≤ 2000) : f.txt.length ≤ 8002 := by
  unfold Fld.txt
  split
  · have := quote_len f.s; omega
  · omega
theorem join_len : ∀ l : List Fld, (∀ f ∈ l, f.s.length ≤ 2000) → (joinW l).length ≤ 8003 * l.length
  | [], _ => by simp [joinW]
  | [f], h => by have := txt_len (h f (by simp)); simp [joinW]; omega
  | f :: g :: l, h => by
    have h1 := txt_len (h f (by simp))
    have h2 := join_len (g :: l) (fun x hx => h x (by simp [hx]))
    simp only [joinW, List.length_append, List.length_cons] at h2 ⊢
    omega
theorem tooL_at {l : List Fld} {k : Nat} {x : Fld} (h : l[k]? = some x) (hx : 2000 < x.s.length) : tooL l = true := by
  unfold tooL; rw [List.any_eq_true]; exact ⟨x, List.mem_of_getElem? h, by simpa using hx⟩
theorem tooL_no {l : List Fld} (h : ∀ (j : Nat) x, l[j]? = some x → x.s.length ≤ 2000) : tooL l = false := by
  unfold tooL; rw [List.any_eq_false]
  intro x hx
  obtain ⟨j, hj, rfl⟩ := List.getElem_of_mem hx
  have := h j _ (List.getElem?_eq_getElem hj)
  simp; omega
def txtV (f : Fld) : Value := .string ⟨f.txt.toArray⟩
theorem take_map_step {l : List Fld} {k : Nat} {x : Fld} (h : l[k]? = some x) : (l.map txtV).take (k + 1) = (l.map txtV).take k ++ [txtV x] := by
  obtain ⟨hk, hz⟩ := List.getElem?_eq_some_iff.1 h
  rw [← List.map_take, ← List.map_take, List.take_succ_eq_append_getElem hk, hz]; simp
theorem take_all_step {l : List Fld} {k : Nat} {x : Fld} (h : l[k]? = some x) : (l.take (k + 1)).all Fld.val = ((l.take k).all Fld.val && x.val) := by
  obtain ⟨hk, hz⟩ := List.getElem?_eq_some_iff.1 h
  rw [List.take_succ_eq_append_getElem hk, hz]; simp
set_option maxHeartbeats 8000000 in
theorem woJoin (a : Option Addr) (c : Nat) (l : List Fld) (w : World) (hE : EscTab w) (hF : Flds w a l) (hln : l.length ≤ maxLen) : Calls Tryz.prog 17 #[.slice a l.length c] w (RB w (.tuple #[.string ⟨(wjoin l).1.toArray⟩, .int .i64 (wjoin l).2])) := by
  obtain ⟨i0, hi, hz0, hz1, hz2⟩ := info_parts inf_string
  obtain ⟨res, hres⟩ : ∃ r, wjoin l = r := ⟨_, rfl⟩
  rw [hres]
  unfold wjoin at hres
  by_cases h64 : 64 < l.length
  · rw [if_pos h64] at hres
    subst hres
    have i1 : (64 : Int) < (l.length : Int) := by omega
    clear hE hF h64
    go_enter Tryz.func17, Tryz.ntmps17
    go_wp2_with fail
    go_ret2
    exact rb_tuple rfl rfl (by repeat (first | assumption | exact Bl.refl _ | apply Bl.drewN | apply Bl.drew | apply Bl.alloc | (refine Bl.dr ?_ (by assumption)) | (refine Bl.trans ?_ (by assumption))))
  · rw [if_neg h64] at hres
    have i1 : ¬ (64 : Int) < (l.length : Int) := by omega
    have hl64 : l.length ≤ 64 := by omega
    have HR := Lib.hid hres
    have HE := Lib.hid hE
    have HF := Lib.hid hF
    clear hres hE hF hln
    go_enter Tryz.func17, Tryz.ntmps17
    go_wp2_with fail
    go_loopg [4, 5, 15] l.length (fun g f v i wr => ∃ k : Nat, k ≤ l.length ∧ i = .int .i64 k ∧ f = .int .i64 (fmV ((l.take k).all Fld.val)) ∧ wr.ownsRow w.heap.size 9 1 v k ((l.map txtV).take k) ∧ (∀ (j : Nat) x, j < k → l[j]? = some x → x.s.length ≤ 2000) ∧ Bl w wr ∧ g = l.length - k)
    case atStart => exact ⟨0, by omega, rfl, rfl, own_nil _ _ _ _, by intro j x hj; omega, Bl.refl _, rfl⟩
    case round =>
      obtain ⟨k, hk, rfl, rfl, hown, hno, hbw, hg⟩ := hrel
      have G := Lib.hid hg
      have HO := Lib.hid hown
      have HNo := Lib.hid hno
      clear hg hown hno
      by_cases hkl : k < l.length
      · obtain ⟨b, off, rfl, hat⟩ := (HF.out.bl hbw).get hkl
        obtain ⟨x, hx⟩ : ∃ x, l[k]? = some x := ⟨_, List.getElem?_eq_getElem hkl⟩
        obtain ⟨d0, d1⟩ := hat k x hx
        have j0 : (0 : Int) ≤ (k : Int) := by omega
        have j1 : (k : Int) < (l.length : Int) := by omega
        obtain ⟨xs, hxs⟩ : ∃ xs : ByteArray, (⟨x.s.toArray⟩ : ByteArray) = xs := ⟨_, rfl⟩
        have hxl : xs.size = x.s.length := by rw [← hxs]; rfl
        have hxd : xs.data.toList = x.s := by rw [← hxs]
        rw [hxs] at d0
        have HX := Lib.hid hx
        by_cases hlong : 2000 < xs.size
        · have t1 : (2000 : Int) < (xs.size : Int) := by omega
          have hr := HR.out
          rw [if_pos (tooL_at hx (by omega))] at hr
          subst hr
          clear hat hx hxs hxl hxd hlong
          go_wp2_with fail
          go_ret2
          exact rb_tuple rfl rfl (by repeat (first | assumption | exact Bl.refl _ | apply Bl.drewN | apply Bl.drew | apply Bl.alloc | (refine Bl.dr ?_ (by assumption)) | (refine Bl.trans ?_ (by assumption))))
        · have t1 : ¬ (2000 : Int) < (xs.size : Int) := by omega
          have hno2 : ∀ (j : Nat) y, j < k + 1 → l[j]? = some y → y.s.length ≤ 2000 := by
            intro j y hj hy
            by_cases e : j = k
            · subst e; rw [hx] at hy; injection hy with hy; subst hy; omega
            · exact HNo.out j y (by omega) hy
          have HN2 := Lib.hid hno2
          have hstep := take_all_step hx
          have hownB := own_bl HO.out ((Bl.refl wr).alloc (.cells #[.string xs, .bool x.q] 47))
          have hbB : Bl w (wr.alloc (.cells #[.string xs, .bool x.q] 47)) := hbw.alloc _
          have HOB := Lib.hid hownB
          cases hq : x.q with
          | true =>
            have hQ := fun w h => woQuote xs (by omega) w h
            rw [hxd] at hQ
            have hv : txtV x = .string ⟨(quoteW x.s).toArray⟩ := by unfold txtV Fld.txt; rw [hq]; rfl
            have hvl : x.val = true := by unfold Fld.val; rw [hq]; rfl
            rw [hvl, Bool.and_true] at hstep
            obtain ⟨qs, hqs⟩ : ∃ qs : ByteArray, (⟨(quoteW x.s).toArray⟩ : ByteArray) = qs := ⟨_, rfl⟩
            rw [hqs] at hQ hv
            rw [hq] at d1 HOB hbB
            have HQ := Lib.hid hQ
            have HV := Lib.hid hv
            have HS := Lib.hid hstep
            clear hat hx hxs hxl hxd hno2 hstep hownB hQ hv hqs hvl hlong hq
            go_wp2_with fail
            refine (HQ.out _ (HE.out.bl hbB)).mono ?_; rintro e wA ⟨rfl, hbx⟩
            have hownA := own_bl HOB.out hbx
            have hbA : Bl w wA := hbB.trans hbx
            have hszA := hbA.size
            clear hbx hbB
            go_wp2_with (at_builtin; refine wpList_append_own _ rfl _ _ 61 rfl w.heap.size 9 i0 (.string ⟨#[]⟩) 1 16 Tryz.underlying61 hi hz0 hz1 hz2 rfl (by decide) _ _ _ rfl (hownA.alloc _) ⟨wA.heap.size, 0, none⟩ 1 1 [.string qs] rfl rfl ?c1 ?c2 ?c3 ?c4 ?c5 ?_)
            case c1 => exact multi_new _ _ _
            case c2 => intro u hu; simp at hu; subst hu; rfl
            case c3 => unfold maxLen; omega
            case c4 => omega
            case c5 => simp; omega
            intro v' w3 hown2 hgrow _
            have hb3 := grown_bl (hbA.alloc _) (hownA.alloc _) hgrow (Nat.le_refl _)
            have hown3 : w3.ownsRow w.heap.size 9 1 v' (k + 1) ((l.map txtV).take (k + 1)) := by
              rw [take_map_step HX.out, show txtV x = .string qs from HV.out]; exact hown2
            have HW := Lib.hid hown3
            clear hown2 hown3 hgrow hownA hbA
            go_wp2_with fail
            go_roundg (l.length - (k + 1))
            case rel => exact ⟨k + 1, by omega, by go_num, (by rw [HS.out]), HW.out, HN2.out, hb3, rfl⟩
            case measure => rw [G.out]; omega
          | false =>
            have hB := fun w => woBare xs (by omega) w
            rw [hxd] at hB
            have hv : txtV x = .string xs := by unfold txtV Fld.txt; rw [hq, ← hxs]; rfl
            have hvl : x.val = bareW x.s := by unfold Fld.val; rw [hq]; rfl
            rw [hvl] at hstep
            rw [hq] at d1 HOB hbB
            have HV := Lib.hid hv
            cases hbb : bareW x.s with
            | true =>
              rw [hbb] at hB hstep
              rw [Bool.and_true] at hstep
              have HBr := Lib.hid hB
              have HS := Lib.hid hstep
              clear hat hx hxs hxl hxd hno2 hstep hownB hB hv hvl hlong hq hbb
              go_wp2_with fail
              refine (HBr.out _).mono ?_; rintro e wA ⟨rfl, hbx⟩
              have hownA := own_bl HOB.out hbx
              have hbA : Bl w wA := hbB.trans hbx
              have hszA := hbA.size
              clear hbx hbB
              go_wp2_with (at_builtin; refine wpList_append_own _ rfl _ _ 61 rfl w.heap.size 9 i0 (.string ⟨#[]⟩) 1 16 Tryz.underlying61 hi hz0 hz1 hz2 rfl (by decide) _ _ _ rfl (hownA.alloc _) ⟨wA.heap.size, 0, none⟩ 1 1 [.string xs] rfl rfl ?c1 ?c2 ?c3 ?c4 ?c5 ?_)
              case c1 => exact multi_new _ _ _
              case c2 => intro u hu; simp at hu; subst hu; rfl
              case c3 => unfold maxLen; omega
              case c4 => omega
              case c5 => simp; omega
              intro v' w3 hown2 hgrow _
              have hb3 := grown_bl (hbA.alloc _) (hownA.alloc _) hgrow (Nat.le_refl _)
              have hown3 : w3.ownsRow w.heap.size 9 1 v' (k + 1) ((l.map txtV).take (k + 1)) := by
                rw [take_map_step HX.out, show txtV x = .string xs from HV.out]; exact hown2
              have HW := Lib.hid hown3
              clear hown2 hown3 hgrow hownA hbA
              go_wp2_with fail
              go_roundg (l.length - (k + 1))
              case rel => exact ⟨k + 1, by omega, by go_num, (by rw [HS.out]), HW.out, HN2.out, hb3, rfl⟩
              case measure => rw [G.out]; omega
            | false =>
              rw [hbb] at hB hstep
              rw [Bool.and_false] at hstep
              have HBr := Lib.hid hB
              have HS := Lib.hid hstep
              clear hat hx hxs hxl hxd hno2 hstep hownB hB hv hvl hlong hq hbb
              go_wp2_with fail
              refine (HBr.out _).mono ?_; rintro e wA ⟨rfl, hbx⟩
              have hownA := own_bl HOB.out hbx
              have hbA : Bl w wA := hbB.trans hbx
              have hszA := hbA.size
              clear hbx hbB
              go_wp2_with (at_builtin; refine wpList_append_own _ rfl _ _ 61 rfl w.heap.size 9 i0 (.string ⟨#[]⟩) 1 16 Tryz.underlying61 hi hz0 hz1 hz2 rfl (by decide) _ _ _ rfl (hownA.alloc _) ⟨wA.heap.size, 0, none⟩ 1 1 [.string xs] rfl rfl ?c1 ?c2 ?c3 ?c4 ?c5 ?_)
              case c1 => exact multi_new _ _ _
              case c2 => intro u hu; simp at hu; subst hu; rfl
              case c3 => unfold maxLen; omega
              case c4 => omega
              case c5 => simp; omega
              intro v' w3 hown2 hgrow _
              have hb3 := grown_bl (hbA.alloc _) (hownA.alloc _) hgrow (Nat.le_refl _)
              have hown3 : w3.ownsRow w.heap.size 9 1 v' (k + 1) ((l.map txtV).take (k + 1)) := by
                rw [take_map_step HX.out, show txtV x = .string xs from HV.out]; exact hown2
              have HW := Lib.hid hown3
              clear hown2 hown3 hgrow hownA hbA
              go_wp2_with fail
              go_roundg (l.length - (k + 1))
              case rel => exact ⟨k + 1, by omega, by go_num, (by rw [HS.out]; rfl), HW.out, HN2.out, hb3, rfl⟩
              case measure => rw [G.out]; omega
      · obtain rfl : k = l.length := by omega
        have hall := fun j x hx => HNo.out j x (List.getElem?_eq_some_iff.1 hx).1 hx
        have hr := HR.out
        rw [if_neg (by rw [tooL_no hall]; simp)] at hr
        have hjl := join_len l (fun f hf => by obtain ⟨j, hj, rfl⟩ := List.getElem_of_mem hf; exact hall j _ (List.getElem?_eq_getElem hj))
        have hown := HO.out
        rw [List.take_of_length_le (by simp)] at hown
        rw [List.take_length]
        obtain ⟨oa, oc, rfl, hoc, hom, hform⟩ := own_form hown
        have hjoin : Calls Tryz.prog 43 #[.slice oa l.length oc, .string ⟨#[32]⟩] wr (RB wr (.string ⟨(joinW l).toArray⟩)) := by
          rcases Nat.eq_zero_or_pos l.length with h0 | h0
          · rw [h0, List.length_eq_zero_iff.1 h0]
            refine (Tryz.strings_Join_none oa oc ⟨#[32]⟩ wr).mono ?_
            rintro e w' ⟨rfl, rfl⟩
            exact ⟨rfl, Bl.refl _⟩
          · obtain ⟨gb, rfl, _, hgl, hcell⟩ := hform h0
            have hx := Tryz.strings_Join gb 0 oc (l.map fun f => (⟨f.txt.toArray⟩ : ByteArray)) ⟨#[32]⟩ wr (fun j x hj => by
              rw [Nat.zero_add]
              refine hcell j _ ?_
              rw [List.getElem?_map] at hj ⊢
              cases hl : l[j]? with
              | none => rw [hl] at hj; cases hj
              | some f => rw [hl] at hj; injection hj with hj; rw [← hj]; rfl) hgl (by simp; omega) (by simp; omega) (by
              rw [List.map_map, show ((fun s : ByteArray => s.data.toList) ∘ fun f : Fld => (⟨f.txt.toArray⟩ : ByteArray)) = Fld.txt from rfl]
              rw [show (⟨#[32]⟩ : ByteArray).data.toList = [32] from rfl, join_is]; omega)
            rw [List.map_map, show ((fun s : ByteArray => s.data.toList) ∘ fun f : Fld => (⟨f.txt.toArray⟩ : ByteArray)) = Fld.txt from rfl, show (⟨#[32]⟩ : ByteArray).data.toList = [32] from rfl, join_is, List.length_map] at hx
            exact hx.mono fun e w' h => h
        have HJ := Lib.hid hjoin
        obtain ⟨js, hjs⟩ : ∃ js : ByteArray, (⟨(joinW l).toArray⟩ : ByteArray) = js := ⟨_, rfl⟩
        have hjz : js.size = (joinW l).length := by rw [← hjs]; rfl
        rw [hjs] at HJ
        cases hv : l.all Fld.val with
        | false =>
          rw [if_pos hv] at hr
          subst hr
          have f1 : fmV false = 6 := rfl
          clear hown hjoin hform hall hjs hjz hv hjl
          go_wp2_with fail
          refine HJ.out.mono ?_; rintro e w3 ⟨rfl, hb3⟩
          go_wp2_with fail
          go_ret2
          exact rb_tuple rfl rfl (hbw.trans hb3)
        | true =>
          rw [if_neg (by rw [hv]; simp)] at hr
          have f1 : fmV true = 0 := rfl
          by_cases h8 : 8192 < js.size
          · rw [if_pos (by omega)] at hr
            subst hr
            have t2 : (8192 : Int) < (js.size : Int) := by omega
            clear hown hjoin hform hall hjs hjz hv hjl h8
            go_wp2_with fail
            refine HJ.out.mono ?_; rintro e w3 ⟨rfl, hb3⟩
            go_wp2_with fail
            go_ret2
            exact rb_tuple rfl rfl (hbw.trans hb3)
          · rw [if_neg (by omega)] at hr
            subst hr
            have t2 : ¬ (8192 : Int) < (js.size : Int) := by omega
            have HJS := Lib.hid hjs
            clear hown hjoin hform hall hjs hjz hv hjl h8
            go_wp2_with fail
            refine HJ.out.mono ?_; rintro e w3 ⟨rfl, hb3⟩
            go_wp2_with fail
            go_ret2
            exact rb_tuple (sval HJS.out.symm) rfl (hbw.trans hb3)
end Go.Proofs.YtfjdcfmoodlnaaaGreatDoor

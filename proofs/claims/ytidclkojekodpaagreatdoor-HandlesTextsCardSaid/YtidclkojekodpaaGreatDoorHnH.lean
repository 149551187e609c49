
/-
  Contracts of handles: Give.
-/
import Derived.Test.YtidclkojekodpaaGreatDoorHnE
import Derived.Test.YtidclkojekodpaaGreatDoorHnG
namespace Go.Proofs.YtidclkojekodpaaGreatDoor
open Go.RowKit
set_option linter.unusedSimpArgs false
set_option linter.unusedVariables false
set_option maxRecDepth 100000

/-- What Give leaves. -/
def Fr (B : Nat) (a : Option Addr) (t : Tb) : Prop := t.slots ≠ [] → ∀ ad, a = some ad → B ≤ ad.block
/-- A table as a result, in a block of the call's own. -/
def TbF (B : Nat) (t : Tb) (w : World) (v : Value) : Prop := ∃ a c, v = t.v a c ∧ TOk w a c t ∧ Fr B a t
/-- What Give leaves, with the row that is the call's own. -/
def TbO (B : Nat) (t : Tb) (w : World) (v : Value) : Prop := (t = tnil ∧ v = .agg #[.int .i64 0, .slice none 0 0]) ∨ (OwnT B t w v ∧ (∀ s, s ∈ t.slots → s.ok) ∧ -9223372036854775808 ≤ t.most ∧ t.most ≤ 9223372036854775807)
def GaveO (B : Nat) (r : Tb × (Int × Int) × Int) (w : World) (v : Value) : Prop := ∃ vt, v = .tuple #[vt, hv r.2.1, .int .i64 r.2.2] ∧ TbO B r.1 w vt
theorem ownT_base {B B' : Nat} {t : Tb} {w : World} {v : Value} (h : OwnT B t w v) (k : B' ≤ B) : OwnT B' t w v := by
  obtain ⟨s, rfl, hO⟩ := h
  exact ⟨s, rfl, own_base (show w.ownsRow _ _ _ _ _ _ from hO) k⟩
def GaveV (B : Nat) (r : Tb × (Int × Int) × Int) (w : World) (v : Value) : Prop := ∃ vt, v = .tuple #[vt, hv r.2.1, .int .i64 r.2.2] ∧ TbF B r.1 w vt
theorem TbF.mono {B B' : Nat} {t : Tb} {w : World} {v : Value} (h : TbF B t w v) (k : B' ≤ B) : TbF B' t w v := by
  obtain ⟨a, c, e, h1, h2⟩ := h
  exact ⟨a, c, e, h1, fun hn ad e => Nat.le_trans k (h2 hn ad e)⟩
theorem ownT_is {B : Nat} {t : Tb} {w : World} {v : Value} (h : OwnT B t w v) (ho : ∀ s, s ∈ t.slots → s.ok) (h1 : -9223372036854775808 ≤ t.most) (h2 : t.most ≤ 9223372036854775807) : TbF B t w v := by
  obtain ⟨s, rfl, hO⟩ := h
  obtain ⟨a, c, e, hS, hl, hc⟩ := own_slots hO ho
  obtain ⟨a', c', e', -, -, h3⟩ := own_form (show w.ownsRow _ _ _ _ _ _ from hO)
  subst e
  injection e' with e1 _ e2
  subst e1 e2
  refine ⟨a, c, rfl, ⟨hS, hl, hc, h1, h2⟩, fun hn ad e => ?_⟩
  obtain ⟨g, rfl, hg, _⟩ := h3 (List.length_pos_iff.2 hn)
  cases e; exact hg
theorem tbIs_nil (B : Nat) (w : World) : TbF B tnil w (.agg #[.int .i64 0, .slice none 0 0]) := ⟨none, 0, rfl, tnil_ok w, fun hn => absurd rfl hn⟩
theorem tbO_is {B : Nat} {t : Tb} {w : World} {v : Value} (h : TbO B t w v) : TbF B t w v := by
  rcases h with ⟨rfl, rfl⟩ | ⟨h1, h2, h3, h4⟩
  · exact tbIs_nil B w
  · exact ownT_is h1 h2 h3 h4
theorem TOk.set {w : World} {B c : Nat} {a : Option Addr} {t : Tb} (h : TOk w a c t) (hf : Fr B a t) {p : Addr} (hp : p.block < B) (v : Value) : TOk (w.setCell p v) a c t := by
  refine ⟨⟨h.slots.ok, fun hn => ?_⟩, h.len, h.cap, h.lo, h.hi⟩
  obtain ⟨b, off, rfl, hat⟩ := h.slots.at_ hn
  have hb := hf hn _ rfl
  have hne : p.block ≠ b := fun e => by simp at hb; omega
  have keep : ∀ (q : Addr), q.block = b → (w.setCell p v).cell? q = w.cell? q := fun q hq => World.cell?_of_block (w := w) (Below.heap_setCell _ _ _ _ (by rw [hq]; exact fun e => hne e.symm))
  exact ⟨b, off, rfl, fun i s hs => ⟨(keep _ rfl).trans (hat i s hs).1, (keep _ rfl).trans (hat i s hs).2⟩⟩
set_option maxHeartbeats 4000000 in
theorem giveBad (a : Option Addr) (c : Nat) (t : Tb) (w : World) (h : TOk w a c t) (e : (tchk t).2 ≠ 0) : Calls Tryz.prog 11 #[t.v a c] w (RM w (GaveO w.heap.size (tnil, (0, 0), (tchk t).2))) := by
  have hC := fun w h => hnCheck a c t w h
  have e' : ((tchk t).2 != 0) = true := by simpa using e
  obtain ⟨q, hq⟩ : ∃ q, (tchk t).2 = q := ⟨_, rfl⟩
  obtain ⟨p, hp⟩ : ∃ p, (tchk t).1 = p := ⟨_, rfl⟩
  rw [hq] at e e' hC ⊢
  rw [hp] at hC
  clear hq hp e
  have HC := Lib.hid hC
  clear hC
  
  have HO := Lib.hid h
  obtain ⟨mo, l⟩ := t
  have hs := h.slots
  have hc1 := h.len
  have hc2 := h.cap
  simp only at hs hc1
  unfold maxLen at hc2
  unfold Tb.v
  simp only
  clear h
  clear hs
  
  go_enter Tryz.func11, Tryz.ntmps11
  go_wp2_with fail
  refine (HC.out _ (HO.out.bl (by repeat (first | assumption | exact Bl.refl _ | apply Bl.drewN | apply Bl.drew | apply Bl.alloc | (refine Bl.dr ?_ (by assumption)) | (refine Bl.trans ?_ (by assumption)))))).mono ?_; rintro e w1 ⟨rfl, hb1⟩
  have hr : Mem w1 [(⟨w.heap.size, 0, none⟩, .int .i64 mo), (⟨w.heap.size, 1, none⟩, .slice a l.length c), (⟨w.heap.size + 1, 0, none⟩, .int .i64 0), (⟨w.heap.size + 1, 1, none⟩, .slice none 0 0), (⟨w.heap.size + 1 + 1, 0, none⟩, .int .i64 0), (⟨w.heap.size + 1 + 1, 1, none⟩, .int .i64 0)] := by
    refine Mem.bl ?_ hb1
    simp [Mem, go_sem]
  have hb : Bl w w1 := (by repeat (first | assumption | exact Bl.refl _ | apply Bl.drewN | apply Bl.drew | apply Bl.alloc | (refine Bl.dr ?_ (by assumption)) | (refine Bl.trans ?_ (by assumption))))
  have hs1 := hb1.size
  simp at hs1
  clear hb1
  have HR := Lib.hid hr
  
  have hm := hr
  simp only [Mem, VE, List.cons_append, List.nil_append, and_true] at hm
  clear hr
  go_wp2_with fail
  
  refine bodyPost_ret (v := .tuple #[.agg #[.int .i64 0, .slice none 0 0], .agg #[.int .i64 0, .int .i64 0], .int .i64 q]) (by simp [results, Tryz.results11, go_sem, *]) rfl ?_
  exact RM.mk ⟨_, rfl, (.inl ⟨rfl, rfl⟩)⟩ (by repeat (first | assumption | exact Bl.refl _ | apply Bl.drewN | apply Bl.drew | apply Bl.alloc | (refine Bl.setCell ?_ _ (by first | (simp; done) | (simp; omega)) _) | (refine Bl.dr ?_ (by assumption)) | (refine Bl.trans ?_ (by assumption))))
set_option maxHeartbeats 4000000 in
theorem giveFull (a : Option Addr) (c : Nat) (t : Tb) (w : World) (h : TOk w a c t) (e : (tchk t).2 = 0) (k : (sfree t.slots : Int) = t.most) : Calls Tryz.prog 11 #[t.v a c] w (RM w (GaveO w.heap.size (tnil, (0, 0), 5))) := by
  have hG := tchk_good e
  have hl16 : t.slots.length ≤ 5000 := by have := hG.len; have := hG.most2; omega
  have hC := fun w h => hnCheck a c t w h
  rw [good_tchk hG] at hC
  have hF := fun w h => hnFree a c t w h hl16
  have HC := Lib.hid hC
  have HF := Lib.hid hF
  clear hC hF hG e
  
  have HO := Lib.hid h
  obtain ⟨mo, l⟩ := t
  have hs := h.slots
  have hc1 := h.len
  have hc2 := h.cap
  simp only at hs hc1
  unfold maxLen at hc2
  unfold Tb.v
  simp only
  clear h
  clear hs
  simp only at k hl16
  obtain ⟨i, hi⟩ : ∃ i, sfree l = i := ⟨_, rfl⟩
  simp only at HF HC
  rw [hi] at k HF
  clear hi
  
  go_enter Tryz.func11, Tryz.ntmps11
  go_wp2_with fail
  refine (HC.out _ (HO.out.bl (by repeat (first | assumption | exact Bl.refl _ | apply Bl.drewN | apply Bl.drew | apply Bl.alloc | (refine Bl.dr ?_ (by assumption)) | (refine Bl.trans ?_ (by assumption)))))).mono ?_; rintro e w1 ⟨rfl, hb1⟩
  have hr : Mem w1 [(⟨w.heap.size, 0, none⟩, .int .i64 mo), (⟨w.heap.size, 1, none⟩, .slice a l.length c), (⟨w.heap.size + 1, 0, none⟩, .int .i64 0), (⟨w.heap.size + 1, 1, none⟩, .slice none 0 0), (⟨w.heap.size + 1 + 1, 0, none⟩, .int .i64 0), (⟨w.heap.size + 1 + 1, 1, none⟩, .int .i64 0)] := by
    refine Mem.bl ?_ hb1
    simp [Mem, go_sem]
  have hb : Bl w w1 := (by repeat (first | assumption | exact Bl.refl _ | apply Bl.drewN | apply Bl.drew | apply Bl.alloc | (refine Bl.dr ?_ (by assumption)) | (refine Bl.trans ?_ (by assumption))))
  have hs1 := hb1.size
  simp at hs1
  clear hb1
  have HR := Lib.hid hr
  
  have hm := hr
  simp only [Mem, VE, List.cons_append, List.nil_append, and_true] at hm
  clear hr
  go_wp2_with fail
  refine (HF.out _ (HO.out.bl hb)).mono ?_; rintro e w2 ⟨rfl, hb2⟩
  have hr := HR.out.bl hb2
  have hb3 : Bl w w2 := Bl.trans hb hb2
  have hs2 := hb2.size
  clear HR hm hb2 hb
  have hb := hb3
  clear hb3
  have HR := Lib.hid hr
  
  have hm := hr
  simp only [Mem, VE, List.cons_append, List.nil_append, and_true] at hm
  clear hr
  go_wp2_with fail
  
  refine bodyPost_ret (v := .tuple #[.agg #[.int .i64 0, .slice none 0 0], .agg #[.int .i64 0, .int .i64 0], .int .i64 5]) (by simp [results, Tryz.results11, go_sem, *]) rfl ?_
  exact RM.mk ⟨_, rfl, (.inl ⟨rfl, rfl⟩)⟩ (by repeat (first | assumption | exact Bl.refl _ | apply Bl.drewN | apply Bl.drew | apply Bl.alloc | (refine Bl.setCell ?_ _ (by first | (simp; done) | (simp; omega)) _) | (refine Bl.dr ?_ (by assumption)) | (refine Bl.trans ?_ (by assumption))))
set_option maxHeartbeats 4000000 in
theorem giveOld (a : Option Addr) (c : Nat) (t : Tb) (i : Nat) (z : Slot) (w : World) (h : TOk w a c t) (e : (tchk t).2 = 0) (k : sfree t.slots = i) (hi : t.slots[i]? = some z) (hne : ¬ (i : Int) = t.most)
    (R : Tb × (Int × Int) × Int) (hR1 : z.gen = 1000000000 → R = (tnil, (0, 0), 9)) (hR2 : ¬ z.gen = 1000000000 → R = (⟨t.most, t.slots.set i ⟨z.gen + 1, true⟩⟩, ((i : Int) + 1, z.gen + 1), 0)) :
    Calls Tryz.prog 11 #[t.v a c] w (RM w (GaveO w.heap.size R)) := by
  have hG := tchk_good e
  have hl16 : t.slots.length ≤ 16 := by have := hG.len; have := hG.most2; omega
  have hgz := hG.gens z (List.mem_of_getElem? hi)
  have hgs := hG.gens
  have hil := (List.getElem?_eq_some_iff.1 hi).1
  have hC := fun w h => hnCheck a c t w h
  rw [good_tchk hG] at hC
  have hF := fun w h => hnFree a c t w h (by omega)
  rw [k] at hF
  have hK := fun w h => hnCopied a c t w h (by omega)
  have hne' : ((i : Int) == t.most) = false := by rw [beq_eq_false_iff_ne]; exact hne
  have hm1 := hG.most1
  have hm2 := hG.most2
  have HC := Lib.hid hC
  have HF := Lib.hid hF
  have HK := Lib.hid hK
  have HG := Lib.hid hgs
  have HR1 := Lib.hid hR1
  have HR2 := Lib.hid hR2
  clear hC hF hK hG hgs e k hR1 hR2
  
  have HO := Lib.hid h
  obtain ⟨mo, l⟩ := t
  have hs := h.slots
  have hc1 := h.len
  have hc2 := h.cap
  simp only at hs hc1
  unfold maxLen at hc2
  unfold Tb.v
  simp only
  clear h
  clear hs
  simp only at hi hl16 HC HF HK hil hne' HG HR2 hm1 hm2
  
  go_enter Tryz.func11, Tryz.ntmps11
  go_wp2_with fail
  refine (HC.out _ (HO.out.bl (by repeat (first | assumption | exact Bl.refl _ | apply Bl.drewN | apply Bl.drew | apply Bl.alloc | (refine Bl.dr ?_ (by assumption)) | (refine Bl.trans ?_ (by assumption)))))).mono ?_; rintro e w1 ⟨rfl, hb1⟩
  have hr : Mem w1 [(⟨w.heap.size, 0, none⟩, .int .i64 mo), (⟨w.heap.size, 1, none⟩, .slice a l.length c), (⟨w.heap.size + 1, 0, none⟩, .int .i64 0), (⟨w.heap.size + 1, 1, none⟩, .slice none 0 0), (⟨w.heap.size + 1 + 1, 0, none⟩, .int .i64 0), (⟨w.heap.size + 1 + 1, 1, none⟩, .int .i64 0)] := by
    refine Mem.bl ?_ hb1
    simp [Mem, go_sem]
  have hb : Bl w w1 := (by repeat (first | assumption | exact Bl.refl _ | apply Bl.drewN | apply Bl.drew | apply Bl.alloc | (refine Bl.dr ?_ (by assumption)) | (refine Bl.trans ?_ (by assumption))))
  have hs1 := hb1.size
  simp at hs1
  clear hb1
  have HR := Lib.hid hr
  
  have hm := hr
  simp only [Mem, VE, List.cons_append, List.nil_append, and_true] at hm
  clear hr
  go_wp2_with fail
  refine (HF.out _ (HO.out.bl hb)).mono ?_; rintro e w2 ⟨rfl, hb2⟩
  have hr := HR.out.bl hb2
  have hb3 : Bl w w2 := Bl.trans hb hb2
  have hs2 := hb2.size
  clear HR hm hb2 hb
  have hb := hb3
  clear hb3
  have HR := Lib.hid hr
  
  have hm := hr
  simp only [Mem, VE, List.cons_append, List.nil_append, and_true] at hm
  clear hr
  go_wp2_with fail
  refine (HK.out _ (HO.out.bl hb)).mono ?_; rintro e w3 ⟨v, rfl, ⟨sv, rfl, hO⟩, hb2⟩
  have hr := HR.out.bl hb2
  have hb3 : Bl w w3 := Bl.trans hb hb2
  unfold OwnS at hO
  simp only at hO ⊢
  obtain ⟨ao, q, rfl, -, -, -⟩ := own_form hO
  have hsz3 := hb2.size
  clear HR hm hb2 hb
  have hm := hr
  simp only [Mem, and_true] at hm
  have hbS := (hb3.setCell ⟨w.heap.size + 1, 0, none⟩ (by simp) (.int .i64 mo)).setCell ⟨w.heap.size + 1, 1, none⟩ (by simp) (.slice ao l.length q)
  have hoS := own_set (own_set hO ⟨w.heap.size + 1, 0, none⟩ (by simp only; omega) (.int .i64 mo)) ⟨w.heap.size + 1, 1, none⟩ (by simp only; omega) (.slice ao l.length q)
  have hrS : Mem ((w3.setCell ⟨w.heap.size + 1, 0, none⟩ (.int .i64 mo)).setCell ⟨w.heap.size + 1, 1, none⟩ (.slice ao l.length q)) [(⟨w.heap.size, 0, none⟩, .int .i64 mo), (⟨w.heap.size, 1, none⟩, .slice a l.length c), (⟨w.heap.size + 1, 0, none⟩, .int .i64 mo), (⟨w.heap.size + 1, 1, none⟩, .slice ao l.length q), (⟨w.heap.size + 1 + 1, 0, none⟩, .int .i64 0), (⟨w.heap.size + 1 + 1, 1, none⟩, .int .i64 0)] := by simp [Mem, go_sem, hm]
  have hszS : w3.heap.size = ((w3.setCell ⟨w.heap.size + 1, 0, none⟩ (.int .i64 mo)).setCell ⟨w.heap.size + 1, 1, none⟩ (.slice ao l.length q)).heap.size := by simp
  have HOS := Lib.hid hoS
  have HRS := Lib.hid hrS
  clear hoS hrS hO hr
  go_upto_region 8 with fail
  clear hm hb3
  generalize (w3.setCell ⟨w.heap.size + 1, 0, none⟩ (.int .i64 mo)).setCell ⟨w.heap.size + 1, 1, none⟩ (.slice ao l.length q) = W at *
  obtain ⟨ad, cap, hv, -, -, h3⟩ := own_form HOS.out
  obtain ⟨g, rfl, hg1, hg2, hcells⟩ := h3 (by omega)
  injection hv with hv1 _ hv2
  subst hv1 hv2
  obtain ⟨k0, k1⟩ := slotCells_get l i z hi
  have c0 := hcells _ _ k0
  have c1 := hcells _ _ k1
  have f0 := HOS.out.frozenAt (i * 2)
  have f1 := HOS.out.frozenAt (i * 2 + 1)
  have hst := own_store HOS.out i ⟨z.gen + 1, true⟩
  have n1 : g ≠ w.heap.size + 1 := by omega
  have n2 : g ≠ w.heap.size + 1 + 1 := by omega
  have q1 : (0 : Int) ≤ ((i : Nat) : Int) := by omega
  have q2 : ((i : Nat) : Int) < ((l.length : Nat) : Int) := by omega
  have q3 : ((i : Int) == (l.length : Int)) = false := by rw [beq_eq_false_iff_ne]; omega
  have HST := Lib.hid hst
  clear hst hcells k0 k1 h3
  
  have hm := HRS.out
  simp only [Mem, VE, List.cons_append, List.nil_append, and_true] at hm
  by_cases g9 : z.gen = 1000000000
  · have hR := HR1.out g9
    rw [g9] at c0
    clear HST HR1 HR2
    subst hR
    go_wp2_with fail
    
    refine bodyPost_ret (v := .tuple #[.agg #[.int .i64 0, .slice none 0 0], .agg #[.int .i64 0, .int .i64 0], .int .i64 9]) (by simp [results, Tryz.results11, go_sem, *]) rfl ?_
    exact RM.mk ⟨_, rfl, (.inl ⟨rfl, rfl⟩)⟩ (by repeat (first | assumption | exact Bl.refl _ | apply Bl.drewN | apply Bl.drew | apply Bl.alloc | (refine Bl.setCell ?_ _ (by first | (simp; done) | (simp; omega)) _) | (refine Bl.dr ?_ (by assumption)) | (refine Bl.trans ?_ (by assumption))))
  · have hR := HR2.out g9
    clear HR1 HR2
    subst hR
    have q9 : (z.gen == 1000000000) = false := by rw [beq_eq_false_iff_ne]; exact g9
    have q8 : IntKind.i64.wrap (z.gen + 1) = z.gen + 1 := IntWalk.i64_in _ (by omega)
    have hrT := (HRS.out.off g (i * 2) (.int .i64 (z.gen + 1)) (by intro q hq; simp at hq; rcases hq with rfl | rfl | rfl | rfl | rfl | rfl <;> simp <;> omega)).off g (i * 2 + 1) (.bool true) (by intro q hq; simp at hq; rcases hq with rfl | rfl | rfl | rfl | rfl | rfl <;> simp <;> omega)
    have HRT := Lib.hid hrT
    have cT : ((W.setCell ⟨g, i * 2, none⟩ (.int .i64 (z.gen + 1))).setCell ⟨g, i * 2 + 1, none⟩ (.bool true)).cell? ⟨g, i * 2, none⟩ = some (.int .i64 (z.gen + 1)) := (oth _ _ (i * 2 + 1) (i * 2) _ (by omega)).trans (smc _ _ _ _ _ c0)
    have CT := Lib.hid cT
    have hbT := (hbS.setCell ⟨g, i * 2, none⟩ (by simp only; omega) (.int .i64 (z.gen + 1))).setCell ⟨g, i * 2 + 1, none⟩ (by simp only; omega) (.bool true)
    have hszT : W.heap.size = ((W.setCell ⟨g, i * 2, none⟩ (.int .i64 (z.gen + 1))).setCell ⟨g, i * 2 + 1, none⟩ (.bool true)).heap.size := by simp
    clear hrT cT
    go_upto_region 14 with fail
    clear hm c0 c1 f0 f1 hbS HOS HRS
    generalize (W.setCell ⟨g, i * 2, none⟩ (.int .i64 (z.gen + 1))).setCell ⟨g, i * 2 + 1, none⟩ (.bool true) = X at *
    
    have hm := HRT.out
    simp only [Mem, VE, List.cons_append, List.nil_append, and_true] at hm
    have c0 := CT.out
    go_region
    all_goals
      go_wp2_with fail
      have r0 : ((((X.setCell ⟨w.heap.size + 1, 0, none⟩ (.int .i64 mo)).setCell ⟨w.heap.size + 1, 1, none⟩ (.slice (some ⟨g, 0, none⟩) l.length q)).setCell ⟨w.heap.size + 1 + 1, 0, none⟩ (.int .i64 ((i : Nat) + 1))).setCell ⟨w.heap.size + 1 + 1, 1, none⟩ (.int .i64 (z.gen + 1))).cell? ⟨w.heap.size + 1, 0, none⟩ = some (.int .i64 mo) := by simp [go_sem, hm]
      have r1 : ((((X.setCell ⟨w.heap.size + 1, 0, none⟩ (.int .i64 mo)).setCell ⟨w.heap.size + 1, 1, none⟩ (.slice (some ⟨g, 0, none⟩) l.length q)).setCell ⟨w.heap.size + 1 + 1, 0, none⟩ (.int .i64 ((i : Nat) + 1))).setCell ⟨w.heap.size + 1 + 1, 1, none⟩ (.int .i64 (z.gen + 1))).cell? ⟨w.heap.size + 1, 1, none⟩ = some (.slice (some ⟨g, 0, none⟩) l.length q) := by simp [go_sem, hm]
      have r2 : ((((X.setCell ⟨w.heap.size + 1, 0, none⟩ (.int .i64 mo)).setCell ⟨w.heap.size + 1, 1, none⟩ (.slice (some ⟨g, 0, none⟩) l.length q)).setCell ⟨w.heap.size + 1 + 1, 0, none⟩ (.int .i64 ((i : Nat) + 1))).setCell ⟨w.heap.size + 1 + 1, 1, none⟩ (.int .i64 (z.gen + 1))).cell? ⟨w.heap.size + 1 + 1, 0, none⟩ = some (.int .i64 ((i : Nat) + 1)) := by simp [go_sem, hm]
      have r3 : ((((X.setCell ⟨w.heap.size + 1, 0, none⟩ (.int .i64 mo)).setCell ⟨w.heap.size + 1, 1, none⟩ (.slice (some ⟨g, 0, none⟩) l.length q)).setCell ⟨w.heap.size + 1 + 1, 0, none⟩ (.int .i64 ((i : Nat) + 1))).setCell ⟨w.heap.size + 1 + 1, 1, none⟩ (.int .i64 (z.gen + 1))).cell? ⟨w.heap.size + 1 + 1, 1, none⟩ = some (.int .i64 (z.gen + 1)) := by simp [go_sem, hm]
      have ho := own_set (own_set (own_set (own_set HST.out ⟨w.heap.size + 1, 0, none⟩ (by simp only; omega) (.int .i64 mo)) ⟨w.heap.size + 1, 1, none⟩ (by simp only; omega) (.slice (some ⟨g, 0, none⟩) l.length q)) ⟨w.heap.size + 1 + 1, 0, none⟩ (by simp only; omega) (.int .i64 ((i : Nat) + 1))) ⟨w.heap.size + 1 + 1, 1, none⟩ (by simp only; omega) (.int .i64 (z.gen + 1))
      have hbY := (((hbT.setCell ⟨w.heap.size + 1, 0, none⟩ (by simp only; omega) (.int .i64 mo)).setCell ⟨w.heap.size + 1, 1, none⟩ (by simp only; omega) (.slice (some ⟨g, 0, none⟩) l.length q)).setCell ⟨w.heap.size + 1 + 1, 0, none⟩ (by simp only; omega) (.int .i64 ((i : Nat) + 1))).setCell ⟨w.heap.size + 1 + 1, 1, none⟩ (by simp only; omega) (.int .i64 (z.gen + 1))
      clear hm c0 CT HST HRT hbT
      generalize (((X.setCell ⟨w.heap.size + 1, 0, none⟩ (.int .i64 mo)).setCell ⟨w.heap.size + 1, 1, none⟩ (.slice (some ⟨g, 0, none⟩) l.length q)).setCell ⟨w.heap.size + 1 + 1, 0, none⟩ (.int .i64 ((i : Nat) + 1))).setCell ⟨w.heap.size + 1 + 1, 1, none⟩ (.int .i64 (z.gen + 1)) = Y at *
      have HOY := Lib.hid ho
      clear ho
      refine bodyPost_ret (v := .tuple #[.agg #[.int .i64 mo, .slice (some ⟨g, 0, none⟩) l.length q], .agg #[.int .i64 ((i : Nat) + 1), .int .i64 (z.gen + 1)], .int .i64 0]) (by simp [results, Tryz.results11, go_sem, r0, r1, r2, r3]) rfl ?_
      first | refine RM.mk ⟨_, rfl, ?_⟩ hbY | refine RM.mk ⟨_, rfl, ?_⟩ hbY.drew
      refine .inr ⟨ownT_base (B := w2.heap.size) (t := ⟨mo, l.set i ⟨z.gen + 1, true⟩⟩) ⟨_, rfl, ?_⟩ (by omega), ?_, (by simp only; omega), (by simp only; omega)⟩
      · show Y.ownsRow _ _ _ _ (l.set i ⟨z.gen + 1, true⟩).length (slotCells (l.set i ⟨z.gen + 1, true⟩))
        rw [show (l.set i ⟨z.gen + 1, true⟩).length = l.length by simp]
        exact HOY.out
      · intro s hs
        have hgs : 1 ≤ s.gen ∧ s.gen ≤ 1000000000 := (by rcases List.mem_or_eq_of_mem_set hs with h | h; exact HG.out s h; subst h; simp only; omega)
        unfold Slot.ok
        omega
set_option maxHeartbeats 4000000 in
theorem giveNew (a : Option Addr) (c : Nat) (t : Tb) (w : World) (h : TOk w a c t) (e : (tchk t).2 = 0) (k : sfree t.slots = t.slots.length) (hne : ¬ (t.slots.length : Int) = t.most) :
    Calls Tryz.prog 11 #[t.v a c] w (RM w (GaveO w.heap.size (⟨t.most, t.slots ++ [⟨1, true⟩]⟩, ((t.slots.length : Int) + 1, 1), 0))) := by
  obtain ⟨i0, hi0, hz0, hz1, hz2⟩ := info_parts inf_slot
  have hG := tchk_good e
  have hl16 : t.slots.length ≤ 16 := by have := hG.len; have := hG.most2; omega
  have hgs := hG.gens
  have hC := fun w h => hnCheck a c t w h
  rw [good_tchk hG] at hC
  have hF := fun w h => hnFree a c t w h (by omega)
  rw [k] at hF
  have hK := fun w h => hnCopied a c t w h (by omega)
  have hne' : ((t.slots.length : Int) == t.most) = false := by rw [beq_eq_false_iff_ne]; exact hne
  have hm1 := hG.most1
  have hm2 := hG.most2
  have HC := Lib.hid hC
  have HF := Lib.hid hF
  have HK := Lib.hid hK
  have HG := Lib.hid hgs
  clear hC hF hK hG hgs e k
  
  have HO := Lib.hid h
  obtain ⟨mo, l⟩ := t
  have hs := h.slots
  have hc1 := h.len
  have hc2 := h.cap
  simp only at hs hc1
  unfold maxLen at hc2
  unfold Tb.v
  simp only
  clear h
  clear hs
  simp only at hl16 HC HF HK hne' HG hm1 hm2
  
  go_enter Tryz.func11, Tryz.ntmps11
  go_wp2_with fail
  refine (HC.out _ (HO.out.bl (by repeat (first | assumption | exact Bl.refl _ | apply Bl.drewN | apply Bl.drew | apply Bl.alloc | (refine Bl.dr ?_ (by assumption)) | (refine Bl.trans ?_ (by assumption)))))).mono ?_; rintro e w1 ⟨rfl, hb1⟩
  have hr : Mem w1 [(⟨w.heap.size, 0, none⟩, .int .i64 mo), (⟨w.heap.size, 1, none⟩, .slice a l.length c), (⟨w.heap.size + 1, 0, none⟩, .int .i64 0), (⟨w.heap.size + 1, 1, none⟩, .slice none 0 0), (⟨w.heap.size + 1 + 1, 0, none⟩, .int .i64 0), (⟨w.heap.size + 1 + 1, 1, none⟩, .int .i64 0)] := by
    refine Mem.bl ?_ hb1
    simp [Mem, go_sem]
  have hb : Bl w w1 := (by repeat (first | assumption | exact Bl.refl _ | apply Bl.drewN | apply Bl.drew | apply Bl.alloc | (refine Bl.dr ?_ (by assumption)) | (refine Bl.trans ?_ (by assumption))))
  have hs1 := hb1.size
  simp at hs1
  clear hb1
  have HR := Lib.hid hr
  
  have hm := hr
  simp only [Mem, VE, List.cons_append, List.nil_append, and_true] at hm
  clear hr
  go_wp2_with fail
  refine (HF.out _ (HO.out.bl hb)).mono ?_; rintro e w2 ⟨rfl, hb2⟩
  have hr := HR.out.bl hb2
  have hb3 : Bl w w2 := Bl.trans hb hb2
  have hs2 := hb2.size
  clear HR hm hb2 hb
  have hb := hb3
  clear hb3
  have HR := Lib.hid hr
  
  have hm := hr
  simp only [Mem, VE, List.cons_append, List.nil_append, and_true] at hm
  clear hr
  go_wp2_with fail
  refine (HK.out _ (HO.out.bl hb)).mono ?_; rintro e w3 ⟨v, rfl, ⟨sv, rfl, hO⟩, hb2⟩
  have hr := HR.out.bl hb2
  have hb3 : Bl w w3 := Bl.trans hb hb2
  unfold OwnS at hO
  simp only at hO ⊢
  obtain ⟨ao, q, rfl, -, -, -⟩ := own_form hO
  have hsz3 := hb2.size
  clear HR hm hb2 hb
  have hm := hr
  simp only [Mem, and_true] at hm
  have hbS := (hb3.setCell ⟨w.heap.size + 1, 0, none⟩ (by simp) (.int .i64 mo)).setCell ⟨w.heap.size + 1, 1, none⟩ (by simp) (.slice ao l.length q)
  have hoS := own_set (own_set hO ⟨w.heap.size + 1, 0, none⟩ (by simp only; omega) (.int .i64 mo)) ⟨w.heap.size + 1, 1, none⟩ (by simp only; omega) (.slice ao l.length q)
  have hrS : Mem ((w3.setCell ⟨w.heap.size + 1, 0, none⟩ (.int .i64 mo)).setCell ⟨w.heap.size + 1, 1, none⟩ (.slice ao l.length q)) [(⟨w.heap.size, 0, none⟩, .int .i64 mo), (⟨w.heap.size, 1, none⟩, .slice a l.length c), (⟨w.heap.size + 1, 0, none⟩, .int .i64 mo), (⟨w.heap.size + 1, 1, none⟩, .slice ao l.length q), (⟨w.heap.size + 1 + 1, 0, none⟩, .int .i64 0), (⟨w.heap.size + 1 + 1, 1, none⟩, .int .i64 0)] := by simp [Mem, go_sem, hm]
  have hszS : w3.heap.size = ((w3.setCell ⟨w.heap.size + 1, 0, none⟩ (.int .i64 mo)).setCell ⟨w.heap.size + 1, 1, none⟩ (.slice ao l.length q)).heap.size := by simp
  have HOS := Lib.hid hoS
  have HRS := Lib.hid hrS
  clear hoS hrS hO hr
  go_upto_region 8 with fail
  clear hm hb3
  generalize (w3.setCell ⟨w.heap.size + 1, 0, none⟩ (.int .i64 mo)).setCell ⟨w.heap.size + 1, 1, none⟩ (.slice ao l.length q) = W at *
  
  have hm := HRS.out
  simp only [Mem, VE, List.cons_append, List.nil_append, and_true] at hm
  go_wp2_with (at_builtin; refine wpList_append_own _ rfl _ _ 22 rfl (w2.heap.size) 35 i0 (.agg #[.int .i64 0, .bool false]) 2 16 Tryz.underlying22 hi0 hz0 hz1 hz2 rfl (by decide) _ _ _ rfl (HOS.out.alloc _) ⟨W.heap.size, 0, none⟩ 1 1 [.int .i64 0, .bool false] rfl rfl ?c1 ?c2 ?c3 ?c4 ?c5 ?_)
  case c1 => exact multi_new _ _ _
  case c2 => intro u hu; simp at hu; rcases hu with rfl | rfl <;> rfl
  case c3 => unfold maxLen; omega
  case c4 => omega
  case c5 => simp; omega
  intro v2 wB hB hg2 _
  have hmB := Mem.grown (HOS.out.alloc _) hg2 (HRS.out.alloc _) (by intro q hq; simp at hq; rcases hq with rfl | rfl | rfl | rfl | rfl | rfl <;> simp <;> omega)
  have hbB := grown_bl (hbS.alloc _) (HOS.out.alloc _) hg2 (by omega)
  have hszB := hg2.size
  simp at hszB
  have hA : wB.ownsRow w2.heap.size 35 2 v2 (l.length + 1) (slotCells (l ++ [s0])) := by rw [slotCells_app]; exact hB
  obtain ⟨ad, q, rfl, -, -, h3⟩ := own_form hA
  obtain ⟨g, rfl, hg1, hg2', -⟩ := h3 (by omega)
  have hoC := own_set hA ⟨w.heap.size + 1, 1, none⟩ (by simp only; omega) (.slice (some ⟨g, 0, none⟩) (l.length + 1) q)
  have hbC := hbB.setCell ⟨w.heap.size + 1, 1, none⟩ (by simp) (.slice (some ⟨g, 0, none⟩) (l.length + 1) q)
  have hszC : wB.heap.size = (wB.setCell ⟨w.heap.size + 1, 1, none⟩ (.slice (some ⟨g, 0, none⟩) (l.length + 1) q)).heap.size := by simp
  have hrC : Mem (wB.setCell ⟨w.heap.size + 1, 1, none⟩ (.slice (some ⟨g, 0, none⟩) (l.length + 1) q)) [(⟨w.heap.size, 0, none⟩, .int .i64 mo), (⟨w.heap.size, 1, none⟩, .slice a l.length c), (⟨w.heap.size + 1, 0, none⟩, .int .i64 mo), (⟨w.heap.size + 1, 1, none⟩, .slice (some ⟨g, 0, none⟩) (l.length + 1) q), (⟨w.heap.size + 1 + 1, 0, none⟩, .int .i64 0), (⟨w.heap.size + 1 + 1, 1, none⟩, .int .i64 0)] := by
    clear hm
    have hm := hmB
    simp only [Mem, and_true] at hm
    simp [Mem, go_sem, hm]
  have HOC := Lib.hid hoC
  have HRC := Lib.hid hrC
  clear hm
  
  have hm := hmB
  simp only [Mem, VE, List.cons_append, List.nil_append, and_true] at hm
  clear hB hg2 h3 hmB hbB hA hoC hrC HOS HRS hbS
  go_upto_region 10 with fail
  clear hm
  generalize wB.setCell ⟨w.heap.size + 1, 1, none⟩ (.slice (some ⟨g, 0, none⟩) (l.length + 1) q) = V at *
  obtain ⟨i, hil⟩ : ∃ i, i = l.length := ⟨_, rfl⟩
  obtain ⟨k0, k1⟩ := slotCells_get (l ++ [s0]) i s0 (by rw [hil]; simp)
  obtain ⟨ad, cap, hv, -, -, h3⟩ := own_form HOC.out
  obtain ⟨g', rfl, -, hgV, hcells⟩ := h3 (by omega)
  injection hv with hv1 _ hv2
  injection hv1 with hv1
  injection hv1 with hv1
  subst hv1 hv2
  have c0 : V.cell? ⟨g, l.length * 2, none⟩ = some (.int .i64 0) := by rw [← hil]; exact hcells _ _ k0
  have c1 : V.cell? ⟨g, l.length * 2 + 1, none⟩ = some (.bool false) := by rw [← hil]; exact hcells _ _ k1
  subst hil
  have f0 := HOC.out.frozenAt (l.length * 2)
  have f1 := HOC.out.frozenAt (l.length * 2 + 1)
  have hst := own_store HOC.out l.length ⟨1, true⟩
  have n1 : g ≠ w.heap.size + 1 := by omega
  have n2 : g ≠ w.heap.size + 1 + 1 := by omega
  have q1 : (0 : Int) ≤ ((l.length : Nat) : Int) := by omega
  have q2 : ((l.length : Nat) : Int) < ((l.length : Nat) : Int) + 1 := by omega
  have q3 : ((l.length : Nat) : Int) < (((l.length + 1 : Nat)) : Int) := by omega
  have HST := Lib.hid hst
  clear hst hcells k0 k1 h3
  
  have hm := HRC.out
  simp only [Mem, VE, List.cons_append, List.nil_append, and_true] at hm
  have hrT := (HRC.out.off g (l.length * 2) (.int .i64 1) (by intro q hq; simp at hq; rcases hq with rfl | rfl | rfl | rfl | rfl | rfl <;> simp <;> omega)).off g (l.length * 2 + 1) (.bool true) (by intro q hq; simp at hq; rcases hq with rfl | rfl | rfl | rfl | rfl | rfl <;> simp <;> omega)
  have HRT := Lib.hid hrT
  have cT : ((V.setCell ⟨g, l.length * 2, none⟩ (.int .i64 1)).setCell ⟨g, l.length * 2 + 1, none⟩ (.bool true)).cell? ⟨g, l.length * 2, none⟩ = some (.int .i64 1) := (oth _ _ (l.length * 2 + 1) (l.length * 2) _ (by omega)).trans (smc _ _ _ _ _ c0)
  have CT := Lib.hid cT
  have hbT := (hbC.setCell ⟨g, l.length * 2, none⟩ (by simp only; omega) (.int .i64 1)).setCell ⟨g, l.length * 2 + 1, none⟩ (by simp only; omega) (.bool true)
  have hszT : V.heap.size = ((V.setCell ⟨g, l.length * 2, none⟩ (.int .i64 1)).setCell ⟨g, l.length * 2 + 1, none⟩ (.bool true)).heap.size := by simp
  clear hrT cT
  go_upto_region 14 with fail
  clear hm c0 c1 f0 f1 hbC HOC HRC
  generalize (V.setCell ⟨g, l.length * 2, none⟩ (.int .i64 1)).setCell ⟨g, l.length * 2 + 1, none⟩ (.bool true) = X at *
  
  have hm := HRT.out
  simp only [Mem, VE, List.cons_append, List.nil_append, and_true] at hm
  have c0 := CT.out
  have hxl : (l ++ [s0]).set l.length ⟨1, true⟩ = l ++ [⟨1, true⟩] := by simp
  rw [hxl] at HST
  go_region
  all_goals
    go_wp2_with fail
    have r0 : ((((X.setCell ⟨w.heap.size + 1, 0, none⟩ (.int .i64 mo)).setCell ⟨w.heap.size + 1, 1, none⟩ (.slice (some ⟨g, 0, none⟩) (l.length + 1) q)).setCell ⟨w.heap.size + 1 + 1, 0, none⟩ (.int .i64 ((l.length : Nat) + 1))).setCell ⟨w.heap.size + 1 + 1, 1, none⟩ (.int .i64 1)).cell? ⟨w.heap.size + 1, 0, none⟩ = some (.int .i64 mo) := by simp [go_sem, hm]
    have r1 : ((((X.setCell ⟨w.heap.size + 1, 0, none⟩ (.int .i64 mo)).setCell ⟨w.heap.size + 1, 1, none⟩ (.slice (some ⟨g, 0, none⟩) (l.length + 1) q)).setCell ⟨w.heap.size + 1 + 1, 0, none⟩ (.int .i64 ((l.length : Nat) + 1))).setCell ⟨w.heap.size + 1 + 1, 1, none⟩ (.int .i64 1)).cell? ⟨w.heap.size + 1, 1, none⟩ = some (.slice (some ⟨g, 0, none⟩) (l.length + 1) q) := by simp [go_sem, hm]
    have r2 : ((((X.setCell ⟨w.heap.size + 1, 0, none⟩ (.int .i64 mo)).setCell ⟨w.heap.size + 1, 1, none⟩ (.slice (some ⟨g, 0, none⟩) (l.length + 1) q)).setCell ⟨w.heap.size + 1 + 1, 0, none⟩ (.int .i64 ((l.length : Nat) + 1))).setCell ⟨w.heap.size + 1 + 1, 1, none⟩ (.int .i64 1)).cell? ⟨w.heap.size + 1 + 1, 0, none⟩ = some (.int .i64 ((l.length : Nat) + 1)) := by simp [go_sem, hm]
    have r3 : ((((X.setCell ⟨w.heap.size + 1, 0, none⟩ (.int .i64 mo)).setCell ⟨w.heap.size + 1, 1, none⟩ (.slice (some ⟨g, 0, none⟩) (l.length + 1) q)).setCell ⟨w.heap.size + 1 + 1, 0, none⟩ (.int .i64 ((l.length : Nat) + 1))).setCell ⟨w.heap.size + 1 + 1, 1, none⟩ (.int .i64 1)).cell? ⟨w.heap.size + 1 + 1, 1, none⟩ = some (.int .i64 1) := by simp [go_sem, hm]
    have ho := own_set (own_set (own_set (own_set HST.out ⟨w.heap.size + 1, 0, none⟩ (by simp only; omega) (.int .i64 mo)) ⟨w.heap.size + 1, 1, none⟩ (by simp only; omega) (.slice (some ⟨g, 0, none⟩) (l.length + 1) q)) ⟨w.heap.size + 1 + 1, 0, none⟩ (by simp only; omega) (.int .i64 ((l.length : Nat) + 1))) ⟨w.heap.size + 1 + 1, 1, none⟩ (by simp only; omega) (.int .i64 1)
    have hbY := (((hbT.setCell ⟨w.heap.size + 1, 0, none⟩ (by simp only; omega) (.int .i64 mo)).setCell ⟨w.heap.size + 1, 1, none⟩ (by simp only; omega) (.slice (some ⟨g, 0, none⟩) (l.length + 1) q)).setCell ⟨w.heap.size + 1 + 1, 0, none⟩ (by simp only; omega) (.int .i64 ((l.length : Nat) + 1))).setCell ⟨w.heap.size + 1 + 1, 1, none⟩ (by simp only; omega) (.int .i64 1)
    clear hm c0 CT HST HRT hbT
    generalize (((X.setCell ⟨w.heap.size + 1, 0, none⟩ (.int .i64 mo)).setCell ⟨w.heap.size + 1, 1, none⟩ (.slice (some ⟨g, 0, none⟩) (l.length + 1) q)).setCell ⟨w.heap.size + 1 + 1, 0, none⟩ (.int .i64 ((l.length : Nat) + 1))).setCell ⟨w.heap.size + 1 + 1, 1, none⟩ (.int .i64 1) = Y at *
    have HOY := Lib.hid ho
    clear ho
    refine bodyPost_ret (v := .tuple #[.agg #[.int .i64 mo, .slice (some ⟨g, 0, none⟩) (l.length + 1) q], .agg #[.int .i64 ((l.length : Nat) + 1), .int .i64 1], .int .i64 0]) (by simp [results, Tryz.results11, go_sem, r0, r1, r2, r3]) rfl ?_
    first | refine RM.mk ⟨_, rfl, ?_⟩ hbY | refine RM.mk ⟨_, rfl, ?_⟩ hbY.drew
    refine .inr ⟨ownT_base (B := w2.heap.size) (t := ⟨mo, l ++ [(⟨1, true⟩ : Slot)]⟩) ⟨_, rfl, ?_⟩ (by omega), ?_, (by simp only; omega), (by simp only; omega)⟩
    · show Y.ownsRow _ _ _ _ (l ++ [(⟨1, true⟩ : Slot)]).length (slotCells (l ++ [(⟨1, true⟩ : Slot)]))
      rw [show (l ++ [(⟨1, true⟩ : Slot)]).length = (l.length + 1) by simp]
      exact HOY.out
    · intro s hs
      have hgs : 1 ≤ s.gen ∧ s.gen ≤ 1000000000 := (by simp at hs; rcases hs with h | h; exact HG.out s h; subst h; simp only; omega)
      unfold Slot.ok
      omega
theorem hnGiveO (a : Option Addr) (c : Nat) (t : Tb) (w : World) (h : TOk w a c t) : Calls Tryz.prog 11 #[t.v a c] w (RM w (GaveO w.heap.size (tgive t))) := by
  by_cases e : (tchk t).2 = 0
  · by_cases k : (sfree t.slots : Int) = t.most
    · have hr : tgive t = (tnil, (0, 0), 5) := by unfold tgive; rw [if_neg (by simp [e]), if_pos k]
      rw [hr]; exact giveFull a c t w h e k
    · by_cases hi : sfree t.slots < t.slots.length
      · have hx : t.slots[sfree t.slots]? = some t.slots[sfree t.slots] := List.getElem?_eq_getElem hi
        have hd : t.slots.getD (sfree t.slots) s0 = t.slots[sfree t.slots] := by rw [List.getD_eq_getElem?_getD, hx]; rfl
        refine giveOld a c t _ _ w h e rfl hx k _ (fun e9 => ?_) (fun e9 => ?_)
        · unfold tgive; rw [if_neg (by simp [e]), if_neg k, hd, if_pos e9]
        · unfold tgive; rw [if_neg (by simp [e]), if_neg k, hd, if_neg e9]; unfold sset; rw [if_neg (by omega)]
      · have hf : sfree t.slots = t.slots.length := by have := sfree_le t.slots; omega
        have hd : t.slots.getD t.slots.length s0 = s0 := by simp
        have hr : tgive t = (⟨t.most, t.slots ++ [⟨1, true⟩]⟩, ((t.slots.length : Int) + 1, 1), 0) := by
          unfold tgive; rw [if_neg (by simp [e]), if_neg k, hf, hd, if_neg (by decide)]; unfold sset; rw [if_pos rfl]; rfl
        rw [hr]; exact giveNew a c t w h e hf (by rw [← hf]; exact k)
  · have hr : tgive t = (tnil, (0, 0), (tchk t).2) := by unfold tgive; rw [if_pos e]
    rw [hr]; exact giveBad a c t w h e
theorem hnGive (a : Option Addr) (c : Nat) (t : Tb) (w : World) (h : TOk w a c t) : Calls Tryz.prog 11 #[t.v a c] w (RM w (GaveV w.heap.size (tgive t))) :=
  (hnGiveO a c t w h).mono (by rintro e w' ⟨v, rfl, ⟨vt, rfl, hV⟩, hb⟩; exact ⟨_, rfl, ⟨vt, rfl, tbO_is hV⟩, hb⟩)
end Go.Proofs.YtidclkojekodpaaGreatDoor

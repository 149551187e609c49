/-
  Contracts of fence.Find and of the reference's Find.
-/
import Derived.Test.YteafcbpogomioaaFnJ
namespace Go.Proofs.Yteafcbpogomioaa
open Go.RowKit
set_option linter.unusedSimpArgs false
set_option linter.unusedVariables false

/-! ### What is looked for is in its span -/
abbrev AscE (l : List Ent) : Prop := l.Pairwise (fun a b => slt a.key b.key = true)
theorem clGo_ok : ∀ (l : List Ent) (i : Nat) (p : Option ByteArray), (clGo i p l).2 = 0 →
    (∀ m, m ∈ l → echk m = 0) ∧ (∀ q, p = some q → ∀ m, m ∈ l → slt q m.key = true) ∧ AscE l
  | [], _, _, _ => by simp
  | m :: r, i, p, h => by
    unfold clGo at h
    split at h
    · rename_i h1; exact absurd h h1
    · rename_i h1
      split at h
      · simp at h
      · rename_i h2
        obtain ⟨a, b, c⟩ := clGo_ok r (i + 1) (some m.key) h
        have hm := b m.key rfl
        refine ⟨?_, ?_, ?_⟩
        · intro x hx
          rcases List.mem_cons.1 hx with rfl | hx
          · simpa using h1
          · exact a x hx
        · rintro q rfl x hx
          have hq : slt q m.key = true := by simpa [pbad] using h2
          rcases List.mem_cons.1 hx with rfl | hx
          · exact hq
          · exact slt_trans hq (hm x hx)
        · exact List.pairwise_cons.2 ⟨hm, c⟩
theorem clchk_ok {l : List Ent} (h : (clchk l).2 = 0) : l.length ≤ 5000 ∧ (∀ m, m ∈ l → echk m = 0) ∧ AscE l := by
  have hl := clchk_len h
  unfold clchk at h; rw [if_neg (by omega)] at h
  obtain ⟨a, _, b⟩ := clGo_ok _ _ _ h
  exact ⟨hl, a, b⟩
theorem ascE_lt {l : List Ent} (h : AscE l) {i j : Nat} {x y : Ent} (hx : l[i]? = some x) (hy : l[j]? = some y) (hij : i < j) : slt x.key y.key = true := by
  obtain ⟨h1, rfl⟩ := List.getElem?_eq_some_iff.1 hx
  obtain ⟨h2, rfl⟩ := List.getElem?_eq_some_iff.1 hy
  exact List.pairwise_iff_getElem.1 h i j h1 h2 hij
theorem atGo_from : ∀ (l : List Ent) (n : Nat) (k : ByteArray) (i : Nat) (x : Ent), l[i]? = some x → x.key = k → (∀ j y, j < i → l[j]? = some y → y.key ≠ k) → atGo n k l = ((n + i : Nat) : Int)
  | [], _, _, _, _, h, _, _ => by simp at h
  | a :: l, n, k, i, x, h, hk, hj => by
    unfold atGo
    cases i with
    | zero => simp at h; subst h; subst hk; simp
    | succ i =>
      have h0 := hj 0 a (by omega) (by simp)
      have h1 : ¬ a.key.toList = k.toList := fun e => h0 (str_ext e)
      rw [if_neg h1, atGo_from l (n + 1) k i x (by simpa using h) hk (fun j y hji hy => hj (j + 1) y (by omega) (by simpa using hy))]
      congr 1; omega
theorem atGo_none : ∀ (l : List Ent) (n : Nat) (k : ByteArray), (∀ y, y ∈ l → y.key ≠ k) → atGo n k l = -1
  | [], _, _, _ => rfl
  | a :: l, n, k, h => by
    unfold atGo
    have h1 : ¬ a.key.toList = k.toList := fun e => h a (by simp) (str_ext e)
    rw [if_neg h1, atGo_none l (n + 1) k (fun y hy => h y (by simp [hy]))]
theorem fitB_spec {s : Nat} {m : List ByteArray} {l : List Ent} (h : fitB s m l = true) : m.length = cnt l.length s ∧ ∀ i x, m[i]? = some x → ∃ y z, l[(i + 1) * s - 1]? = some y ∧ l[(i + 1) * s]? = some z ∧ slt y.key x = true ∧ slt z.key x = false := by
  unfold fitB at h
  rw [Bool.and_eq_true] at h
  refine ⟨by simpa using h.1, fun i x hx => ?_⟩
  have h2 := List.all_eq_true.1 h.2 i (by simp; exact (List.getElem?_eq_some_iff.1 hx).1)
  unfold fitAt at h2
  rw [hx] at h2
  cases h3 : l[(i + 1) * s - 1]? with
  | none => simp [h3] at h2
  | some y =>
    cases h4 : l[(i + 1) * s]? with
    | none => simp [h3, h4] at h2
    | some z => simp [h3, h4] at h2; exact ⟨y, z, rfl, rfl, h2.1, h2.2⟩
/-- An entry of the key lies in the key's block. -/
theorem in_block {s : Nat} {m : List ByteArray} {l : List Ent} (hs : 1 ≤ s) (hm : Asc m) (hl : AscE l) (hf : fitB s m l = true) {i : Nat} {x : Ent} (hx : l[i]? = some x) :
    cntLe m x.key * s ≤ i ∧ i < cntLe m x.key * s + s := by
  obtain ⟨h1, h2⟩ := fitB_spec hf
  obtain ⟨p1, p2⟩ := cntLe_part hm x.key
  have hle := cntLe_le m x.key
  generalize cntLe m x.key = b at *
  have hi := (List.getElem?_eq_some_iff.1 hx).1
  constructor
  · rcases Nat.eq_zero_or_pos b with h0 | h0
    · rw [h0]; omega
    · obtain ⟨y, hy⟩ : ∃ y, m[b - 1]? = some y := ⟨_, List.getElem?_eq_getElem (by omega)⟩
      have q1 := p1 (b - 1) y hy (by omega)
      obtain ⟨u, v, hu, hv, q2, q3⟩ := h2 (b - 1) y hy
      rw [show b - 1 + 1 = b by omega] at hu hv
      rcases Nat.lt_or_ge i (b * s) with hlt | hge
      · exfalso
        have hk : slt x.key y = true := by
          rcases Nat.lt_or_ge i (b * s - 1) with h3 | h3
          · exact slt_trans (ascE_lt hl hx hu h3) q2
          · have : i = b * s - 1 := by omega
            rw [this, hu] at hx; injection hx with hx; rw [← hx]; exact q2
        rw [hk] at q1; cases q1
      · exact hge
  · rcases Nat.lt_or_ge b m.length with h0 | h0
    · obtain ⟨y, hy⟩ : ∃ y, m[b]? = some y := ⟨_, List.getElem?_eq_getElem h0⟩
      have q1 := p2 b y hy (Nat.le_refl _)
      obtain ⟨u, v, hu, hv, q2, q3⟩ := h2 b y hy
      rw [show (b + 1) * s = b * s + s by rw [Nat.add_mul]; omega] at hv
      rcases Nat.lt_or_ge i (b * s + s) with hlt | hge
      · exact hlt
      · exfalso
        have hvk : slt v.key x.key = true ∨ v = x := by
          rcases Nat.lt_or_ge (b * s + s) i with h3 | h3
          · exact .inl (ascE_lt hl hv hx h3)
          · have : i = b * s + s := by omega
            rw [this, hv] at hx; injection hx with hx; exact .inr hx
        have : slt v.key y = true := by
          rcases hvk with h3 | h3
          · exact slt_trans h3 q1
          · rw [h3]; exact q1
        rw [this] at q3; cases q3
    · have hb : b = m.length := by omega
      rw [hb, h1]
      have := (ceil_facts l.length s hs).1
      unfold cnt
      rcases Nat.eq_zero_or_pos ((l.length + s - 1) / s) with h3 | h3
      · rw [h3] at this; omega
      · have h4 : ((l.length + s - 1) / s - 1) * s + s = (l.length + s - 1) / s * s := by
          have h5 : ((l.length + s - 1) / s - 1 + 1) * s = ((l.length + s - 1) / s - 1) * s + s := by rw [Nat.add_mul]; omega
          rw [← h5]; congr 1; omega
        omega

def cntLtE (l : List Ent) (k : ByteArray) : Nat := (l.filter fun (x : Ent) => !!slt x.key k).length
theorem cntLtE_le (l : List Ent) (k : ByteArray) : cntLtE l k ≤ l.length := List.length_filter_le _ _
theorem cntLtE_part {l : List Ent} (h : AscE l) (k : ByteArray) :
    (∀ j x, l[j]? = some x → j < cntLtE l k → (!slt x.key k) = false) ∧ (∀ j x, l[j]? = some x → cntLtE l k ≤ j → (!slt x.key k) = true) :=
  part_point (fun (x : Ent) => !slt x.key k) (fun a b hab ha => by
    cases hb : slt b.key k
    · rfl
    · have := slt_trans hab hb; rw [this] at ha; cases ha) l h
/-- The search within a stretch that has the entry, if there is one. -/
theorem find_in {l : List Ent} (hl : AscE l) (k : ByteArray) (fr to : Nat) (h1 : fr ≤ to) (h2 : to ≤ l.length) (hin : ∀ i x, l[i]? = some x → x.key = k → fr ≤ i ∧ i < to) :
    (∃ x, l[fr + cntLtE ((l.drop fr).take (to - fr)) k]? = some x ∧ fr + cntLtE ((l.drop fr).take (to - fr)) k < to ∧ x.key = k ∧ atGo 0 k l = ((fr + cntLtE ((l.drop fr).take (to - fr)) k : Nat) : Int)) ∨
    ((fr + cntLtE ((l.drop fr).take (to - fr)) k = to ∨ ∃ x, l[fr + cntLtE ((l.drop fr).take (to - fr)) k]? = some x ∧ fr + cntLtE ((l.drop fr).take (to - fr)) k < to ∧ x.key ≠ k) ∧ atGo 0 k l = -1) := by
  have hL : AscE ((l.drop fr).take (to - fr)) := (hl.drop).take
  have hlen : ((l.drop fr).take (to - fr)).length = to - fr := by simp; omega
  have hget : ∀ j x, j < to - fr → (((l.drop fr).take (to - fr))[j]? = some x ↔ l[fr + j]? = some x) := by
    intro j x hj
    rw [List.getElem?_take_of_lt hj, List.getElem?_drop]
  have hcl := cntLtE_le ((l.drop fr).take (to - fr)) k
  obtain ⟨p1, p2⟩ := cntLtE_part hL k
  generalize cntLtE ((l.drop fr).take (to - fr)) k = r at *
  rw [hlen] at hcl
  by_cases he : ∃ (i : Nat) (x : Ent), l[i]? = some x ∧ x.key = k
  · obtain ⟨i, x, hx, hk⟩ := he
    obtain ⟨i1, i2⟩ := hin i x hx hk
    have hi : l[fr + (i - fr)]? = some x := by rw [show fr + (i - fr) = i by omega]; exact hx
    have hLi := (hget (i - fr) x (by omega)).2 hi
    have hr : r = i - fr := by
      rcases Nat.lt_trichotomy r (i - fr) with h | h | h
      · exfalso
        obtain ⟨y, hy⟩ : ∃ y, l[fr + r]? = some y := ⟨_, List.getElem?_eq_getElem (by omega)⟩
        have q := p2 r y ((hget r y (by omega)).2 hy) (Nat.le_refl _)
        have := ascE_lt hl hy hx (by omega)
        rw [← hk, this] at q; cases q
      · exact h
      · exfalso
        have q := p1 (i - fr) x hLi h
        rw [← hk, slt_irrefl] at q; cases q
    left
    refine ⟨x, by rw [hr]; exact hi, by omega, hk, ?_⟩
    rw [atGo_from l 0 k i x hx hk]
    · congr 1; omega
    · intro j y hj hy e
      have := ascE_lt hl hy hx hj
      rw [e, hk, slt_irrefl] at this; cases this
  · right
    refine ⟨?_, atGo_none l 0 k fun y hy e => by
      obtain ⟨i, hi, rfl⟩ := List.getElem_of_mem hy
      exact he ⟨i, _, List.getElem?_eq_getElem hi, e⟩⟩
    rcases Nat.lt_or_ge (fr + r) to with h | h
    · right
      obtain ⟨y, hy⟩ : ∃ y, l[fr + r]? = some y := ⟨_, List.getElem?_eq_getElem (by omega)⟩
      exact ⟨y, hy, h, fun e => he ⟨_, y, hy, e⟩⟩
    · left; omega

/-! ### Find -/
def ffind (f : Fnc) (l : List Ent) (k : ByteArray) : Int × Int :=
  if (ffits f l).2 ≠ 0 then (0, (ffits f l).2) else if kchk k ≠ 0 then (0, kchk k) else if (ffits f l).1 = false then (0, 6) else if atGo 0 k l < 0 then (0, 4) else (atGo 0 k l, 0)
theorem ffits_ok {f : Fnc} {l : List Ent} (h : (ffits f l).2 = 0) : (fchk f).2 = 0 ∧ (clchk l).2 = 0 ∧ (ffits f l).1 = fitB f.step.toNat f.marks l := by
  unfold ffits at h ⊢
  by_cases h1 : (fchk f).2 = 0
  · by_cases h2 : (clchk l).2 = 0
    · simp [h1, h2]
    · simp [h1, h2] at h
  · simp [h1] at h

set_option maxRecDepth 100000 in
set_option maxHeartbeats 1000000 in
theorem refFenceFind (a : Option Addr) (c : Nat) (f : Fnc) (a2 : Option Addr) (c2 : Nat) (l : List Ent) (k : ByteArray) (w : World) (hf : FOk w a f) (hl : Ents w a2 l) (hn : l.length ≤ maxLen) (hk : k.size ≤ maxLen) :
    Calls Try.prog 28 #[f.v a c, .slice a2 l.length c2, .string k] w (RB w (.tuple #[.int .i64 (ffind f l k).1, .int .i64 (ffind f l k).2])) := by
  have hC := fun w h h' => refFits a c f a2 c2 l w h h' hn
  have hK := fun w => refCheck k w hk
  have hF := fun w h => refFind a2 c2 l k w h hn hk
  have hfd : (ffits f l).2 = 0 → kchk k = 0 → fnd l k = if atGo 0 k l < 0 then (0, 4) else (atGo 0 k l, 0) := by
    intro h1 h2; unfold fnd; simp [(ffits_ok h1).2.1, h2]
  unfold ffind
  generalize (ffits f l).1 = b at *
  generalize (ffits f l).2 = q1 at *
  generalize kchk k = q2 at *
  generalize atGo 0 k l = q3 at *
  have HF := Lib.hid hf
  have HE := Lib.hid hl
  obtain ⟨s, m⟩ := f
  unfold Fnc.v at hC ⊢
  simp only at hC ⊢
  have HC := Lib.hid hC
  have HK := Lib.hid hK
  clear hC hK hf hl
  by_cases e1 : q1 = 0
  · have e1' : (q1 == 0) = true := by simp [e1]
    rw [if_neg (by simp [e1])]
    by_cases e2 : q2 = 0
    · have e2' : (q2 == 0) = true := by simp [e2]
      have e2'' : (q2 != 0) = false := by simp [e2]
      rw [if_neg (by simp [e2])]
      rw [hfd e1 e2] at hF
      generalize (if q3 < 0 then (0, 4) else (q3, 0) : Int × Int) = R at *
      have HR := Lib.hid hF
      clear e1 e2 hfd hF
      cases b
      · rw [if_pos rfl]
        go_enter Try.func28, Try.ntmps28
        go_wp2_with fail
        refine (HC.out _ (HF.out.bl (by repeat (first | assumption | exact Bl.refl _ | apply Bl.drewN | apply Bl.drew | apply Bl.alloc | (refine Bl.dr ?_ (by assumption)) | (refine Bl.trans ?_ (by assumption))))) (HE.out.bl (by repeat (first | assumption | exact Bl.refl _ | apply Bl.drewN | apply Bl.drew | apply Bl.alloc | (refine Bl.dr ?_ (by assumption)) | (refine Bl.trans ?_ (by assumption)))))).mono ?_; rintro e w1 ⟨rfl, hb1⟩
        go_wp2_with fail
        refine (HK.out _).mono ?_; rintro e w' ⟨rfl, n1, rfl⟩
        go_wp2_with fail
        go_ret2
        exact rb_tuple rfl rfl (by repeat (first | assumption | exact Bl.refl _ | apply Bl.drewN | apply Bl.drew | apply Bl.alloc | (refine Bl.dr ?_ (by assumption)) | (refine Bl.trans ?_ (by assumption))))
      · rw [if_neg (by simp)]
        go_enter Try.func28, Try.ntmps28
        go_wp2_with fail
        refine (HC.out _ (HF.out.bl (by repeat (first | assumption | exact Bl.refl _ | apply Bl.drewN | apply Bl.drew | apply Bl.alloc | (refine Bl.dr ?_ (by assumption)) | (refine Bl.trans ?_ (by assumption))))) (HE.out.bl (by repeat (first | assumption | exact Bl.refl _ | apply Bl.drewN | apply Bl.drew | apply Bl.alloc | (refine Bl.dr ?_ (by assumption)) | (refine Bl.trans ?_ (by assumption)))))).mono ?_; rintro e w1 ⟨rfl, hb1⟩
        go_wp2_with fail
        refine (HK.out _).mono ?_; rintro e w' ⟨rfl, n1, rfl⟩
        go_wp2_with fail
        refine (HR.out _ (HE.out.bl (by repeat (first | assumption | exact Bl.refl _ | apply Bl.drewN | apply Bl.drew | apply Bl.alloc | (refine Bl.dr ?_ (by assumption)) | (refine Bl.trans ?_ (by assumption)))))).mono ?_; rintro e w2 ⟨rfl, hb2⟩
        go_wp2_with fail
        go_ret2
        exact rb_tuple rfl rfl (by repeat (first | assumption | exact Bl.refl _ | apply Bl.drewN | apply Bl.drew | apply Bl.alloc | (refine Bl.dr ?_ (by assumption)) | (refine Bl.trans ?_ (by assumption))))
    · have e2' : (q2 == 0) = false := by simp [e2]
      have e2'' : (q2 != 0) = true := by simp [e2]
      rw [if_pos e2]
      clear e1 e2 hfd
      go_enter Try.func28, Try.ntmps28
      go_wp2_with fail
      refine (HC.out _ (HF.out.bl (by repeat (first | assumption | exact Bl.refl _ | apply Bl.drewN | apply Bl.drew | apply Bl.alloc | (refine Bl.dr ?_ (by assumption)) | (refine Bl.trans ?_ (by assumption))))) (HE.out.bl (by repeat (first | assumption | exact Bl.refl _ | apply Bl.drewN | apply Bl.drew | apply Bl.alloc | (refine Bl.dr ?_ (by assumption)) | (refine Bl.trans ?_ (by assumption)))))).mono ?_; rintro e w1 ⟨rfl, hb1⟩
      go_wp2_with fail
      refine (HK.out _).mono ?_; rintro e w' ⟨rfl, n1, rfl⟩
      go_wp2_with fail
      go_ret2
      exact rb_tuple rfl rfl (by repeat (first | assumption | exact Bl.refl _ | apply Bl.drewN | apply Bl.drew | apply Bl.alloc | (refine Bl.dr ?_ (by assumption)) | (refine Bl.trans ?_ (by assumption))))
  · have e1' : (q1 == 0) = false := by simp [e1]
    have e1'' : (q1 != 0) = true := by simp [e1]
    rw [if_pos e1]
    clear e1 hfd
    go_enter Try.func28, Try.ntmps28
    go_wp2_with fail
    refine (HC.out _ (HF.out.bl (by repeat (first | assumption | exact Bl.refl _ | apply Bl.drewN | apply Bl.drew | apply Bl.alloc | (refine Bl.dr ?_ (by assumption)) | (refine Bl.trans ?_ (by assumption))))) (HE.out.bl (by repeat (first | assumption | exact Bl.refl _ | apply Bl.drewN | apply Bl.drew | apply Bl.alloc | (refine Bl.dr ?_ (by assumption)) | (refine Bl.trans ?_ (by assumption)))))).mono ?_; rintro e w1 ⟨rfl, hb1⟩
    go_wp2_with fail
    go_ret2
    exact rb_tuple rfl rfl (by repeat (first | assumption | exact Bl.refl _ | apply Bl.drewN | apply Bl.drew | apply Bl.alloc | (refine Bl.dr ?_ (by assumption)) | (refine Bl.trans ?_ (by assumption))))

/-- A part of a list in memory. -/
theorem Ents.cut {w : World} {b off : Nat} {l : List Ent} (h : Ents w (some ⟨b, off, none⟩) l) (fr to : Nat) : Ents w (some ⟨b, off + fr * 4, none⟩) ((l.drop fr).take (to - fr)) := by
  refine ⟨fun x hx => h.ok x (List.mem_of_mem_drop (List.mem_of_mem_take hx)), fun hn => ?_⟩
  refine ⟨b, off + fr * 4, rfl, fun i x hx => ?_⟩
  have hl : l ≠ [] := by rintro rfl; simp at hn
  obtain ⟨b', off', e, hat⟩ := h.at_ hl
  injection e with e; injection e with e1 e2
  subst e1 e2
  have hi : i < to - fr := by
    have := (List.getElem?_eq_some_iff.1 hx).1; simp at this; omega
  rw [List.getElem?_take_of_lt hi, List.getElem?_drop] at hx
  have := hat (fr + i) x hx
  rwa [show off + (fr + i) * 4 = off + fr * 4 + i * 4 by omega] at this


set_option maxRecDepth 100000 in
set_option maxHeartbeats 3000000 in
theorem fenceFind (a : Option Addr) (c : Nat) (f : Fnc) (a2 : Option Addr) (c2 : Nat) (l : List Ent) (k : ByteArray) (w : World) (hf : FOk w a f) (hl : Ents w a2 l) (hn : l.length ≤ maxLen) (hk : k.size ≤ maxLen) (hcap : l.length ≤ c2) (hcap2 : c2 ≤ maxLen) :
    Calls Try.prog 27 #[f.v a c, .slice a2 l.length c2, .string k] w (RB w (.tuple #[.int .i64 (ffind f l k).1, .int .i64 (ffind f l k).2])) := by
  have hC := fun w h h' => fenceFits a c f a2 c2 l w h h' hn
  have hK := fun w => keysCheck k w hk
  have hS := fun w h h1 h2 => fenceSpan a c f (l.length : Int) k w h hk h1 h2
  unfold ffind
  by_cases e1 : (ffits f l).2 = 0
  · obtain ⟨o1, o2, o3⟩ := ffits_ok e1
    obtain ⟨s1, s2, s3, s4, s5⟩ := fchk_ok o1
    obtain ⟨l1, l2, l3⟩ := clchk_ok o2
    rw [if_neg (by simp [e1])]
    by_cases e2 : kchk k = 0
    · rw [if_neg (by simp [e2])]
      cases hb : (ffits f l).1
      · rw [if_pos rfl]
        rw [hb, e1] at hC
        rw [e2] at hK
        have HF := Lib.hid hf
        have HE := Lib.hid hl
        obtain ⟨s, m⟩ := f
        unfold Fnc.v at hC ⊢
        simp only at hC ⊢
        have HC := Lib.hid hC
        have HK := Lib.hid hK
        clear hC hK hS hf hl e1 e2 o1 o2 o3 s1 s2 s3 s4 s5 l1 l2 l3 hb
        go_enter Try.func27, Try.ntmps27
        go_wp2_with fail
        refine (HC.out _ (HF.out.bl (by repeat (first | assumption | exact Bl.refl _ | apply Bl.drewN | apply Bl.drew | apply Bl.alloc | (refine Bl.dr ?_ (by assumption)) | (refine Bl.trans ?_ (by assumption))))) (HE.out.bl (by repeat (first | assumption | exact Bl.refl _ | apply Bl.drewN | apply Bl.drew | apply Bl.alloc | (refine Bl.dr ?_ (by assumption)) | (refine Bl.trans ?_ (by assumption)))))).mono ?_; rintro e w1 ⟨rfl, hb1⟩
        have d0 : w1.cell? ⟨w.heap.size + 1, 0, none⟩ = some (.string k) := hb1.cell (by simp [go_sem])
        go_wp2_with fail
        refine (HK.out _).mono ?_; rintro e w' ⟨rfl, n1, rfl⟩
        go_wp2_with fail
        go_ret2
        exact rb_tuple rfl rfl (by repeat (first | assumption | exact Bl.refl _ | apply Bl.drewN | apply Bl.drew | apply Bl.alloc | (refine Bl.dr ?_ (by assumption)) | (refine Bl.trans ?_ (by assumption))))
      · rw [if_neg (by simp)]
        have hfit : fitB f.step.toNat f.marks l = true := by rw [← o3]; exact hb
        have hsp : spn f (l.length : Int) k = ((cntLe f.marks k : Int) * f.step, min ((cntLe f.marks k : Int) * f.step + f.step) (l.length : Int), 0) := by
          unfold spn
          rw [if_neg (by simp [o1, e2]), if_neg (by omega), if_neg (by rw [Int.toNat_natCast]; simp [(fitB_spec hfit).1])]
        rw [hsp] at hS
        rw [hb, e1] at hC
        rw [e2] at hK
        have hm2 := (fitB_spec hfit).1
        obtain ⟨st, hst⟩ : ∃ st : Nat, f.step = (st : Int) := Int.eq_ofNat_of_zero_le (by omega)
        rw [hst, Int.toNat_natCast] at hfit hm2
        rw [hst] at hS s1 s2
        have hin : ∀ i x, l[i]? = some x → x.key = k → cntLe f.marks k * st ≤ i ∧ i < min (cntLe f.marks k * st + st) l.length := by
          intro i x hx hxk
          have h1 := in_block (by omega) s5 l3 hfit hx
          have h2 := (List.getElem?_eq_some_iff.1 hx).1
          rw [hxk] at h1; omega
        have hcl := cntLe_le f.marks k
        have hfrn : cntLe f.marks k * st ≤ l.length := by
          rcases Nat.eq_zero_or_pos (cntLe f.marks k) with h | h
          · rw [h]; omega
          · have := cnt_at (n := l.length) (s := st) (k := cntLe f.marks k - 1) (by omega) (by omega)
            rw [show cntLe f.marks k - 1 + 1 = cntLe f.marks k by omega] at this; omega
        have hfr : (cntLe f.marks k : Int) * (st : Int) = ((cntLe f.marks k * st : Nat) : Int) := by simp
        have hto : min ((cntLe f.marks k : Int) * (st : Int) + (st : Int)) (l.length : Int) = ((min (cntLe f.marks k * st + st) l.length : Nat) : Int) := by rw [hfr]; omega
        rw [hfr] at hto
        rw [hfr, hto] at hS
        have htn : min (cntLe f.marks k * st + st) l.length ≤ l.length := Nat.min_le_right _ _
        have hft : cntLe f.marks k * st ≤ min (cntLe f.marks k * st + st) l.length := by omega
        generalize hgto : min (cntLe f.marks k * st + st) l.length = to at *
        generalize hgfr : cntLe f.marks k * st = fr at *
        have hfi := find_in l3 k fr to hft htn hin
        have hct := cntLtE_le ((l.drop fr).take (to - fr)) k
        have hlen : ((l.drop fr).take (to - fr)).length = to - fr := by simp; omega
        have hF1 := fun W (hbw : Bl w W) a' (ha : Ents W a' ((l.drop fr).take (to - fr))) g (hg : W.cell? ⟨g, 0, none⟩ = some (.string k)) cc =>
          firstE 53 #[.pointer (some ⟨g, 0, none⟩)] a' cc ((l.drop fr).take (to - fr)) (fun x => !slt x.key k) (cntLtE ((l.drop fr).take (to - fr)) k) W cfFind1
            ha (by omega) (fun x w' _ hb' => find1 x k g w' (hb'.cell hg)) hct (cntLtE_part (l3.drop.take) k).1 (cntLtE_part (l3.drop.take) k).2
        rw [hlen] at hct hF1
        generalize cntLtE ((l.drop fr).take (to - fr)) k = r at *
        clear hin hfit hm2 hcl hfrn hfr hto hsp s5 l3 l2 o1 o2 o3 e1 s4
        have HF := Lib.hid hf
        have HE := Lib.hid hl
        have HFI := Lib.hid hfi
        have HF1 := Lib.hid hF1
        obtain ⟨s, m⟩ := f
        unfold Fnc.v at hC hS ⊢
        simp only at hC hS hst hgfr hgto s3 ⊢
        subst hst
        have HC := Lib.hid hC
        have HK := Lib.hid hK
        have HS := Lib.hid hS
        clear hC hK hS hf hl hfi hF1 hlen hgfr hgto e2 hb
        unfold maxLen at hn hcap2
        by_cases hne : l = []
        · have hz : l.length = 0 := by rw [hne]; rfl
          have hE0 : ∀ W a', Ents W a' ((l.drop fr).take (to - fr)) := by
            intro W a'; rw [hne]; exact ⟨by simp, fun h => absurd (by simp) h⟩
          have H0 := Lib.hid hE0
          have hfr0 : fr = 0 := by omega
          have hto0 : to = 0 := by omega
          subst hfr0 hto0
          have hr0 : r = 0 := by omega
          subst hr0
          clear hE0 hne
          have HZ := Lib.hid hz
          clear hz
          have hat : atGo 0 k l = -1 := by
            rcases HFI.out with ⟨x, hx, hlt, _⟩ | ⟨_, h⟩
            · omega
            · exact h
          rw [hat, if_pos (by omega)]
          clear hat
          go_enter Try.func27, Try.ntmps27
          go_wp2_with fail
          refine (HC.out _ (HF.out.bl (by repeat (first | assumption | exact Bl.refl _ | apply Bl.drewN | apply Bl.drew | apply Bl.alloc | (refine Bl.dr ?_ (by assumption)) | (refine Bl.trans ?_ (by assumption))))) (HE.out.bl (by repeat (first | assumption | exact Bl.refl _ | apply Bl.drewN | apply Bl.drew | apply Bl.alloc | (refine Bl.dr ?_ (by assumption)) | (refine Bl.trans ?_ (by assumption)))))).mono ?_; rintro e w1 ⟨rfl, hb1⟩
          have c0 : w1.cell? ⟨w.heap.size, 0, none⟩ = some (.int .i64 (st : Int)) := hb1.cell (by simp [go_sem])
          have c1 : w1.cell? ⟨w.heap.size, 1, none⟩ = some (.slice a m.length c) := hb1.cell (by simp [go_sem])
          have d0 : w1.cell? ⟨w.heap.size + 1, 0, none⟩ = some (.string k) := hb1.cell (by simp [go_sem])
          have hb : Bl w w1 := (by repeat (first | assumption | exact Bl.refl _ | apply Bl.drewN | apply Bl.drew | apply Bl.alloc | (refine Bl.dr ?_ (by assumption)) | (refine Bl.trans ?_ (by assumption))))
          clear hb1
          go_wp2_with fail
          refine (HK.out _).mono ?_; rintro e w' ⟨rfl, n1, rfl⟩
          go_wp2_with fail
          refine (HS.out _ (HF.out.bl (by repeat (first | assumption | exact Bl.refl _ | apply Bl.drewN | apply Bl.drew | apply Bl.alloc | (refine Bl.dr ?_ (by assumption)) | (refine Bl.trans ?_ (by assumption))))) (by omega) (by omega)).mono ?_; rintro e w2 ⟨rfl, hb2⟩
          have d0' := hb2.cell d0
          have hb' : Bl w w2 := (by repeat (first | assumption | exact Bl.refl _ | apply Bl.drewN | apply Bl.drew | apply Bl.alloc | (refine Bl.dr ?_ (by assumption)) | (refine Bl.trans ?_ (by assumption))))
          clear hb2
          go_wp2_with fail
          refine (HF1.out _ (by repeat (first | assumption | exact Bl.refl _ | apply Bl.drewN | apply Bl.drew | apply Bl.alloc | (refine Bl.dr ?_ (by assumption)) | (refine Bl.trans ?_ (by assumption)))) _ (H0.out _ _) _ d0' _).mono ?_; rintro e w3 ⟨rfl, hb3⟩
          go_wp2_with fail
          go_quiet (fail)
          go_wp2_with fail
          go_ret2
          exact rb_tuple rfl rfl (by repeat (first | assumption | exact Bl.refl _ | apply Bl.drewN | apply Bl.drew | apply Bl.alloc | (refine Bl.dr ?_ (by assumption)) | (refine Bl.trans ?_ (by assumption))))
        · obtain ⟨b, off, rfl, hat4⟩ := HE.out.at_ hne
          have HNE := Lib.hid hne
          clear hne
          by_cases hcf : c2 = fr
          · have hz : to = fr := by omega
            have hz2 : to - fr = 0 := by omega
            have hE0 : ∀ W a', Ents W a' ((l.drop fr).take (to - fr)) := by
              intro W a'; rw [hz2]; exact ⟨by simp, fun h => absurd (by simp) h⟩
            have H0 := Lib.hid hE0
            have hr0 : r = 0 := by omega
            subst hr0
            subst hz
            have hat : atGo 0 k l = -1 := by
              rcases HFI.out with ⟨x, hx, hlt, _⟩ | ⟨_, h⟩
              · omega
              · exact h
            rw [hat, if_pos (by omega)]
            have hf2 := HF1.out
            have h02 := H0.out
            rw [hz2] at hf2 h02
            have HF2 := Lib.hid hf2
            have H02 := Lib.hid h02
            clear hat hE0 hz2 hat4 HF1 H0 hf2 h02
            subst hcf
            go_enter Try.func27, Try.ntmps27
            go_wp2_with fail
            refine (HC.out _ (HF.out.bl (by repeat (first | assumption | exact Bl.refl _ | apply Bl.drewN | apply Bl.drew | apply Bl.alloc | (refine Bl.dr ?_ (by assumption)) | (refine Bl.trans ?_ (by assumption))))) (HE.out.bl (by repeat (first | assumption | exact Bl.refl _ | apply Bl.drewN | apply Bl.drew | apply Bl.alloc | (refine Bl.dr ?_ (by assumption)) | (refine Bl.trans ?_ (by assumption)))))).mono ?_; rintro e w1 ⟨rfl, hb1⟩
            have c0 : w1.cell? ⟨w.heap.size, 0, none⟩ = some (.int .i64 (st : Int)) := hb1.cell (by simp [go_sem])
            have c1 : w1.cell? ⟨w.heap.size, 1, none⟩ = some (.slice a m.length c) := hb1.cell (by simp [go_sem])
            have d0 : w1.cell? ⟨w.heap.size + 1, 0, none⟩ = some (.string k) := hb1.cell (by simp [go_sem])
            have hb : Bl w w1 := (by repeat (first | assumption | exact Bl.refl _ | apply Bl.drewN | apply Bl.drew | apply Bl.alloc | (refine Bl.dr ?_ (by assumption)) | (refine Bl.trans ?_ (by assumption))))
            clear hb1
            go_wp2_with fail
            refine (HK.out _).mono ?_; rintro e w' ⟨rfl, n1, rfl⟩
            go_wp2_with fail
            refine (HS.out _ (HF.out.bl (by repeat (first | assumption | exact Bl.refl _ | apply Bl.drewN | apply Bl.drew | apply Bl.alloc | (refine Bl.dr ?_ (by assumption)) | (refine Bl.trans ?_ (by assumption))))) (by omega) (by omega)).mono ?_; rintro e w2 ⟨rfl, hb2⟩
            have d0' := hb2.cell d0
            have hb' : Bl w w2 := (by repeat (first | assumption | exact Bl.refl _ | apply Bl.drewN | apply Bl.drew | apply Bl.alloc | (refine Bl.dr ?_ (by assumption)) | (refine Bl.trans ?_ (by assumption))))
            clear hb2
            go_wp2_with fail
            refine (HF2.out _ (by repeat (first | assumption | exact Bl.refl _ | apply Bl.drewN | apply Bl.drew | apply Bl.alloc | (refine Bl.dr ?_ (by assumption)) | (refine Bl.trans ?_ (by assumption)))) _ (H02.out _ _) _ d0' _).mono ?_; rintro e w3 ⟨rfl, hb3⟩
            go_wp2_with fail
            go_quiet (fail)
            go_wp2_with fail
            go_ret2
            exact rb_tuple rfl rfl (by repeat (first | assumption | exact Bl.refl _ | apply Bl.drewN | apply Bl.drew | apply Bl.alloc | (refine Bl.dr ?_ (by assumption)) | (refine Bl.trans ?_ (by assumption))))
          · rcases HFI.out with ⟨x, hx, hlt, hxk, hat⟩ | ⟨hno, hat⟩
            · rw [hat, if_neg (by omega)]
              have c2x := (hat4 _ x hx).key
              obtain ⟨hcast, -⟩ : ((fr : Int) + (r : Int) = ((fr + r : Nat) : Int)) ∧ True := ⟨by omega, trivial⟩
              have HCast := Lib.hid hcast
              clear hcast
              have hkk : (x.key.toList == k.toList) = true := by rw [hxk]; simp
              have hpos : (fr : Int) + (r : Int) < (l.length : Int) := by omega
              have hne2 : ((fr : Int) + (r : Int) == (to : Int)) = false := by rw [beq_eq_false_iff_ne]; omega
              have hw1 : ((fr : Int) + (r : Int)).toNat = fr + r := by omega
              have hw2 : 0 ≤ (fr : Int) + (r : Int) := by omega
              clear hat hx hxk hat4
              go_enter Try.func27, Try.ntmps27
              go_wp2_with fail
              refine (HC.out _ (HF.out.bl (by repeat (first | assumption | exact Bl.refl _ | apply Bl.drewN | apply Bl.drew | apply Bl.alloc | (refine Bl.dr ?_ (by assumption)) | (refine Bl.trans ?_ (by assumption))))) (HE.out.bl (by repeat (first | assumption | exact Bl.refl _ | apply Bl.drewN | apply Bl.drew | apply Bl.alloc | (refine Bl.dr ?_ (by assumption)) | (refine Bl.trans ?_ (by assumption)))))).mono ?_; rintro e w1 ⟨rfl, hb1⟩
              have c0 : w1.cell? ⟨w.heap.size, 0, none⟩ = some (.int .i64 (st : Int)) := hb1.cell (by simp [go_sem])
              have c1 : w1.cell? ⟨w.heap.size, 1, none⟩ = some (.slice a m.length c) := hb1.cell (by simp [go_sem])
              have d0 : w1.cell? ⟨w.heap.size + 1, 0, none⟩ = some (.string k) := hb1.cell (by simp [go_sem])
              have hb : Bl w w1 := (by repeat (first | assumption | exact Bl.refl _ | apply Bl.drewN | apply Bl.drew | apply Bl.alloc | (refine Bl.dr ?_ (by assumption)) | (refine Bl.trans ?_ (by assumption))))
              clear hb1
              go_wp2_with fail
              refine (HK.out _).mono ?_; rintro e w' ⟨rfl, n1, rfl⟩
              go_wp2_with fail
              refine (HS.out _ (HF.out.bl (by repeat (first | assumption | exact Bl.refl _ | apply Bl.drewN | apply Bl.drew | apply Bl.alloc | (refine Bl.dr ?_ (by assumption)) | (refine Bl.trans ?_ (by assumption))))) (by omega) (by omega)).mono ?_; rintro e w2 ⟨rfl, hb2⟩
              have d0' := hb2.cell d0
              have hb' : Bl w w2 := (by repeat (first | assumption | exact Bl.refl _ | apply Bl.drewN | apply Bl.drew | apply Bl.alloc | (refine Bl.dr ?_ (by assumption)) | (refine Bl.trans ?_ (by assumption))))
              clear hb2
              go_wp2_with fail
              refine (HF1.out _ (by repeat (first | assumption | exact Bl.refl _ | apply Bl.drewN | apply Bl.drew | apply Bl.alloc | (refine Bl.dr ?_ (by assumption)) | (refine Bl.trans ?_ (by assumption)))) _ ((HE.out.bl (by repeat (first | assumption | exact Bl.refl _ | apply Bl.drewN | apply Bl.drew | apply Bl.alloc | (refine Bl.dr ?_ (by assumption)) | (refine Bl.trans ?_ (by assumption))))).cut fr to) _ d0' _).mono ?_; rintro e w3 ⟨rfl, hb3⟩
              have hbb : Bl w w3 := (by repeat (first | assumption | exact Bl.refl _ | apply Bl.drewN | apply Bl.drew | apply Bl.alloc | (refine Bl.dr ?_ (by assumption)) | (refine Bl.trans ?_ (by assumption))))
              have c2x' := hbb.cell c2x
              have d0'' := hb3.cell d0'
              go_wp2_with fail
              go_quiet (fail)
              go_wp2_with fail
              go_ret2
              refine rb_tuple (ival ?_) rfl (by repeat (first | assumption | exact Bl.refl _ | apply Bl.drewN | apply Bl.drew | apply Bl.alloc | (refine Bl.dr ?_ (by assumption)) | (refine Bl.trans ?_ (by assumption))))
              exact HCast.out
            · rw [hat, if_pos (by omega)]
              rcases hno with hno | ⟨x, hx, hlt, hxk⟩
              · have hne2 : ((fr : Int) + (r : Int) == (to : Int)) = true := by rw [beq_iff_eq]; omega
                clear hat hno hat4
                go_enter Try.func27, Try.ntmps27
                go_wp2_with fail
                refine (HC.out _ (HF.out.bl (by repeat (first | assumption | exact Bl.refl _ | apply Bl.drewN | apply Bl.drew | apply Bl.alloc | (refine Bl.dr ?_ (by assumption)) | (refine Bl.trans ?_ (by assumption))))) (HE.out.bl (by repeat (first | assumption | exact Bl.refl _ | apply Bl.drewN | apply Bl.drew | apply Bl.alloc | (refine Bl.dr ?_ (by assumption)) | (refine Bl.trans ?_ (by assumption)))))).mono ?_; rintro e w1 ⟨rfl, hb1⟩
                have c0 : w1.cell? ⟨w.heap.size, 0, none⟩ = some (.int .i64 (st : Int)) := hb1.cell (by simp [go_sem])
                have c1 : w1.cell? ⟨w.heap.size, 1, none⟩ = some (.slice a m.length c) := hb1.cell (by simp [go_sem])
                have d0 : w1.cell? ⟨w.heap.size + 1, 0, none⟩ = some (.string k) := hb1.cell (by simp [go_sem])
                have hb : Bl w w1 := (by repeat (first | assumption | exact Bl.refl _ | apply Bl.drewN | apply Bl.drew | apply Bl.alloc | (refine Bl.dr ?_ (by assumption)) | (refine Bl.trans ?_ (by assumption))))
                clear hb1
                go_wp2_with fail
                refine (HK.out _).mono ?_; rintro e w' ⟨rfl, n1, rfl⟩
                go_wp2_with fail
                refine (HS.out _ (HF.out.bl (by repeat (first | assumption | exact Bl.refl _ | apply Bl.drewN | apply Bl.drew | apply Bl.alloc | (refine Bl.dr ?_ (by assumption)) | (refine Bl.trans ?_ (by assumption))))) (by omega) (by omega)).mono ?_; rintro e w2 ⟨rfl, hb2⟩
                have d0' := hb2.cell d0
                have hb' : Bl w w2 := (by repeat (first | assumption | exact Bl.refl _ | apply Bl.drewN | apply Bl.drew | apply Bl.alloc | (refine Bl.dr ?_ (by assumption)) | (refine Bl.trans ?_ (by assumption))))
                clear hb2
                go_wp2_with fail
                refine (HF1.out _ (by repeat (first | assumption | exact Bl.refl _ | apply Bl.drewN | apply Bl.drew | apply Bl.alloc | (refine Bl.dr ?_ (by assumption)) | (refine Bl.trans ?_ (by assumption)))) _ ((HE.out.bl (by repeat (first | assumption | exact Bl.refl _ | apply Bl.drewN | apply Bl.drew | apply Bl.alloc | (refine Bl.dr ?_ (by assumption)) | (refine Bl.trans ?_ (by assumption))))).cut fr to) _ d0' _).mono ?_; rintro e w3 ⟨rfl, hb3⟩
                go_wp2_with fail
                go_quiet (fail)
                go_wp2_with fail
                go_ret2
                exact rb_tuple rfl rfl (by repeat (first | assumption | exact Bl.refl _ | apply Bl.drewN | apply Bl.drew | apply Bl.alloc | (refine Bl.dr ?_ (by assumption)) | (refine Bl.trans ?_ (by assumption))))
              · have c2x := (hat4 _ x hx).key
                have hkk : (x.key.toList == k.toList) = false := by rw [beq_eq_false_iff_ne]; exact fun e => hxk (str_ext e)
                have hpos : (fr : Int) + (r : Int) < (l.length : Int) := by omega
                have hne2 : ((fr : Int) + (r : Int) == (to : Int)) = false := by rw [beq_eq_false_iff_ne]; omega
                have hw1 : ((fr : Int) + (r : Int)).toNat = fr + r := by omega
                have hw2 : 0 ≤ (fr : Int) + (r : Int) := by omega
                clear hat hx hxk hat4
                go_enter Try.func27, Try.ntmps27
                go_wp2_with fail
                refine (HC.out _ (HF.out.bl (by repeat (first | assumption | exact Bl.refl _ | apply Bl.drewN | apply Bl.drew | apply Bl.alloc | (refine Bl.dr ?_ (by assumption)) | (refine Bl.trans ?_ (by assumption))))) (HE.out.bl (by repeat (first | assumption | exact Bl.refl _ | apply Bl.drewN | apply Bl.drew | apply Bl.alloc | (refine Bl.dr ?_ (by assumption)) | (refine Bl.trans ?_ (by assumption)))))).mono ?_; rintro e w1 ⟨rfl, hb1⟩
                have c0 : w1.cell? ⟨w.heap.size, 0, none⟩ = some (.int .i64 (st : Int)) := hb1.cell (by simp [go_sem])
                have c1 : w1.cell? ⟨w.heap.size, 1, none⟩ = some (.slice a m.length c) := hb1.cell (by simp [go_sem])
                have d0 : w1.cell? ⟨w.heap.size + 1, 0, none⟩ = some (.string k) := hb1.cell (by simp [go_sem])
                have hb : Bl w w1 := (by repeat (first | assumption | exact Bl.refl _ | apply Bl.drewN | apply Bl.drew | apply Bl.alloc | (refine Bl.dr ?_ (by assumption)) | (refine Bl.trans ?_ (by assumption))))
                clear hb1
                go_wp2_with fail
                refine (HK.out _).mono ?_; rintro e w' ⟨rfl, n1, rfl⟩
                go_wp2_with fail
                refine (HS.out _ (HF.out.bl (by repeat (first | assumption | exact Bl.refl _ | apply Bl.drewN | apply Bl.drew | apply Bl.alloc | (refine Bl.dr ?_ (by assumption)) | (refine Bl.trans ?_ (by assumption))))) (by omega) (by omega)).mono ?_; rintro e w2 ⟨rfl, hb2⟩
                have d0' := hb2.cell d0
                have hb' : Bl w w2 := (by repeat (first | assumption | exact Bl.refl _ | apply Bl.drewN | apply Bl.drew | apply Bl.alloc | (refine Bl.dr ?_ (by assumption)) | (refine Bl.trans ?_ (by assumption))))
                clear hb2
                go_wp2_with fail
                refine (HF1.out _ (by repeat (first | assumption | exact Bl.refl _ | apply Bl.drewN | apply Bl.drew | apply Bl.alloc | (refine Bl.dr ?_ (by assumption)) | (refine Bl.trans ?_ (by assumption)))) _ ((HE.out.bl (by repeat (first | assumption | exact Bl.refl _ | apply Bl.drewN | apply Bl.drew | apply Bl.alloc | (refine Bl.dr ?_ (by assumption)) | (refine Bl.trans ?_ (by assumption))))).cut fr to) _ d0' _).mono ?_; rintro e w3 ⟨rfl, hb3⟩
                have hbb : Bl w w3 := (by repeat (first | assumption | exact Bl.refl _ | apply Bl.drewN | apply Bl.drew | apply Bl.alloc | (refine Bl.dr ?_ (by assumption)) | (refine Bl.trans ?_ (by assumption))))
                have c2x' := hbb.cell c2x
                have d0'' := hb3.cell d0'
                go_wp2_with fail
                go_quiet (fail)
                go_wp2_with fail
                all_goals (go_ret2; exact rb_tuple rfl rfl (by repeat (first | assumption | exact Bl.refl _ | apply Bl.drewN | apply Bl.drew | apply Bl.alloc | (refine Bl.dr ?_ (by assumption)) | (refine Bl.trans ?_ (by assumption)))))
    · rw [if_pos e2]
      have e2' : (kchk k != 0) = true := by simp [e2]
      rw [e1] at hC
      generalize kchk k = q2 at *
      generalize (ffits f l).1 = b at *
      have HF := Lib.hid hf
      have HE := Lib.hid hl
      obtain ⟨s, m⟩ := f
      unfold Fnc.v at hC ⊢
      simp only at hC ⊢
      have HC := Lib.hid hC
      have HK := Lib.hid hK
      clear hC hK hS hf hl e1 e2 o1 o2 o3 s1 s2 s3 s4 s5 l1 l2 l3
      go_enter Try.func27, Try.ntmps27
      go_wp2_with fail
      refine (HC.out _ (HF.out.bl (by repeat (first | assumption | exact Bl.refl _ | apply Bl.drewN | apply Bl.drew | apply Bl.alloc | (refine Bl.dr ?_ (by assumption)) | (refine Bl.trans ?_ (by assumption))))) (HE.out.bl (by repeat (first | assumption | exact Bl.refl _ | apply Bl.drewN | apply Bl.drew | apply Bl.alloc | (refine Bl.dr ?_ (by assumption)) | (refine Bl.trans ?_ (by assumption)))))).mono ?_; rintro e w1 ⟨rfl, hb1⟩
      have d0 : w1.cell? ⟨w.heap.size + 1, 0, none⟩ = some (.string k) := hb1.cell (by simp [go_sem])
      go_wp2_with fail
      refine (HK.out _).mono ?_; rintro e w' ⟨rfl, n1, rfl⟩
      go_wp2_with fail
      go_ret2
      exact rb_tuple rfl rfl (by repeat (first | assumption | exact Bl.refl _ | apply Bl.drewN | apply Bl.drew | apply Bl.alloc | (refine Bl.dr ?_ (by assumption)) | (refine Bl.trans ?_ (by assumption))))
  · rw [if_pos e1]
    have e1' : ((ffits f l).2 != 0) = true := by simp [e1]
    have e1'' : ((ffits f l).2 == 0) = false := by simp [e1]
    generalize (ffits f l).2 = q1 at *
    generalize (ffits f l).1 = b at *
    have HF := Lib.hid hf
    have HE := Lib.hid hl
    obtain ⟨s, m⟩ := f
    unfold Fnc.v at hC ⊢
    simp only at hC ⊢
    have HC := Lib.hid hC
    clear hC hK hS hf hl e1
    go_enter Try.func27, Try.ntmps27
    go_wp2_with fail
    refine (HC.out _ (HF.out.bl (by repeat (first | assumption | exact Bl.refl _ | apply Bl.drewN | apply Bl.drew | apply Bl.alloc | (refine Bl.dr ?_ (by assumption)) | (refine Bl.trans ?_ (by assumption))))) (HE.out.bl (by repeat (first | assumption | exact Bl.refl _ | apply Bl.drewN | apply Bl.drew | apply Bl.alloc | (refine Bl.dr ?_ (by assumption)) | (refine Bl.trans ?_ (by assumption)))))).mono ?_; rintro e w1 ⟨rfl, hb1⟩
    go_wp2_with fail
    go_ret2
    exact rb_tuple rfl rfl (by repeat (first | assumption | exact Bl.refl _ | apply Bl.drewN | apply Bl.drew | apply Bl.alloc | (refine Bl.dr ?_ (by assumption)) | (refine Bl.trans ?_ (by assumption))))
end Go.Proofs.Yteafcbpogomioaa

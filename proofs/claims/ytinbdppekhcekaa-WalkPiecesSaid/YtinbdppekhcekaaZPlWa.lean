/-
  Own texts laid together: PlWa.
-/
import Derived.Test.YtinbdppekhcekaaZp
import Derived.Test.YtinbdppekhcekaaZs
/-
  Plain facts of walks: what Take and Skip hand back.
-/
namespace Go.Proofs.Ytinbdppekhcekaa
set_option linter.unusedSimpArgs false
set_option linter.unusedVariables false

theorem upto_get {α : Type} (f : Nat → α) (k i : Nat) : (upto f k)[i]? = if i < k then some (f i) else none := by
  unfold upto
  rw [List.getElem?_map]
  by_cases h : i < k
  · rw [if_pos h, List.getElem?_range h]; rfl
  · rw [if_neg h, List.getElem?_eq_none (by simp; omega)]; rfl
/-- How many Take hands back. -/
def wq (r : Rn) (p : Nat) (m : Int) : Nat := min m.natAbs (wN r.es p (decide (m < 0)))
theorem wtake_bad {r : Rn} {n m : Int} (h : wchk r n ≠ 0) : wtake r n m = ([], 0, wchk r n) := by unfold wtake; rw [if_pos h]
theorem wtake_ok {r : Rn} {p : Nat} {m : Int} (h : wchk r p = 0) (h1 : -5000 ≤ m) (h2 : m ≤ 5000) :
    wtake r p m = ((upto (wf r.es p (decide (m < 0))) (wq r p m)).map (·.1), tcur p (upto (wf r.es p (decide (m < 0))) (wq r p m)), 0) := by
  unfold wtake
  rw [if_neg (by simp [h]), if_neg (by omega)]
  rfl
theorem wtake_len {r : Rn} {p : Nat} {m : Int} (h : wchk r p = 0) (h1 : -5000 ≤ m) (h2 : m ≤ 5000) : (wtake r p m).1.length = wq r p m := by
  rw [wtake_ok h h1 h2]; simp [upto_length]
theorem wtake_err {r : Rn} {p : Nat} {m : Int} (h : wchk r p = 0) (h1 : -5000 ≤ m) (h2 : m ≤ 5000) : (wtake r p m).2.2 = 0 := by
  rw [wtake_ok h h1 h2]
/-- Which entry comes i-th. -/
def wix (p : Nat) (back : Bool) (i : Nat) : Nat := if back then p - i - 1 else p + i
theorem wtake_get {r : Rn} {p : Nat} {m : Int} (h : wchk r p = 0) (h1 : -5000 ≤ m) (h2 : m ≤ 5000) (i : Nat) (hi : i < wq r p m) : (wtake r p m).1[i]? = r.es[wix p (decide (m < 0)) i]? := by
  obtain ⟨-, -, hp⟩ := wchk_ok h
  rw [wtake_ok h h1 h2]
  simp only [List.getElem?_map, upto_get, if_pos hi, Option.map_some]
  unfold wq wN at hi
  unfold wf wix
  by_cases b : m < 0
  · simp only [b, decide_true, if_true] at hi ⊢
    rw [List.getD_eq_getElem?_getD, List.getElem?_eq_getElem (by omega)]; rfl
  · simp only [b, decide_false, if_false, Bool.false_eq_true] at hi ⊢
    rw [List.getD_eq_getElem?_getD, List.getElem?_eq_getElem (by omega)]; rfl
theorem wtake_cur {r : Rn} {p : Nat} {m : Int} (h : wchk r p = 0) (h1 : -5000 ≤ m) (h2 : m ≤ 5000) : (wtake r p m).2.1 = if m < 0 then (p : Int) - wq r p m else (p : Int) + wq r p m := by
  rw [wtake_ok h h1 h2]
  have hq : wq r p m = min m.natAbs (wN r.es p (decide (m < 0))) := rfl
  show tcur p _ = _
  unfold tcur
  generalize wq r p m = q at *
  cases q with
  | zero => simp [upto]
  | succ k =>
    rw [upto_succ, List.getLast?_concat]
    unfold wf
    by_cases b : m < 0
    · simp only [b, decide_true, if_true]; omega
    · simp only [b, decide_false, if_false, Bool.false_eq_true]; omega
theorem wfind_some {t : Ent → Bool} {p : Nat} : ∀ {ys : List (Ent × Int)} {i : Nat} {y : Ent × Int}, ys[i]? = some y → t y.1 = true → (∀ j z, j < i → ys[j]? = some z → t z.1 = false) → wfind t p ys = (y.1, y.2, 0)
  | [], _, _, h, _, _ => by simp at h
  | z :: ys, 0, y, h, ht, _ => by
    simp at h; subst h
    unfold wfind
    rw [show List.find? (fun y => t y.1) (z :: ys) = some z from by simp [List.find?_cons, ht]]
  | z :: ys, i + 1, y, h, ht, hn => by
    have hz := hn 0 z (by omega) rfl
    have := wfind_some (p := p) (show ys[i]? = some y by simpa using h) ht (fun j u hj hu => hn (j + 1) u (by omega) (by simpa using hu))
    unfold wfind at this ⊢
    rw [show List.find? (fun y => t y.1) (z :: ys) = List.find? (fun y => t y.1) ys from by simp [List.find?_cons, hz]]
    exact this
theorem wfind_none {t : Ent → Bool} {p : Nat} {ys : List (Ent × Int)} (h : ∀ (j : Nat) z, ys[j]? = some z → t z.1 = false) : wfind t p ys = (ent0, (p : Int), 12) := by
  unfold wfind
  have : ys.find? (fun y => t y.1) = none := by
    rw [List.find?_eq_none]
    intro z hz
    obtain ⟨j, hj, rfl⟩ := List.getElem_of_mem hz
    simp [h j _ (List.getElem?_eq_getElem hj)]
  rw [this]
/-- How far Skip goes, in numbers that Take takes. -/
def far5 (b : Bool) : Int := if b then -5000 else 5000
theorem far5_lt (b : Bool) : decide (far5 b < 0) = b := by cases b <;> decide
theorem far5_le (b : Bool) : -5000 ≤ far5 b ∧ far5 b ≤ 5000 := by cases b <;> decide
theorem wq_far {r : Rn} {p : Nat} (b : Bool) (h : wchk r p = 0) (hl : r.es.length ≤ 5000) : wq r p (far5 b) = wN r.es p b := by
  obtain ⟨-, -, hp⟩ := wchk_ok h
  unfold wq
  rw [far5_lt]
  unfold wN
  cases b <;> simp [far5] <;> omega
theorem wtake_far {r : Rn} {p : Nat} (b : Bool) (h : wchk r p = 0) (hl : r.es.length ≤ 5000) : (wtake r p (far5 b)).1 = (upto (wf r.es p b) (wN r.es p b)).map (·.1) := by
  rw [wtake_ok h (far5_le b).1 (far5_le b).2, wq_far b h hl, far5_lt]
/-- Skip finds the first one of its kind. -/
theorem wstep_hit {r : Rn} {p : Nat} (b : Bool) (t : Ent → Bool) (h : wchk r p = 0) (hl : r.es.length ≤ 5000) {i : Nat} {x : Ent} (hx : (wtake r p (far5 b)).1[i]? = some x) (ht : t x = true)
    (hn : ∀ j y, j < i → (wtake r p (far5 b)).1[j]? = some y → t y = false) : wstep r p b t = (x, (p : Int) + (if b then -((i : Int) + 1) else (i : Int) + 1), 0) := by
  unfold wstep
  rw [if_neg (by simp [h])]
  rw [wtake_far b h hl] at hx hn
  simp only [List.getElem?_map, Int.toNat_natCast] at hx hn ⊢
  obtain ⟨y, hy, rfl⟩ : ∃ y, (upto (wf r.es p b) (wN r.es p b))[i]? = some y ∧ y.1 = x := by
    cases e : (upto (wf r.es p b) (wN r.es p b))[i]? with
    | none => rw [e] at hx; simp at hx
    | some y => rw [e] at hx; exact ⟨y, rfl, by simpa using hx⟩
  unfold wres
  rw [wfind_some hy ht (fun j z hj hz => hn j z.1 hj (by rw [hz]; rfl))]
  rw [upto_get] at hy
  split at hy
  · injection hy with hy
    subst hy
    unfold wf
    cases b <;> simp <;> omega
  · simp at hy
theorem wstep_miss {r : Rn} {p : Nat} (b : Bool) (t : Ent → Bool) (h : wchk r p = 0) (hl : r.es.length ≤ 5000)
    (hn : ∀ (j : Nat) y, (wtake r p (far5 b)).1[j]? = some y → t y = false) : wstep r p b t = (ent0, (p : Int), 12) := by
  unfold wstep
  rw [if_neg (by simp [h])]
  rw [wtake_far b h hl] at hn
  simp only [List.getElem?_map, Int.toNat_natCast] at hn ⊢
  unfold wres
  exact wfind_none (fun j z hz => hn j z.1 (by rw [hz]; rfl))
/-- What the law WalkSkips asks of Skip and of Take. -/
structure SkipsLaw (n : Int) (b d : Bool) (L : List Ent) (v7 : Int) (Y : Ent) (v4 v5 : Int) : Prop where
  bad : v7 ≠ 0 → v5 = v7 ∧ Y = ent0
  low : v7 = 0 → 0 ≤ n ∧ n ≤ 80 ∧ L.length ≤ 80
  hit : v7 = 0 → ∀ (i : Nat) x, L[i]? = some x → x.dead = d → (∀ j y, j < i → L[j]? = some y → y.dead ≠ d) → Y = x ∧ v4 = n + (if b then -((i : Int) + 1) else (i : Int) + 1) ∧ v5 = 0
  miss : v7 = 0 → (∀ (j : Nat) y, L[j]? = some y → y.dead ≠ d) → Y = ent0 ∧ v4 = n ∧ v5 = 12
theorem skips_law (r : Rn) (n : Int) (d b : Bool) (hl : r.es.length ≤ 80) :
    SkipsLaw n b d (wtake r n (far5 b)).1 (wtake r n (far5 b)).2.2 (wstep r n b (fun x => x.dead == d)).1 (wstep r n b (fun x => x.dead == d)).2.1 (wstep r n b (fun x => x.dead == d)).2.2 := by
  by_cases e : wchk r n = 0
  · obtain ⟨-, e2, e3⟩ := wchk_ok e
    obtain ⟨p, rfl⟩ := Int.eq_ofNat_of_zero_le e2
    have hv := wtake_err e (far5_le b).1 (far5_le b).2
    refine ⟨fun h => absurd hv h, fun _ => ⟨by omega, by omega, ?_⟩, fun _ i x hx hd hn => ?_, fun _ hn => ?_⟩
    · rw [wtake_len e (far5_le b).1 (far5_le b).2, wq_far b e (by omega)]
      unfold wN
      cases b <;> simp <;> omega
    · rw [wstep_hit b _ e (by omega) hx (by simp [hd]) (fun j y hj hy => by simpa using hn j y hj hy)]
      exact ⟨rfl, rfl, rfl⟩
    · rw [wstep_miss b _ e (by omega) (fun j y hy => by simpa using hn j y hy)]
      exact ⟨rfl, rfl, rfl⟩
  · rw [wtake_bad e]
    have hs : wstep r n b (fun x => x.dead == d) = (ent0, 0, wchk r n) := by unfold wstep; rw [if_pos e]
    rw [hs]
    exact ⟨fun _ => ⟨rfl, rfl⟩, fun h => absurd h e, fun h => absurd h e, fun h => absurd h e⟩
end Go.Proofs.Ytinbdppekhcekaa

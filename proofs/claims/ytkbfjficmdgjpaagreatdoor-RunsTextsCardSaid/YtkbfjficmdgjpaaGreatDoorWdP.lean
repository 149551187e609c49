
/-
  Plain facts of words: quoted forms.
-/
import Derived.Test.YtkbfjficmdgjpaaGreatDoorLib
namespace Go.Proofs.YtkbfjficmdgjpaaGreatDoor
set_option linter.unusedSimpArgs false
set_option linter.unusedVariables false

def plainB (c : UInt8) : Bool := decide (32 ≤ c.toNat) && decide (c.toNat ≤ 126) && decide (c ≠ 34) && decide (c ≠ 92)
def letB (c : UInt8) : UInt8 := if c = 34 then 34 else if c = 92 then 92 else if c = 10 then 110 else if c = 13 then 114 else if c = 9 then 116 else 0
def hxd (n : Nat) : UInt8 := if n < 10 then UInt8.ofNat (48 + n) else UInt8.ofNat (87 + n)
def escW (c : UInt8) : List UInt8 := if plainB c then [c] else if letB c ≠ 0 then [92, letB c] else [92, 120, hxd (c.toNat / 16), hxd (c.toNat % 16)]
def quoteW (l : List UInt8) : List UInt8 := 34 :: (l.flatMap escW ++ [34])
/-- The value of a digit of base 16. -/
def unhx (b : UInt8) : Option Nat := if 48 ≤ b.toNat ∧ b.toNat ≤ 57 then some (b.toNat - 48) else if 97 ≤ b.toNat ∧ b.toNat ≤ 102 then some (b.toNat - 87) else none
def unlet (l : UInt8) : Option UInt8 := if l = 34 then some 34 else if l = 92 then some 92 else if l = 110 then some 10 else if l = 114 then some 13 else if l = 116 then some 9 else none
/-- An escape, without its backslash: its byte and its length. -/
def unesc : List UInt8 → Option (UInt8 × Nat)
  | [] => none
  | l :: r => match unlet l with
    | some c => some (c, 1)
    | none => if l = 120 then match r with
        | a :: b :: _ => match unhx a, unhx b with
          | some h, some k => if plainB (UInt8.ofNat (h * 16 + k)) ∨ letB (UInt8.ofNat (h * 16 + k)) ≠ 0 then none else some (UInt8.ofNat (h * 16 + k), 3)
          | _, _ => none
        | _ => none
      else none
/-- The byte whose form stands at the beginning. -/
def dec1 : List UInt8 → Option (UInt8 × Nat)
  | [] => none
  | c :: r => if c = 92 then (unesc r).map fun x => (x.1, x.2 + 1) else if plainB c then some (c, 1) else none
theorem byte_all {P : UInt8 → Prop} [DecidablePred P] (h : ∀ n : Fin 256, P (UInt8.ofFin n)) (c : UInt8) : P c := h c.toFin
theorem unhx_hxd : ∀ c : UInt8, unhx (hxd (c.toNat / 16)) = some (c.toNat / 16) ∧ unhx (hxd (c.toNat % 16)) = some (c.toNat % 16) := byte_all (by decide +kernel)
theorem join_hx : ∀ c : UInt8, UInt8.ofNat (c.toNat / 16 * 16 + c.toNat % 16) = c := byte_all (by decide +kernel)
theorem unlet_let : ∀ c : UInt8, letB c ≠ 0 → unlet (letB c) = some c := byte_all (by decide +kernel)
theorem let_unlet : ∀ l : UInt8, ∀ c, unlet l = some c → letB c = l ∧ l ≠ 0 ∧ plainB c = false ∨ (c = 34 ∨ c = 92 ∨ c = 10 ∨ c = 13 ∨ c = 9) ∧ letB c = l ∧ l ≠ 0 ∧ plainB c = false := by
  intro l c h
  left
  unfold unlet at h
  repeat (split at h; (· rename_i e; injection h with h; subst h e; decide))
  cases h
theorem unlet120 : unlet 120 = none := by decide
theorem plain_ne : ∀ c : UInt8, plainB c = true → c ≠ 92 ∧ c ≠ 34 := byte_all (by decide +kernel)
theorem esc_dec (c : UInt8) (r : List UInt8) : dec1 (escW c ++ r) = some (c, (escW c).length) := by
  unfold escW
  by_cases hp : plainB c = true
  · rw [if_pos hp]
    have := plain_ne c hp
    simp [dec1, this.1, hp]
  · rw [if_neg hp]
    by_cases hl : letB c ≠ 0
    · rw [if_pos hl]
      simp [dec1, unesc, unlet_let c hl]
    · rw [if_neg hl]
      have h1 := unhx_hxd c
      have hp' : plainB c = false := by simpa using hp
      have hl' : letB c = 0 := Decidable.not_not.1 hl
      have h2 := join_hx c
      simp only [dec1, List.cons_append, if_true, unesc, unlet120, h1.1, h1.2, h2, hp', hl']
      simp
theorem hxd_unhx : ∀ b : UInt8, ∀ h, unhx b = some h → hxd h = b ∧ h < 16 := by
  intro b h e
  unfold unhx at e
  split at e
  · injection e with e; subst e
    refine ⟨?_, by omega⟩
    unfold hxd; rw [if_pos (by omega)]
    rw [show 48 + (b.toNat - 48) = b.toNat by omega]; simp
  · split at e
    · injection e with e; subst e
      refine ⟨?_, by omega⟩
      unfold hxd; rw [if_neg (by omega)]
      rw [show 87 + (b.toNat - 87) = b.toNat by omega]; simp
    · cases e
theorem unesc_esc {r : List UInt8} {c : UInt8} {n : Nat} (h : unesc r = some (c, n)) : ∃ s, 92 :: r = escW c ++ s ∧ n + 1 = (escW c).length := by
  match r with
  | [] => simp [unesc] at h
  | l :: r =>
    simp only [unesc] at h
    cases hu : unlet l with
    | some c' =>
      rw [hu] at h
      simp at h
      obtain ⟨rfl, rfl⟩ := h
      rcases let_unlet _ _ hu with ⟨h1, h2, h3⟩ | ⟨_, h1, h2, h3⟩ <;>
      · refine ⟨r, ?_, ?_⟩ <;> simp [escW, h3, h1, h2]
    | none =>
      rw [hu] at h
      simp only at h
      by_cases e : l = 120
      · rw [if_pos e] at h
        subst e
        match r with
        | [] => simp at h
        | [_] => simp at h
        | a :: b :: r =>
          simp only at h
          cases h1 : unhx a with
          | none => rw [h1] at h; simp at h
          | some hh =>
            cases h2 : unhx b with
            | none => rw [h1, h2] at h; simp at h
            | some kk =>
              rw [h1, h2] at h
              simp only at h
              split at h
              · cases h
              · rename_i hno
                injection h with h
                injection h with h0 h3
                subst h0 h3
                obtain ⟨u1, u2⟩ := hxd_unhx _ _ h1
                obtain ⟨v1, v2⟩ := hxd_unhx _ _ h2
                have hn : (UInt8.ofNat (hh * 16 + kk)).toNat = hh * 16 + kk := by simp; omega
                have g1 : plainB (UInt8.ofNat (hh * 16 + kk)) = false := by
                  cases q : plainB (UInt8.ofNat (hh * 16 + kk))
                  · rfl
                  · exact absurd (Or.inl q) hno
                have g2 : letB (UInt8.ofNat (hh * 16 + kk)) = 0 := Decidable.byContradiction fun q => hno (Or.inr q)
                refine ⟨r, ?_, ?_⟩
                · unfold escW
                  rw [g1, g2, hn, show (hh * 16 + kk) / 16 = hh by omega, show (hh * 16 + kk) % 16 = kk by omega, u1, v1]
                  rfl
                · unfold escW; rw [g1, g2]; rfl
      · rw [if_neg e] at h; cases h
theorem dec_esc {t : List UInt8} {c : UInt8} {n : Nat} (h : dec1 t = some (c, n)) : ∃ r, t = escW c ++ r ∧ n = (escW c).length := by
  match t with
  | [] => cases h
  | x :: r =>
    simp only [dec1] at h
    by_cases e : x = 92
    · rw [if_pos e] at h
      subst e
      cases hu : unesc r with
      | none => rw [hu] at h; cases h
      | some p =>
        rw [hu] at h
        obtain ⟨c', n'⟩ := p
        simp at h
        obtain ⟨rfl, rfl⟩ := h
        exact unesc_esc hu
    · rw [if_neg e] at h
      by_cases hp : plainB x = true
      · rw [if_pos hp] at h
        simp at h
        obtain ⟨rfl, rfl⟩ := h
        exact ⟨r, by simp [escW, hp], by simp [escW, hp]⟩
      · rw [if_neg hp] at h; cases h
/-! ### A quoted form, behind its first mark -/
def unqG : Nat → List UInt8 → Option (List UInt8 × Nat)
  | 0, _ => none
  | _ + 1, [] => none
  | f + 1, c :: r => if c = 34 then some ([], 1) else match dec1 (c :: r) with
    | none => none
    | some (x, n) => (unqG f ((c :: r).drop n)).map fun p => (x :: p.1, n + p.2)
def unq (t : List UInt8) : Option (List UInt8 × Nat) := unqG t.length t
theorem escW_pos (c : UInt8) : 1 ≤ (escW c).length := by unfold escW; split <;> (try split) <;> simp
theorem dec_pos {t : List UInt8} {c : UInt8} {n : Nat} (h : dec1 t = some (c, n)) : 1 ≤ n ∧ n ≤ t.length := by
  obtain ⟨r, h1, h2⟩ := dec_esc h
  have := escW_pos c
  rw [h1, h2, List.length_append]; omega
theorem unqG_fuel : ∀ (f : Nat) (t : List UInt8), t.length ≤ f → unqG f t = unqG t.length t := by
  intro f
  induction f using Nat.strongRecOn with
  | ind f ih =>
    intro t ht
    match f, t with
    | 0, [] => rfl
    | 0, c :: r => simp at ht
    | f + 1, [] => rfl
    | f + 1, c :: r =>
      simp only [List.length_cons] at ht ⊢
      simp only [unqG]
      by_cases e : c = 34
      · rw [if_pos e, if_pos e]
      · rw [if_neg e, if_neg e]
        cases hd : dec1 (c :: r) with
        | none => rfl
        | some p =>
          obtain ⟨x, n⟩ := p
          have hp := dec_pos hd
          simp only [List.length_cons] at hp
          have hl : ((c :: r).drop n).length ≤ r.length := by simp; omega
          simp only
          rw [ih f (by omega) _ (by omega), ← ih r.length (by omega) _ hl]
theorem unq_nil : unq [] = none := rfl
theorem unq_end (r : List UInt8) : unq (34 :: r) = some ([], 1) := by simp [unq, unqG]
theorem unq_step {c : UInt8} {r : List UInt8} {x : UInt8} {n : Nat} (h : c ≠ 34) (hd : dec1 (c :: r) = some (x, n)) : unq (c :: r) = (unq ((c :: r).drop n)).map fun p => (x :: p.1, n + p.2) := by
  have hp := dec_pos hd
  simp only [List.length_cons] at hp
  unfold unq
  simp only [List.length_cons, unqG]
  rw [if_neg h, hd]
  simp only
  rw [unqG_fuel r.length _ (by simp; omega)]
theorem unq_bad {c : UInt8} {r : List UInt8} (h : c ≠ 34) (hd : dec1 (c :: r) = none) : unq (c :: r) = none := by
  unfold unq
  simp only [List.length_cons, unqG]
  rw [if_neg h, hd]
theorem escW_head (c : UInt8) (r : List UInt8) : ∃ d s, escW c ++ r = d :: s ∧ d ≠ 34 := by
  unfold escW
  split
  · rename_i hp; exact ⟨c, r, rfl, (plain_ne c hp).2⟩
  · split
    · exact ⟨92, _, rfl, by decide⟩
    · exact ⟨92, _, rfl, by decide⟩
theorem unq_quote (l r : List UInt8) : unq (l.flatMap escW ++ 34 :: r) = some (l, (l.flatMap escW).length + 1) := by
  induction l with
  | nil => simp [unq_end]
  | cons c l ih =>
    rw [List.flatMap_cons, List.append_assoc]
    obtain ⟨d, s, hs, hd⟩ := escW_head c (l.flatMap escW ++ 34 :: r)
    have hx := esc_dec c (l.flatMap escW ++ 34 :: r)
    rw [hs] at hx ⊢
    rw [unq_step hd hx, ← hs, List.drop_left, ih]
    simp; omega
theorem quote_unq : ∀ {k : Nat} {t l : List UInt8} {n : Nat}, t.length ≤ k → unq t = some (l, n) → t = l.flatMap escW ++ 34 :: t.drop n ∧ n = (l.flatMap escW).length + 1
  | 0, [], l, n, _, h => by cases h
  | k + 1, [], l, n, _, h => by cases h
  | 0, _ :: _, l, n, hk, _ => by simp at hk
  | k + 1, c :: r, l, n, hk, h => by
    by_cases e : c = 34
    · subst e
      rw [unq_end] at h
      simp at h
      obtain ⟨rfl, rfl⟩ := h
      simp
    · cases hd : dec1 (c :: r) with
      | none => rw [unq_bad e hd] at h; cases h
      | some p =>
        obtain ⟨x, m⟩ := p
        rw [unq_step e hd] at h
        have hp := dec_pos hd
        obtain ⟨s, hs, hm⟩ := dec_esc hd
        cases hu : unq ((c :: r).drop m) with
        | none => rw [hu] at h; cases h
        | some q =>
          obtain ⟨l', n'⟩ := q
          rw [hu] at h
          simp at h
          obtain ⟨rfl, rfl⟩ := h
          have ih := quote_unq (k := k) (by simp at hk hp ⊢; omega) hu
          have hdrop : (c :: r).drop m = s := by rw [hs, hm, List.drop_left]
          rw [hdrop] at ih
          refine ⟨?_, ?_⟩
          · rw [← List.drop_drop, hdrop, List.flatMap_cons, List.append_assoc, ← ih.1]; exact hs
          · rw [ih.2, List.flatMap_cons, List.length_append, hm]; omega
/-! ### Fields of a line -/
structure Fld where
  s : List UInt8
  q : Bool
def bareW (l : List UInt8) : Bool := !l.isEmpty && l.all (fun c => plainB c && c != 32)
def Fld.txt (f : Fld) : List UInt8 := if f.q then quoteW f.s else f.s
def Fld.val (f : Fld) : Bool := f.q || bareW f.s
def wordOf (t : List UInt8) : List UInt8 := t.takeWhile (fun c => c != 32)
def bare1 (t : List UInt8) : Option (Fld × Nat) := if bareW (wordOf t) then some (⟨wordOf t, false⟩, (wordOf t).length) else none
/-- A quoted form at the beginning. -/
def unq1 : List UInt8 → Option (List UInt8 × Nat)
  | [] => none
  | c :: r => if c = 34 then (unq r).map fun p => (p.1, p.2 + 1) else none
def head1 (t : List UInt8) : Option (Fld × Nat) := match unq1 t with
  | some p => some (⟨p.1, true⟩, p.2)
  | none => bare1 t
def splitG : Nat → List UInt8 → Option (List Fld)
  | 0, _ => none
  | f + 1, t => match head1 t with
    | none => none
    | some x => match t.drop x.2 with
      | [] => some [x.1]
      | c :: r => if c = 32 then (splitG f r).map (x.1 :: ·) else none
def joinW : List Fld → List UInt8
  | [] => []
  | [f] => f.txt
  | f :: g :: l => f.txt ++ 32 :: joinW (g :: l)
theorem bare_pos {l : List UInt8} (h : bareW l = true) : l ≠ [] ∧ ∀ c ∈ l, plainB c = true ∧ c ≠ 32 := by
  unfold bareW at h
  simp at h
  exact ⟨h.1, fun c hc => h.2 c hc⟩
theorem unq1_quote (l r : List UInt8) : unq1 (quoteW l ++ r) = some (l, (quoteW l).length) := by
  unfold quoteW unq1
  simp [unq_quote]
theorem unq1_inv {t l : List UInt8} {n : Nat} (h : unq1 t = some (l, n)) : t = quoteW l ++ t.drop n ∧ n = (quoteW l).length := by
  match t with
  | [] => cases h
  | c :: r =>
    simp only [unq1] at h
    by_cases e : c = 34
    · rw [if_pos e] at h
      subst e
      cases hu : unq r with
      | none => rw [hu] at h; cases h
      | some p =>
        obtain ⟨l', m⟩ := p
        rw [hu] at h
        simp at h
        obtain ⟨rfl, rfl⟩ := h
        obtain ⟨h1, h2⟩ := quote_unq (k := r.length) (Nat.le_refl _) hu
        refine ⟨?_, ?_⟩
        · simp only [List.drop_succ_cons]
          unfold quoteW
          simp only [List.cons_append, List.append_assoc, List.nil_append]
          rw [← h1]
        · unfold quoteW; simp [h2]
    · rw [if_neg e] at h; cases h
theorem word_stop {w r : List UInt8} (h : ∀ c ∈ w, c ≠ 32) (hr : r = [] ∨ ∃ s, r = 32 :: s) : wordOf (w ++ r) = w := by
  unfold wordOf
  induction w with
  | nil =>
    rcases hr with rfl | ⟨s, rfl⟩ <;> simp
  | cons c w ih =>
    have h0 := h c (by simp)
    simp [h0, ih (fun d hd => h d (by simp [hd]))]
theorem word_drop (t : List UInt8) : t = wordOf t ++ t.drop (wordOf t).length ∧ (t.drop (wordOf t).length = [] ∨ ∃ s, t.drop (wordOf t).length = 32 :: s) := by
  unfold wordOf
  induction t with
  | nil => simp
  | cons c t ih =>
    by_cases h : c = 32
    · subst h; simp
    · simp only [List.takeWhile_cons, bne_iff_ne, ne_eq, h, not_false_eq_true, if_true, List.length_cons, List.drop_succ_cons, List.cons_append]
      exact ⟨by rw [← ih.1], ih.2⟩
theorem head1_txt {f : Fld} (hv : f.val = true) {r : List UInt8} (hr : r = [] ∨ ∃ s, r = 32 :: s) : head1 (f.txt ++ r) = some (f, f.txt.length) := by
  obtain ⟨s, q⟩ := f
  unfold head1 Fld.txt
  cases q
  · have hb : bareW s = true := by simpa [Fld.val] using hv
    obtain ⟨h1, h2⟩ := bare_pos hb
    have hw := word_stop (w := s) (fun c hc => (h2 c hc).2) hr
    have hu : unq1 (s ++ r) = none := by
      match s, h1 with
      | c :: s, _ =>
        have := (plain_ne c (h2 c (by simp)).1).2
        simp [unq1, this]
    simp only [Bool.false_eq_true, if_false]
    rw [hu]
    simp only [bare1]
    rw [hw, if_pos hb]
  · simp only [if_true]
    rw [unq1_quote]
theorem head1_inv {t : List UInt8} {f : Fld} {n : Nat} (h : head1 t = some (f, n)) : t = f.txt ++ t.drop n ∧ n = f.txt.length ∧ f.val = true ∧ 1 ≤ n := by
  unfold head1 at h
  cases hu : unq1 t with
  | some p =>
    obtain ⟨l, m⟩ := p
    rw [hu] at h
    simp at h
    obtain ⟨rfl, rfl⟩ := h
    obtain ⟨h1, h2⟩ := unq1_inv hu
    exact ⟨by simpa [Fld.txt] using h1, by simpa [Fld.txt] using h2, rfl, by rw [h2]; simp [quoteW]⟩
  | none =>
    rw [hu] at h
    simp only [bare1] at h
    split at h
    · rename_i hb
      simp at h
      obtain ⟨rfl, rfl⟩ := h
      refine ⟨by simpa [Fld.txt] using (word_drop t).1, by simp [Fld.txt], by simpa [Fld.val] using hb, ?_⟩
      have := (bare_pos hb).1
      exact List.length_pos_iff.2 this
    · cases h
theorem split_join : ∀ (l : List Fld) (f : Nat), l ≠ [] → (∀ x ∈ l, x.val = true) → (joinW l).length < f → splitG f (joinW l) = some l
  | [], _, h, _, _ => absurd rfl h
  | [x], f + 1, _, hv, _ => by
    have := head1_txt (hv x (by simp)) (r := []) (.inl rfl)
    rw [List.append_nil] at this
    simp [joinW, splitG, this]
  | x :: y :: l, f + 1, _, hv, hf => by
    have h1 := head1_txt (hv x (by simp)) (r := 32 :: joinW (y :: l)) (.inr ⟨_, rfl⟩)
    have ih := split_join (y :: l) f (by simp) (fun z hz => hv z (by simp [hz])) (by simp [joinW] at hf ⊢; omega)
    simp only [joinW, splitG, h1, List.drop_left]
    rw [if_pos trivial, ih]; rfl
  | _ :: _, 0, _, _, hf => by omega
theorem join_split : ∀ (f : Nat) (t : List UInt8) (l : List Fld), splitG f t = some l → t = joinW l ∧ l ≠ [] ∧ ∀ x ∈ l, x.val = true
  | 0, _, _, h => by cases h
  | f + 1, t, l, h => by
    simp only [splitG] at h
    cases hh : head1 t with
    | none => rw [hh] at h; cases h
    | some p =>
      obtain ⟨x, n⟩ := p
      rw [hh] at h
      obtain ⟨h1, h2, h3, h4⟩ := head1_inv hh
      simp only at h
      cases hd : t.drop n with
      | nil =>
        rw [hd] at h h1
        simp at h
        subst h
        exact ⟨by simpa [joinW] using h1, by simp, by simpa using h3⟩
      | cons c r =>
        rw [hd] at h h1
        simp only at h
        by_cases e : c = 32
        · rw [if_pos e] at h
          subst e
          cases hs : splitG f r with
          | none => rw [hs] at h; cases h
          | some l' =>
            rw [hs] at h
            simp at h
            subst h
            obtain ⟨k1, k2, k3⟩ := join_split f r l' hs
            match l', k2 with
            | y :: l', _ =>
              refine ⟨by simp only [joinW]; rw [← k1]; exact h1, by simp, ?_⟩
              intro z hz
              rcases List.mem_cons.1 hz with rfl | hz
              · exact h3
              · exact k3 z hz
        · rw [if_neg e] at h; cases h
theorem join_app : ∀ (l m : List Fld), l ≠ [] → m ≠ [] → joinW (l ++ m) = joinW l ++ 32 :: joinW m
  | [], _, h, _ => absurd rfl h
  | _, [], _, h => absurd rfl h
  | [x], y :: m, _, _ => rfl
  | x :: z :: l, y :: m, _, hm => by
    have ih := join_app (z :: l) (y :: m) (by simp) hm
    simp only [List.cons_append, joinW, List.append_assoc] at ih ⊢
    rw [ih]
end Go.Proofs.YtkbfjficmdgjpaaGreatDoor

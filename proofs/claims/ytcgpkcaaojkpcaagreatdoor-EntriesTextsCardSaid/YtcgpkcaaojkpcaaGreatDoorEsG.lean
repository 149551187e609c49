
/-
  The symmetric merge.
-/
import Derived.Test.YtcgpkcaaojkpcaaGreatDoorEsF
namespace Go.Proofs.YtcgpkcaaojkpcaaGreatDoor
open Go.RowKit Go.Sort
set_option linter.unusedSimpArgs false
set_option linter.unusedVariables false
set_option maxRecDepth 100000

/-- What a merge of two sorted parts does. -/
def MergeAt (w0 : World) (blk off cap n : Nat) (X L R Y : List DE) (a m b : Nat) (w : World) : Prop :=
  Calls Tryz.prog 95 #[.slice (some ⟨blk, off, none⟩) n cap, .int .i64 a, .int .i64 m, .int .i64 b, byV] w fun e w' => e = .returned (.tuple #[]) ∧ ∃ S, S.Perm (L ++ R) ∧ Srt ocmp S ∧ RW w0 blk off (X ++ S ++ Y).toArray w'
def MergeOK (w0 : World) (blk off cap n N : Nat) : Prop :=
  ∀ (X L R Y : List DE) (a m b : Nat) (w : World), L.length + R.length < N → 0 < L.length → 0 < R.length → a = X.length → m = a + L.length → b = m + R.length → n = b + Y.length →
    Srt ocmp L → Srt ocmp R → (∀ x ∈ L, ∀ y ∈ R, x.2 < y.2) → RW w0 blk off (X ++ L ++ R ++ Y).toArray w → MergeAt w0 blk off cap n X L R Y a m b w
theorem rw_rotate {w0 w : World} {blk off : Nat} (cap n : Nat) (P U V Q : List DE) (a m b : Nat) (ha : a = P.length) (hm' : m = a + U.length) (hb : b = m + V.length) (hU : 0 < U.length) (hV : 0 < V.length) (hn : n = b + Q.length) (hm : n ≤ 1000000) (fv : Value) (S : RW w0 blk off (P ++ U ++ V ++ Q).toArray w) :
    Calls Tryz.prog 118 #[.slice (some ⟨blk, off, none⟩) n cap, .int .i64 a, .int .i64 m, .int .i64 b, fv] w fun e w' => e = .returned (.tuple #[]) ∧ RW w0 blk off (P ++ V ++ U ++ Q).toArray w' := by
  have hz : (P ++ U ++ V ++ Q).toArray.size = n := by simp; omega
  have := slRotate w blk off cap _ S.rowK P U V Q a m b ha hm' hb hU hV (by simp; omega) (by omega) fv w S.start'
  rw [hz] at this
  refine this.mono ?_
  rintro e w' ⟨he, hs⟩
  exact ⟨he, S.sw hs (by simp; omega)⟩
/-- The places of the search: lo and hi are its ends, M how many go to the left. -/
structure Ends (l r M lo hi : Nat) : Prop where
  lo0 : lo = 0 ∨ lo + r = M
  hi0 : hi = l ∨ hi = M
  hl : hi ≤ l
  hM : hi ≤ M
  hr : M ≤ lo + r
  lh : lo ≤ hi
theorem ends_a {a m b mid : Nat} (h1 : a < m) (h2 : m < b) (hmid : mid = (a + b) / 2) (h : mid < m) : Ends (m - a) (b - m) (mid - a) (mid + m - b - a) (mid - a) :=
  ⟨.inr (by omega), .inr rfl, by omega, Nat.le_refl _, by omega, by omega⟩
theorem ends_b {a m b mid : Nat} (h1 : a < m) (h2 : m < b) (hmid : mid = (a + b) / 2) (h : ¬ mid < m) : Ends (m - a) (b - m) (mid - a) 0 (m - a) :=
  ⟨.inl rfl, .inl rfl, Nat.le_refl _, by omega, by omega, by omega⟩
theorem split_of {L R S1 S2 : List DE} {M lo hi s : Nat} (hE : Ends L.length R.length M lo hi) (hL : Srt ocmp L) (hR : Srt ocmp R) (h0 : lo ≤ s) (h1 : s ≤ hi)
    (hlo : s ≠ lo → ∀ x y, L[s - 1]? = some x → R[M - s]? = some y → lt2 ocmp x y) (hhi : s ≠ hi → ∀ x y, R[M - 1 - s]? = some x → L[s]? = some y → lt2 ocmp x y)
    (p1 : S1.Perm (L.take s ++ R.take (M - s))) (q1 : Srt ocmp S1) (p2 : S2.Perm (L.drop s ++ R.drop (M - s))) (q2 : Srt ocmp S2) : (S1 ++ S2).Perm (L ++ R) ∧ Srt ocmp (S1 ++ S2) := by
  obtain ⟨e1, e2, e3, e4, e5, e6⟩ := hE
  refine sym_split ocmp_pre hL hR s (M - s) (by omega) (by omega) (fun x y hs hx hy => ?_) (fun x y ht hx hy => ?_) p1 q1 p2 q2
  · refine hlo ?_ x y hx hy
    rintro rfl
    have := (List.getElem?_eq_some_iff.1 hy).1
    omega
  · refine hhi ?_ x y (by rw [show M - 1 - s = M - s - 1 by omega]; exact hx) hy
    rintro rfl
    have := (List.getElem?_eq_some_iff.1 hy).1
    omega
theorem srt_one {A B : List DE} (h : A = [] ∨ B = []) (hA : Srt ocmp A) (hB : Srt ocmp B) : Srt ocmp (A ++ B) := by
  rcases h with rfl | rfl
  · simpa using hB
  · simpa using hA
theorem row_split (X L R Y : List DE) (s t : Nat) : X ++ L ++ R ++ Y = X ++ L.take s ++ L.drop s ++ R.take t ++ (R.drop t ++ Y) := by
  conv => lhs; rw [← List.take_append_drop s L, ← List.take_append_drop t R]
  simp only [List.append_assoc]
theorem row_same {L R : List DE} {s t : Nat} (h : L.length ≤ s ∨ t = 0) : L.drop s ++ R.take t = R.take t ++ L.drop s := by
  rcases h with h | rfl
  · rw [List.drop_of_length_le h]; simp
  · simp
/-- All that is known behind the search. -/
structure Found (X L R Y : List DE) (a m b n mid st en s t lo hi : Nat) : Prop where
  ha : a = X.length
  hma : m = a + L.length
  hb : b = m + R.length
  hn : n = b + Y.length
  hL : Srt ocmp L
  hR : Srt ocmp R
  hx : ∀ x ∈ L, ∀ y ∈ R, x.2 < y.2
  hst : st = a + s
  hen : en = m + t
  hmid : mid = a + s + t
  hsL : s ≤ L.length
  htR : t ≤ R.length
  fin : ∀ S1 S2 : List DE, S1.Perm (L.take s ++ R.take t) → Srt ocmp S1 → S2.Perm (L.drop s ++ R.drop t) → Srt ocmp S2 → (S1 ++ S2).Perm (L ++ R) ∧ Srt ocmp (S1 ++ S2)
theorem Found.rot {X L R Y : List DE} {a m b n mid st en s t lo hi : Nat} (F : Found X L R Y a m b n mid st en s t lo hi) {w0 w : World} {blk off : Nat} (cap : Nat) (hm : n ≤ 1000000) (fv : Value) (h1 : s < L.length) (h2 : 0 < t) (S : RW w0 blk off (X ++ L ++ R ++ Y).toArray w) :
    Calls Tryz.prog 118 #[.slice (some ⟨blk, off, none⟩) n cap, .int .i64 st, .int .i64 m, .int .i64 en, fv] w fun e w' => e = .returned (.tuple #[]) ∧ RW w0 blk off (X ++ (L.take s ++ R.take t) ++ (L.drop s ++ R.drop t) ++ Y).toArray w' := by
  obtain ⟨ha, hma, hb, hn, hL, hR, hx, hst, hen, hmid, hsL, htR, -⟩ := F
  rw [row_split X L R Y s t] at S
  refine (rw_rotate cap n (X ++ L.take s) (L.drop s) (R.take t) (R.drop t ++ Y) st m en (by simp; omega) (by simp; omega) (by simp; omega) (by simp; omega) (by simp; omega) (by simp; omega) hm fv S).mono ?_
  rintro e w' ⟨he, h⟩
  refine ⟨he, ?_⟩
  simpa only [List.append_assoc] using h
theorem Found.stay {X L R Y : List DE} {a m b n mid st en s t lo hi : Nat} (F : Found X L R Y a m b n mid st en s t lo hi) {w0 w : World} {blk off : Nat} (h : L.length ≤ s ∨ t = 0) (S : RW w0 blk off (X ++ L ++ R ++ Y).toArray w) : RW w0 blk off (X ++ (L.take s ++ R.take t) ++ (L.drop s ++ R.drop t) ++ Y).toArray w := by
  have e : X ++ (L.take s ++ R.take t) ++ (L.drop s ++ R.drop t) ++ Y = X ++ L ++ R ++ Y := by
    rw [row_split X L R Y s t]
    simp only [List.append_assoc]
    rw [← List.append_assoc (R.take t) (L.drop s), ← row_same h, List.append_assoc]
  rw [e]; exact S
theorem Found.rec1 {X L R Y : List DE} {a m b n mid st en s t lo hi : Nat} (F : Found X L R Y a m b n mid st en s t lo hi) {w0 w : World} {blk off cap : Nat} (hI : MergeOK w0 blk off cap n (L.length + R.length)) (h1 : 0 < s) (h2 : 0 < t) (h3 : s < L.length ∨ t < R.length) (S : RW w0 blk off (X ++ (L.take s ++ R.take t) ++ (L.drop s ++ R.drop t) ++ Y).toArray w) :
    MergeAt w0 blk off cap n X (L.take s) (R.take t) (L.drop s ++ R.drop t ++ Y) a st mid w := by
  obtain ⟨ha, hma, hb, hn, hL, hR, hx, hst, hen, hmid, hsL, htR, -⟩ := F
  exact hI X (L.take s) (R.take t) (L.drop s ++ R.drop t ++ Y) a st mid w (by simp; omega) (by simp; omega) (by simp; omega) ha (by simp; omega) (by simp; omega) (by simp; omega) (srt_take hL _) (srt_take hR _)
    (fun x hx' y hy' => hx x (List.mem_of_mem_take hx') y (List.mem_of_mem_take hy')) (by simpa only [List.append_assoc] using S)
theorem Found.rec2 {X L R Y : List DE} {a m b n mid st en s t lo hi : Nat} (F : Found X L R Y a m b n mid st en s t lo hi) {w0 w : World} {blk off cap : Nat} (hI : MergeOK w0 blk off cap n (L.length + R.length)) (S1 : List DE) (hS1 : S1.length = s + t) (h1 : s < L.length) (h2 : t < R.length) (h3 : 0 < s ∨ 0 < t) (S : RW w0 blk off (X ++ S1 ++ (L.drop s ++ R.drop t) ++ Y).toArray w) :
    MergeAt w0 blk off cap n (X ++ S1) (L.drop s) (R.drop t) Y mid en b w := by
  obtain ⟨ha, hma, hb, hn, hL, hR, hx, hst, hen, hmid, hsL, htR, -⟩ := F
  exact hI (X ++ S1) (L.drop s) (R.drop t) Y mid en b w (by simp; omega) (by simp; omega) (by simp; omega) (by simp; omega) (by simp; omega) (by simp; omega) (by omega) (srt_drop hL _) (srt_drop hR _)
    (fun x hx' y hy' => hx x (List.mem_of_mem_drop hx') y (List.mem_of_mem_drop hy')) (by simpa only [List.append_assoc] using S)
theorem Found.done {X L R Y : List DE} {a m b n mid st en s t lo hi : Nat} (F : Found X L R Y a m b n mid st en s t lo hi) {w0 w : World} {blk off : Nat} {S1 S2 : List DE} (p1 : S1.Perm (L.take s ++ R.take t)) (q1 : Srt ocmp S1) (p2 : S2.Perm (L.drop s ++ R.drop t)) (q2 : Srt ocmp S2) (S : RW w0 blk off (X ++ S1 ++ S2 ++ Y).toArray w) :
    ∃ S, S.Perm (L ++ R) ∧ Srt ocmp S ∧ RW w0 blk off (X ++ S ++ Y).toArray w := by
  obtain ⟨a, b⟩ := F.fin S1 S2 p1 q1 p2 q2
  exact ⟨S1 ++ S2, a, b, by simpa only [List.append_assoc] using S⟩
set_option maxHeartbeats 16000000 in
theorem symC (w0 : World) (blk off cap n : Nat) (X L R Y : List DE) (a m b : Nat) (ha : a = X.length) (hma : m = a + L.length) (hL2 : 2 ≤ L.length) (hb : b = m + R.length) (hR2 : 2 ≤ R.length) (hn : n = b + Y.length) (hm : n ≤ 1000000)
    (hL : Srt ocmp L) (hR : Srt ocmp R) (hx : ∀ x ∈ L, ∀ y ∈ R, x.2 < y.2) (hI : MergeOK w0 blk off cap n (L.length + R.length)) (w : World) (S : RW w0 blk off (X ++ L ++ R ++ Y).toArray w) : MergeAt w0 blk off cap n X L R Y a m b w := by
  unfold MergeAt byV
  obtain ⟨mid, hmid⟩ : ∃ mid, mid = (a + b) / 2 := ⟨_, rfl⟩
  have HB := Lib.hid (fun x y w => entBy x y w)
  have HS := Lib.hid S
  have HI := Lib.hid hI
  have HQ := Lib.hid (And.intro ha (And.intro hma (And.intro hb (And.intro hn (And.intro hL (And.intro hR (And.intro hx hmid)))))))
  have HL2 := Lib.hid (And.intro hL2 hR2)
  have ham : a ≤ 1000000 := by omega
  have hmm : m ≤ 1000000 := by omega
  have hbm : b ≤ 1000000 := by omega
  have hmid2 : mid ≤ 1000000 := by omega
  have t1 : ((m : Int) - (a : Int) == 1) = false := by rw [beq_eq_false_iff_ne]; omega
  have t2 : ((b : Int) - (m : Int) == 1) = false := by rw [beq_eq_false_iff_ne]; omega
  have t3 : ((a : Int) + (b : Int)) / 2 = (mid : Int) := by omega
  by_cases hcase : mid < m
  · obtain ⟨st0, hst0⟩ : ∃ st0, st0 = mid + m - b := ⟨_, rfl⟩
    have t4 : (mid : Int) + (m : Int) - (b : Int) = (st0 : Int) := by omega
    have hE := ends_a (by omega) (by omega) hmid hcase
    rw [show m - a = L.length by omega, show b - m = R.length by omega] at hE
    have HE := Lib.hid (And.intro hE (show st0 = a + (mid + m - b - a) ∧ mid = a + (mid - a) by have := hE.lo0; omega))
    clear hE S hI ha hma hb hn hL hR hx hL2 hR2 hmid hst0
    go_enter Tryz.func95, Tryz.ntmps95
    go_wp2_with fail
    go_loopg [20, 21] (((mid - a)) - ((mid + m - b - a))) (fun g v1 v2 wr => ∃ st e s u : Nat, v1 = .int .i64 st ∧ v2 = .int .i64 e ∧ Hid (st = a + s ∧ e = a + u ∧ ((mid + m - b - a)) ≤ s ∧ s ≤ u ∧ u ≤ ((mid - a)) ∧ g = u - s ∧ (s ≠ ((mid + m - b - a)) → ∀ x y, L[s - 1]? = some x → R[mid - a - s]? = some y → lt2 ocmp x y) ∧ (u ≠ ((mid - a)) → ∀ x y, R[mid - a - 1 - u]? = some x → L[u]? = some y → lt2 ocmp x y) ∧ RW w0 blk off (X ++ L ++ R ++ Y).toArray wr))
    case atStart =>
      exact ⟨st0, mid, ((mid + m - b - a)), ((mid - a)), rfl, rfl, Lib.hid ⟨HE.out.2.1, HE.out.2.2, Nat.le_refl _, HE.out.1.lh, Nat.le_refl _, rfl, fun h => absurd rfl h, fun h => absurd rfl h, HS.out⟩⟩
    case round =>
      clear HS
      obtain ⟨st, e, s, u, rfl, rfl, H⟩ := hrel
      obtain ⟨ha, hma, hb, hn, hL, hR, hx, hmid⟩ := HQ.out
      obtain ⟨hst, he, hlo, hsu, huh, hg, hl1, hh2, hS⟩ := H.out
      obtain ⟨⟨e1, e2, e3, e4, e5, e6⟩, e7, e8⟩ := HE.out
      by_cases hlt : st < e
      · obtain ⟨r, hr⟩ : ∃ r, r = (st + e) / 2 - a := ⟨_, rfl⟩
        have hr1 : s ≤ r := by omega
        have hr2 : r < u := by omega
        obtain ⟨c, hc⟩ : ∃ c : Nat, c = a + r := ⟨_, rfl⟩
        obtain ⟨pc, hpc⟩ : ∃ pc : Nat, pc = m + (mid - a - 1 - r) := ⟨_, rfl⟩
        have hh1 : ((st : Int) + (e : Int)) / 2 = (c : Int) := by omega
        have hh3 : (mid : Int) + (m : Int) - 1 - (c : Int) = (pc : Int) := by omega
        obtain ⟨x, hxe⟩ : ∃ x, L[r]? = some x := ⟨_, List.getElem?_eq_getElem (by omega)⟩
        obtain ⟨y, hye⟩ : ∃ y, R[mid - a - 1 - r]? = some y := ⟨_, List.getElem?_eq_getElem (by omega)⟩
        have hd1 : (X ++ L ++ R ++ Y).toArray[c]! = x := by
          rw [List.append_assoc (X ++ L)]; exact get_at X L (R ++ Y) c r x (by omega) hxe
        have hd0 : (X ++ L ++ R ++ Y).toArray[pc]! = y := get_at (X ++ L) R Y pc _ y (by simp; omega) hye
        have hsz : (X ++ L ++ R ++ Y).toArray.size = n := by simp; omega
        obtain ⟨⟨x0, x1, x2, x3⟩, -⟩ := hS.ent pc y (by omega) hd0
        obtain ⟨⟨y0, y1, y2, y3⟩, -⟩ := hS.ent c x (by omega) hd1
        have hxy : x.2 < y.2 := hx x (List.mem_of_getElem? hxe) y (List.mem_of_getElem? hye)
        have hi2 : st ≤ 1000000 := by omega
        have hj2 : e ≤ 1000000 := by omega
        have hcn : c < n := by omega
        have hpn : pc < n := by omega
        have hc2 : c ≤ 1000000 := by omega
        have HH := Lib.hid (And.intro hr1 (And.intro hr2 (And.intro hc (And.intro hxe (And.intro hye hxy)))))
        have hms : u - (r + 1) < gk ∧ r - s < gk := by omega
        have HMs := Lib.hid hms
        clear hms ha hma hb hn hL hR hx hmid hst he hlo hsu huh hg hl1 hh2 hS hr hr1 hr2 hc hpc hxe hye hd1 hd0 hsz hxy e1 e2 e3 e4 e5 e6 e7 e8
        by_cases hcm : ocmp y.1 x.1 < 0
        · have c0 := hcm
          have HC := Lib.hid hcm
          clear hcm
          
          have hb := fun w => HB.out (y).1 (x).1 w
          obtain ⟨qv, hq⟩ : ∃ q, ocmp (y).1 (x).1 = q := ⟨_, rfl⟩
          unfold Ent.v at hb
          rw [hq] at hb c0
          have HBy := Lib.hid hb
          have c1 : decide (qv < 0) = true := by rw [decide_eq_true_eq]; exact c0
          have x0' := @BW.cell wr _ _ x0
          have x1' := @BW.cell wr _ _ x1
          have x2' := @BW.cell wr _ _ x2
          have x3' := @BW.cell wr _ _ x3
          have y0' := @BW.cell wr _ _ y0
          have y1' := @BW.cell wr _ _ y1
          have y2' := @BW.cell wr _ _ y2
          have y3' := @BW.cell wr _ _ y3
          clear hb hq c0
          go_wp2_with fail
          
          refine wp_region_quiet_bw wr (by kernel_rfl) (by kernel_rfl) (Bl.refl wr) ?_
          repeat (go_big_quiet_step ((go_at_call 31; exact quietB (HBy.out _))))
          refine wpQuiet_nil ?_
          intro wq hw'
          have hwq : Bl wr wq := by obtain ⟨x, hx⟩ := hw'; rw [hx]; exact x.h
          clear hw'
          go_wp2_with fail
          go_roundg (r - s)
          case rel =>
            obtain ⟨hst, he, hlo, hsu, huh, hg, hl1, hh2, hS⟩ := H.out
            obtain ⟨hr1, hr2, hc, hxe, hye, hxy⟩ := HH.out
            exact ⟨st, c, s, r, rfl, rfl, Lib.hid ⟨hst, hc, hlo, hr1, by omega, rfl, hl1, fun _ x' y' hx' hy' => (by rw [hye] at hx'; rw [hxe] at hy'; injection hx' with i1; injection hy' with i2; rw [← i1, ← i2]; exact lt2_yes HC.out), hS.bl hwq⟩⟩
          case measure => exact HMs.out.2
        · have c0 := hcm
          have HC := Lib.hid hcm
          clear hcm
          
          have hb := fun w => HB.out (y).1 (x).1 w
          obtain ⟨qv, hq⟩ : ∃ q, ocmp (y).1 (x).1 = q := ⟨_, rfl⟩
          unfold Ent.v at hb
          rw [hq] at hb c0
          have HBy := Lib.hid hb
          have c1 : decide (qv < 0) = false := by rw [decide_eq_false_iff_not]; exact c0
          have x0' := @BW.cell wr _ _ x0
          have x1' := @BW.cell wr _ _ x1
          have x2' := @BW.cell wr _ _ x2
          have x3' := @BW.cell wr _ _ x3
          have y0' := @BW.cell wr _ _ y0
          have y1' := @BW.cell wr _ _ y1
          have y2' := @BW.cell wr _ _ y2
          have y3' := @BW.cell wr _ _ y3
          clear hb hq c0
          go_wp2_with fail
          
          refine wp_region_quiet_bw wr (by kernel_rfl) (by kernel_rfl) (Bl.refl wr) ?_
          repeat (go_big_quiet_step ((go_at_call 31; exact quietB (HBy.out _))))
          refine wpQuiet_nil ?_
          intro wq hw'
          have hwq : Bl wr wq := by obtain ⟨x, hx⟩ := hw'; rw [hx]; exact x.h
          clear hw'
          go_wp2_with fail
          go_roundg (u - (r + 1))
          case rel =>
            obtain ⟨hst, he, hlo, hsu, huh, hg, hl1, hh2, hS⟩ := H.out
            obtain ⟨hr1, hr2, hc, hxe, hye, hxy⟩ := HH.out
            exact ⟨c + 1, e, r + 1, u, by go_num, rfl, Lib.hid ⟨by omega, he, by omega, by omega, huh, rfl, fun _ x' y' hx' hy' => (by rw [Nat.add_sub_cancel, hxe] at hx'; rw [show mid - a - (r + 1) = mid - a - 1 - r by omega, hye] at hy'; injection hx' with i1; injection hy' with i2; rw [← i1, ← i2]; exact lt2_no ocmp_pre hxy (by have := HC.out; omega)), hh2, hS.bl hwq⟩⟩
          case measure => exact HMs.out.1
      · have hsu' : s = u := by omega
        subst hsu'
        obtain ⟨t, ht⟩ : ∃ t, t = mid - a - s := ⟨_, rfl⟩
        obtain ⟨en, hen⟩ : ∃ en, en = m + t := ⟨_, rfl⟩
        have hh1 : (mid : Int) + (m : Int) - (st : Int) = (en : Int) := by omega
        have hF : Found X L R Y a m b n mid st en s t (((mid + m - b - a))) (((mid - a))) := ⟨ha, hma, hb, hn, hL, hR, hx, hst, hen, by omega, by omega, by omega, fun S1 S2 p1 q1 p2 q2 => by subst ht; exact split_of HE.out.1 hL hR hlo huh hl1 hh2 p1 q1 p2 q2⟩
        have HF := Lib.hid hF
        have hst2 : st ≤ 1000000 := by omega
        have hen2 : en ≤ 1000000 := by omega
        have hle : ¬ (st : Int) < (e : Int) := by omega
        have HS := Lib.hid hS
        by_cases h1 : s < L.length ∧ 0 < t
        · have g1 : st < m := by omega
          have g2 : m < en := by omega
          have e0 := hF.rot cap hm byV h1.1 h1.2 hS
          unfold byV at e0
          have E0 := Lib.hid e0
          have H1 := Lib.hid h1
          clear e0 h1 hF ha hma hb hn hL hR hx hmid hst he hlo hsu huh hg hl1 hh2 hS ht hen e1 e2 e3 e4 e5 e6 e7 e8 H hlt
          go_wp2_with fail
          refine E0.out.mono ?_; rintro ee wz ⟨rfl, hS0⟩
          have HS0 := Lib.hid hS0
          clear hS0
          by_cases h3 : 0 < s ∧ 0 < t
          · have g3 : a < st := by have := HF.out.hst; omega
            have g4 : st < mid := by have := HF.out.hst; have := HF.out.hmid; omega
            by_cases h7 : s < L.length ∨ t < R.length
            · have e1 := HF.out.rec1 HI.out h3.1 h3.2 h7 HS0.out
              unfold MergeAt byV at e1
              have E1 := Lib.hid e1
              have H3 := Lib.hid h3
              clear e1 h3 h7
              go_wp2_with fail
              refine E1.out.mono ?_; rintro e wz ⟨rfl, S1, p1, q1, hS1⟩
              have HS1 := Lib.hid (show RW w0 blk off (X ++ S1 ++ (L.drop s ++ R.drop t) ++ Y).toArray wz by simpa only [List.append_assoc] using hS1)
              have HP1 := Lib.hid (And.intro p1 q1)
              clear p1 q1 hS1
              by_cases h5 : s < L.length ∧ t < R.length
              · have g5 : mid < en := by have := HF.out; have := this.hmid; have := HF.out.hen; have := HF.out.hma; have := HF.out.hst; omega
                have g6 : en < b := by have := HF.out.hen; have := HF.out.hb; omega
                have e2 := HF.out.rec2 HI.out S1 (by rw [HP1.out.1.length_eq]; simp; have := HF.out.hsL; have := HF.out.htR; omega) h5.1 h5.2 (.inl H3.out.1) HS1.out
                unfold MergeAt byV at e2
                have E2 := Lib.hid e2
                clear e2 h5
                go_wp2_with fail
                refine E2.out.mono ?_; rintro e w2 ⟨rfl, S2, p2, q2, hS2⟩
                have HS2 := Lib.hid (And.intro p2 (And.intro q2 hS2))
                clear p2 q2 hS2
                go_wp2_with fail
                go_end0
                exact ⟨rfl, HF.out.done HP1.out.1 HP1.out.2 HS2.out.1 HS2.out.2.1 (by simpa only [List.append_assoc] using HS2.out.2.2)⟩
              · have H5 := Lib.hid (show L.length ≤ s ∨ R.length ≤ t by omega)
                have hfin : ∃ S, S.Perm (L ++ R) ∧ Srt ocmp S ∧ RW w0 blk off (X ++ S ++ Y).toArray wz := HF.out.done HP1.out.1 HP1.out.2 (.refl _) (srt_one (by rcases H5.out with h | h; exact .inl (List.drop_of_length_le h); exact .inr (List.drop_of_length_le h)) (srt_drop HF.out.hL _) (srt_drop HF.out.hR _)) HS1.out
                have HFin := Lib.hid hfin
                clear hfin
                by_cases g5 : mid < en
                · have g6 : ¬ en < b := by have := HF.out.hmid; have := HF.out.hen; have := HF.out.hma; have := HF.out.hst; have := HF.out.hb; have := HF.out.hsL; have := HF.out.htR; have := H5.out; omega
                  clear h5
                  go_wp2_with fail
                  go_end0
                  first | exact ⟨rfl, HFin.out⟩ | exact ⟨rfl, by simpa only [List.append_assoc] using HFin.out⟩
                · clear h5
                  go_wp2_with fail
                  go_end0
                  first | exact ⟨rfl, HFin.out⟩ | exact ⟨rfl, by simpa only [List.append_assoc] using HFin.out⟩
            · exfalso; have := HF.out.hsL; have := HF.out.htR; have := HF.out.hmid; have := HF.out.hma; have := HF.out.hst; have := HL2.out; have := HQ.out; omega
          · obtain ⟨S1, hS1e⟩ : ∃ S1, L.take s ++ R.take t = S1 := ⟨_, rfl⟩
            have hP1 : S1.Perm (L.take s ++ R.take t) ∧ Srt ocmp S1 := by
              rw [← hS1e]
              exact ⟨.refl _, srt_one (by rcases Nat.eq_zero_or_pos s with h | h; (left; rw [h]; rfl); (right; rw [show t = 0 by omega]; rfl)) (srt_take HF.out.hL _) (srt_take HF.out.hR _)⟩
            have HP1 := Lib.hid hP1
            have hS1 := HS0.out
            rw [hS1e] at hS1
            have HS1 := Lib.hid hS1
            have H3 := Lib.hid h3
            clear hP1 hS1 hS1e
            by_cases g3 : a < st
            · have g4 : ¬ st < mid := by have := HF.out.hst; have := HF.out.hmid; omega
              clear h3
              by_cases h5 : s < L.length ∧ t < R.length
              · have g5 : mid < en := by have := HF.out; have := this.hmid; have := HF.out.hen; have := HF.out.hma; have := HF.out.hst; omega
                have g6 : en < b := by have := HF.out.hen; have := HF.out.hb; omega
                have e2 := HF.out.rec2 HI.out S1 (by rw [HP1.out.1.length_eq]; simp; have := HF.out.hsL; have := HF.out.htR; omega) h5.1 h5.2 (by have := HF.out.hst; omega) HS1.out
                unfold MergeAt byV at e2
                have E2 := Lib.hid e2
                clear e2 h5
                go_wp2_with fail
                refine E2.out.mono ?_; rintro e w2 ⟨rfl, S2, p2, q2, hS2⟩
                have HS2 := Lib.hid (And.intro p2 (And.intro q2 hS2))
                clear p2 q2 hS2
                go_wp2_with fail
                go_end0
                exact ⟨rfl, HF.out.done HP1.out.1 HP1.out.2 HS2.out.1 HS2.out.2.1 (by simpa only [List.append_assoc] using HS2.out.2.2)⟩
              · have H5 := Lib.hid (show L.length ≤ s ∨ R.length ≤ t by omega)
                have hfin : ∃ S, S.Perm (L ++ R) ∧ Srt ocmp S ∧ RW w0 blk off (X ++ S ++ Y).toArray wz := HF.out.done HP1.out.1 HP1.out.2 (.refl _) (srt_one (by rcases H5.out with h | h; exact .inl (List.drop_of_length_le h); exact .inr (List.drop_of_length_le h)) (srt_drop HF.out.hL _) (srt_drop HF.out.hR _)) HS1.out
                have HFin := Lib.hid hfin
                clear hfin
                by_cases g5 : mid < en
                · have g6 : ¬ en < b := by have := HF.out.hmid; have := HF.out.hen; have := HF.out.hma; have := HF.out.hst; have := HF.out.hb; have := HF.out.hsL; have := HF.out.htR; have := H5.out; omega
                  clear h5
                  go_wp2_with fail
                  go_end0
                  first | exact ⟨rfl, HFin.out⟩ | exact ⟨rfl, by simpa only [List.append_assoc] using HFin.out⟩
                · clear h5
                  go_wp2_with fail
                  go_end0
                  first | exact ⟨rfl, HFin.out⟩ | exact ⟨rfl, by simpa only [List.append_assoc] using HFin.out⟩
            · clear h3
              by_cases h5 : s < L.length ∧ t < R.length
              · have g5 : mid < en := by have := HF.out; have := this.hmid; have := HF.out.hen; have := HF.out.hma; have := HF.out.hst; omega
                have g6 : en < b := by have := HF.out.hen; have := HF.out.hb; omega
                have e2 := HF.out.rec2 HI.out S1 (by rw [HP1.out.1.length_eq]; simp; have := HF.out.hsL; have := HF.out.htR; omega) h5.1 h5.2 (by have := HF.out.hst; have := HF.out.hmid; have := HF.out.hma; have := HF.out.hen; omega) HS1.out
                unfold MergeAt byV at e2
                have E2 := Lib.hid e2
                clear e2 h5
                go_wp2_with fail
                refine E2.out.mono ?_; rintro e w2 ⟨rfl, S2, p2, q2, hS2⟩
                have HS2 := Lib.hid (And.intro p2 (And.intro q2 hS2))
                clear p2 q2 hS2
                go_wp2_with fail
                go_end0
                exact ⟨rfl, HF.out.done HP1.out.1 HP1.out.2 HS2.out.1 HS2.out.2.1 (by simpa only [List.append_assoc] using HS2.out.2.2)⟩
              · have H5 := Lib.hid (show L.length ≤ s ∨ R.length ≤ t by omega)
                have hfin : ∃ S, S.Perm (L ++ R) ∧ Srt ocmp S ∧ RW w0 blk off (X ++ S ++ Y).toArray wz := HF.out.done HP1.out.1 HP1.out.2 (.refl _) (srt_one (by rcases H5.out with h | h; exact .inl (List.drop_of_length_le h); exact .inr (List.drop_of_length_le h)) (srt_drop HF.out.hL _) (srt_drop HF.out.hR _)) HS1.out
                have HFin := Lib.hid hfin
                clear hfin
                by_cases g5 : mid < en
                · have g6 : ¬ en < b := by have := HF.out.hmid; have := HF.out.hen; have := HF.out.hma; have := HF.out.hst; have := HF.out.hb; have := HF.out.hsL; have := HF.out.htR; have := H5.out; omega
                  clear h5
                  go_wp2_with fail
                  go_end0
                  first | exact ⟨rfl, HFin.out⟩ | exact ⟨rfl, by simpa only [List.append_assoc] using HFin.out⟩
                · clear h5
                  go_wp2_with fail
                  go_end0
                  first | exact ⟨rfl, HFin.out⟩ | exact ⟨rfl, by simpa only [List.append_assoc] using HFin.out⟩
        · have hS0 := hF.stay (by omega) hS
          have HS0 := Lib.hid hS0
          have H1 := Lib.hid h1
          obtain ⟨wz, hwz⟩ : ∃ wz, wz = wr := ⟨_, rfl⟩
          rw [← hwz] at HS0 ⊢
          by_cases g1 : st < m
          · have g2 : ¬ m < en := by omega
            clear hS0 h1 hF ha hma hb hn hL hR hx hmid hst he hlo hsu huh hg hl1 hh2 hS ht hen e1 e2 e3 e4 e5 e6 e7 e8 H hlt hwz
            by_cases h3 : 0 < s ∧ 0 < t
            · have g3 : a < st := by have := HF.out.hst; omega
              have g4 : st < mid := by have := HF.out.hst; have := HF.out.hmid; omega
              by_cases h7 : s < L.length ∨ t < R.length
              · have e1 := HF.out.rec1 HI.out h3.1 h3.2 h7 HS0.out
                unfold MergeAt byV at e1
                have E1 := Lib.hid e1
                have H3 := Lib.hid h3
                clear e1 h3 h7
                go_wp2_with fail
                refine E1.out.mono ?_; rintro e wz ⟨rfl, S1, p1, q1, hS1⟩
                have HS1 := Lib.hid (show RW w0 blk off (X ++ S1 ++ (L.drop s ++ R.drop t) ++ Y).toArray wz by simpa only [List.append_assoc] using hS1)
                have HP1 := Lib.hid (And.intro p1 q1)
                clear p1 q1 hS1
                by_cases h5 : s < L.length ∧ t < R.length
                · have g5 : mid < en := by have := HF.out; have := this.hmid; have := HF.out.hen; have := HF.out.hma; have := HF.out.hst; omega
                  have g6 : en < b := by have := HF.out.hen; have := HF.out.hb; omega
                  have e2 := HF.out.rec2 HI.out S1 (by rw [HP1.out.1.length_eq]; simp; have := HF.out.hsL; have := HF.out.htR; omega) h5.1 h5.2 (.inl H3.out.1) HS1.out
                  unfold MergeAt byV at e2
                  have E2 := Lib.hid e2
                  clear e2 h5
                  go_wp2_with fail
                  refine E2.out.mono ?_; rintro e w2 ⟨rfl, S2, p2, q2, hS2⟩
                  have HS2 := Lib.hid (And.intro p2 (And.intro q2 hS2))
                  clear p2 q2 hS2
                  go_wp2_with fail
                  go_end0
                  exact ⟨rfl, HF.out.done HP1.out.1 HP1.out.2 HS2.out.1 HS2.out.2.1 (by simpa only [List.append_assoc] using HS2.out.2.2)⟩
                · have H5 := Lib.hid (show L.length ≤ s ∨ R.length ≤ t by omega)
                  have hfin : ∃ S, S.Perm (L ++ R) ∧ Srt ocmp S ∧ RW w0 blk off (X ++ S ++ Y).toArray wz := HF.out.done HP1.out.1 HP1.out.2 (.refl _) (srt_one (by rcases H5.out with h | h; exact .inl (List.drop_of_length_le h); exact .inr (List.drop_of_length_le h)) (srt_drop HF.out.hL _) (srt_drop HF.out.hR _)) HS1.out
                  have HFin := Lib.hid hfin
                  clear hfin
                  by_cases g5 : mid < en
                  · have g6 : ¬ en < b := by have := HF.out.hmid; have := HF.out.hen; have := HF.out.hma; have := HF.out.hst; have := HF.out.hb; have := HF.out.hsL; have := HF.out.htR; have := H5.out; omega
                    clear h5
                    go_wp2_with fail
                    go_end0
                    first | exact ⟨rfl, HFin.out⟩ | exact ⟨rfl, by simpa only [List.append_assoc] using HFin.out⟩
                  · clear h5
                    go_wp2_with fail
                    go_end0
                    first | exact ⟨rfl, HFin.out⟩ | exact ⟨rfl, by simpa only [List.append_assoc] using HFin.out⟩
              · exfalso; have := HF.out.hsL; have := HF.out.htR; have := HF.out.hmid; have := HF.out.hma; have := HF.out.hst; have := HL2.out; have := HQ.out; omega
            · obtain ⟨S1, hS1e⟩ : ∃ S1, L.take s ++ R.take t = S1 := ⟨_, rfl⟩
              have hP1 : S1.Perm (L.take s ++ R.take t) ∧ Srt ocmp S1 := by
                rw [← hS1e]
                exact ⟨.refl _, srt_one (by rcases Nat.eq_zero_or_pos s with h | h; (left; rw [h]; rfl); (right; rw [show t = 0 by omega]; rfl)) (srt_take HF.out.hL _) (srt_take HF.out.hR _)⟩
              have HP1 := Lib.hid hP1
              have hS1 := HS0.out
              rw [hS1e] at hS1
              have HS1 := Lib.hid hS1
              have H3 := Lib.hid h3
              clear hP1 hS1 hS1e
              by_cases g3 : a < st
              · have g4 : ¬ st < mid := by have := HF.out.hst; have := HF.out.hmid; omega
                clear h3
                by_cases h5 : s < L.length ∧ t < R.length
                · have g5 : mid < en := by have := HF.out; have := this.hmid; have := HF.out.hen; have := HF.out.hma; have := HF.out.hst; omega
                  have g6 : en < b := by have := HF.out.hen; have := HF.out.hb; omega
                  have e2 := HF.out.rec2 HI.out S1 (by rw [HP1.out.1.length_eq]; simp; have := HF.out.hsL; have := HF.out.htR; omega) h5.1 h5.2 (by have := HF.out.hst; omega) HS1.out
                  unfold MergeAt byV at e2
                  have E2 := Lib.hid e2
                  clear e2 h5
                  go_wp2_with fail
                  refine E2.out.mono ?_; rintro e w2 ⟨rfl, S2, p2, q2, hS2⟩
                  have HS2 := Lib.hid (And.intro p2 (And.intro q2 hS2))
                  clear p2 q2 hS2
                  go_wp2_with fail
                  go_end0
                  exact ⟨rfl, HF.out.done HP1.out.1 HP1.out.2 HS2.out.1 HS2.out.2.1 (by simpa only [List.append_assoc] using HS2.out.2.2)⟩
                · have H5 := Lib.hid (show L.length ≤ s ∨ R.length ≤ t by omega)
                  have hfin : ∃ S, S.Perm (L ++ R) ∧ Srt ocmp S ∧ RW w0 blk off (X ++ S ++ Y).toArray wz := HF.out.done HP1.out.1 HP1.out.2 (.refl _) (srt_one (by rcases H5.out with h | h; exact .inl (List.drop_of_length_le h); exact .inr (List.drop_of_length_le h)) (srt_drop HF.out.hL _) (srt_drop HF.out.hR _)) HS1.out
                  have HFin := Lib.hid hfin
                  clear hfin
                  by_cases g5 : mid < en
                  · have g6 : ¬ en < b := by have := HF.out.hmid; have := HF.out.hen; have := HF.out.hma; have := HF.out.hst; have := HF.out.hb; have := HF.out.hsL; have := HF.out.htR; have := H5.out; omega
                    clear h5
                    go_wp2_with fail
                    go_end0
                    first | exact ⟨rfl, HFin.out⟩ | exact ⟨rfl, by simpa only [List.append_assoc] using HFin.out⟩
                  · clear h5
                    go_wp2_with fail
                    go_end0
                    first | exact ⟨rfl, HFin.out⟩ | exact ⟨rfl, by simpa only [List.append_assoc] using HFin.out⟩
              · clear h3
                by_cases h5 : s < L.length ∧ t < R.length
                · have g5 : mid < en := by have := HF.out; have := this.hmid; have := HF.out.hen; have := HF.out.hma; have := HF.out.hst; omega
                  have g6 : en < b := by have := HF.out.hen; have := HF.out.hb; omega
                  have e2 := HF.out.rec2 HI.out S1 (by rw [HP1.out.1.length_eq]; simp; have := HF.out.hsL; have := HF.out.htR; omega) h5.1 h5.2 (by have := HF.out.hst; have := HF.out.hmid; have := HF.out.hma; have := HF.out.hen; omega) HS1.out
                  unfold MergeAt byV at e2
                  have E2 := Lib.hid e2
                  clear e2 h5
                  go_wp2_with fail
                  refine E2.out.mono ?_; rintro e w2 ⟨rfl, S2, p2, q2, hS2⟩
                  have HS2 := Lib.hid (And.intro p2 (And.intro q2 hS2))
                  clear p2 q2 hS2
                  go_wp2_with fail
                  go_end0
                  exact ⟨rfl, HF.out.done HP1.out.1 HP1.out.2 HS2.out.1 HS2.out.2.1 (by simpa only [List.append_assoc] using HS2.out.2.2)⟩
                · have H5 := Lib.hid (show L.length ≤ s ∨ R.length ≤ t by omega)
                  have hfin : ∃ S, S.Perm (L ++ R) ∧ Srt ocmp S ∧ RW w0 blk off (X ++ S ++ Y).toArray wz := HF.out.done HP1.out.1 HP1.out.2 (.refl _) (srt_one (by rcases H5.out with h | h; exact .inl (List.drop_of_length_le h); exact .inr (List.drop_of_length_le h)) (srt_drop HF.out.hL _) (srt_drop HF.out.hR _)) HS1.out
                  have HFin := Lib.hid hfin
                  clear hfin
                  by_cases g5 : mid < en
                  · have g6 : ¬ en < b := by have := HF.out.hmid; have := HF.out.hen; have := HF.out.hma; have := HF.out.hst; have := HF.out.hb; have := HF.out.hsL; have := HF.out.htR; have := H5.out; omega
                    clear h5
                    go_wp2_with fail
                    go_end0
                    first | exact ⟨rfl, HFin.out⟩ | exact ⟨rfl, by simpa only [List.append_assoc] using HFin.out⟩
                  · clear h5
                    go_wp2_with fail
                    go_end0
                    first | exact ⟨rfl, HFin.out⟩ | exact ⟨rfl, by simpa only [List.append_assoc] using HFin.out⟩
          · clear hS0 h1 hF ha hma hb hn hL hR hx hmid hst he hlo hsu huh hg hl1 hh2 hS ht hen e1 e2 e3 e4 e5 e6 e7 e8 H hlt hwz
            by_cases h3 : 0 < s ∧ 0 < t
            · have g3 : a < st := by have := HF.out.hst; omega
              have g4 : st < mid := by have := HF.out.hst; have := HF.out.hmid; omega
              by_cases h7 : s < L.length ∨ t < R.length
              · have e1 := HF.out.rec1 HI.out h3.1 h3.2 h7 HS0.out
                unfold MergeAt byV at e1
                have E1 := Lib.hid e1
                have H3 := Lib.hid h3
                clear e1 h3 h7
                go_wp2_with fail
                refine E1.out.mono ?_; rintro e wz ⟨rfl, S1, p1, q1, hS1⟩
                have HS1 := Lib.hid (show RW w0 blk off (X ++ S1 ++ (L.drop s ++ R.drop t) ++ Y).toArray wz by simpa only [List.append_assoc] using hS1)
                have HP1 := Lib.hid (And.intro p1 q1)
                clear p1 q1 hS1
                by_cases h5 : s < L.length ∧ t < R.length
                · have g5 : mid < en := by have := HF.out; have := this.hmid; have := HF.out.hen; have := HF.out.hma; have := HF.out.hst; omega
                  have g6 : en < b := by have := HF.out.hen; have := HF.out.hb; omega
                  have e2 := HF.out.rec2 HI.out S1 (by rw [HP1.out.1.length_eq]; simp; have := HF.out.hsL; have := HF.out.htR; omega) h5.1 h5.2 (.inl H3.out.1) HS1.out
                  unfold MergeAt byV at e2
                  have E2 := Lib.hid e2
                  clear e2 h5
                  go_wp2_with fail
                  refine E2.out.mono ?_; rintro e w2 ⟨rfl, S2, p2, q2, hS2⟩
                  have HS2 := Lib.hid (And.intro p2 (And.intro q2 hS2))
                  clear p2 q2 hS2
                  go_wp2_with fail
                  go_end0
                  exact ⟨rfl, HF.out.done HP1.out.1 HP1.out.2 HS2.out.1 HS2.out.2.1 (by simpa only [List.append_assoc] using HS2.out.2.2)⟩
                · have H5 := Lib.hid (show L.length ≤ s ∨ R.length ≤ t by omega)
                  have hfin : ∃ S, S.Perm (L ++ R) ∧ Srt ocmp S ∧ RW w0 blk off (X ++ S ++ Y).toArray wz := HF.out.done HP1.out.1 HP1.out.2 (.refl _) (srt_one (by rcases H5.out with h | h; exact .inl (List.drop_of_length_le h); exact .inr (List.drop_of_length_le h)) (srt_drop HF.out.hL _) (srt_drop HF.out.hR _)) HS1.out
                  have HFin := Lib.hid hfin
                  clear hfin
                  by_cases g5 : mid < en
                  · have g6 : ¬ en < b := by have := HF.out.hmid; have := HF.out.hen; have := HF.out.hma; have := HF.out.hst; have := HF.out.hb; have := HF.out.hsL; have := HF.out.htR; have := H5.out; omega
                    clear h5
                    go_wp2_with fail
                    go_end0
                    first | exact ⟨rfl, HFin.out⟩ | exact ⟨rfl, by simpa only [List.append_assoc] using HFin.out⟩
                  · clear h5
                    go_wp2_with fail
                    go_end0
                    first | exact ⟨rfl, HFin.out⟩ | exact ⟨rfl, by simpa only [List.append_assoc] using HFin.out⟩
              · exfalso; have := HF.out.hsL; have := HF.out.htR; have := HF.out.hmid; have := HF.out.hma; have := HF.out.hst; have := HL2.out; have := HQ.out; omega
            · obtain ⟨S1, hS1e⟩ : ∃ S1, L.take s ++ R.take t = S1 := ⟨_, rfl⟩
              have hP1 : S1.Perm (L.take s ++ R.take t) ∧ Srt ocmp S1 := by
                rw [← hS1e]
                exact ⟨.refl _, srt_one (by rcases Nat.eq_zero_or_pos s with h | h; (left; rw [h]; rfl); (right; rw [show t = 0 by omega]; rfl)) (srt_take HF.out.hL _) (srt_take HF.out.hR _)⟩
              have HP1 := Lib.hid hP1
              have hS1 := HS0.out
              rw [hS1e] at hS1
              have HS1 := Lib.hid hS1
              have H3 := Lib.hid h3
              clear hP1 hS1 hS1e
              by_cases g3 : a < st
              · have g4 : ¬ st < mid := by have := HF.out.hst; have := HF.out.hmid; omega
                clear h3
                by_cases h5 : s < L.length ∧ t < R.length
                · have g5 : mid < en := by have := HF.out; have := this.hmid; have := HF.out.hen; have := HF.out.hma; have := HF.out.hst; omega
                  have g6 : en < b := by have := HF.out.hen; have := HF.out.hb; omega
                  have e2 := HF.out.rec2 HI.out S1 (by rw [HP1.out.1.length_eq]; simp; have := HF.out.hsL; have := HF.out.htR; omega) h5.1 h5.2 (by have := HF.out.hst; omega) HS1.out
                  unfold MergeAt byV at e2
                  have E2 := Lib.hid e2
                  clear e2 h5
                  go_wp2_with fail
                  refine E2.out.mono ?_; rintro e w2 ⟨rfl, S2, p2, q2, hS2⟩
                  have HS2 := Lib.hid (And.intro p2 (And.intro q2 hS2))
                  clear p2 q2 hS2
                  go_wp2_with fail
                  go_end0
                  exact ⟨rfl, HF.out.done HP1.out.1 HP1.out.2 HS2.out.1 HS2.out.2.1 (by simpa only [List.append_assoc] using HS2.out.2.2)⟩
                · have H5 := Lib.hid (show L.length ≤ s ∨ R.length ≤ t by omega)
                  have hfin : ∃ S, S.Perm (L ++ R) ∧ Srt ocmp S ∧ RW w0 blk off (X ++ S ++ Y).toArray wz := HF.out.done HP1.out.1 HP1.out.2 (.refl _) (srt_one (by rcases H5.out with h | h; exact .inl (List.drop_of_length_le h); exact .inr (List.drop_of_length_le h)) (srt_drop HF.out.hL _) (srt_drop HF.out.hR _)) HS1.out
                  have HFin := Lib.hid hfin
                  clear hfin
                  by_cases g5 : mid < en
                  · have g6 : ¬ en < b := by have := HF.out.hmid; have := HF.out.hen; have := HF.out.hma; have := HF.out.hst; have := HF.out.hb; have := HF.out.hsL; have := HF.out.htR; have := H5.out; omega
                    clear h5
                    go_wp2_with fail
                    go_end0
                    first | exact ⟨rfl, HFin.out⟩ | exact ⟨rfl, by simpa only [List.append_assoc] using HFin.out⟩
                  · clear h5
                    go_wp2_with fail
                    go_end0
                    first | exact ⟨rfl, HFin.out⟩ | exact ⟨rfl, by simpa only [List.append_assoc] using HFin.out⟩
              · clear h3
                by_cases h5 : s < L.length ∧ t < R.length
                · have g5 : mid < en := by have := HF.out; have := this.hmid; have := HF.out.hen; have := HF.out.hma; have := HF.out.hst; omega
                  have g6 : en < b := by have := HF.out.hen; have := HF.out.hb; omega
                  have e2 := HF.out.rec2 HI.out S1 (by rw [HP1.out.1.length_eq]; simp; have := HF.out.hsL; have := HF.out.htR; omega) h5.1 h5.2 (by have := HF.out.hst; have := HF.out.hmid; have := HF.out.hma; have := HF.out.hen; omega) HS1.out
                  unfold MergeAt byV at e2
                  have E2 := Lib.hid e2
                  clear e2 h5
                  go_wp2_with fail
                  refine E2.out.mono ?_; rintro e w2 ⟨rfl, S2, p2, q2, hS2⟩
                  have HS2 := Lib.hid (And.intro p2 (And.intro q2 hS2))
                  clear p2 q2 hS2
                  go_wp2_with fail
                  go_end0
                  exact ⟨rfl, HF.out.done HP1.out.1 HP1.out.2 HS2.out.1 HS2.out.2.1 (by simpa only [List.append_assoc] using HS2.out.2.2)⟩
                · have H5 := Lib.hid (show L.length ≤ s ∨ R.length ≤ t by omega)
                  have hfin : ∃ S, S.Perm (L ++ R) ∧ Srt ocmp S ∧ RW w0 blk off (X ++ S ++ Y).toArray wz := HF.out.done HP1.out.1 HP1.out.2 (.refl _) (srt_one (by rcases H5.out with h | h; exact .inl (List.drop_of_length_le h); exact .inr (List.drop_of_length_le h)) (srt_drop HF.out.hL _) (srt_drop HF.out.hR _)) HS1.out
                  have HFin := Lib.hid hfin
                  clear hfin
                  by_cases g5 : mid < en
                  · have g6 : ¬ en < b := by have := HF.out.hmid; have := HF.out.hen; have := HF.out.hma; have := HF.out.hst; have := HF.out.hb; have := HF.out.hsL; have := HF.out.htR; have := H5.out; omega
                    clear h5
                    go_wp2_with fail
                    go_end0
                    first | exact ⟨rfl, HFin.out⟩ | exact ⟨rfl, by simpa only [List.append_assoc] using HFin.out⟩
                  · clear h5
                    go_wp2_with fail
                    go_end0
                    first | exact ⟨rfl, HFin.out⟩ | exact ⟨rfl, by simpa only [List.append_assoc] using HFin.out⟩
  · have t4 : ¬ mid < m := hcase
    have hE := ends_b (by omega) (by omega) hmid hcase
    rw [show m - a = L.length by omega, show b - m = R.length by omega] at hE
    have HE := Lib.hid (And.intro hE (And.intro (show a = a + 0 from rfl) hma))
    clear hE S hI ha hma hb hn hL hR hx hL2 hR2 hmid
    go_enter Tryz.func95, Tryz.ntmps95
    go_wp2_with fail
    go_loopg [20, 21] ((L.length) - (0)) (fun g v1 v2 wr => ∃ st e s u : Nat, v1 = .int .i64 st ∧ v2 = .int .i64 e ∧ Hid (st = a + s ∧ e = a + u ∧ (0) ≤ s ∧ s ≤ u ∧ u ≤ (L.length) ∧ g = u - s ∧ (s ≠ (0) → ∀ x y, L[s - 1]? = some x → R[mid - a - s]? = some y → lt2 ocmp x y) ∧ (u ≠ (L.length) → ∀ x y, R[mid - a - 1 - u]? = some x → L[u]? = some y → lt2 ocmp x y) ∧ RW w0 blk off (X ++ L ++ R ++ Y).toArray wr))
    case atStart =>
      exact ⟨a, m, (0), (L.length), rfl, rfl, Lib.hid ⟨HE.out.2.1, HE.out.2.2, Nat.le_refl _, HE.out.1.lh, Nat.le_refl _, rfl, fun h => absurd rfl h, fun h => absurd rfl h, HS.out⟩⟩
    case round =>
      clear HS
      obtain ⟨st, e, s, u, rfl, rfl, H⟩ := hrel
      obtain ⟨ha, hma, hb, hn, hL, hR, hx, hmid⟩ := HQ.out
      obtain ⟨hst, he, hlo, hsu, huh, hg, hl1, hh2, hS⟩ := H.out
      obtain ⟨⟨e1, e2, e3, e4, e5, e6⟩, e7, e8⟩ := HE.out
      by_cases hlt : st < e
      · obtain ⟨r, hr⟩ : ∃ r, r = (st + e) / 2 - a := ⟨_, rfl⟩
        have hr1 : s ≤ r := by omega
        have hr2 : r < u := by omega
        obtain ⟨c, hc⟩ : ∃ c : Nat, c = a + r := ⟨_, rfl⟩
        obtain ⟨pc, hpc⟩ : ∃ pc : Nat, pc = m + (mid - a - 1 - r) := ⟨_, rfl⟩
        have hh1 : ((st : Int) + (e : Int)) / 2 = (c : Int) := by omega
        have hh3 : (mid : Int) + (m : Int) - 1 - (c : Int) = (pc : Int) := by omega
        obtain ⟨x, hxe⟩ : ∃ x, L[r]? = some x := ⟨_, List.getElem?_eq_getElem (by omega)⟩
        obtain ⟨y, hye⟩ : ∃ y, R[mid - a - 1 - r]? = some y := ⟨_, List.getElem?_eq_getElem (by omega)⟩
        have hd1 : (X ++ L ++ R ++ Y).toArray[c]! = x := by
          rw [List.append_assoc (X ++ L)]; exact get_at X L (R ++ Y) c r x (by omega) hxe
        have hd0 : (X ++ L ++ R ++ Y).toArray[pc]! = y := get_at (X ++ L) R Y pc _ y (by simp; omega) hye
        have hsz : (X ++ L ++ R ++ Y).toArray.size = n := by simp; omega
        obtain ⟨⟨x0, x1, x2, x3⟩, -⟩ := hS.ent pc y (by omega) hd0
        obtain ⟨⟨y0, y1, y2, y3⟩, -⟩ := hS.ent c x (by omega) hd1
        have hxy : x.2 < y.2 := hx x (List.mem_of_getElem? hxe) y (List.mem_of_getElem? hye)
        have hi2 : st ≤ 1000000 := by omega
        have hj2 : e ≤ 1000000 := by omega
        have hcn : c < n := by omega
        have hpn : pc < n := by omega
        have hc2 : c ≤ 1000000 := by omega
        have HH := Lib.hid (And.intro hr1 (And.intro hr2 (And.intro hc (And.intro hxe (And.intro hye hxy)))))
        have hms : u - (r + 1) < gk ∧ r - s < gk := by omega
        have HMs := Lib.hid hms
        clear hms ha hma hb hn hL hR hx hmid hst he hlo hsu huh hg hl1 hh2 hS hr hr1 hr2 hc hpc hxe hye hd1 hd0 hsz hxy e1 e2 e3 e4 e5 e6 e7 e8
        by_cases hcm : ocmp y.1 x.1 < 0
        · have c0 := hcm
          have HC := Lib.hid hcm
          clear hcm
          
          have hb := fun w => HB.out (y).1 (x).1 w
          obtain ⟨qv, hq⟩ : ∃ q, ocmp (y).1 (x).1 = q := ⟨_, rfl⟩
          unfold Ent.v at hb
          rw [hq] at hb c0
          have HBy := Lib.hid hb
          have c1 : decide (qv < 0) = true := by rw [decide_eq_true_eq]; exact c0
          have x0' := @BW.cell wr _ _ x0
          have x1' := @BW.cell wr _ _ x1
          have x2' := @BW.cell wr _ _ x2
          have x3' := @BW.cell wr _ _ x3
          have y0' := @BW.cell wr _ _ y0
          have y1' := @BW.cell wr _ _ y1
          have y2' := @BW.cell wr _ _ y2
          have y3' := @BW.cell wr _ _ y3
          clear hb hq c0
          go_wp2_with fail
          
          refine wp_region_quiet_bw wr (by kernel_rfl) (by kernel_rfl) (Bl.refl wr) ?_
          repeat (go_big_quiet_step ((go_at_call 31; exact quietB (HBy.out _))))
          refine wpQuiet_nil ?_
          intro wq hw'
          have hwq : Bl wr wq := by obtain ⟨x, hx⟩ := hw'; rw [hx]; exact x.h
          clear hw'
          go_wp2_with fail
          go_roundg (r - s)
          case rel =>
            obtain ⟨hst, he, hlo, hsu, huh, hg, hl1, hh2, hS⟩ := H.out
            obtain ⟨hr1, hr2, hc, hxe, hye, hxy⟩ := HH.out
            exact ⟨st, c, s, r, rfl, rfl, Lib.hid ⟨hst, hc, hlo, hr1, by omega, rfl, hl1, fun _ x' y' hx' hy' => (by rw [hye] at hx'; rw [hxe] at hy'; injection hx' with i1; injection hy' with i2; rw [← i1, ← i2]; exact lt2_yes HC.out), hS.bl hwq⟩⟩
          case measure => exact HMs.out.2
        · have c0 := hcm
          have HC := Lib.hid hcm
          clear hcm
          
          have hb := fun w => HB.out (y).1 (x).1 w
          obtain ⟨qv, hq⟩ : ∃ q, ocmp (y).1 (x).1 = q := ⟨_, rfl⟩
          unfold Ent.v at hb
          rw [hq] at hb c0
          have HBy := Lib.hid hb
          have c1 : decide (qv < 0) = false := by rw [decide_eq_false_iff_not]; exact c0
          have x0' := @BW.cell wr _ _ x0
          have x1' := @BW.cell wr _ _ x1
          have x2' := @BW.cell wr _ _ x2
          have x3' := @BW.cell wr _ _ x3
          have y0' := @BW.cell wr _ _ y0
          have y1' := @BW.cell wr _ _ y1
          have y2' := @BW.cell wr _ _ y2
          have y3' := @BW.cell wr _ _ y3
          clear hb hq c0
          go_wp2_with fail
          
          refine wp_region_quiet_bw wr (by kernel_rfl) (by kernel_rfl) (Bl.refl wr) ?_
          repeat (go_big_quiet_step ((go_at_call 31; exact quietB (HBy.out _))))
          refine wpQuiet_nil ?_
          intro wq hw'
          have hwq : Bl wr wq := by obtain ⟨x, hx⟩ := hw'; rw [hx]; exact x.h
          clear hw'
          go_wp2_with fail
          go_roundg (u - (r + 1))
          case rel =>
            obtain ⟨hst, he, hlo, hsu, huh, hg, hl1, hh2, hS⟩ := H.out
            obtain ⟨hr1, hr2, hc, hxe, hye, hxy⟩ := HH.out
            exact ⟨c + 1, e, r + 1, u, by go_num, rfl, Lib.hid ⟨by omega, he, by omega, by omega, huh, rfl, fun _ x' y' hx' hy' => (by rw [Nat.add_sub_cancel, hxe] at hx'; rw [show mid - a - (r + 1) = mid - a - 1 - r by omega, hye] at hy'; injection hx' with i1; injection hy' with i2; rw [← i1, ← i2]; exact lt2_no ocmp_pre hxy (by have := HC.out; omega)), hh2, hS.bl hwq⟩⟩
          case measure => exact HMs.out.1
      · have hsu' : s = u := by omega
        subst hsu'
        obtain ⟨t, ht⟩ : ∃ t, t = mid - a - s := ⟨_, rfl⟩
        obtain ⟨en, hen⟩ : ∃ en, en = m + t := ⟨_, rfl⟩
        have hh1 : (mid : Int) + (m : Int) - (st : Int) = (en : Int) := by omega
        have hF : Found X L R Y a m b n mid st en s t ((0)) ((L.length)) := ⟨ha, hma, hb, hn, hL, hR, hx, hst, hen, by omega, by omega, by omega, fun S1 S2 p1 q1 p2 q2 => by subst ht; exact split_of HE.out.1 hL hR hlo huh hl1 hh2 p1 q1 p2 q2⟩
        have HF := Lib.hid hF
        have hst2 : st ≤ 1000000 := by omega
        have hen2 : en ≤ 1000000 := by omega
        have hle : ¬ (st : Int) < (e : Int) := by omega
        have HS := Lib.hid hS
        by_cases h1 : s < L.length ∧ 0 < t
        · have g1 : st < m := by omega
          have g2 : m < en := by omega
          have e0 := hF.rot cap hm byV h1.1 h1.2 hS
          unfold byV at e0
          have E0 := Lib.hid e0
          have H1 := Lib.hid h1
          clear e0 h1 hF ha hma hb hn hL hR hx hmid hst he hlo hsu huh hg hl1 hh2 hS ht hen e1 e2 e3 e4 e5 e6 e7 e8 H hlt
          go_wp2_with fail
          refine E0.out.mono ?_; rintro ee wz ⟨rfl, hS0⟩
          have HS0 := Lib.hid hS0
          clear hS0
          by_cases h3 : 0 < s ∧ 0 < t
          · have g3 : a < st := by have := HF.out.hst; omega
            have g4 : st < mid := by have := HF.out.hst; have := HF.out.hmid; omega
            by_cases h7 : s < L.length ∨ t < R.length
            · have e1 := HF.out.rec1 HI.out h3.1 h3.2 h7 HS0.out
              unfold MergeAt byV at e1
              have E1 := Lib.hid e1
              have H3 := Lib.hid h3
              clear e1 h3 h7
              go_wp2_with fail
              refine E1.out.mono ?_; rintro e wz ⟨rfl, S1, p1, q1, hS1⟩
              have HS1 := Lib.hid (show RW w0 blk off (X ++ S1 ++ (L.drop s ++ R.drop t) ++ Y).toArray wz by simpa only [List.append_assoc] using hS1)
              have HP1 := Lib.hid (And.intro p1 q1)
              clear p1 q1 hS1
              by_cases h5 : s < L.length ∧ t < R.length
              · have g5 : mid < en := by have := HF.out; have := this.hmid; have := HF.out.hen; have := HF.out.hma; have := HF.out.hst; omega
                have g6 : en < b := by have := HF.out.hen; have := HF.out.hb; omega
                have e2 := HF.out.rec2 HI.out S1 (by rw [HP1.out.1.length_eq]; simp; have := HF.out.hsL; have := HF.out.htR; omega) h5.1 h5.2 (.inl H3.out.1) HS1.out
                unfold MergeAt byV at e2
                have E2 := Lib.hid e2
                clear e2 h5
                go_wp2_with fail
                refine E2.out.mono ?_; rintro e w2 ⟨rfl, S2, p2, q2, hS2⟩
                have HS2 := Lib.hid (And.intro p2 (And.intro q2 hS2))
                clear p2 q2 hS2
                go_wp2_with fail
                go_end0
                exact ⟨rfl, HF.out.done HP1.out.1 HP1.out.2 HS2.out.1 HS2.out.2.1 (by simpa only [List.append_assoc] using HS2.out.2.2)⟩
              · have H5 := Lib.hid (show L.length ≤ s ∨ R.length ≤ t by omega)
                have hfin : ∃ S, S.Perm (L ++ R) ∧ Srt ocmp S ∧ RW w0 blk off (X ++ S ++ Y).toArray wz := HF.out.done HP1.out.1 HP1.out.2 (.refl _) (srt_one (by rcases H5.out with h | h; exact .inl (List.drop_of_length_le h); exact .inr (List.drop_of_length_le h)) (srt_drop HF.out.hL _) (srt_drop HF.out.hR _)) HS1.out
                have HFin := Lib.hid hfin
                clear hfin
                by_cases g5 : mid < en
                · have g6 : ¬ en < b := by have := HF.out.hmid; have := HF.out.hen; have := HF.out.hma; have := HF.out.hst; have := HF.out.hb; have := HF.out.hsL; have := HF.out.htR; have := H5.out; omega
                  clear h5
                  go_wp2_with fail
                  go_end0
                  first | exact ⟨rfl, HFin.out⟩ | exact ⟨rfl, by simpa only [List.append_assoc] using HFin.out⟩
                · clear h5
                  go_wp2_with fail
                  go_end0
                  first | exact ⟨rfl, HFin.out⟩ | exact ⟨rfl, by simpa only [List.append_assoc] using HFin.out⟩
            · exfalso; have := HF.out.hsL; have := HF.out.htR; have := HF.out.hmid; have := HF.out.hma; have := HF.out.hst; have := HL2.out; have := HQ.out; omega
          · obtain ⟨S1, hS1e⟩ : ∃ S1, L.take s ++ R.take t = S1 := ⟨_, rfl⟩
            have hP1 : S1.Perm (L.take s ++ R.take t) ∧ Srt ocmp S1 := by
              rw [← hS1e]
              exact ⟨.refl _, srt_one (by rcases Nat.eq_zero_or_pos s with h | h; (left; rw [h]; rfl); (right; rw [show t = 0 by omega]; rfl)) (srt_take HF.out.hL _) (srt_take HF.out.hR _)⟩
            have HP1 := Lib.hid hP1
            have hS1 := HS0.out
            rw [hS1e] at hS1
            have HS1 := Lib.hid hS1
            have H3 := Lib.hid h3
            clear hP1 hS1 hS1e
            by_cases g3 : a < st
            · have g4 : ¬ st < mid := by have := HF.out.hst; have := HF.out.hmid; omega
              clear h3
              by_cases h5 : s < L.length ∧ t < R.length
              · have g5 : mid < en := by have := HF.out; have := this.hmid; have := HF.out.hen; have := HF.out.hma; have := HF.out.hst; omega
                have g6 : en < b := by have := HF.out.hen; have := HF.out.hb; omega
                have e2 := HF.out.rec2 HI.out S1 (by rw [HP1.out.1.length_eq]; simp; have := HF.out.hsL; have := HF.out.htR; omega) h5.1 h5.2 (by have := HF.out.hst; omega) HS1.out
                unfold MergeAt byV at e2
                have E2 := Lib.hid e2
                clear e2 h5
                go_wp2_with fail
                refine E2.out.mono ?_; rintro e w2 ⟨rfl, S2, p2, q2, hS2⟩
                have HS2 := Lib.hid (And.intro p2 (And.intro q2 hS2))
                clear p2 q2 hS2
                go_wp2_with fail
                go_end0
                exact ⟨rfl, HF.out.done HP1.out.1 HP1.out.2 HS2.out.1 HS2.out.2.1 (by simpa only [List.append_assoc] using HS2.out.2.2)⟩
              · have H5 := Lib.hid (show L.length ≤ s ∨ R.length ≤ t by omega)
                have hfin : ∃ S, S.Perm (L ++ R) ∧ Srt ocmp S ∧ RW w0 blk off (X ++ S ++ Y).toArray wz := HF.out.done HP1.out.1 HP1.out.2 (.refl _) (srt_one (by rcases H5.out with h | h; exact .inl (List.drop_of_length_le h); exact .inr (List.drop_of_length_le h)) (srt_drop HF.out.hL _) (srt_drop HF.out.hR _)) HS1.out
                have HFin := Lib.hid hfin
                clear hfin
                by_cases g5 : mid < en
                · have g6 : ¬ en < b := by have := HF.out.hmid; have := HF.out.hen; have := HF.out.hma; have := HF.out.hst; have := HF.out.hb; have := HF.out.hsL; have := HF.out.htR; have := H5.out; omega
                  clear h5
                  go_wp2_with fail
                  go_end0
                  first | exact ⟨rfl, HFin.out⟩ | exact ⟨rfl, by simpa only [List.append_assoc] using HFin.out⟩
                · clear h5
                  go_wp2_with fail
                  go_end0
                  first | exact ⟨rfl, HFin.out⟩ | exact ⟨rfl, by simpa only [List.append_assoc] using HFin.out⟩
            · clear h3
              by_cases h5 : s < L.length ∧ t < R.length
              · have g5 : mid < en := by have := HF.out; have := this.hmid; have := HF.out.hen; have := HF.out.hma; have := HF.out.hst; omega
                have g6 : en < b := by have := HF.out.hen; have := HF.out.hb; omega
                have e2 := HF.out.rec2 HI.out S1 (by rw [HP1.out.1.length_eq]; simp; have := HF.out.hsL; have := HF.out.htR; omega) h5.1 h5.2 (by have := HF.out.hst; have := HF.out.hmid; have := HF.out.hma; have := HF.out.hen; omega) HS1.out
                unfold MergeAt byV at e2
                have E2 := Lib.hid e2
                clear e2 h5
                go_wp2_with fail
                refine E2.out.mono ?_; rintro e w2 ⟨rfl, S2, p2, q2, hS2⟩
                have HS2 := Lib.hid (And.intro p2 (And.intro q2 hS2))
                clear p2 q2 hS2
                go_wp2_with fail
                go_end0
                exact ⟨rfl, HF.out.done HP1.out.1 HP1.out.2 HS2.out.1 HS2.out.2.1 (by simpa only [List.append_assoc] using HS2.out.2.2)⟩
              · have H5 := Lib.hid (show L.length ≤ s ∨ R.length ≤ t by omega)
                have hfin : ∃ S, S.Perm (L ++ R) ∧ Srt ocmp S ∧ RW w0 blk off (X ++ S ++ Y).toArray wz := HF.out.done HP1.out.1 HP1.out.2 (.refl _) (srt_one (by rcases H5.out with h | h; exact .inl (List.drop_of_length_le h); exact .inr (List.drop_of_length_le h)) (srt_drop HF.out.hL _) (srt_drop HF.out.hR _)) HS1.out
                have HFin := Lib.hid hfin
                clear hfin
                by_cases g5 : mid < en
                · have g6 : ¬ en < b := by have := HF.out.hmid; have := HF.out.hen; have := HF.out.hma; have := HF.out.hst; have := HF.out.hb; have := HF.out.hsL; have := HF.out.htR; have := H5.out; omega
                  clear h5
                  go_wp2_with fail
                  go_end0
                  first | exact ⟨rfl, HFin.out⟩ | exact ⟨rfl, by simpa only [List.append_assoc] using HFin.out⟩
                · clear h5
                  go_wp2_with fail
                  go_end0
                  first | exact ⟨rfl, HFin.out⟩ | exact ⟨rfl, by simpa only [List.append_assoc] using HFin.out⟩
        · have hS0 := hF.stay (by omega) hS
          have HS0 := Lib.hid hS0
          have H1 := Lib.hid h1
          obtain ⟨wz, hwz⟩ : ∃ wz, wz = wr := ⟨_, rfl⟩
          rw [← hwz] at HS0 ⊢
          by_cases g1 : st < m
          · have g2 : ¬ m < en := by omega
            clear hS0 h1 hF ha hma hb hn hL hR hx hmid hst he hlo hsu huh hg hl1 hh2 hS ht hen e1 e2 e3 e4 e5 e6 e7 e8 H hlt hwz
            by_cases h3 : 0 < s ∧ 0 < t
            · have g3 : a < st := by have := HF.out.hst; omega
              have g4 : st < mid := by have := HF.out.hst; have := HF.out.hmid; omega
              by_cases h7 : s < L.length ∨ t < R.length
              · have e1 := HF.out.rec1 HI.out h3.1 h3.2 h7 HS0.out
                unfold MergeAt byV at e1
                have E1 := Lib.hid e1
                have H3 := Lib.hid h3
                clear e1 h3 h7
                go_wp2_with fail
                refine E1.out.mono ?_; rintro e wz ⟨rfl, S1, p1, q1, hS1⟩
                have HS1 := Lib.hid (show RW w0 blk off (X ++ S1 ++ (L.drop s ++ R.drop t) ++ Y).toArray wz by simpa only [List.append_assoc] using hS1)
                have HP1 := Lib.hid (And.intro p1 q1)
                clear p1 q1 hS1
                by_cases h5 : s < L.length ∧ t < R.length
                · have g5 : mid < en := by have := HF.out; have := this.hmid; have := HF.out.hen; have := HF.out.hma; have := HF.out.hst; omega
                  have g6 : en < b := by have := HF.out.hen; have := HF.out.hb; omega
                  have e2 := HF.out.rec2 HI.out S1 (by rw [HP1.out.1.length_eq]; simp; have := HF.out.hsL; have := HF.out.htR; omega) h5.1 h5.2 (.inl H3.out.1) HS1.out
                  unfold MergeAt byV at e2
                  have E2 := Lib.hid e2
                  clear e2 h5
                  go_wp2_with fail
                  refine E2.out.mono ?_; rintro e w2 ⟨rfl, S2, p2, q2, hS2⟩
                  have HS2 := Lib.hid (And.intro p2 (And.intro q2 hS2))
                  clear p2 q2 hS2
                  go_wp2_with fail
                  go_end0
                  exact ⟨rfl, HF.out.done HP1.out.1 HP1.out.2 HS2.out.1 HS2.out.2.1 (by simpa only [List.append_assoc] using HS2.out.2.2)⟩
                · have H5 := Lib.hid (show L.length ≤ s ∨ R.length ≤ t by omega)
                  have hfin : ∃ S, S.Perm (L ++ R) ∧ Srt ocmp S ∧ RW w0 blk off (X ++ S ++ Y).toArray wz := HF.out.done HP1.out.1 HP1.out.2 (.refl _) (srt_one (by rcases H5.out with h | h; exact .inl (List.drop_of_length_le h); exact .inr (List.drop_of_length_le h)) (srt_drop HF.out.hL _) (srt_drop HF.out.hR _)) HS1.out
                  have HFin := Lib.hid hfin
                  clear hfin
                  by_cases g5 : mid < en
                  · have g6 : ¬ en < b := by have := HF.out.hmid; have := HF.out.hen; have := HF.out.hma; have := HF.out.hst; have := HF.out.hb; have := HF.out.hsL; have := HF.out.htR; have := H5.out; omega
                    clear h5
                    go_wp2_with fail
                    go_end0
                    first | exact ⟨rfl, HFin.out⟩ | exact ⟨rfl, by simpa only [List.append_assoc] using HFin.out⟩
                  · clear h5
                    go_wp2_with fail
                    go_end0
                    first | exact ⟨rfl, HFin.out⟩ | exact ⟨rfl, by simpa only [List.append_assoc] using HFin.out⟩
              · exfalso; have := HF.out.hsL; have := HF.out.htR; have := HF.out.hmid; have := HF.out.hma; have := HF.out.hst; have := HL2.out; have := HQ.out; omega
            · obtain ⟨S1, hS1e⟩ : ∃ S1, L.take s ++ R.take t = S1 := ⟨_, rfl⟩
              have hP1 : S1.Perm (L.take s ++ R.take t) ∧ Srt ocmp S1 := by
                rw [← hS1e]
                exact ⟨.refl _, srt_one (by rcases Nat.eq_zero_or_pos s with h | h; (left; rw [h]; rfl); (right; rw [show t = 0 by omega]; rfl)) (srt_take HF.out.hL _) (srt_take HF.out.hR _)⟩
              have HP1 := Lib.hid hP1
              have hS1 := HS0.out
              rw [hS1e] at hS1
              have HS1 := Lib.hid hS1
              have H3 := Lib.hid h3
              clear hP1 hS1 hS1e
              by_cases g3 : a < st
              · have g4 : ¬ st < mid := by have := HF.out.hst; have := HF.out.hmid; omega
                clear h3
                by_cases h5 : s < L.length ∧ t < R.length
                · have g5 : mid < en := by have := HF.out; have := this.hmid; have := HF.out.hen; have := HF.out.hma; have := HF.out.hst; omega
                  have g6 : en < b := by have := HF.out.hen; have := HF.out.hb; omega
                  have e2 := HF.out.rec2 HI.out S1 (by rw [HP1.out.1.length_eq]; simp; have := HF.out.hsL; have := HF.out.htR; omega) h5.1 h5.2 (by have := HF.out.hst; omega) HS1.out
                  unfold MergeAt byV at e2
                  have E2 := Lib.hid e2
                  clear e2 h5
                  go_wp2_with fail
                  refine E2.out.mono ?_; rintro e w2 ⟨rfl, S2, p2, q2, hS2⟩
                  have HS2 := Lib.hid (And.intro p2 (And.intro q2 hS2))
                  clear p2 q2 hS2
                  go_wp2_with fail
                  go_end0
                  exact ⟨rfl, HF.out.done HP1.out.1 HP1.out.2 HS2.out.1 HS2.out.2.1 (by simpa only [List.append_assoc] using HS2.out.2.2)⟩
                · have H5 := Lib.hid (show L.length ≤ s ∨ R.length ≤ t by omega)
                  have hfin : ∃ S, S.Perm (L ++ R) ∧ Srt ocmp S ∧ RW w0 blk off (X ++ S ++ Y).toArray wz := HF.out.done HP1.out.1 HP1.out.2 (.refl _) (srt_one (by rcases H5.out with h | h; exact .inl (List.drop_of_length_le h); exact .inr (List.drop_of_length_le h)) (srt_drop HF.out.hL _) (srt_drop HF.out.hR _)) HS1.out
                  have HFin := Lib.hid hfin
                  clear hfin
                  by_cases g5 : mid < en
                  · have g6 : ¬ en < b := by have := HF.out.hmid; have := HF.out.hen; have := HF.out.hma; have := HF.out.hst; have := HF.out.hb; have := HF.out.hsL; have := HF.out.htR; have := H5.out; omega
                    clear h5
                    go_wp2_with fail
                    go_end0
                    first | exact ⟨rfl, HFin.out⟩ | exact ⟨rfl, by simpa only [List.append_assoc] using HFin.out⟩
                  · clear h5
                    go_wp2_with fail
                    go_end0
                    first | exact ⟨rfl, HFin.out⟩ | exact ⟨rfl, by simpa only [List.append_assoc] using HFin.out⟩
              · clear h3
                by_cases h5 : s < L.length ∧ t < R.length
                · have g5 : mid < en := by have := HF.out; have := this.hmid; have := HF.out.hen; have := HF.out.hma; have := HF.out.hst; omega
                  have g6 : en < b := by have := HF.out.hen; have := HF.out.hb; omega
                  have e2 := HF.out.rec2 HI.out S1 (by rw [HP1.out.1.length_eq]; simp; have := HF.out.hsL; have := HF.out.htR; omega) h5.1 h5.2 (by have := HF.out.hst; have := HF.out.hmid; have := HF.out.hma; have := HF.out.hen; omega) HS1.out
                  unfold MergeAt byV at e2
                  have E2 := Lib.hid e2
                  clear e2 h5
                  go_wp2_with fail
                  refine E2.out.mono ?_; rintro e w2 ⟨rfl, S2, p2, q2, hS2⟩
                  have HS2 := Lib.hid (And.intro p2 (And.intro q2 hS2))
                  clear p2 q2 hS2
                  go_wp2_with fail
                  go_end0
                  exact ⟨rfl, HF.out.done HP1.out.1 HP1.out.2 HS2.out.1 HS2.out.2.1 (by simpa only [List.append_assoc] using HS2.out.2.2)⟩
                · have H5 := Lib.hid (show L.length ≤ s ∨ R.length ≤ t by omega)
                  have hfin : ∃ S, S.Perm (L ++ R) ∧ Srt ocmp S ∧ RW w0 blk off (X ++ S ++ Y).toArray wz := HF.out.done HP1.out.1 HP1.out.2 (.refl _) (srt_one (by rcases H5.out with h | h; exact .inl (List.drop_of_length_le h); exact .inr (List.drop_of_length_le h)) (srt_drop HF.out.hL _) (srt_drop HF.out.hR _)) HS1.out
                  have HFin := Lib.hid hfin
                  clear hfin
                  by_cases g5 : mid < en
                  · have g6 : ¬ en < b := by have := HF.out.hmid; have := HF.out.hen; have := HF.out.hma; have := HF.out.hst; have := HF.out.hb; have := HF.out.hsL; have := HF.out.htR; have := H5.out; omega
                    clear h5
                    go_wp2_with fail
                    go_end0
                    first | exact ⟨rfl, HFin.out⟩ | exact ⟨rfl, by simpa only [List.append_assoc] using HFin.out⟩
                  · clear h5
                    go_wp2_with fail
                    go_end0
                    first | exact ⟨rfl, HFin.out⟩ | exact ⟨rfl, by simpa only [List.append_assoc] using HFin.out⟩
          · clear hS0 h1 hF ha hma hb hn hL hR hx hmid hst he hlo hsu huh hg hl1 hh2 hS ht hen e1 e2 e3 e4 e5 e6 e7 e8 H hlt hwz
            by_cases h3 : 0 < s ∧ 0 < t
            · have g3 : a < st := by have := HF.out.hst; omega
              have g4 : st < mid := by have := HF.out.hst; have := HF.out.hmid; omega
              by_cases h7 : s < L.length ∨ t < R.length
              · have e1 := HF.out.rec1 HI.out h3.1 h3.2 h7 HS0.out
                unfold MergeAt byV at e1
                have E1 := Lib.hid e1
                have H3 := Lib.hid h3
                clear e1 h3 h7
                go_wp2_with fail
                refine E1.out.mono ?_; rintro e wz ⟨rfl, S1, p1, q1, hS1⟩
                have HS1 := Lib.hid (show RW w0 blk off (X ++ S1 ++ (L.drop s ++ R.drop t) ++ Y).toArray wz by simpa only [List.append_assoc] using hS1)
                have HP1 := Lib.hid (And.intro p1 q1)
                clear p1 q1 hS1
                by_cases h5 : s < L.length ∧ t < R.length
                · have g5 : mid < en := by have := HF.out; have := this.hmid; have := HF.out.hen; have := HF.out.hma; have := HF.out.hst; omega
                  have g6 : en < b := by have := HF.out.hen; have := HF.out.hb; omega
                  have e2 := HF.out.rec2 HI.out S1 (by rw [HP1.out.1.length_eq]; simp; have := HF.out.hsL; have := HF.out.htR; omega) h5.1 h5.2 (.inl H3.out.1) HS1.out
                  unfold MergeAt byV at e2
                  have E2 := Lib.hid e2
                  clear e2 h5
                  go_wp2_with fail
                  refine E2.out.mono ?_; rintro e w2 ⟨rfl, S2, p2, q2, hS2⟩
                  have HS2 := Lib.hid (And.intro p2 (And.intro q2 hS2))
                  clear p2 q2 hS2
                  go_wp2_with fail
                  go_end0
                  exact ⟨rfl, HF.out.done HP1.out.1 HP1.out.2 HS2.out.1 HS2.out.2.1 (by simpa only [List.append_assoc] using HS2.out.2.2)⟩
                · have H5 := Lib.hid (show L.length ≤ s ∨ R.length ≤ t by omega)
                  have hfin : ∃ S, S.Perm (L ++ R) ∧ Srt ocmp S ∧ RW w0 blk off (X ++ S ++ Y).toArray wz := HF.out.done HP1.out.1 HP1.out.2 (.refl _) (srt_one (by rcases H5.out with h | h; exact .inl (List.drop_of_length_le h); exact .inr (List.drop_of_length_le h)) (srt_drop HF.out.hL _) (srt_drop HF.out.hR _)) HS1.out
                  have HFin := Lib.hid hfin
                  clear hfin
                  by_cases g5 : mid < en
                  · have g6 : ¬ en < b := by have := HF.out.hmid; have := HF.out.hen; have := HF.out.hma; have := HF.out.hst; have := HF.out.hb; have := HF.out.hsL; have := HF.out.htR; have := H5.out; omega
                    clear h5
                    go_wp2_with fail
                    go_end0
                    first | exact ⟨rfl, HFin.out⟩ | exact ⟨rfl, by simpa only [List.append_assoc] using HFin.out⟩
                  · clear h5
                    go_wp2_with fail
                    go_end0
                    first | exact ⟨rfl, HFin.out⟩ | exact ⟨rfl, by simpa only [List.append_assoc] using HFin.out⟩
              · exfalso; have := HF.out.hsL; have := HF.out.htR; have := HF.out.hmid; have := HF.out.hma; have := HF.out.hst; have := HL2.out; have := HQ.out; omega
            · obtain ⟨S1, hS1e⟩ : ∃ S1, L.take s ++ R.take t = S1 := ⟨_, rfl⟩
              have hP1 : S1.Perm (L.take s ++ R.take t) ∧ Srt ocmp S1 := by
                rw [← hS1e]
                exact ⟨.refl _, srt_one (by rcases Nat.eq_zero_or_pos s with h | h; (left; rw [h]; rfl); (right; rw [show t = 0 by omega]; rfl)) (srt_take HF.out.hL _) (srt_take HF.out.hR _)⟩
              have HP1 := Lib.hid hP1
              have hS1 := HS0.out
              rw [hS1e] at hS1
              have HS1 := Lib.hid hS1
              have H3 := Lib.hid h3
              clear hP1 hS1 hS1e
              by_cases g3 : a < st
              · have g4 : ¬ st < mid := by have := HF.out.hst; have := HF.out.hmid; omega
                clear h3
                by_cases h5 : s < L.length ∧ t < R.length
                · have g5 : mid < en := by have := HF.out; have := this.hmid; have := HF.out.hen; have := HF.out.hma; have := HF.out.hst; omega
                  have g6 : en < b := by have := HF.out.hen; have := HF.out.hb; omega
                  have e2 := HF.out.rec2 HI.out S1 (by rw [HP1.out.1.length_eq]; simp; have := HF.out.hsL; have := HF.out.htR; omega) h5.1 h5.2 (by have := HF.out.hst; omega) HS1.out
                  unfold MergeAt byV at e2
                  have E2 := Lib.hid e2
                  clear e2 h5
                  go_wp2_with fail
                  refine E2.out.mono ?_; rintro e w2 ⟨rfl, S2, p2, q2, hS2⟩
                  have HS2 := Lib.hid (And.intro p2 (And.intro q2 hS2))
                  clear p2 q2 hS2
                  go_wp2_with fail
                  go_end0
                  exact ⟨rfl, HF.out.done HP1.out.1 HP1.out.2 HS2.out.1 HS2.out.2.1 (by simpa only [List.append_assoc] using HS2.out.2.2)⟩
                · have H5 := Lib.hid (show L.length ≤ s ∨ R.length ≤ t by omega)
                  have hfin : ∃ S, S.Perm (L ++ R) ∧ Srt ocmp S ∧ RW w0 blk off (X ++ S ++ Y).toArray wz := HF.out.done HP1.out.1 HP1.out.2 (.refl _) (srt_one (by rcases H5.out with h | h; exact .inl (List.drop_of_length_le h); exact .inr (List.drop_of_length_le h)) (srt_drop HF.out.hL _) (srt_drop HF.out.hR _)) HS1.out
                  have HFin := Lib.hid hfin
                  clear hfin
                  by_cases g5 : mid < en
                  · have g6 : ¬ en < b := by have := HF.out.hmid; have := HF.out.hen; have := HF.out.hma; have := HF.out.hst; have := HF.out.hb; have := HF.out.hsL; have := HF.out.htR; have := H5.out; omega
                    clear h5
                    go_wp2_with fail
                    go_end0
                    first | exact ⟨rfl, HFin.out⟩ | exact ⟨rfl, by simpa only [List.append_assoc] using HFin.out⟩
                  · clear h5
                    go_wp2_with fail
                    go_end0
                    first | exact ⟨rfl, HFin.out⟩ | exact ⟨rfl, by simpa only [List.append_assoc] using HFin.out⟩
              · clear h3
                by_cases h5 : s < L.length ∧ t < R.length
                · have g5 : mid < en := by have := HF.out; have := this.hmid; have := HF.out.hen; have := HF.out.hma; have := HF.out.hst; omega
                  have g6 : en < b := by have := HF.out.hen; have := HF.out.hb; omega
                  have e2 := HF.out.rec2 HI.out S1 (by rw [HP1.out.1.length_eq]; simp; have := HF.out.hsL; have := HF.out.htR; omega) h5.1 h5.2 (by have := HF.out.hst; have := HF.out.hmid; have := HF.out.hma; have := HF.out.hen; omega) HS1.out
                  unfold MergeAt byV at e2
                  have E2 := Lib.hid e2
                  clear e2 h5
                  go_wp2_with fail
                  refine E2.out.mono ?_; rintro e w2 ⟨rfl, S2, p2, q2, hS2⟩
                  have HS2 := Lib.hid (And.intro p2 (And.intro q2 hS2))
                  clear p2 q2 hS2
                  go_wp2_with fail
                  go_end0
                  exact ⟨rfl, HF.out.done HP1.out.1 HP1.out.2 HS2.out.1 HS2.out.2.1 (by simpa only [List.append_assoc] using HS2.out.2.2)⟩
                · have H5 := Lib.hid (show L.length ≤ s ∨ R.length ≤ t by omega)
                  have hfin : ∃ S, S.Perm (L ++ R) ∧ Srt ocmp S ∧ RW w0 blk off (X ++ S ++ Y).toArray wz := HF.out.done HP1.out.1 HP1.out.2 (.refl _) (srt_one (by rcases H5.out with h | h; exact .inl (List.drop_of_length_le h); exact .inr (List.drop_of_length_le h)) (srt_drop HF.out.hL _) (srt_drop HF.out.hR _)) HS1.out
                  have HFin := Lib.hid hfin
                  clear hfin
                  by_cases g5 : mid < en
                  · have g6 : ¬ en < b := by have := HF.out.hmid; have := HF.out.hen; have := HF.out.hma; have := HF.out.hst; have := HF.out.hb; have := HF.out.hsL; have := HF.out.htR; have := H5.out; omega
                    clear h5
                    go_wp2_with fail
                    go_end0
                    first | exact ⟨rfl, HFin.out⟩ | exact ⟨rfl, by simpa only [List.append_assoc] using HFin.out⟩
                  · clear h5
                    go_wp2_with fail
                    go_end0
                    first | exact ⟨rfl, HFin.out⟩ | exact ⟨rfl, by simpa only [List.append_assoc] using HFin.out⟩
theorem mergeOK (w0 : World) (blk off cap n : Nat) (hm : n ≤ 1000000) : ∀ N, MergeOK w0 blk off cap n N
  | 0 => fun X L R Y a m b w h => by omega
  | N + 1 => by
    intro X L R Y a m b w hN hL0 hR0 ha hma hb hn hL hR hx S
    by_cases h1 : L.length = 1
    · obtain ⟨x, rfl⟩ := List.length_eq_one_iff.1 h1
      have := symA w0 blk off cap n X R Y x a m b ha (by simpa using hma) hb hn hm hR (fun y hy => hx x (by simp) y hy) w (by simpa only [List.append_assoc, List.cons_append, List.nil_append] using S)
      unfold MergeAt
      simpa only [List.cons_append, List.nil_append] using this
    · by_cases h2 : R.length = 1
      · obtain ⟨y, rfl⟩ := List.length_eq_one_iff.1 h2
        have := symB w0 blk off cap n X L Y y a m b ha hma (by omega) (by simpa using hb) hn hm hL (fun x hx' => hx x hx' y (by simp)) w (by simpa only [List.append_assoc, List.cons_append, List.nil_append] using S)
        unfold MergeAt
        refine this.mono ?_
        rintro e w' ⟨he, S', p, q, r⟩
        exact ⟨he, S', p.trans (List.perm_append_comm (l₁ := [y]) (l₂ := L)), q, r⟩
      · refine symC w0 blk off cap n X L R Y a m b ha hma (by omega) hb (by omega) hn hm hL hR hx ?_ w S
        intro X' L' R' Y' a' m' b' w' h'
        exact mergeOK w0 blk off cap n hm N X' L' R' Y' a' m' b' w' (by omega)
theorem slSymMerge (w0 : World) (blk off cap n : Nat) (hm : n ≤ 1000000) (X L R Y : List DE) (a m b : Nat) (w : World) (hL0 : 0 < L.length) (hR0 : 0 < R.length) (ha : a = X.length) (hma : m = a + L.length) (hb : b = m + R.length) (hn : n = b + Y.length)
    (hL : Srt ocmp L) (hR : Srt ocmp R) (hx : ∀ x ∈ L, ∀ y ∈ R, x.2 < y.2) (S : RW w0 blk off (X ++ L ++ R ++ Y).toArray w) : MergeAt w0 blk off cap n X L R Y a m b w :=
  mergeOK w0 blk off cap n hm (L.length + R.length + 1) X L R Y a m b w (by omega) hL0 hR0 ha hma hb hn hL hR hx S
end Go.Proofs.YtcgpkcaaojkpcaaGreatDoor

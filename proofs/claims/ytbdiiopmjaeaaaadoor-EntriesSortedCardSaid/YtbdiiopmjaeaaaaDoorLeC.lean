
/-
  The law EntriesSorted walked.
-/
import Derived.Test.YtbdiiopmjaeaaaaDoorLeB
import Derived.Test.YtbdiiopmjaeaaaaDoorEqC
namespace Go.Proofs.YtbdiiopmjaeaaaaDoor
open Go.RowKit Go.Sort
set_option linter.unusedSimpArgs false
set_option linter.unusedVariables false
set_option maxRecDepth 100000

/-- A row of bools. -/
def BoolR (w : World) (B : Nat) (u : List Bool) : Prop := ∀ (k : Nat) (b : Bool), u[k]? = some b → w.cell? ⟨B, k, none⟩ = some (.bool b) ∧ w.frozen? ⟨B, k, none⟩ = false
theorem BoolR.bl {w w' : World} {B : Nat} {u : List Bool} (h : BoolR w B u) (hb : Bl w w') : BoolR w' B u := fun k b hk => ⟨hb.cell (h k b hk).1, hb.frozen (h k b hk).1 (h k b hk).2⟩
theorem BoolR.set {w : World} {B : Nat} {u : List Bool} (h : BoolR w B u) (k : Nat) (c : Bool) : BoolR (w.setCell ⟨B, k, none⟩ (.bool c)) B (u.set k c) := by
  intro j b hj
  rw [frozen_set]
  rw [List.getElem?_set] at hj
  by_cases e : k = j
  · subst e
    rw [if_pos rfl] at hj
    split at hj
    · rename_i hlt
      injection hj with hj; subst hj
      obtain ⟨h1, h2⟩ := h k _ (List.getElem?_eq_getElem hlt)
      exact ⟨cell_set w _ _ _ h1 rfl, h2⟩
    · cases hj
  · rw [if_neg e] at hj
    obtain ⟨h1, h2⟩ := h j b hj
    exact ⟨by rw [oth _ _ _ _ _ e]; exact h1, h2⟩
theorem boolR_made (w : World) (n : Nat) (t : TypeId) : BoolR (w.alloc (.cells (madeCells #[.bool false] n) t)) w.heap.size (List.replicate n false) := by
  intro k b hk
  have hlt := (List.getElem?_eq_some_iff.1 hk).1
  rw [List.length_replicate] at hlt
  rw [List.getElem?_replicate, if_pos hlt] at hk
  injection hk with hk; subst hk
  constructor
  · rw [new_cell]
    simp [madeCells, hlt, Nat.mod_one]
  · simp [go_sem]
theorem esort_ok {l S : List Ent} (h : esort l = (S, 0)) : S = isort ocmp l ∧ S.length = l.length ∧ (∀ x, x ∈ S ↔ x ∈ l) ∧ (∀ x ∈ l, echk x = 0) ∧ l.length ≤ 5000 := by
  unfold esort at h
  split at h
  · cases h
  · split at h
    · rename_i h2; injection h with _ h; exact absurd h h2
    · rename_i h1 h2
      injection h with h _
      subst h
      exact ⟨rfl, isort_len l, fun x => (isort_perm l).mem_iff, (eall_iff l).1 (by omega), by omega⟩
theorem esort_bad {l S : List Ent} {e : Int} (h : esort l = (S, e)) (he : e ≠ 0) : S = [] := by
  unfold esort at h
  split at h
  · injection h with h _; exact h.symm
  · split at h
    · injection h with h _; exact h.symm
    · injection h with _ h; exact absurd h.symm he
/-- Where the search for an unused one stands. -/
structure Seek (S l : List Ent) (u u' : List Bool) (x : Ent) (i k : Nat) (b : Bool) : Prop where
  len : u'.length = S.length
  no : b = false → u' = u ∧ ∀ j, j < k → S[j]? = some x → u[j]? ≠ some false
  yes : b = true → (unu S u').Perm (l.drop (i + 1))
theorem seek_start {S l : List Ent} {u : List Bool} {x : Ent} {i : Nat} (h : u.length = S.length) : Seek S l u u x i 0 false := ⟨h, fun _ => ⟨rfl, fun j hj => by omega⟩, fun h => by cases h⟩
theorem seek_used {S l : List Ent} {u u' : List Bool} {x : Ent} {i k : Nat} (h : Seek S l u u' x i k false) (hk : u'[k]? = some true) : Seek S l u u' x i (k + 1) false := by
  obtain ⟨e, hno⟩ := h.no rfl
  refine ⟨h.len, fun _ => ⟨e, fun j hj hs => ?_⟩, fun h => by cases h⟩
  rcases Nat.lt_or_ge j k with h1 | h1
  · exact hno j h1 hs
  · obtain rfl : j = k := by omega
    rw [← e, hk]; simp
theorem seek_other {S l : List Ent} {u u' : List Bool} {x y : Ent} {i k : Nat} (h : Seek S l u u' x i k false) (hy : S[k]? = some y) (hne : y ≠ x) : Seek S l u u' x i (k + 1) false := by
  obtain ⟨e, hno⟩ := h.no rfl
  refine ⟨h.len, fun _ => ⟨e, fun j hj hs => ?_⟩, fun h => by cases h⟩
  rcases Nat.lt_or_ge j k with h1 | h1
  · exact hno j h1 hs
  · obtain rfl : j = k := by omega
    rw [hy] at hs; injection hs with hs; exact absurd hs hne
theorem seek_found {S l : List Ent} {u u' : List Bool} {x : Ent} {i k : Nat} (h : Seek S l u u' x i k false) (hp : (unu S u).Perm (l.drop i)) (hx : l[i]? = some x) (hy : S[k]? = some x) (hu : u'[k]? = some false) : Seek S l u (u'.set k true) x i (k + 1) true := by
  obtain ⟨e, _⟩ := h.no rfl
  subst e
  refine ⟨by rw [List.length_set]; exact h.len, fun h => (by cases h), fun _ => ?_⟩
  have h1 := unu_set S u' k x hy hu
  obtain ⟨hi, e⟩ := List.getElem?_eq_some_iff.1 hx
  rw [List.drop_eq_getElem_cons hi, e] at hp
  exact (List.perm_cons x).1 (h1.symm.trans hp)
theorem seek_end {S l : List Ent} {u u' : List Bool} {x : Ent} {i k : Nat} {b : Bool} (h : Seek S l u u' x i k b) (hk : S.length ≤ k) (hp : (unu S u).Perm (l.drop i)) (hx : l[i]? = some x) : b = true := by
  cases b with
  | true => rfl
  | false =>
    exfalso
    obtain ⟨_, hno⟩ := h.no rfl
    have hm : x ∈ unu S u := by
      obtain ⟨hi, e⟩ := List.getElem?_eq_some_iff.1 hx
      rw [hp.mem_iff, List.drop_eq_getElem_cons hi, e]; simp
    obtain ⟨j, h1, h2⟩ := unu_mem S u x hm
    exact hno j (by have := (List.getElem?_eq_some_iff.1 h1).1; omega) h1 h2
theorem twins_len {S : List Ent} {n : Nat} (h : S.length ≤ n) : twins S n ↔ twins S S.length :=
  ⟨fun ⟨i, x, y, _, h2, h3, h4⟩ => ⟨i, x, y, (List.getElem?_eq_some_iff.1 h3).1, h2, h3, h4⟩, fun ⟨i, x, y, h1, h2, h3, h4⟩ => ⟨i, x, y, by omega, h2, h3, h4⟩⟩
theorem rev_take {l : List Ent} {q : Nat} {x : Ent} (hx : l[q]? = some x) : l.reverse.take (l.length - q) = l.reverse.take (l.length - (q + 1)) ++ [x] := by
  obtain ⟨hq, e⟩ := List.getElem?_eq_some_iff.1 hx
  rw [show l.length - q = l.length - (q + 1) + 1 by omega, List.take_succ_eq_append_getElem (by rw [List.length_reverse]; omega), List.getElem_reverse]
  congr 2
  rw [← e]
  congr 1
  omega
/-! ### The walk -/
theorem inf_bool : (Tryd.prog.info? 4).map (fun i => (i.zero, i.size, i.bytes)) = some (some (.bool false), 1, 1) := by kernel_rfl
theorem made_bools (n : Nat) (hn : n ≤ 5000) (w : World) : (Instr.makeSlice 37 (.int .i64 (n : Int)) (.int .i64 (n : Int))).run Tryd.prog w = .ok (.slice (some ⟨w.heap.size, 0, none⟩) n n) (w.alloc (.cells (madeCells #[.bool false] n) 4)) := by
  obtain ⟨i0, hi, hz0, hz1, hz2⟩ := info_parts inf_bool
  have := run_makeSlice (P := Tryd.prog) (w := w) 37 4 i0 (.bool false) Tryd.underlying37 hi hz0 .i64 .i64 (n : Int) (n : Int) (by omega) (by omega) (by rw [hz1]; simp; omega) (by rw [hz2]; omega) (by omega)
  rw [this, hz1]
  simp [Value.cells]
set_option maxHeartbeats 16000000 in
theorem lawSortedE (a : Option Addr) (c : Nat) (l : List Ent) (w : World) (hl : Ents w a l) (hn : l.length ≤ maxLen) (hE : PEnv w) : Calls Tryd.prog 4 #[.slice a l.length c] w (RB w (.bool true)) := by
  have hln := hn
  unfold maxLen at hln
  have hF := fun w h => lawFarE a c l w h hn
  have hAw := fun w h => awakeE w h
  have hSr := fun w h => entSort a c l w h hn
  obtain ⟨f, hf⟩ : ∃ b, efar l = b := ⟨_, rfl⟩
  rw [hf] at hF
  have HF := Lib.hid hF
  have HAw := Lib.hid hAw
  have HE := Lib.hid hE
  have HL := Lib.hid hl
  have HOk := Lib.hid hl.ok
  obtain ⟨⟨S, e⟩, hS⟩ : ∃ p, esort l = p := ⟨_, rfl⟩
  rw [hS] at hSr
  have HSr := Lib.hid hSr
  have HS := Lib.hid hS
  have HNw := Lib.hid (fun w h => entNewest a c l w h hn)
  clear hF hAw hE hl hf hSr hS
  cases f with
  | true =>
    go_enter Tryd.func4, Tryd.ntmps4
    go_wp2_with fail
    refine (HF.out _ HL.out).mono ?_; rintro ee w1 ⟨rfl, hb1⟩
    go_wp2_with fail
    refine (HAw.out _ (HE.out.bl hb1)).mono ?_; rintro ee w2 ⟨rfl, hb2⟩
    go_wp2_with fail
    go_ret
    exact RB.mk rfl (hb1.trans hb2)
  | false =>
    by_cases he : e = 0
    · subst he
      obtain ⟨hSe, hSl, hSm, hok, hl5⟩ := esort_ok HS.out
      have HP := Lib.hid (And.intro hSe (And.intro hSm hok))
      have HSO := Lib.hid (fun x hx => HOk.out x ((hSm x).1 hx))
      have hne : ((S.length : Int) != (l.length : Int)) = false := by rw [bne_eq_false_iff_eq]; omega
      have HSl := Lib.hid hSl
      have hS5 : S.length ≤ 5000 := by omega
      clear hSe hSm hok hSl
      go_enter Tryd.func4, Tryd.ntmps4
      go_wp2_with fail
      refine (HF.out _ HL.out).mono ?_; rintro ee w1 ⟨rfl, hb1⟩
      go_wp2_with fail
      refine (HSr.out _ (HL.out.bl hb1)).mono ?_; rintro ee w2 ⟨v, rfl, ⟨s, rfl, hO⟩, hb2⟩
      obtain ⟨aS, cS, rfl, hSN, -, -⟩ := hO.ents HSO.out
      have HES := Lib.hid hSN
      have hb := hb1.trans hb2
      have HL2 := Lib.hid (HL.out.bl hb)
      clear hO hSN hb1 hb2
      have hmk := made_bools S.length hS5
      have HMk := Lib.hid hmk
      go_wp2_with fail
      have hbW : Bl w2 (w2.alloc (.cells (madeCells #[.bool false] S.length) 4)) := (Bl.refl w2).alloc _
      have hR := boolR_made w2 S.length 4
      generalize w2.alloc (.cells (madeCells #[.bool false] S.length) 4) = W3 at hbW hR ⊢
      obtain ⟨B, hB⟩ : ∃ B, w2.heap.size = B := ⟨_, rfl⟩
      rw [hB] at hR ⊢
      have HB := Lib.hid hB
      have HR := Lib.hid hR
      clear hmk hR hB
      go_loopg [6] l.length (fun g v wr => ∃ i : Nat, ∃ u : List Bool, v = .int .i64 i ∧ Hid (i ≤ l.length ∧ g = l.length - i ∧ u.length = S.length ∧ (unu S u).Perm (l.drop i) ∧ BoolR wr B u) ∧ Bl w2 wr)
      case atStart =>
        refine ⟨0, List.replicate S.length false, rfl, Lib.hid ⟨by omega, rfl, List.length_replicate, ?_, HR.out⟩, hbW⟩
        rw [unu_start, List.drop_zero, HP.out.1]; exact isort_perm l
      case round =>
        clear hbW HR
        obtain ⟨i, u, rfl, H, hbr⟩ := hrel
        by_cases hi : i < l.length
        · obtain ⟨x, hx⟩ : ∃ x, l[i]? = some x := ⟨_, List.getElem?_eq_getElem hi⟩
          obtain ⟨g1, o1, rfl, hat⟩ := HL2.out.get hi
          have HXe := Lib.hid (hat i x hx)
          have HX := Lib.hid hx
          have HMo := Lib.hid (show l.length - (i + 1) < gk by have := H.out; omega)
          have hst := seek_start (S := S) (l := l) (u := u) (x := x) (i := i) H.out.2.2.1
          have HSt := Lib.hid hst
          clear hx hat hst
          go_wp2_with fail
          go_loopg [7, 8] (S.length + 1) (fun g v1 v2 wr2 => ∃ b : Bool, ∃ k : Nat, v1 = .bool b ∧ v2 = .int .i64 k ∧ Hid (∃ u', k ≤ S.length ∧ g = S.length + 1 - k ∧ Seek S l u u' x i k b ∧ BoolR wr2 B u') ∧ Bl w2 wr2)
          case atStart => exact ⟨false, 0, rfl, rfl, Lib.hid ⟨u, by omega, rfl, HSt.out, H.out.2.2.2.2⟩, hbr⟩
          case round =>
            clear hbr
            obtain ⟨b, k, rfl, rfl, H2, hb2⟩ := hrel
            obtain ⟨u', hk2, hg, hsk, hr2⟩ := H2.out
            have HR2 := Lib.hid hr2
            by_cases hk : k < S.length
            · cases b with
              | true =>
                have HSk := Lib.hid hsk
                have hkS : (k : Int) < (S.length : Int) := by omega
                clear hk2 hg hsk hr2 H2 hk
                go_wp2_with fail
                go_roundg (l.length - (i + 1))
                case rel => exact ⟨i + 1, u', by go_num, Lib.hid ⟨by omega, rfl, HSk.out.len, HSk.out.yes (by simp), HR2.out⟩, hb2⟩
                case measure => exact HMo.out
              | false =>
                obtain ⟨y, hy⟩ : ∃ y, S[k]? = some y := ⟨_, List.getElem?_eq_getElem hk⟩
                obtain ⟨g2, o2, rfl, hat⟩ := HES.out.get hk
                obtain ⟨y0, y1, y2, y3⟩ := (hat k y hy).bl hb2
                obtain ⟨x0, x1, x2, x3⟩ := HXe.out.bl hb2
                obtain ⟨uk, huk⟩ : ∃ q, u'[k]? = some q := ⟨_, List.getElem?_eq_getElem (by rw [hsk.len]; exact hk)⟩
                obtain ⟨k0, k1⟩ := hr2 k uk huk
                have HMs := Lib.hid (show S.length + 1 - (k + 1) < gk by omega)
                have HSk := Lib.hid hsk
                have HY := Lib.hid hy
                have HUk := Lib.hid huk
                clear hk2 hg hsk hr2 H2 hat hy huk
                cases uk with
                | true =>
                  go_wp2_with fail
                  go_quiet (fail)
                  go_wp2_with fail
                  go_roundg (S.length + 1 - (k + 1))
                  case rel => exact ⟨false, k + 1, rfl, by go_num, Lib.hid ⟨u', by omega, rfl, seek_used HSk.out HUk.out, HR2.out⟩, hb2.drewN _⟩
                  case measure => exact HMs.out
                | false =>
                  by_cases he : y = x
                  · subst he
                    have hset := HR2.out.set k true
                    have HSet := Lib.hid hset
                    have hB2 : w2.heap.size ≤ B := by rw [HB.out]; exact Nat.le_refl _
                    have HBl := Lib.hid (fun n => (hb2.drewN n).setCell ⟨B, k, none⟩ hB2 (.bool true))
                    clear hset hB2
                    go_wp2_with fail
                    go_quiet (fail)
                    go_wp2_with fail
                    go_roundg (S.length + 1 - (k + 1))
                    case rel => exact ⟨true, k + 1, rfl, by go_num, Lib.hid ⟨u'.set k true, by omega, rfl, seek_found HSk.out H.out.2.2.2.1 HX.out HY.out HUk.out, HSet.out⟩, HBl.out _⟩
                    case measure => exact HMs.out
                  · have HNe := Lib.hid he
                    rcases ent_parts he with p0 | ⟨p0, p1⟩ | ⟨p0, p1, p2⟩ | ⟨p0, p1, p2, p3⟩
                    · clear he
                      go_wp2_with fail
                      go_quiet (fail)
                      go_wp2_with fail
                      go_roundg (S.length + 1 - (k + 1))
                      case rel => exact ⟨false, k + 1, rfl, by go_num, Lib.hid ⟨u', by omega, rfl, seek_other HSk.out HY.out HNe.out, HR2.out⟩, hb2.drewN _⟩
                      case measure => exact HMs.out
                    · clear he
                      go_wp2_with fail
                      go_quiet (fail)
                      go_wp2_with fail
                      go_roundg (S.length + 1 - (k + 1))
                      case rel => exact ⟨false, k + 1, rfl, by go_num, Lib.hid ⟨u', by omega, rfl, seek_other HSk.out HY.out HNe.out, HR2.out⟩, hb2.drewN _⟩
                      case measure => exact HMs.out
                    · clear he
                      go_wp2_with fail
                      go_quiet (fail)
                      go_wp2_with fail
                      go_roundg (S.length + 1 - (k + 1))
                      case rel => exact ⟨false, k + 1, rfl, by go_num, Lib.hid ⟨u', by omega, rfl, seek_other HSk.out HY.out HNe.out, HR2.out⟩, hb2.drewN _⟩
                      case measure => exact HMs.out
                    · clear he
                      go_wp2_with fail
                      go_quiet (fail)
                      go_wp2_with fail
                      go_roundg (S.length + 1 - (k + 1))
                      case rel => exact ⟨false, k + 1, rfl, by go_num, Lib.hid ⟨u', by omega, rfl, seek_other HSk.out HY.out HNe.out, HR2.out⟩, hb2.drewN _⟩
                      case measure => exact HMs.out
            · have hbt : b = true := seek_end hsk (by omega) H.out.2.2.2.1 HX.out
              subst hbt
              have HSk := Lib.hid hsk
              have hkS : ¬ (k : Int) < (S.length : Int) := by omega
              clear hk2 hg hsk hr2 H2 hk
              go_wp2_with fail
              go_roundg (l.length - (i + 1))
              case rel => exact ⟨i + 1, u', by go_num, Lib.hid ⟨by omega, rfl, HSk.out.len, HSk.out.yes (by simp), HR2.out⟩, hb2⟩
              case measure => exact HMo.out
        · have hi' : ¬ (i : Int) < (l.length : Int) := by omega
          clear H
          go_wp2_with fail
          go_loopg [9, 10] S.length (fun g v1 v2 wr2 => ∃ sm : Bool, ∃ k : Nat, v1 = .bool sm ∧ v2 = .int .i64 ((k : Int) + 1) ∧ Hid ((sm = true ↔ twins S (k + 1)) ∧ k ≤ S.length ∧ g = S.length - k) ∧ Bl w2 wr2)
          case atStart => exact ⟨false, 0, rfl, by go_num, Lib.hid ⟨⟨fun h => (by cases h), fun ⟨i, _, _, h, _⟩ => by omega⟩, by omega, rfl⟩, hbr⟩
          case round =>
            clear hbr
            obtain ⟨sm, k, rfl, rfl, H, hb3⟩ := hrel
            by_cases hk : k + 1 < S.length
            · obtain ⟨x, hx⟩ : ∃ x, S[k]? = some x := ⟨_, List.getElem?_eq_getElem (by omega)⟩
              obtain ⟨y, hy⟩ : ∃ y, S[k + 1]? = some y := ⟨_, List.getElem?_eq_getElem hk⟩
              obtain ⟨g2, o2, rfl, hat⟩ := HES.out.get hk
              obtain ⟨x0, x1, x2, x3⟩ := (hat k x hx).bl hb3
              obtain ⟨y0, y1, y2, y3⟩ := (hat (k + 1) y hy).bl hb3
              have x0' := @BW.cell wr _ _ x0
              have x1' := @BW.cell wr _ _ x1
              have x2' := @BW.cell wr _ _ x2
              have x3' := @BW.cell wr _ _ x3
              have y0' := @BW.cell wr _ _ y0
              have y1' := @BW.cell wr _ _ y1
              have y2' := @BW.cell wr _ _ y2
              have y3' := @BW.cell wr _ _ y3
              have mx := List.mem_of_getElem? hx
              have my := List.mem_of_getElem? hy
              have hC := fun w => entCompare x y w (HSO.out x mx) (HSO.out y my)
              have hec : ecmp x y = (ocmp x y, 0) := by
                have e : e2 x y = 0 := (eall_iff [x, y]).2 (by intro z hz; simp at hz; rcases hz with rfl | rfl; exact HP.out.2.2 _ ((HP.out.2.1 _).1 mx); exact HP.out.2.2 _ ((HP.out.2.1 _).1 my))
                unfold ecmp; rw [if_neg (by omega)]
              have hle : ocmp x y ≤ 0 := by
                obtain ⟨i1, rfl⟩ := List.getElem?_eq_some_iff.1 hx
                obtain ⟨i2, rfl⟩ := List.getElem?_eq_some_iff.1 hy
                have := isort_le l
                rw [← HP.out.1] at this
                exact List.pairwise_iff_getElem.1 this k (k + 1) i1 i2 (by omega)
              have htw := twins_step hx hy
              rw [hec] at hC
              obtain ⟨o, ho⟩ : ∃ o, ocmp x y = o := ⟨_, rfl⟩
              rw [ho] at hC hle htw
              unfold Ent.v at hC
              have HC := Lib.hid hC
              have HTw := Lib.hid htw
              have p0 : (0 : Int) ≤ (k : Int) + 1 := by omega
              have p1 : (k : Int) + 1 < (S.length : Int) := by omega
              have p2 : (k : Int) < (S.length : Int) := by omega
              have p3 : ((k : Int) + 1).toNat = k + 1 := by omega
              have p6 : ¬ 0 < o := by omega
              have HMs := Lib.hid (show S.length - (k + 1) < gk by have := H.out; omega)
              have hk9 : k ≤ 1000000 := by omega
              have p4 : wrap64 (k : Int) = (k : Int) := wrapNat _ (by omega)
              clear hat hx hy mx my hC hec hle htw ho
              go_wp2_with fail
              
              refine wp_region_quiet_bw wr (by kernel_rfl) (by kernel_rfl) (Bl.refl wr) ?_
              repeat (go_big_quiet_step ((go_at_call 12; exact quietB (HC.out _))))
              refine wpQuiet_nil ?_
              intro wq hw'
              have hwq : Bl wr wq := by obtain ⟨x, hx⟩ := hw'; rw [hx]; exact x.h
              clear hw'
              clear x0' x1' x2' x3' y0' y1' y2' y3' x0 x1 x2 x3 y0 y1 y2 y3
              cases sm with
              | true =>
                go_wp2_with fail
                go_roundg (S.length - (k + 1))
                case rel => exact ⟨true, k + 1, rfl, by go_num, Lib.hid ⟨⟨fun _ => HTw.out.2 (.inl (H.out.1.1 (by simp))), fun _ => rfl⟩, by omega, rfl⟩, hb3.trans hwq⟩
                case measure => exact HMs.out
              | false =>
                by_cases h0 : o = 0
                · subst h0
                  go_wp2_with fail
                  go_roundg (S.length - (k + 1))
                  case rel => exact ⟨true, k + 1, rfl, by go_num, Lib.hid ⟨⟨fun _ => HTw.out.2 (.inr (by simp)), fun _ => rfl⟩, by omega, rfl⟩, hb3.trans hwq⟩
                  case measure => exact HMs.out
                · have h00 : (o == 0) = false := by rw [beq_eq_false_iff_ne]; exact h0
                  have H0 := Lib.hid h0
                  clear h0
                  go_wp2_with fail
                  go_roundg (S.length - (k + 1))
                  case rel => exact ⟨false, k + 1, rfl, by go_num, Lib.hid ⟨⟨fun h => (by cases h), fun h => ((HTw.out.1 h).elim (fun h => by have := H.out.1.2 h; cases this) H0.out).elim⟩, by omega, rfl⟩, hb3.trans hwq⟩
                  case measure => exact HMs.out
            · have hsm : sm = true ↔ twins S S.length := H.out.1.trans (twins_len (by omega))
              have HSm := Lib.hid hsm
              have hk' : ¬ (k : Int) + 1 < (S.length : Int) := by omega
              obtain ⟨i0, hin, hz0, hz1, hz2⟩ := info_parts inf_ent
              clear hsm H hk
              go_wp2_with fail
              obtain ⟨W5, hW5⟩ : ∃ z, z = wr := ⟨_, rfl⟩
              rw [← hW5] at hb3 ⊢
              clear hW5
              go_loopg [13, 14] l.length (fun g v1 v2 wr2 => ∃ q : Nat, v2 = .int .i64 ((q : Int) - 1) ∧ Hid (q ≤ l.length ∧ g = q ∧ wr2.ownsRow W5.heap.size 23 4 v1 (l.length - q) (entCells (l.reverse.take (l.length - q)))) ∧ Bl W5 wr2)
              case atStart => exact ⟨l.length, by first | rfl | go_num, Lib.hid ⟨Nat.le_refl _, rfl, by simpa [entCells] using own_nil _ _ _ _⟩, Bl.refl _⟩
              case round =>
                obtain ⟨q, rfl, H, hb5⟩ := hrel
                by_cases hq : 0 < q
                · obtain ⟨qp, rfl⟩ : ∃ qp, q = qp + 1 := ⟨q - 1, by omega⟩
                  have hql : qp < l.length := by have := H.out.1; omega
                  obtain ⟨x, hx⟩ : ∃ x, l[qp]? = some x := ⟨_, List.getElem?_eq_getElem hql⟩
                  obtain ⟨g1, o1, rfl, hat⟩ := HL2.out.get hql
                  obtain ⟨x0, x1, x2, x3⟩ := ((hat qp x hx).bl hb3).bl hb5
                  have HX := Lib.hid hx
                  have e1 : (((qp + 1 : Nat) : Int)) - 1 = (qp : Int) := by omega
                  rw [e1]
                  have hq0 : (0 : Int) ≤ (qp : Int) := by omega
                  have hs5 := hb5.size
                  clear hat hx e1
                  go_wp2_with (at_builtin; refine wpList_append_own _ rfl _ _ 33 rfl W5.heap.size 23 i0 (.agg #[.string ⟨#[]⟩, .string ⟨#[]⟩, .bool false, .int .i64 0]) 4 48 Tryd.underlying33 hin hz0 hz1 hz2 rfl (by decide) _ _ _ rfl (H.out.2.2.alloc _) ⟨wr.heap.size, 0, none⟩ 1 1 [.string x.key, .string x.val, .bool x.dead, .int .i64 x.seq] rfl rfl ?c1 ?c2 ?c3 ?c4 ?c5 ?_)
                  case c1 => exact multi_new _ _ _
                  case c2 => intro u hu; simp at hu; rcases hu with rfl | rfl | rfl | rfl <;> rfl
                  case c3 => unfold maxLen; omega
                  case c4 => omega
                  case c5 => simp; omega
                  intro v' w4 hown4 hgrow _
                  have hb6 := grown_bl (hb5.alloc _) (H.out.2.2.alloc _) hgrow (Nat.le_refl _)
                  have hown5 : w4.ownsRow W5.heap.size 23 4 v' (l.length - qp) (entCells (l.reverse.take (l.length - qp))) := by
                    rw [rev_take HX.out, entCells_snoc, show l.length - qp = l.length - (qp + 1) + 1 by omega]; exact hown4
                  have HO5 := Lib.hid hown5
                  clear hown4 hown5 hgrow
                  go_wp2_with fail
                  go_roundg qp
                  case rel => exact ⟨qp, rfl, Lib.hid ⟨by omega, rfl, HO5.out⟩, hb6⟩
                  case measure => have := H.out.2.1; omega
                · obtain rfl : q = 0 := by omega
                  have hown := H.out.2.2
                  rw [Nat.sub_zero, List.take_of_length_le (by simp)] at hown
                  have hokr : ∀ z ∈ l.reverse, z.ok := fun z hz => HOk.out z (by simpa using hz)
                  obtain ⟨aT, cT, rfl, hT, -, -⟩ := own_ents (l := l.reverse) (by simpa using hown) hokr
                  have hbq := hb3.trans hb5
                  have hbW5 := hb.trans hbq
                  have HT := Lib.hid hT
                  have hN2 := fun w h => entNewest aT cT l.reverse w h (by simpa using hn)
                  have hE1 : enewest l = (newest l, 0) := by
                    unfold enewest
                    rw [if_neg (by omega), if_neg (by have := (eall_iff l).2 HP.out.2.2; omega)]
                  have hE2 : enewest l.reverse = (newest l.reverse, 0) := by
                    unfold enewest
                    rw [if_neg (by simp; omega), if_neg (by have := (eall_iff l.reverse).2 (fun x hx => HP.out.2.2 x (by simpa using hx)); omega)]
                  have hN1 := HNw.out
                  rw [hE1] at hN1
                  rw [hE2] at hN2
                  rw [List.length_reverse] at hN2
                  have HN1 := Lib.hid hN1
                  have HN2 := Lib.hid hN2
                  rw [List.length_reverse]
                  clear hown hT hokr hN1 hN2 hE1 hE2 H
                  go_wp2_with fail
                  refine (HN1.out _ (HL2.out.bl hbq)).mono ?_; rintro ee w8 ⟨v, rfl, ⟨s, rfl, hO⟩, hb8⟩
                  obtain ⟨aN, cN, rfl, hSN, -, hcN⟩ := hO.ents (fun x hx => HOk.out x (newest_mem hx))
                  have HEN := Lib.hid hSN
                  clear hO hSN
                  go_wp2_with fail
                  refine (HN2.out _ (HT.out.bl hb8)).mono ?_; rintro ee w9 ⟨v, rfl, ⟨s, rfl, hO⟩, hb9⟩
                  obtain ⟨aM, cM, rfl, hSM, -, hcM⟩ := hO.ents (fun x hx => HOk.out x (by have := newest_mem hx; simpa using this))
                  have HEM := Lib.hid hSM
                  have hb10 := hbW5.trans (hb8.trans hb9)
                  clear hO hSM
                  cases sm with
                  | true =>
                    go_wp2_with fail
                    refine (HAw.out _ (HE.out.bl hb10)).mono ?_; rintro ee w11 ⟨rfl, hb11⟩
                    go_wp2_with fail
                    go_ret
                    exact RB.mk rfl (hb10.trans hb11)
                  | false =>
                    have heq : newest l = newest l.reverse := newest_turned (by
                      rw [← HP.out.1]
                      intro h
                      have := HSm.out.2 h
                      cases this)
                    have hl1 := newest_len l
                    have hl2 := newest_len l.reverse
                    rw [List.length_reverse] at hl2
                    have hSm := refSameE aN aM cN cM (newest l) (newest l.reverse) w9 (HEN.out.bl hb9) HEM.out (by omega) (by omega)
                    rw [decide_eq_true heq] at hSm
                    have HSame := Lib.hid hSm
                    clear heq hl1 hl2 hSm
                    go_wp2_with fail
                    refine HSame.out.mono ?_; rintro ee w10 ⟨rfl, hb12⟩
                    have hb13 := hb10.trans hb12
                    go_wp2_with fail
                    refine (HAw.out _ (HE.out.bl hb13)).mono ?_; rintro ee w11 ⟨rfl, hb11⟩
                    go_wp2_with fail
                    go_ret
                    exact RB.mk rfl (hb13.trans hb11)
    · have hNil := esort_bad HS.out he
      subst hNil
      have e1 : (e != 0) = true := by rw [bne_iff_ne]; exact he
      clear he
      go_enter Tryd.func4, Tryd.ntmps4
      go_wp2_with fail
      refine (HF.out _ HL.out).mono ?_; rintro ee w1 ⟨rfl, hb1⟩
      go_wp2_with fail
      refine (HSr.out _ (HL.out.bl hb1)).mono ?_; rintro ee w2 ⟨v, rfl, ⟨s, rfl, hO⟩, hb2⟩
      obtain ⟨aN, cN, rfl, hSN, -, -⟩ := hO.ents (by simp)
      have hb := hb1.trans hb2
      clear hO hSN hb1 hb2
      go_wp2_with fail
      refine (HAw.out _ (HE.out.bl hb)).mono ?_; rintro ee w3 ⟨rfl, hb3⟩
      go_wp2_with fail
      go_ret
      exact RB.mk rfl (hb.trans hb3)
end Go.Proofs.YtbdiiopmjaeaaaaDoor


/-
  The reference's Sort, Newest, Live.
-/
import Derived.Test.YtbdiiopmjaeaaaaDoorEvB
import Derived.Test.YtbdiiopmjaeaaaaDoorEvA
import Derived.Test.YtbdiiopmjaeaaaaDoorEntB
namespace Go.Proofs.YtbdiiopmjaeaaaaDoor
open Go.RowKit Go.Sort
set_option linter.unusedSimpArgs false
set_option linter.unusedVariables false
set_option maxRecDepth 100000

/-! ### Plain -/
theorem esort_nil {l : List Ent} (h : (esort l).2 ≠ 0) : (esort l).1 = [] := by
  unfold esort at h ⊢
  split
  · rfl
  · rename_i h1; rw [if_neg h1] at h
    split
    · rfl
    · rename_i h2; rw [if_neg h2] at h; exact absurd rfl h
theorem esort_mem {l : List Ent} {x : Ent} (h : x ∈ (esort l).1) : x ∈ l := by
  unfold esort at h
  split at h
  · cases h
  · split at h
    · cases h
    · exact (isort_perm l).mem_iff.1 h
theorem rall_is (l : List Ent) : esort l = if rall l ≠ 0 then ([], rall l) else (isort ocmp l, 0) := by
  unfold esort rall
  split
  · rw [if_pos (by decide)]
  · rfl
theorem zip_get {S : List Ent} {k : Nat} {x : Ent} (h : S[k]? = some x) : S.zipIdx[k]? = some (x, k) := by simp [h]
theorem zip_take (S : List Ent) (k : Nat) : (S.zipIdx.take k).map Prod.fst = S.take k := by rw [List.map_take, zip_fst]
theorem cmpct_step {S : List Ent} {k : Nat} {x y : Ent} (hk : 0 < k) (hx : S[k]? = some x) (hy : S[k - 1]? = some y) : cmpct (S.take (k + 1)) = cmpct (S.take k) ++ (if y.key = x.key then [] else [x]) := by
  have h := congrArg (List.map Prod.fst) (keep_step hk (zip_get hx) (zip_get hy))
  rw [keepD_cmpct, zip_take, List.map_append, keepD_cmpct, zip_take] at h
  rw [h]
  split <;> rfl
theorem cmpct_one {S : List Ent} {k : Nat} {x : Ent} (hk : k = 0) (hx : S[k]? = some x) : cmpct (S.take (k + 1)) = cmpct (S.take k) ++ [x] := by
  subst hk
  match S, hx with
  | y :: S, hx => simp at hx; subst hx; simp [cmpct, cmpct.cmpctGo]
theorem cmpct_le (l : List Ent) : (cmpct l).length ≤ l.length := by
  have h := keepD_len l.zipIdx none
  have e := congrArg List.length (keepD_cmpct l.zipIdx)
  rw [zip_fst, List.length_map] at e
  rw [List.length_zipIdx] at h
  omega
theorem live_step {L : List Ent} {k : Nat} {x : Ent} (hx : L[k]? = some x) : (L.take (k + 1)).filter (fun x => !x.dead) = (L.take k).filter (fun x => !x.dead) ++ (if x.dead = true then [] else [x]) := by
  obtain ⟨h1, rfl⟩ := List.getElem?_eq_some_iff.1 hx
  rw [List.take_succ_eq_append_getElem h1, List.filter_append]
  cases h : (L[k]).dead <;> simp [h]
/-! ### Sort -/
set_option maxHeartbeats 2000000 in
theorem refSortE (a : Option Addr) (c : Nat) (l : List Ent) (w : World) (hl : Ents w a l) (hn : l.length ≤ maxLen) : Calls Tryd.prog 24 #[.slice a l.length c] w (RM w (OutE w.heap.size (esort l))) := by
  rw [rall_is]
  have hA := refAllE a c l w hl hn
  have HL := Lib.hid hl
  obtain ⟨q, hq⟩ : ∃ q, rall l = q := ⟨_, rfl⟩
  rw [hq] at hA ⊢
  have HA := Lib.hid hA
  clear hA hl
  by_cases h : q = 0
  · subst h
    rw [if_neg (by simp)]
    have h5 : l.length ≤ 5000 := by
      unfold rall at hq
      split at hq
      · cases hq
      · omega
    have HS := Lib.hid (fun w h => refSorted a c l w h (by omega))
    clear hq
    go_enter Tryd.func24, Tryd.ntmps24
    go_wp2_with fail
    refine HA.out.mono ?_; rintro e w1 ⟨rfl, hb1⟩
    go_wp2_with fail
    refine (HS.out _ (HL.out.bl hb1)).mono ?_; rintro e w2 ⟨v, rfl, hO, hb2⟩
    have HO := Lib.hid (own_base hO hb1.size)
    have hb := hb1.trans hb2
    clear hO hb1 hb2
    go_wp2_with fail
    go_ret2
    exact RM.mk ⟨v, rfl, ownE_of (own_cast HO.out (isort_len l).symm rfl)⟩ hb
  · have h1 : (q != 0) = true := by rw [bne_iff_ne]; exact h
    rw [if_pos h]
    clear h hq
    go_enter Tryd.func24, Tryd.ntmps24
    go_wp2_with fail
    refine HA.out.mono ?_; rintro e w1 ⟨rfl, hb1⟩
    go_wp2_with fail
    go_ret2
    exact RM.mk (OutE.nil q) hb1
/-! ### Newest -/
set_option maxHeartbeats 4000000 in
theorem refNewestE (a : Option Addr) (c : Nat) (l : List Ent) (w : World) (hl : Ents w a l) (hn : l.length ≤ maxLen) : Calls Tryd.prog 25 #[.slice a l.length c] w (RM w (OutE w.heap.size (enewest l))) := by
  obtain ⟨i0, hin, hz0, hz1, hz2⟩ := info_parts inf_ent
  rw [enewest_of]
  have HS := Lib.hid (refSortE a c l w hl hn)
  have HLn := Lib.hid (esort_len l)
  have HOk := Lib.hid (fun x (h : x ∈ (esort l).1) => hl.ok x (esort_mem h))
  have HNil := Lib.hid (fun h => esort_nil (l := l) h)
  obtain ⟨⟨S, q⟩, hp⟩ : ∃ p, esort l = p := ⟨_, rfl⟩
  rw [hp] at HS HLn HOk HNil ⊢
  clear hl hp
  by_cases h : q = 0
  · subst h
    have HLn2 := Lib.hid (show S.length ≤ 5000 from HLn.out)
    go_enter Tryd.func25, Tryd.ntmps25
    go_wp2_with fail
    refine HS.out.mono ?_; rintro e w1 ⟨v, rfl, ⟨s, rfl, hO⟩, hb1⟩
    obtain ⟨aS, cS, rfl, hSS, -, -⟩ := hO.ents HOk.out
    have HE := Lib.hid hSS
    have hb1s : w.heap.size ≤ w1.heap.size := hb1.size
    clear hO hSS HS
    go_wp2_with fail
    go_loopg [6, 7] S.length (fun g v1 v2 wr => ∃ k : Nat, v2 = .int .i64 k ∧ Hid (k ≤ S.length ∧ g = S.length - k ∧ wr.ownsRow w1.heap.size 23 4 v1 (cmpct (S.take k)).length (entCells (cmpct (S.take k)))) ∧ Bl w1 wr)
    case atStart => exact ⟨0, rfl, Lib.hid ⟨by omega, rfl, by simpa [cmpct, entCells] using own_nil _ _ _ _⟩, Bl.refl _⟩
    case round =>
      obtain ⟨k, rfl, H, hb2⟩ := hrel
      have hbw := hb1.trans hb2
      by_cases hk : k < S.length
      · obtain ⟨x, hx⟩ : ∃ x, S[k]? = some x := ⟨_, List.getElem?_eq_getElem hk⟩
        obtain ⟨g1, o1, rfl, hat⟩ := HE.out.get hk
        obtain ⟨x0, x1, x2, x3⟩ := (hat k x hx).bl hb2
        have hle := cmpct_le (S.take k)
        rw [List.length_take] at hle
        have hown := H.out.2.2
        have hst1 := fun h => cmpct_one (S := S) (k := k) (x := x) h hx
        have hst2 := fun (h : 0 < k) y hy => cmpct_step (S := S) (k := k) (x := x) (y := y) h hx hy
        obtain ⟨A, hA⟩ : ∃ A, cmpct (S.take k) = A := ⟨_, rfl⟩
        rw [hA] at hown hle hst1 hst2
        have hAl : A.length ≤ 5000 := by have := HLn2.out; omega
        have hs2 := hb2.size
        have hk9 : k ≤ 5000 := by have := HLn2.out; omega
        have HO := Lib.hid hown
        have HMs := Lib.hid (show S.length - (k + 1) < gk by have := H.out; omega)
        clear hA hle hown
        by_cases hk0 : k = 0
        · have HSt := Lib.hid (hst1 hk0)
          have e0 : ((k : Int) == 0) = true := by rw [beq_iff_eq]; omega
          have e1 : (k == 0) = true := by rw [beq_iff_eq]; exact hk0
          have x0' := @BW.cell wr _ _ x0
          clear hst1 hst2 hx hat hk0
          go_wp2_with fail
          
          refine wp_region_quiet_bw wr (by kernel_rfl) (by kernel_rfl) (Bl.refl wr) ?_
          repeat (go_big_quiet_step (fail))
          refine wpQuiet_nil ?_
          intro wq hw'
          have hwq : Bl wr wq := by obtain ⟨x, hx⟩ := hw'; rw [hx]; exact x.h
          clear hw'
          have HO2 := Lib.hid (own_bl HO.out hwq)
          have hbw := hbw.trans hwq
          have hb2 := hb2.trans hwq
          have hs2 := hb2.size
          have x0 := hwq.cell x0
          have x1 := hwq.cell x1
          have x2 := hwq.cell x2
          have x3 := hwq.cell x3
          clear x0'
          go_wp2_with (at_builtin; refine wpList_append_own _ rfl _ _ 33 rfl w1.heap.size 23 i0 (.agg #[.string ⟨#[]⟩, .string ⟨#[]⟩, .bool false, .int .i64 0]) 4 48 Tryd.underlying33 hin hz0 hz1 hz2 rfl (by decide) _ _ _ rfl (World.ownsRow.alloc HO2.out _) ⟨(World.heap wq).size, 0, none⟩ 1 1 [.string x.key, .string x.val, .bool x.dead, .int .i64 x.seq] rfl rfl ?c1a ?c2a ?c3a ?c4a ?c5a ?_)
          case c1a => exact multi_new _ _ _
          case c2a => intro u hu; simp at hu; rcases hu with rfl | rfl | rfl | rfl <;> rfl
          case c3a => unfold maxLen; omega
          case c4a => omega
          case c5a => simp; omega
          intro v' w4 hown4 hgrow _
          have hb7 := grown_bl (hb2.alloc _) (World.ownsRow.alloc HO2.out _) hgrow (Nat.le_refl _)
          have HO5 := Lib.hid (own_cast hown4 (m := (A ++ [x]).length) (ys := entCells (A ++ [x])) (by simp) (by rw [entCells_snoc]))
          clear hown4 hgrow
          go_wp2_with fail
          go_roundg (S.length - (k + 1))
          case rel => exact ⟨k + 1, by go_num, Lib.hid ⟨by omega, rfl, by rw [HSt.out]; exact HO5.out⟩, hb7⟩
          case measure => exact HMs.out
        · obtain ⟨y, hy⟩ : ∃ y, S[k - 1]? = some y := ⟨_, List.getElem?_eq_getElem (by omega)⟩
          obtain ⟨y0, y1, y2, y3⟩ := (hat (k - 1) y hy).bl hb2
          have hst := hst2 (by omega) y hy
          have e0 : ((k : Int) == 0) = false := by rw [beq_eq_false_iff_ne]; omega
          have e1 : (k == 0) = false := by rw [beq_eq_false_iff_ne]; exact hk0
          have p0 : (0 : Int) ≤ (k : Int) - 1 := by omega
          have p2 : (k : Int) - 1 < (S.length : Int) := by omega
          have p3 : ((k : Int) - 1).toNat = k - 1 := by omega
          have hk1 : 0 < k := by omega
          by_cases he : y.key = x.key
          · rw [if_pos he, List.append_nil] at hst
            have HSt := Lib.hid hst
            have h1 : (x.key.toList == y.key.toList) = true := beq_key he.symm
            have h2 : (x.key.toList != y.key.toList) = false := by rw [bne, h1]; rfl
            clear hst1 hst2 hst hx hy hat he hk0
            go_wp2_with fail
            go_quiet (fail)
            go_wp2_with fail
            go_roundg (S.length - (k + 1))
            case rel => exact ⟨k + 1, by go_num, Lib.hid ⟨by omega, rfl, by rw [HSt.out]; exact HO.out⟩, hb2.drewN _⟩
            case measure => exact HMs.out
          · rw [if_neg he] at hst
            have HSt := Lib.hid hst
            have h1 : (x.key.toList == y.key.toList) = false := bne_key (fun e => he e.symm)
            have h2 : (x.key.toList != y.key.toList) = true := by rw [bne, h1]; rfl
            have x0' := @BW.cell wr _ _ x0
            have y0' := @BW.cell wr _ _ y0
            clear hst1 hst2 hst hx hy hat he hk0
            go_wp2_with fail
            
            refine wp_region_quiet_bw wr (by kernel_rfl) (by kernel_rfl) (Bl.refl wr) ?_
            repeat (go_big_quiet_step (fail))
            refine wpQuiet_nil ?_
            intro wq hw'
            have hwq : Bl wr wq := by obtain ⟨x, hx⟩ := hw'; rw [hx]; exact x.h
            clear hw'
            have HO2 := Lib.hid (own_bl HO.out hwq)
            have hbw := hbw.trans hwq
            have hb2 := hb2.trans hwq
            have hs2 := hb2.size
            have x0 := hwq.cell x0
            have x1 := hwq.cell x1
            have x2 := hwq.cell x2
            have x3 := hwq.cell x3
            clear x0' y0' y0 y1 y2 y3
            go_wp2_with (at_builtin; refine wpList_append_own _ rfl _ _ 33 rfl w1.heap.size 23 i0 (.agg #[.string ⟨#[]⟩, .string ⟨#[]⟩, .bool false, .int .i64 0]) 4 48 Tryd.underlying33 hin hz0 hz1 hz2 rfl (by decide) _ _ _ rfl (World.ownsRow.alloc HO2.out _) ⟨(World.heap wq).size, 0, none⟩ 1 1 [.string x.key, .string x.val, .bool x.dead, .int .i64 x.seq] rfl rfl ?c1b ?c2b ?c3b ?c4b ?c5b ?_)
            case c1b => exact multi_new _ _ _
            case c2b => intro u hu; simp at hu; rcases hu with rfl | rfl | rfl | rfl <;> rfl
            case c3b => unfold maxLen; omega
            case c4b => omega
            case c5b => simp; omega
            intro v' w4 hown4 hgrow _
            have hb7 := grown_bl (hb2.alloc _) (World.ownsRow.alloc HO2.out _) hgrow (Nat.le_refl _)
            have HO5 := Lib.hid (own_cast hown4 (m := (A ++ [x]).length) (ys := entCells (A ++ [x])) (by simp) (by rw [entCells_snoc]))
            clear hown4 hgrow
            go_wp2_with fail
            go_roundg (S.length - (k + 1))
            case rel => exact ⟨k + 1, by go_num, Lib.hid ⟨by omega, rfl, by rw [HSt.out]; exact HO5.out⟩, hb7⟩
            case measure => exact HMs.out
      · have hk' : k = S.length := by have := H.out; omega
        subst hk'
        have hown := H.out.2.2
        rw [List.take_length] at hown
        have HOw := Lib.hid hown
        clear hown H
        go_wp2_with fail
        go_ret2
        exact RM.mk ⟨_, rfl, (ownE_of HOw.out).base hb1s⟩ hbw
  · have h1 : (q != 0) = true := by rw [bne_iff_ne]; exact h
    have hS : S = [] := HNil.out h
    subst hS
    clear h
    go_enter Tryd.func25, Tryd.ntmps25
    go_wp2_with fail
    refine HS.out.mono ?_; rintro e w1 ⟨v, rfl, ⟨s, rfl, hO⟩, hb1⟩
    clear hO
    go_wp2_with fail
    go_ret2
    exact RM.mk (OutE.nil q) hb1
/-! ### Live -/
set_option maxHeartbeats 4000000 in
theorem refLiveE (a : Option Addr) (c : Nat) (l : List Ent) (w : World) (hl : Ents w a l) (hn : l.length ≤ maxLen) : Calls Tryd.prog 30 #[.slice a l.length c] w (RM w (OutE w.heap.size (elive l))) := by
  obtain ⟨i0, hin, hz0, hz1, hz2⟩ := info_parts inf_ent
  have hC := refCheckList a c l w hl hn
  have hok := fun h => ((clchk_ok l).1 h).1
  have HE := Lib.hid hl
  unfold elive
  obtain ⟨⟨n, q⟩, hp⟩ : ∃ p, clchk l = p := ⟨_, rfl⟩
  rw [hp] at hC hok ⊢
  have HC := Lib.hid hC
  clear hl hp hC
  by_cases h : q = 0
  · subst h
    rw [if_neg (by simp)]
    have HLn2 := Lib.hid (hok rfl)
    clear hok
    go_enter Tryd.func30, Tryd.ntmps30
    go_wp2_with fail
    refine HC.out.mono ?_; rintro e w1 ⟨rfl, hb1⟩
    have hb1s : w.heap.size ≤ w1.heap.size := hb1.size
    go_wp2_with fail
    go_loopg [6, 7] l.length (fun g v1 v2 wr => ∃ k : Nat, v2 = .int .i64 k ∧ Hid (k ≤ l.length ∧ g = l.length - k ∧ wr.ownsRow w1.heap.size 23 4 v1 ((l.take k).filter (fun x => !x.dead)).length (entCells ((l.take k).filter (fun x => !x.dead)))) ∧ Bl w1 wr)
    case atStart => exact ⟨0, rfl, Lib.hid ⟨by omega, rfl, by simpa [entCells] using own_nil _ _ _ _⟩, Bl.refl _⟩
    case round =>
      obtain ⟨k, rfl, H, hb2⟩ := hrel
      have hbw := hb1.trans hb2
      by_cases hk : k < l.length
      · obtain ⟨x, hx⟩ : ∃ x, l[k]? = some x := ⟨_, List.getElem?_eq_getElem hk⟩
        obtain ⟨g1, o1, rfl, hat⟩ := HE.out.get hk
        obtain ⟨x0, x1, x2, x3⟩ := ((hat k x hx).bl hb1).bl hb2
        have hle := List.length_filter_le (fun x => !x.dead) (l.take k)
        rw [List.length_take] at hle
        have hown := H.out.2.2
        have hst := live_step hx
        obtain ⟨A, hA⟩ : ∃ A, (l.take k).filter (fun x => !x.dead) = A := ⟨_, rfl⟩
        rw [hA] at hown hle hst
        have hAl : A.length ≤ 5000 := by have := HLn2.out; omega
        have hs2 := hb2.size
        have hk9 : k ≤ 5000 := by have := HLn2.out; omega
        have HO := Lib.hid hown
        have HMs := Lib.hid (show l.length - (k + 1) < gk by have := H.out; omega)
        obtain ⟨d, hd⟩ : ∃ d, x.dead = d := ⟨_, rfl⟩
        rw [hd] at x2
        clear hA hle hown hat hx
        cases d with
        | true =>
          rw [if_pos hd, List.append_nil] at hst
          have HSt := Lib.hid hst
          clear hst hd
          go_wp2_with fail
          go_roundg (l.length - (k + 1))
          case rel => exact ⟨k + 1, by go_num, Lib.hid ⟨by omega, rfl, by rw [HSt.out]; exact HO.out⟩, hb2⟩
          case measure => exact HMs.out
        | false =>
          rw [if_neg (by simp [hd])] at hst
          have HSt := Lib.hid hst
          clear hst
          rw [← hd] at x2
          have hd2 : (!x.dead) = true := by rw [hd]; rfl
          clear hd
          go_wp2_with (at_builtin; refine wpList_append_own _ rfl _ _ 33 rfl w1.heap.size 23 i0 (.agg #[.string ⟨#[]⟩, .string ⟨#[]⟩, .bool false, .int .i64 0]) 4 48 Tryd.underlying33 hin hz0 hz1 hz2 rfl (by decide) _ _ _ rfl (World.ownsRow.alloc HO.out _) ⟨(World.heap wr).size, 0, none⟩ 1 1 [.string x.key, .string x.val, .bool x.dead, .int .i64 x.seq] rfl rfl ?c1a ?c2a ?c3a ?c4a ?c5a ?_)
          case c1a => exact multi_new _ _ _
          case c2a => intro u hu; simp at hu; rcases hu with rfl | rfl | rfl | rfl <;> rfl
          case c3a => unfold maxLen; omega
          case c4a => omega
          case c5a => simp; omega
          intro v' w4 hown4 hgrow _
          have hb7 := grown_bl (hb2.alloc _) (World.ownsRow.alloc HO.out _) hgrow (Nat.le_refl _)
          have HO5 := Lib.hid (own_cast hown4 (m := (A ++ [x]).length) (ys := entCells (A ++ [x])) (by simp) (by rw [entCells_snoc]))
          clear hown4 hgrow
          go_wp2_with fail
          go_roundg (l.length - (k + 1))
          case rel => exact ⟨k + 1, by go_num, Lib.hid ⟨by omega, rfl, by rw [HSt.out]; exact HO5.out⟩, hb7⟩
          case measure => exact HMs.out
      · have hk' : k = l.length := by have := H.out; omega
        subst hk'
        have hown := H.out.2.2
        rw [List.take_length] at hown
        have HOw := Lib.hid hown
        clear hown H
        go_wp2_with fail
        go_ret2
        exact RM.mk ⟨_, rfl, (ownE_of HOw.out).base hb1s⟩ hbw
  · have h1 : (q != 0) = true := by rw [bne_iff_ne]; exact h
    rw [if_pos h]
    clear h hok
    go_enter Tryd.func30, Tryd.ntmps30
    go_wp2_with fail
    refine HC.out.mono ?_; rintro e w1 ⟨rfl, hb1⟩
    go_wp2_with fail
    go_ret2
    exact RM.mk (OutE.nil q) hb1
/-! ### Live of the program -/
set_option maxHeartbeats 2000000 in
theorem slDelete (B : Nat) (l : List Ent) (v : Value) (w0 w : World) (hw : Bl w0 w) (hB : w0.heap.size ≤ B) (h : OwnE B l w v) (hl : l.length ≤ 400000) :
    Calls Tryd.prog 53 #[v, .func (.func 54) #[] #[]] w fun e w' => ∃ v', e = .returned v' ∧ OwnE B (l.filter (fun x => !x.dead)) w' v' ∧ Bl w0 w' := by
  rcases h with ⟨rfl, rfl⟩ | ⟨g, c, rfl, h1, h2, h3, h4, h5⟩
  · have hI : ∀ w, Calls Tryd.prog 67 #[.slice none 0 0, .func (.func 54) #[] #[]] w (RB w (.int .i64 (-1))) := by
      intro w
      go_enter Tryd.func67, Tryd.ntmps67
      go_wp2_with fail
      refine wp_loop_rounds 1 ?_
      rw [rounds_succ]
      go_wp2_with fail
      go_ret
      exact RB.mk rfl (by repeat (first | assumption | exact Bl.refl _ | apply Bl.drewN | apply Bl.drew | apply Bl.alloc | (refine Bl.dr ?_ (by assumption)) | (refine Bl.trans ?_ (by assumption))))
    have HI := Lib.hid hI
    clear hI hB hl
    go_enter Tryd.func53, Tryd.ntmps53
    go_wp2_with fail
    refine (HI.out _).mono ?_; rintro e w1 ⟨rfl, hb1⟩
    go_wp2_with fail
    go_ret
    exact ⟨_, rfl, .inl ⟨rfl, rfl⟩, hw.trans hb1⟩
  · have := slDeleteB g c l.zipIdx (by simpa using h1) h2 (by simpa using hl) w (RW.start h5 h4)
    rw [List.length_zipIdx] at this
    refine this.mono ?_
    rintro e w' ⟨n, he, hn, hH, hg, s1, s2, s3, s4, s5⟩
    have e1 : (liveD l.zipIdx).map Prod.fst = l.filter (fun x => !x.dead) := by rw [liveD_fst, zip_fst]
    have e2 : n = (l.filter (fun x => !x.dead)).length := by rw [hn, ← e1, List.length_map]
    have e3 := liveD_len l.zipIdx
    rw [List.length_zipIdx] at e3
    refine ⟨_, he, .inr ⟨g, c, by rw [e2], by omega, h2, h3, hg, by rw [← e1]; exact holdsK_zip hH⟩, ?_⟩
    exact ⟨s1.trans hw.os, s2.trans hw.tape, s3.trans hw.output, Nat.le_trans hw.size s4, fun k hk => (s5 k (Nat.lt_of_lt_of_le hk hw.size) (by omega)).trans (hw.block k hk)⟩
set_option maxHeartbeats 2000000 in
theorem entLive (a : Option Addr) (c : Nat) (l : List Ent) (w : World) (hl : Ents w a l) (hn : l.length ≤ maxLen) : Calls Tryd.prog 29 #[.slice a l.length c] w (RM w (OutE w.heap.size (elive l))) := by
  have hC := entCheckList a c l w hl hn
  have hok := fun h => ((clchk_ok l).1 h).1
  have HL := Lib.hid hl
  unfold elive
  obtain ⟨⟨n, q⟩, hp⟩ : ∃ p, clchk l = p := ⟨_, rfl⟩
  rw [hp] at hC hok ⊢
  have HC := Lib.hid hC
  clear hl hp hC
  by_cases h : q = 0
  · subst h
    rw [if_neg (by simp)]
    have h5 : l.length ≤ 5000 := hok rfl
    have HCl := Lib.hid (fun w h => entClone a c l w h (by omega))
    clear hok
    go_enter Tryd.func29, Tryd.ntmps29
    go_wp2_with fail
    refine HC.out.mono ?_; rintro e w1 ⟨rfl, hb1⟩
    go_wp2_with fail
    refine (HCl.out _ (HL.out.bl hb1)).mono ?_; rintro e w2 ⟨v, rfl, hO, hb2⟩
    have HD := Lib.hid (slDelete w.heap.size l v w w2 (hb1.trans hb2) (Nat.le_refl _) ((ownE_of hO).base hb1.size) (by omega))
    clear hO hb1 hb2
    go_wp2_with fail
    refine HD.out.mono ?_; rintro e w3 ⟨v', rfl, hO3, hb3⟩
    have HO3 := Lib.hid hO3
    clear hO3
    go_wp2_with fail
    go_ret2
    exact RM.mk ⟨v', rfl, HO3.out⟩ hb3
  · have h1 : (q != 0) = true := by rw [bne_iff_ne]; exact h
    rw [if_pos h]
    clear h hok
    go_enter Tryd.func29, Tryd.ntmps29
    go_wp2_with fail
    refine HC.out.mono ?_; rintro e w1 ⟨rfl, hb1⟩
    go_wp2_with fail
    go_ret2
    exact RM.mk (OutE.nil q) hb1
end Go.Proofs.YtbdiiopmjaeaaaaDoor


/-
  The reference's Over.
-/
import Derived.Test.YtbdiiopmjaeaaaaDoorEvC
import Derived.Test.YtbdiiopmjaeaaaaDoorEntB
namespace Go.Proofs.YtbdiiopmjaeaaaaDoor
open Go.RowKit Go.Sort
set_option linter.unusedSimpArgs false
set_option linter.unusedVariables false
set_option maxRecDepth 100000

/-! ### Plain -/
def hasK (f : List Ent) (x : Ent) : Bool := f.any fun y => decide (y.key = x.key)
def ovr (o f : List Ent) (k : Nat) : List Ent := ((o.take k).filter fun x => !hasK f x).foldl (insb kcmp) f
theorem ovr_step {o f : List Ent} {k : Nat} {x : Ent} (h : o[k]? = some x) : ovr o f (k + 1) = if hasK f x = true then ovr o f k else insb kcmp (ovr o f k) x := by
  obtain ⟨h1, rfl⟩ := List.getElem?_eq_some_iff.1 h
  unfold ovr
  rw [List.take_succ_eq_append_getElem h1, List.filter_append, List.foldl_append]
  cases e : hasK f o[k] <;> simp [e]
theorem ovr_all (o f : List Ent) : ovr o f o.length = rover o f := by unfold ovr; rw [List.take_length]; rfl
theorem ovr_len (o f : List Ent) (k : Nat) : (ovr o f k).length ≤ f.length + k := by
  unfold ovr
  rw [foldl_insb_len]
  have h := List.length_filter_le (fun x => !hasK f x) (o.take k)
  rw [List.length_take] at h
  omega
theorem ovr_mem {o f : List Ent} {k : Nat} {x : Ent} (h : x ∈ ovr o f k) : x ∈ f ∨ x ∈ o := by
  unfold ovr at h
  rcases List.mem_append.1 ((foldl_insb_perm _ f).mem_iff.1 h) with h | h
  · exact .inl h
  · exact .inr (List.mem_of_mem_take (List.mem_filter.1 h).1)
theorem atGo_has : ∀ (f : List Ent) (i : Nat) (x : Ent), hasK f x = true → 0 ≤ atGo i x.key f
  | [], _, _, h => by cases h
  | y :: f, i, x, h => by
    unfold atGo
    by_cases e : y.key.toList = x.key.toList
    · rw [if_pos e]; omega
    · rw [if_neg e]
      refine atGo_has f (i + 1) x ?_
      unfold hasK at h ⊢
      rw [List.any_cons, decide_eq_false (fun h => e (by rw [h])), Bool.false_or] at h
      exact h
theorem atGo_not : ∀ (f : List Ent) (i : Nat) (x : Ent), hasK f x = false → atGo i x.key f = -1
  | [], _, _, _ => rfl
  | y :: f, i, x, h => by
    unfold hasK at h
    rw [List.any_cons, Bool.or_eq_false_iff] at h
    unfold atGo
    rw [if_neg (fun e => by have := str_ext e; have h1 := h.1; rw [decide_eq_false_iff_not] at h1; exact h1 this)]
    exact atGo_not f (i + 1) x h.2
theorem eover_ok {o f : List Ent} (h1 : (clchk o).2 = 0) (h2 : (clchk f).2 = 0) : eover o f = if 5000 < (ovr o f o.length).length then ([], 3) else (ovr o f o.length, 0) := by
  obtain ⟨_, _, a⟩ := (clchk_ok o).1 h1
  obtain ⟨_, _, b⟩ := (clchk_ok f).1 h2
  unfold eover
  rw [if_neg (by simp [h1]), if_neg (by simp [h2]), ovr_all, rover_eq a b]
theorem ins_len {A : List Ent} {x : Ent} {s m : Nat} (h : A.length = m) : (A.take s ++ x :: A.drop s).length = m + 1 := by
  rw [List.length_append, List.length_cons, List.length_take, List.length_drop]; omega
set_option maxHeartbeats 8000000 in
theorem refOverE (a b : Option Addr) (c d : Nat) (o f : List Ent) (w : World) (ho : Ents w a o) (hf : Ents w b f) (hn : o.length ≤ maxLen) (hn2 : f.length ≤ maxLen) :
    Calls Tryd.prog 27 #[.slice a o.length c, .slice b f.length d] w (RM w (OutE w.heap.size (eover o f))) := by
  obtain ⟨i0, hin, hz0, hz1, hz2⟩ := info_parts inf_ent
  have hCo := refCheckList a c o w ho hn
  have hCf := fun w h => refCheckList b d f w h hn2
  have hT := fun s w h => refAt b d f s w h hn2
  have hok := fun h1 h2 => eover_ok (o := o) (f := f) h1 h2
  have hl1 := fun h => ((clchk_ok o).1 h).1
  have hl2 := fun h => ((clchk_ok f).1 h).1
  have hbad1 : (clchk o).2 ≠ 0 → eover o f = ([], (clchk o).2) := fun h => by unfold eover; rw [if_pos h]
  have hbad2 : (clchk o).2 = 0 → (clchk f).2 ≠ 0 → eover o f = ([], (clchk f).2) := fun h1 h => by unfold eover; rw [if_neg (by simp [h1]), if_pos h]
  have HEo := Lib.hid ho
  have HEf := Lib.hid hf
  obtain ⟨⟨n1, q1⟩, hp1⟩ : ∃ p, clchk o = p := ⟨_, rfl⟩
  obtain ⟨⟨n2, q2⟩, hp2⟩ : ∃ p, clchk f = p := ⟨_, rfl⟩
  rw [hp1] at hCo hok hl1 hbad1 hbad2
  rw [hp2] at hCf hok hl2 hbad2
  have HCo := Lib.hid hCo
  have HCf := Lib.hid hCf
  have HT := Lib.hid hT
  clear ho hf hCo hCf hT hp1 hp2
  by_cases h1 : q1 = 0
  · subst h1
    by_cases h2 : q2 = 0
    · subst h2
      rw [hok rfl rfl]
      obtain ⟨res, hres⟩ : ∃ r, (if 5000 < (ovr o f o.length).length then ([], 3) else (ovr o f o.length, 0) : List Ent × Int) = r := ⟨_, rfl⟩
      rw [hres]
      have HRes := Lib.hid hres
      have ho5 : o.length ≤ 5000 := hl1 rfl
      have hf5 : f.length ≤ 5000 := hl2 rfl
      have HOr := Lib.hid (fun s t w hs ht => refOrder s t w hs ht)
      clear hok hl1 hl2 hbad1 hbad2 hres
      go_enter Tryd.func27, Tryd.ntmps27
      go_wp2_with fail
      refine HCo.out.mono ?_; rintro e w1 ⟨rfl, hb1⟩
      go_wp2_with fail
      refine (HCf.out _ (HEf.out.bl hb1)).mono ?_; rintro e w2 ⟨rfl, hb2⟩
      have hb := hb1.trans hb2
      have ho0 := own0E w2 w2.heap.size rfl
      clear hb1 hb2
      go_wp2_with (at_builtin; refine wpList_appE ?hw _ _ rfl w2.heap.size (.slice (some ⟨w2.heap.size, 0, none⟩) 0 0) 0 [] rfl ho0 b d f rfl (Ents.bl (HEf.out.bl hb) ((Bl.refl _).alloc _)) (by simp) (by omega) ?_)
      intro v1 wA hA1 hg1
      have hbA : Bl w2 wA := grown_bl ((Bl.refl _).alloc _) ho0 hg1 (Nat.le_refl _)
      have HA1 := Lib.hid (own_cast (own_base hA1 hb.size) (m := f.length) (ys := entCells f) (by omega) (by simp))
      have hbo := hb.trans hbA
      have HEf2 := Lib.hid (HEf.out.bl hbo)
      clear hA1 hg1 ho0 hbA hb
      go_wp2_with fail
      go_loopg [8, 9] o.length (fun g v1 v2 wr => ∃ k : Nat, v2 = .int .i64 k ∧ Hid (k ≤ o.length ∧ g = o.length - k ∧ wr.ownsRow w.heap.size 23 4 v1 (ovr o f k).length (entCells (ovr o f k))) ∧ Bl w wr)
      case atStart => exact ⟨0, rfl, Lib.hid ⟨by omega, rfl, by simpa [ovr] using HA1.out⟩, hbo⟩
      case round =>
        clear HA1
        obtain ⟨k, rfl, H, hb⟩ := hrel
        by_cases hk : k < o.length
        · obtain ⟨x, hx⟩ : ∃ x, o[k]? = some x := ⟨_, List.getElem?_eq_getElem hk⟩
          obtain ⟨lb, lo, rfl, hat⟩ := HEo.out.get hk
          have hxe := (hat k x hx).bl hb
          have HXe := Lib.hid hxe
          have hxok := HEo.out.ok x (List.mem_of_getElem? hx)
          have hstep := ovr_step (f := f) hx
          have hal := ovr_len o f k
          have hAok : ∀ z ∈ ovr o f k, z.ok := fun z hz => (ovr_mem hz).elim (HEf.out.ok z) (HEo.out.ok z)
          have hown := H.out.2.2
          obtain ⟨A, hA⟩ : ∃ A, ovr o f k = A := ⟨_, rfl⟩
          rw [hA] at hstep hal hAok hown
          obtain ⟨m, hm⟩ : ∃ m, A.length = m := ⟨_, rfl⟩
          have hm5 : m ≤ 10000 := by omega
          have HMs := Lib.hid (show o.length - (k + 1) < gk by have := H.out; omega)
          have x0 := hxe.key
          have hT1 := fun w h => HT.out x.key w h
          by_cases hh : hasK f x = true
          · rw [if_pos hh] at hstep
            have hq0 := atGo_has f 0 x hh
            obtain ⟨q, hq⟩ : ∃ q, atGo 0 x.key f = q := ⟨_, rfl⟩
            rw [hq] at hq0 hT1
            have HT1 := Lib.hid hT1
            have HF := Lib.hid (And.intro hstep hown)
            clear hat hx hA hstep hown hxok hAok hxe hal hm hq hT1 hh
            go_wp2_with fail
            refine (HT1.out _ (HEf.out.bl hb)).mono ?_; rintro e w3 ⟨rfl, hd3⟩
            go_wp2_with fail
            go_roundg (o.length - (k + 1))
            case rel => exact ⟨k + 1, by go_num, Lib.hid ⟨by omega, rfl, by rw [HF.out.1]; exact own_dr HF.out.2 hd3⟩, hb.dr hd3⟩
            case measure => exact HMs.out
          · rw [if_neg hh] at hstep
            rw [atGo_not f 0 x (by simpa using hh)] at hT1
            have HT1 := Lib.hid hT1
            have HSt := Lib.hid (And.intro hstep (And.intro hm (And.intro hAok hxok)))
            have hown' := hown
            clear hat hx hA hstep hown hxok hAok hxe hal hT1 hh
            go_wp2_with fail
            refine (HT1.out _ (HEf.out.bl hb)).mono ?_; rintro e w3 ⟨rfl, hd3⟩
            have hbd := Bl.of_dr hd3
            rcases own_cases hown' with ⟨rfl, hA0⟩ | ⟨g, oc, rfl, hBg, hgl, hcl, hats⟩
            · have hm0 : m = 0 := by rw [hA0] at hm; simpa using hm.symm
              have HF := Lib.hid (show ovr o f (k + 1) = A.take 0 ++ x :: A.drop 0 by rw [HSt.out.1, hA0]; rfl)
              have HA0 := Lib.hid hA0
              have HK := Lib.hid hm0
              clear hA0 hown' hm0 hm x0
              go_wp2_with fail
              refine wp_loop_rounds 1 ?_
              rw [rounds_succ]
              go_wp2_with fail
              
              refine wp_region_quiet_bw w3 (by kernel_rfl) (by kernel_rfl) (Bl.refl w3) ?_
              repeat (go_big_quiet_step (fail))
              refine wpQuiet_nil ?_
              intro wq hw'
              have hwq : Bl w3 wq := by obtain ⟨x, hx⟩ := hw'; rw [hx]; exact x.h
              clear hw'
              have hb2 := hbd.trans hwq
              have ho0 := own0E wq wq.heap.size rfl
              go_wp2_with (at_builtin; refine wpList_appM ?hwx _ _ rfl wq.heap.size (.slice (some ⟨wq.heap.size, 0, none⟩) 0 0) 0 [] rfl ho0 (none) (0) (A.take (0)) (0) ?hl1x rfl (Ents.bl ((by rw [List.take_zero]; exact ents_none _)) ((Bl.refl _).alloc _)) (by simp) (by omega) ?_)
              case hl1x => (simp)
              intro v1 wA hA1 hg1
              have hbA : Bl wq wA := grown_bl ((Bl.refl _).alloc _) ho0 hg1 (Nat.le_refl _)
              obtain ⟨x0, x1, x2, x3⟩ := (HXe.out.bl hb2).bl hbA
              have hsA := hbA.size
              clear hg1 ho0
              go_wp2_with (at_builtin; refine wpList_append_own _ rfl _ _ 33 rfl wq.heap.size 23 i0 (.agg #[.string ⟨#[]⟩, .string ⟨#[]⟩, .bool false, .int .i64 0]) 4 48 Tryd.underlying33 hin hz0 hz1 hz2 rfl (by decide) _ _ _ rfl (hA1.alloc _) ⟨wA.heap.size, 0, none⟩ 1 1 [.string x.key, .string x.val, .bool x.dead, .int .i64 x.seq] rfl rfl ?c1x ?c2x ?c3x ?c4x ?c5x ?_)
              case c1x => exact multi_new _ _ _
              case c2x => intro u hu; simp at hu; rcases hu with rfl | rfl | rfl | rfl <;> rfl
              case c3x => unfold maxLen; omega
              case c4x => omega
              case c5x => simp; omega
              intro v2 wB hB2 hg2 _
              have hbB : Bl wq wB := grown_bl (hbA.alloc _) (hA1.alloc _) hg2 (Nat.le_refl _)
              have hsB := hbB.size
              clear hg2 hA1 hbA hsA x0 x1 x2 x3
              go_wp2_with (at_builtin; refine wpList_appM ?hw2x _ _ rfl wq.heap.size _ _ _ rfl hB2 (none) (0) (A.drop (0)) (0 - 0) ?hl2x rfl (Ents.bl ((by rw [HA0.out]; exact ents_none _)) hbB) hsB (by omega) ?_)
              case hl2x => (rw [HA0.out]; simp)
              intro v3 wC hC3 hg3
              have hbC : Bl wq wC := grown_bl hbB hB2 hg3 (Nat.le_refl _)
              have hown3 : wC.ownsRow w.heap.size 23 4 v3 (0 + 1) (entCells (A.take (0) ++ x :: A.drop (0))) :=
                own_cast (own_base hC3 (Nat.le_trans hb.size hb2.size)) (by omega) (by simp [entCells])
              have HO3 := Lib.hid hown3
              have hbw3 := (hb.trans hb2).trans hbC
              clear hown3 hC3 hg3 hB2 hbB hsB hbC
              go_wp2_with fail
              go_roundg (o.length - (k + 1))
              case rel => exact ⟨k + 1, by go_num, Lib.hid ⟨by omega, rfl, own_cast HO3.out (by rw [HF.out, HA0.out]; rfl) (by rw [HF.out])⟩, hbw3⟩
              case measure => exact HMs.out
            · have HAt := Lib.hid hats
              rw [hm]
              rw [hm] at hcl
              clear hats hown' hm
              go_wp2_with fail
              go_loopg [10] m (fun g2 v wr2 => ∃ s : Nat, v = .int .i64 s ∧ Hid (s ≤ m ∧ g2 = s ∧ insb kcmp (A.take s) x ++ A.drop s = insb kcmp A x) ∧ Bl w3 wr2)
              case atStart =>
                refine ⟨m, rfl, Lib.hid ⟨Nat.le_refl _, rfl, ?_⟩, Bl.refl _⟩
                have := HSt.out.2.1
                rw [List.take_of_length_le (by omega), List.drop_of_length_le (by omega), List.append_nil]
              case round =>
                obtain ⟨s, rfl, H2, hb2⟩ := hrel
                have hb2 := hbd.trans hb2
                have hs1 := H2.out.1
                have hend : ∀ (e : insb kcmp (A.take s) x ++ A.drop s = A.take s ++ x :: A.drop s), ovr o f (k + 1) = A.take s ++ x :: A.drop s := fun e => by rw [HSt.out.1, ← H2.out.2.2, e]
                have HEn := Lib.hid hend
                clear hend x0
                by_cases hs0 : s = 0
                · have d1 : decide (0 < s) = false := by rw [decide_eq_false_iff_not]; omega
                  have HF := Lib.hid (HEn.out (insg_stop0 hs0))
                  clear hs0
                  go_wp2_with fail
                  
                  refine wp_region_quiet_bw wr (by kernel_rfl) (by kernel_rfl) (Bl.refl wr) ?_
                  repeat (go_big_quiet_step (fail))
                  refine wpQuiet_nil ?_
                  intro wq hw'
                  have hwq : Bl wr wq := by obtain ⟨x, hx⟩ := hw'; rw [hx]; exact x.h
                  clear hw'
                  have hb2 := hb2.trans hwq
                  have hParts := Ents.part (fun i x h => (HAt.out i x h).bl hb2) HSt.out.2.2.1 s
                  have HPa := Lib.hid hParts
                  clear hParts
                  by_cases hoc : oc = s
                  · have HD0 := Lib.hid (show A.drop s = [] from List.drop_of_length_le (by have := HSt.out.2.1; omega))
                    have ho0 := own0E wq wq.heap.size rfl
                    go_wp2_with (at_builtin; refine wpList_appM ?hwy _ _ rfl wq.heap.size (.slice (some ⟨wq.heap.size, 0, none⟩) 0 0) 0 [] rfl ho0 (some ⟨g, 0, none⟩) (_) (A.take (s)) (s) ?hl1y rfl (Ents.bl (HPa.out.1) ((Bl.refl _).alloc _)) (by simp) (by omega) ?_)
                    case hl1y => (rw [List.length_take]; have := HSt.out.2.1; omega)
                    intro v1 wA hA1 hg1
                    have hbA : Bl wq wA := grown_bl ((Bl.refl _).alloc _) ho0 hg1 (Nat.le_refl _)
                    obtain ⟨x0, x1, x2, x3⟩ := (HXe.out.bl hb2).bl hbA
                    have hsA := hbA.size
                    clear hg1 ho0
                    go_wp2_with (at_builtin; refine wpList_append_own _ rfl _ _ 33 rfl wq.heap.size 23 i0 (.agg #[.string ⟨#[]⟩, .string ⟨#[]⟩, .bool false, .int .i64 0]) 4 48 Tryd.underlying33 hin hz0 hz1 hz2 rfl (by decide) _ _ _ rfl (hA1.alloc _) ⟨wA.heap.size, 0, none⟩ 1 1 [.string x.key, .string x.val, .bool x.dead, .int .i64 x.seq] rfl rfl ?c1y ?c2y ?c3y ?c4y ?c5y ?_)
                    case c1y => exact multi_new _ _ _
                    case c2y => intro u hu; simp at hu; rcases hu with rfl | rfl | rfl | rfl <;> rfl
                    case c3y => unfold maxLen; omega
                    case c4y => omega
                    case c5y => simp; omega
                    intro v2 wB hB2 hg2 _
                    have hbB : Bl wq wB := grown_bl (hbA.alloc _) (hA1.alloc _) hg2 (Nat.le_refl _)
                    have hsB := hbB.size
                    clear hg2 hA1 hbA hsA x0 x1 x2 x3
                    go_wp2_with (at_builtin; refine wpList_appM ?hw2y _ _ rfl wq.heap.size _ _ _ rfl hB2 (some ⟨g, 0, none⟩) (_) (A.drop (s)) (m - s) ?hl2y rfl (Ents.bl ((by rw [HD0.out]; exact ⟨by simp, fun h => absurd rfl h⟩)) hbB) hsB (by omega) ?_)
                    case hl2y => (rw [List.length_drop]; have := HSt.out.2.1; omega)
                    intro v3 wC hC3 hg3
                    have hbC : Bl wq wC := grown_bl hbB hB2 hg3 (Nat.le_refl _)
                    have hown3 : wC.ownsRow w.heap.size 23 4 v3 (m + 1) (entCells (A.take (s) ++ x :: A.drop (s))) :=
                      own_cast (own_base hC3 (Nat.le_trans hb.size hb2.size)) (by omega) (by simp [entCells])
                    have HO3 := Lib.hid hown3
                    have hbw3 := (hb.trans hb2).trans hbC
                    clear hown3 hC3 hg3 hB2 hbB hsB hbC
                    go_wp2_with fail
                    go_roundg (o.length - (k + 1))
                    case rel => exact ⟨k + 1, by go_num, Lib.hid ⟨by omega, rfl, own_cast HO3.out (by rw [HF.out, ins_len HSt.out.2.1]) (by rw [HF.out])⟩, hbw3⟩
                    case measure => exact HMs.out
                  · have hoc1 : ¬ s = oc := fun e => hoc e.symm
                    have ho0 := own0E wq wq.heap.size rfl
                    go_wp2_with (at_builtin; refine wpList_appM ?hwby _ _ rfl wq.heap.size (.slice (some ⟨wq.heap.size, 0, none⟩) 0 0) 0 [] rfl ho0 (some ⟨g, 0, none⟩) (_) (A.take (s)) (s) ?hl1by rfl (Ents.bl (HPa.out.1) ((Bl.refl _).alloc _)) (by simp) (by omega) ?_)
                    case hl1by => (rw [List.length_take]; have := HSt.out.2.1; omega)
                    intro v1 wA hA1 hg1
                    have hbA : Bl wq wA := grown_bl ((Bl.refl _).alloc _) ho0 hg1 (Nat.le_refl _)
                    obtain ⟨x0, x1, x2, x3⟩ := (HXe.out.bl hb2).bl hbA
                    have hsA := hbA.size
                    clear hg1 ho0
                    go_wp2_with (at_builtin; refine wpList_append_own _ rfl _ _ 33 rfl wq.heap.size 23 i0 (.agg #[.string ⟨#[]⟩, .string ⟨#[]⟩, .bool false, .int .i64 0]) 4 48 Tryd.underlying33 hin hz0 hz1 hz2 rfl (by decide) _ _ _ rfl (hA1.alloc _) ⟨wA.heap.size, 0, none⟩ 1 1 [.string x.key, .string x.val, .bool x.dead, .int .i64 x.seq] rfl rfl ?c1by ?c2by ?c3by ?c4by ?c5by ?_)
                    case c1by => exact multi_new _ _ _
                    case c2by => intro u hu; simp at hu; rcases hu with rfl | rfl | rfl | rfl <;> rfl
                    case c3by => unfold maxLen; omega
                    case c4by => omega
                    case c5by => simp; omega
                    intro v2 wB hB2 hg2 _
                    have hbB : Bl wq wB := grown_bl (hbA.alloc _) (hA1.alloc _) hg2 (Nat.le_refl _)
                    have hsB := hbB.size
                    clear hg2 hA1 hbA hsA x0 x1 x2 x3
                    go_wp2_with (at_builtin; refine wpList_appM ?hw2by _ _ rfl wq.heap.size _ _ _ rfl hB2 (some ⟨g, s * 4, none⟩) (_) (A.drop (s)) (m - s) ?hl2by rfl (Ents.bl (HPa.out.2) hbB) hsB (by omega) ?_)
                    case hl2by => (rw [List.length_drop]; have := HSt.out.2.1; omega)
                    intro v3 wC hC3 hg3
                    have hbC : Bl wq wC := grown_bl hbB hB2 hg3 (Nat.le_refl _)
                    have hown3 : wC.ownsRow w.heap.size 23 4 v3 (m + 1) (entCells (A.take (s) ++ x :: A.drop (s))) :=
                      own_cast (own_base hC3 (Nat.le_trans hb.size hb2.size)) (by omega) (by simp [entCells])
                    have HO3 := Lib.hid hown3
                    have hbw3 := (hb.trans hb2).trans hbC
                    clear hown3 hC3 hg3 hB2 hbB hsB hbC
                    go_wp2_with fail
                    go_roundg (o.length - (k + 1))
                    case rel => exact ⟨k + 1, by go_num, Lib.hid ⟨by omega, rfl, own_cast HO3.out (by rw [HF.out, ins_len HSt.out.2.1]) (by rw [HF.out])⟩, hbw3⟩
                    case measure => exact HMs.out
                · have hs0' : 0 < s := by omega
                  obtain ⟨z, hz⟩ : ∃ z, A[s - 1]? = some z := ⟨_, List.getElem?_eq_getElem (by have := HSt.out.2.1; omega)⟩
                  obtain ⟨y0, -, -, -⟩ := (HAt.out (s - 1) z hz).bl hb2
                  obtain ⟨x0, -, -, -⟩ := HXe.out.bl hb2
                  have hzok := HSt.out.2.2.1 z (List.mem_of_getElem? hz)
                  have p0 : (0 : Int) ≤ (s : Int) - 1 := by omega
                  have p2 : (s : Int) - 1 < (m : Int) := by omega
                  have p3 : ((s : Int) - 1).toNat = s - 1 := by omega
                  have d1 : decide (0 < s) = true := by rw [decide_eq_true_eq]; omega
                  have es : s - 1 + 1 = s := by omega
                  have hc := fun w => HOr.out z.key x.key w hzok.1 HSt.out.2.2.2.1
                  obtain ⟨q, hq⟩ : ∃ q, cmpS z.key x.key = q := ⟨_, rfl⟩
                  have hneg : kcmp x z = - cmpS z.key x.key := cmpS_neg x.key z.key
                  rw [hq] at hc hneg
                  have HBy := Lib.hid hc
                  have x0' := @BW.cell wr _ _ x0
                  have y0' := @BW.cell wr _ _ y0
                  by_cases hlt : 0 < q
                  · have c1 : decide (0 < q) = true := by rw [decide_eq_true_eq]; exact hlt
                    have hgo := insg_go (cf := kcmp) (x := x) hz (by omega)
                    rw [es] at hgo
                    have HGo := Lib.hid hgo
                    clear hc hq hlt hneg hz hzok es hgo hs0
                    go_wp2_with fail
                    
                    refine wp_region_quiet_bw wr (by kernel_rfl) (by kernel_rfl) (Bl.refl wr) ?_
                    repeat (go_big_quiet_step ((go_at_call 52; exact quietBD (HBy.out _))))
                    refine wpQuiet_nil ?_
                    intro wq hw'
                    have hwq : Bl wr wq := by obtain ⟨x, hx⟩ := hw'; rw [hx]; exact x.h
                    clear hw'
                    go_wp2_with fail
                    go_roundg (s - 1)
                    case rel => exact ⟨s - 1, by go_num, Lib.hid ⟨by omega, rfl, HGo.out.symm.trans H2.out.2.2⟩, (by assumption : Bl w3 wr).trans hwq⟩
                    case measure => have := H2.out.2.1; omega
                  · have c1 : decide (0 < q) = false := by rw [decide_eq_false_iff_not]; exact hlt
                    have hst := insg_stop1 (cf := kcmp) (x := x) hz (by omega)
                    rw [es] at hst
                    have HF := Lib.hid (HEn.out hst)
                    clear hc hq hlt hneg hz hzok es hst hs0 hs0'
                    go_wp2_with fail
                    
                    refine wp_region_quiet_bw wr (by kernel_rfl) (by kernel_rfl) (Bl.refl wr) ?_
                    repeat (go_big_quiet_step ((go_at_call 52; exact quietBD (HBy.out _))))
                    refine wpQuiet_nil ?_
                    intro wq hw'
                    have hwq : Bl wr wq := by obtain ⟨x, hx⟩ := hw'; rw [hx]; exact x.h
                    clear hw'
                    have hb2 := hb2.trans hwq
                    clear x0' y0' x0 y0
                    have hParts := Ents.part (fun i x h => (HAt.out i x h).bl hb2) HSt.out.2.2.1 s
                    have HPa := Lib.hid hParts
                    clear hParts
                    by_cases hoc : oc = s
                    · have HD0 := Lib.hid (show A.drop s = [] from List.drop_of_length_le (by have := HSt.out.2.1; omega))
                      have ho0 := own0E wq wq.heap.size rfl
                      go_wp2_with (at_builtin; refine wpList_appM ?hwz _ _ rfl wq.heap.size (.slice (some ⟨wq.heap.size, 0, none⟩) 0 0) 0 [] rfl ho0 (some ⟨g, 0, none⟩) (_) (A.take (s)) (s) ?hl1z rfl (Ents.bl (HPa.out.1) ((Bl.refl _).alloc _)) (by simp) (by omega) ?_)
                      case hl1z => (rw [List.length_take]; have := HSt.out.2.1; omega)
                      intro v1 wA hA1 hg1
                      have hbA : Bl wq wA := grown_bl ((Bl.refl _).alloc _) ho0 hg1 (Nat.le_refl _)
                      obtain ⟨x0, x1, x2, x3⟩ := (HXe.out.bl hb2).bl hbA
                      have hsA := hbA.size
                      clear hg1 ho0
                      go_wp2_with (at_builtin; refine wpList_append_own _ rfl _ _ 33 rfl wq.heap.size 23 i0 (.agg #[.string ⟨#[]⟩, .string ⟨#[]⟩, .bool false, .int .i64 0]) 4 48 Tryd.underlying33 hin hz0 hz1 hz2 rfl (by decide) _ _ _ rfl (hA1.alloc _) ⟨wA.heap.size, 0, none⟩ 1 1 [.string x.key, .string x.val, .bool x.dead, .int .i64 x.seq] rfl rfl ?c1z ?c2z ?c3z ?c4z ?c5z ?_)
                      case c1z => exact multi_new _ _ _
                      case c2z => intro u hu; simp at hu; rcases hu with rfl | rfl | rfl | rfl <;> rfl
                      case c3z => unfold maxLen; omega
                      case c4z => omega
                      case c5z => simp; omega
                      intro v2 wB hB2 hg2 _
                      have hbB : Bl wq wB := grown_bl (hbA.alloc _) (hA1.alloc _) hg2 (Nat.le_refl _)
                      have hsB := hbB.size
                      clear hg2 hA1 hbA hsA x0 x1 x2 x3
                      go_wp2_with (at_builtin; refine wpList_appM ?hw2z _ _ rfl wq.heap.size _ _ _ rfl hB2 (some ⟨g, 0, none⟩) (_) (A.drop (s)) (m - s) ?hl2z rfl (Ents.bl ((by rw [HD0.out]; exact ⟨by simp, fun h => absurd rfl h⟩)) hbB) hsB (by omega) ?_)
                      case hl2z => (rw [List.length_drop]; have := HSt.out.2.1; omega)
                      intro v3 wC hC3 hg3
                      have hbC : Bl wq wC := grown_bl hbB hB2 hg3 (Nat.le_refl _)
                      have hown3 : wC.ownsRow w.heap.size 23 4 v3 (m + 1) (entCells (A.take (s) ++ x :: A.drop (s))) :=
                        own_cast (own_base hC3 (Nat.le_trans hb.size hb2.size)) (by omega) (by simp [entCells])
                      have HO3 := Lib.hid hown3
                      have hbw3 := (hb.trans hb2).trans hbC
                      clear hown3 hC3 hg3 hB2 hbB hsB hbC
                      go_wp2_with fail
                      go_roundg (o.length - (k + 1))
                      case rel => exact ⟨k + 1, by go_num, Lib.hid ⟨by omega, rfl, own_cast HO3.out (by rw [HF.out, ins_len HSt.out.2.1]) (by rw [HF.out])⟩, hbw3⟩
                      case measure => exact HMs.out
                    · have hoc1 : ¬ s = oc := fun e => hoc e.symm
                      have ho0 := own0E wq wq.heap.size rfl
                      go_wp2_with (at_builtin; refine wpList_appM ?hwbz _ _ rfl wq.heap.size (.slice (some ⟨wq.heap.size, 0, none⟩) 0 0) 0 [] rfl ho0 (some ⟨g, 0, none⟩) (_) (A.take (s)) (s) ?hl1bz rfl (Ents.bl (HPa.out.1) ((Bl.refl _).alloc _)) (by simp) (by omega) ?_)
                      case hl1bz => (rw [List.length_take]; have := HSt.out.2.1; omega)
                      intro v1 wA hA1 hg1
                      have hbA : Bl wq wA := grown_bl ((Bl.refl _).alloc _) ho0 hg1 (Nat.le_refl _)
                      obtain ⟨x0, x1, x2, x3⟩ := (HXe.out.bl hb2).bl hbA
                      have hsA := hbA.size
                      clear hg1 ho0
                      go_wp2_with (at_builtin; refine wpList_append_own _ rfl _ _ 33 rfl wq.heap.size 23 i0 (.agg #[.string ⟨#[]⟩, .string ⟨#[]⟩, .bool false, .int .i64 0]) 4 48 Tryd.underlying33 hin hz0 hz1 hz2 rfl (by decide) _ _ _ rfl (hA1.alloc _) ⟨wA.heap.size, 0, none⟩ 1 1 [.string x.key, .string x.val, .bool x.dead, .int .i64 x.seq] rfl rfl ?c1bz ?c2bz ?c3bz ?c4bz ?c5bz ?_)
                      case c1bz => exact multi_new _ _ _
                      case c2bz => intro u hu; simp at hu; rcases hu with rfl | rfl | rfl | rfl <;> rfl
                      case c3bz => unfold maxLen; omega
                      case c4bz => omega
                      case c5bz => simp; omega
                      intro v2 wB hB2 hg2 _
                      have hbB : Bl wq wB := grown_bl (hbA.alloc _) (hA1.alloc _) hg2 (Nat.le_refl _)
                      have hsB := hbB.size
                      clear hg2 hA1 hbA hsA x0 x1 x2 x3
                      go_wp2_with (at_builtin; refine wpList_appM ?hw2bz _ _ rfl wq.heap.size _ _ _ rfl hB2 (some ⟨g, s * 4, none⟩) (_) (A.drop (s)) (m - s) ?hl2bz rfl (Ents.bl (HPa.out.2) hbB) hsB (by omega) ?_)
                      case hl2bz => (rw [List.length_drop]; have := HSt.out.2.1; omega)
                      intro v3 wC hC3 hg3
                      have hbC : Bl wq wC := grown_bl hbB hB2 hg3 (Nat.le_refl _)
                      have hown3 : wC.ownsRow w.heap.size 23 4 v3 (m + 1) (entCells (A.take (s) ++ x :: A.drop (s))) :=
                        own_cast (own_base hC3 (Nat.le_trans hb.size hb2.size)) (by omega) (by simp [entCells])
                      have HO3 := Lib.hid hown3
                      have hbw3 := (hb.trans hb2).trans hbC
                      clear hown3 hC3 hg3 hB2 hbB hsB hbC
                      go_wp2_with fail
                      go_roundg (o.length - (k + 1))
                      case rel => exact ⟨k + 1, by go_num, Lib.hid ⟨by omega, rfl, own_cast HO3.out (by rw [HF.out, ins_len HSt.out.2.1]) (by rw [HF.out])⟩, hbw3⟩
                      case measure => exact HMs.out
        · have hk' : k = o.length := by have := H.out; omega
          subst hk'
          have hown := H.out.2.2
          have hal := ovr_len o f o.length
          obtain ⟨R, hR⟩ : ∃ R, ovr o f o.length = R := ⟨_, rfl⟩
          have hre := HRes.out
          rw [hR] at hown hal hre
          obtain ⟨oa, oc, rfl, -⟩ := own_form hown
          have HOw := Lib.hid hown
          have hR5 : R.length ≤ 10000 := by omega
          clear hown H hR hal
          by_cases h5 : 5000 < R.length
          · rw [if_pos h5] at hre
            subst hre
            have i1 : (5000 : Int) < (R.length : Int) := by omega
            go_wp2_with fail
            go_ret2
            exact RM.mk (OutE.nil 3) hb
          · rw [if_neg h5] at hre
            subst hre
            have i1 : ¬ (5000 : Int) < (R.length : Int) := by omega
            go_wp2_with fail
            go_ret2
            exact RM.mk ⟨_, rfl, ownE_of HOw.out⟩ hb
    · rw [hbad2 rfl h2]
      have e1 : (q2 != 0) = true := by rw [bne_iff_ne]; exact h2
      clear hok hl1 hl2 hbad1 hbad2 h2
      go_enter Tryd.func27, Tryd.ntmps27
      go_wp2_with fail
      refine HCo.out.mono ?_; rintro e w1 ⟨rfl, hb1⟩
      go_wp2_with fail
      refine (HCf.out _ (HEf.out.bl hb1)).mono ?_; rintro e w2 ⟨rfl, hb2⟩
      go_wp2_with fail
      go_ret2
      exact RM.mk (OutE.nil q2) (hb1.trans hb2)
  · rw [hbad1 h1]
    have e1 : (q1 != 0) = true := by rw [bne_iff_ne]; exact h1
    have e2 : (q1 == 0) = false := by rw [beq_eq_false_iff_ne]; exact h1
    clear hok hl1 hl2 hbad1 hbad2 h1
    go_enter Tryd.func27, Tryd.ntmps27
    go_wp2_with fail
    refine HCo.out.mono ?_; rintro e w1 ⟨rfl, hb1⟩
    go_wp2_with fail
    go_ret2
    exact RM.mk (OutE.nil q1) hb1
end Go.Proofs.YtbdiiopmjaeaaaaDoor

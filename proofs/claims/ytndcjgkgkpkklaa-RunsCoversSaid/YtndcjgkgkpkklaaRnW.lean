
/-
  The law RunsCovers, walked.
-/
import Derived.Test.YtndcjgkgkpkklaaRnJ
import Derived.Test.YtndcjgkgkpkklaaRnH
namespace Go.Proofs.Ytndcjgkgkpkklaa
open Go.RowKit
set_option linter.unusedSimpArgs false
set_option linter.unusedVariables false
set_option maxRecDepth 100000

theorem rover_two (r s : Rn) : ((rover r s).2 = 0 ∧ (rover s r).2 = 0) ∨ ((rover r s).2 ≠ 0 ∧ (rover s r).2 ≠ 0) := by
  by_cases h1 : (rck r).2 = 0
  · by_cases h2 : (rck s).2 = 0
    · exact .inl ⟨rover_ok h1 h2, rover_ok h2 h1⟩
    · exact .inr ⟨(rover_err (.inr h2)).2, (rover_err (.inl h2)).2⟩
  · exact .inr ⟨(rover_err (.inl h1)).2, (rover_err (.inr h1)).2⟩
theorem anyIn_take {x : Rng} {l : List Ent} {n : Nat} {y : Ent} (h : l[n]? = some y) : anyIn x (l.take (n + 1)) = (anyIn x (l.take n) || rhas x y.key) := by
  obtain ⟨h1, h2⟩ := List.getElem?_eq_some_iff.1 h
  rw [List.take_succ_eq_append_getElem h1, anyIn_snoc, h2]
theorem ok_of_rchk {x : Rng} (h : rchk x = 0) : x.ok := by
  obtain ⟨h1, h2, -⟩ := rchk_zero.1 h
  exact ⟨Nat.le_trans h1 (by unfold maxLen; omega), Nat.le_trans h2 (by unfold maxLen; omega)⟩
theorem cov_okR {r : Rn} (h : (rcov r).2 = 0) : (rcov r).1.ok := by
  obtain ⟨h1, h2⟩ := rcov_ok h
  exact ok_of_rchk (cov_facts h1 h2).2.1


set_option maxHeartbeats 16000000 in
theorem lawCovers (a : Option Addr) (c : Nat) (r : Rn) (a2 : Option Addr) (c2 : Nat) (s : Rn) (x : Rng) (w : World) (h : ROk w a c r) (k : ROk w a2 c2 s) (hx : x.ok) :
    Calls Try.prog 8 #[r.v a c, s.v a2 c2, x.v] w (RB w (.bool true)) := by
  have HA := Lib.hid (fun w => lawRunAwake w)
  have h0 := fun w h => lawRunFar a c r w h
  have h0' := fun w h => lawRunFar a2 c2 s w h
  have h1 := fun w h => runCover a c r w h
  have h2 := fun w h => runCover a2 c2 s w h
  have h3 := fun w h k => runOverlap a c r a2 c2 s w h k
  have h4 := fun w h k => runOverlap a2 c2 s a c r w h k
  have hsym := rover_symm r s
  have HO := Lib.hid h
  have KO := Lib.hid k
  have hl1 := Nat.le_trans h.len h.cap
  have hl2 := Nat.le_trans k.len k.cap
  obtain ⟨hx1, hx2⟩ := hx
  have hxx : x.ok := ⟨hx1, hx2⟩
  unfold maxLen at hl1 hl2 hx1 hx2
  by_cases hc : (rcov r).2 = 0 ∧ (rcov s).2 = 0
  · obtain ⟨z1, z2⟩ := hc
    obtain ⟨r1, r2⟩ := rcov_ok z1
    obtain ⟨s1, s2⟩ := rcov_ok z2
    obtain ⟨-, c2', -, -⟩ := cov_facts r1 r2
    have okP := cov_okR z1
    have okQ := cov_okR z2
    have h5 := fun w h => runPart a c r (rcov r).1 w h okP
    rw [part_cov z1] at h5
    have h6 := fun w => refCheckRange x w hxx
    have hP := fun (t : ByteArray) w (ht : t.size ≤ maxLen) => refHas (rcov r).1 t w okP ht
    have hQ := fun (t : ByteArray) w (ht : t.size ≤ maxLen) => refHas (rcov s).1 t w okQ ht
    have hany := over_any z1 z2
    have hs1 := fun (n : Nat) y (hy : r.es[n]? = some y) => anyIn_take (x := (rcov s).1) hy
    have hs2 := fun (n : Nat) y (hy : s.es[n]? = some y) => anyIn_take (x := (rcov r).1) hy
    rw [← hsym, rover_ok s1 r1] at h4
    rw [rover_ok r1 s1] at h3
    rw [z1] at h1
    rw [z2] at h2
    have h7 := fun w => refMeet (rcov r).1 x w okP hxx
    have hrest : rchk x = 0 → ∃ (M : Rng) (E : Bool) (fr up : Nat), (meet (rcov r).1 x) = (M, 0) ∧ M.ok ∧ remp M = (E, 0) ∧ rpart r x = ((fr : Int), (up : Int), 0) ∧ (E = true → fr = up) := by
      intro hz
      have m1 := meet_zero c2' hz
      have m2 := meetR_ok c2' hz
      have m3 : (remp (meetR (rcov r).1 x)).2 = 0 := by unfold remp; rw [if_neg (by simp [m2])]
      refine ⟨_, (remp (meetR (rcov r).1 x)).1, _, _, m1, ok_of_rchk m2, Prod.ext rfl m3, rpart_ok r1 hz, fun he => ?_⟩
      exact part_apart z1 hz (by rw [m1]; exact he)
    have h8 := fun (M : Rng) w (hM : M.ok) => refEmpty M w hM
    have h9 := fun w h => runPart a c r x w h hxx
    generalize hPP : (rcov r).1 = P at *
    generalize hQQ : (rcov s).1 = Q at *
    generalize (rover r s).1 = ov at *
    generalize rpart r x = RPV at *
    clear hsym hPP hQQ z1 z2 r1 r2 s1 s2 c2' okP okQ hxx
    have HHP := Lib.hid hP
    have HHQ := Lib.hid hQ
    have HAN := Lib.hid hany
    obtain ⟨id, l⟩ := r
    obtain ⟨id2, m⟩ := s
    simp only at hs1 hs2
    have HS1 := Lib.hid hs1
    have HS2 := Lib.hid hs2
    have HRS := Lib.hid hrest
    have H8 := Lib.hid h8
    have HX0 := Lib.hid h7
    clear hP hQ hany hs1 hs2 hrest h8
    by_cases hz : rchk x = 0
    · obtain ⟨M, E, fr, up, q1, q2, q3, q4, q5⟩ := HRS.out hz
      have h8 := fun w => H8.out M w q2
      rw [q1] at h7
      rw [q3] at h8
      rw [hz] at h6
      subst q4
      have HE := Lib.hid q5
      clear HRS HX0 H8 q1 q2 q3 q5 hz
      obtain ⟨mlo, mhi, mbd⟩ := M
      obtain ⟨lo, hi, bd⟩ := x
      obtain ⟨plo, phi, pbd⟩ := P
      obtain ⟨qlo, qhi, qbd⟩ := Q
      unfold Rn.v Rng.v at *
      simp only at *
      have H5 := Lib.hid h5
      have H6 := Lib.hid h6
      have H7 := Lib.hid h7
      have H9 := Lib.hid h9
      clear h5 h6 h7 h9
      have H8 := Lib.hid h8
      clear h8
      have H0 := Lib.hid h0
      have H0' := Lib.hid h0'
      have H1 := Lib.hid h1
      have H2 := Lib.hid h2
      have H3 := Lib.hid h3
      have H4 := Lib.hid h4
      clear h0 h0' h1 h2 h3 h4 h k
      go_enter Try.func8, Try.ntmps8
      go_wp2_with fail
      refine (H0.out _ (HO.out.bl (by repeat (first | assumption | exact Bl.refl _ | apply Bl.drewN | apply Bl.drew | apply Bl.alloc | (refine Bl.dr ?_ (by assumption)) | (refine Bl.trans ?_ (by assumption)))))).mono ?_; rintro e w1 ⟨fb, rfl, hb1⟩
      have hr : Mem w1 [(⟨w.heap.size, 0, none⟩, .int .i64 id), (⟨w.heap.size, 1, none⟩, .slice a l.length c), (⟨w.heap.size + 1, 0, none⟩, .int .i64 id2), (⟨w.heap.size + 1, 1, none⟩, .slice a2 m.length c2), (⟨w.heap.size + 2, 0, none⟩, .string lo), (⟨w.heap.size + 2, 1, none⟩, .string hi), (⟨w.heap.size + 2, 2, none⟩, .bool bd)] :=
        Mem.bl (w := ((w.alloc (Obj.cells #[.int .i64 id, .slice a l.length c] 24)).alloc (Obj.cells #[.int .i64 id2, .slice a2 m.length c2] 24)).alloc (Obj.cells #[.string lo, .string hi, .bool bd] 39)) (by simp [Mem, go_sem]) hb1
      have HR := Lib.hid hr
      
      have hm := hr
      simp only [Mem, VE, List.cons_append, List.nil_append, and_true] at hm
      have hb : Bl w w1 := (by repeat (first | assumption | exact Bl.refl _ | apply Bl.drewN | apply Bl.drew | apply Bl.alloc | (refine Bl.dr ?_ (by assumption)) | (refine Bl.trans ?_ (by assumption))))
      clear hr hb1
      cases fb
      case true =>
        go_wp2_with fail
        refine (HA.out _).mono ?_; rintro e w20 ⟨rfl, hb20⟩
        have hb := hb.trans hb20
        clear hb20
        go_wp2_with fail
        go_ret
        exact RB.mk rfl hb
      go_wp2_with fail
      refine (H0'.out _ (KO.out.bl hb)).mono ?_; rintro e w2 ⟨fb, rfl, hb1⟩
      have hr := HR.out.bl hb1
      have hbn := Bl.trans hb hb1
      clear hb
      have hb := hbn
      clear hbn
      clear HR hm
      have HR := Lib.hid hr
      
      have hm := hr
      simp only [Mem, VE, List.cons_append, List.nil_append, and_true] at hm
      clear hr
      clear hb1
      cases fb
      case true =>
        go_wp2_with fail
        refine (HA.out _).mono ?_; rintro e w20 ⟨rfl, hb20⟩
        have hb := hb.trans hb20
        clear hb20
        go_wp2_with fail
        go_ret
        exact RB.mk rfl hb
      by_cases g1 : (100 : Int) < lo.size
      · go_wp2_with fail
        refine (HA.out _).mono ?_; rintro e w20 ⟨rfl, hb20⟩
        have hb := hb.trans hb20
        clear hb20
        go_wp2_with fail
        go_ret
        exact RB.mk rfl hb
      by_cases g2 : (100 : Int) < hi.size
      · go_wp2_with fail
        refine (HA.out _).mono ?_; rintro e w20 ⟨rfl, hb20⟩
        have hb := hb.trans hb20
        clear hb20
        go_wp2_with fail
        go_ret
        exact RB.mk rfl hb
      go_wp2_with fail
      refine (H1.out _ (HO.out.bl hb)).mono ?_; rintro e w3 ⟨rfl, hb1⟩
      have hr := HR.out.bl hb1
      have hbn := Bl.trans hb hb1
      clear hb
      have hb := hbn
      clear hbn
      clear HR hm
      have HR := Lib.hid hr
      
      have hm := hr
      simp only [Mem, VE, List.cons_append, List.nil_append, and_true] at hm
      clear hr
      clear hb1
      have hal := (Bl.refl w3).alloc (Obj.cells #[.string plo, .string phi, .bool pbd] 39)
      have hp : Mem (w3.alloc (Obj.cells #[.string plo, .string phi, .bool pbd] 39)) [(⟨w3.heap.size, 0, none⟩, .string plo), (⟨w3.heap.size, 1, none⟩, .string phi), (⟨w3.heap.size, 2, none⟩, .bool pbd)] := by simp [Mem, go_sem]
      have hr := (HR.out.bl hal).app hp
      have hbn := hb.trans hal
      clear hb
      have hb := hbn
      clear hbn HR hm hp
      have HR := Lib.hid hr
      
      have hm := hr
      simp only [Mem, VE, List.cons_append, List.nil_append, and_true] at hm
      clear hr hal
      go_wp2_with fail
      refine (H2.out _ (KO.out.bl hb)).mono ?_; rintro e w4 ⟨rfl, hb1⟩
      have hr := HR.out.bl hb1
      have hbn := Bl.trans hb hb1
      clear hb
      have hb := hbn
      clear hbn
      clear HR hm
      have HR := Lib.hid hr
      
      have hm := hr
      simp only [Mem, VE, List.cons_append, List.nil_append, and_true] at hm
      clear hr
      clear hb1
      have hal := (Bl.refl w4).alloc (Obj.cells #[.string qlo, .string qhi, .bool qbd] 39)
      have hp : Mem (w4.alloc (Obj.cells #[.string qlo, .string qhi, .bool qbd] 39)) [(⟨w4.heap.size, 0, none⟩, .string qlo), (⟨w4.heap.size, 1, none⟩, .string qhi), (⟨w4.heap.size, 2, none⟩, .bool qbd)] := by simp [Mem, go_sem]
      have hr := (HR.out.bl hal).app hp
      have hbn := hb.trans hal
      clear hb
      have hb := hbn
      clear hbn HR hm hp
      have HR := Lib.hid hr
      
      have hm := hr
      simp only [Mem, VE, List.cons_append, List.nil_append, and_true] at hm
      clear hr hal
      go_wp2_with fail
      refine (H3.out _ (HO.out.bl hb) (KO.out.bl hb)).mono ?_; rintro e w5 ⟨rfl, hb1⟩
      have hr := HR.out.bl hb1
      have hbn := Bl.trans hb hb1
      clear hb
      have hb := hbn
      clear hbn
      clear HR hm
      have HR := Lib.hid hr
      
      have hm := hr
      simp only [Mem, VE, List.cons_append, List.nil_append, and_true] at hm
      clear hr
      clear hb1
      go_wp2_with fail
      refine (H4.out _ (KO.out.bl hb) (HO.out.bl hb)).mono ?_; rintro e w6 ⟨rfl, hb1⟩
      have hr := HR.out.bl hb1
      have hbn := Bl.trans hb hb1
      clear hb
      have hb := hbn
      clear hbn
      clear HR hm
      have HR := Lib.hid hr
      
      have hm := hr
      simp only [Mem, VE, List.cons_append, List.nil_append, and_true] at hm
      clear hr
      clear hb1
      have u1 : (ov != ov) = false := by simp
      have u2 : ((l.length : Int) != (l.length : Int)) = false := by simp
      go_wp2_with fail
      refine (H5.out _ (HO.out.bl hb)).mono ?_; rintro e w7 ⟨rfl, hb1⟩
      have hr := HR.out.bl hb1
      have hbn := Bl.trans hb hb1
      clear hb
      have hb := hbn
      clear hbn
      clear HR hm
      have HR := Lib.hid hr
      
      have hm := hr
      simp only [Mem, VE, List.cons_append, List.nil_append, and_true] at hm
      clear hr
      clear hb1
      go_wp2_with fail
      refine (H6.out _).mono ?_; rintro e w8 ⟨rfl, hb1⟩
      have hr := HR.out.bl hb1
      have hbn := Bl.trans hb hb1
      clear hb
      have hb := hbn
      clear hbn
      clear HR hm
      have HR := Lib.hid hr
      
      have hm := hr
      simp only [Mem, VE, List.cons_append, List.nil_append, and_true] at hm
      clear hr
      clear hb1
      go_wp2_with fail
      refine (H7.out _).mono ?_; rintro e w9 ⟨rfl, hb1⟩
      have hr := HR.out.bl hb1
      have hbn := Bl.trans hb hb1
      clear hb
      have hb := hbn
      clear hbn
      clear HR hm
      have HR := Lib.hid hr
      
      have hm := hr
      simp only [Mem, VE, List.cons_append, List.nil_append, and_true] at hm
      clear hr
      clear hb1
      go_wp2_with fail
      refine (H8.out _).mono ?_; rintro e w10 ⟨rfl, hb1⟩
      have hr := HR.out.bl (((Bl.refl w9).alloc _).trans hb1)
      have hbn := Bl.trans hb (((Bl.refl w9).alloc _).trans hb1)
      clear hb
      have hb := hbn
      clear hbn
      clear HR hm
      have HR := Lib.hid hr
      
      have hm := hr
      simp only [Mem, VE, List.cons_append, List.nil_append, and_true] at hm
      clear hr
      clear hb1
      go_wp2_with fail
      refine (H9.out _ (HO.out.bl hb)).mono ?_; rintro e w11 ⟨rfl, hb1⟩
      have hr := HR.out.bl hb1
      have hbn := Bl.trans hb hb1
      clear hb
      have hb := hbn
      clear hbn
      clear HR hm
      have HR := Lib.hid hr
      
      have hm := hr
      simp only [Mem, VE, List.cons_append, List.nil_append, and_true] at hm
      clear hr
      clear hb1
      have hE : E = false ∨ (E = true ∧ ((fr : Int) != (up : Int)) = false) := by
        cases E
        · exact .inl rfl
        · right; refine ⟨rfl, ?_⟩; rw [bne_eq_false_iff_eq, HE.out rfl]
      rcases hE with rfl | ⟨rfl, z5⟩
      all_goals
        go_wp2_with fail
        clear u1 u2
        go_loopg [24, 25] l.length (fun g sm i wr => ∃ n : Nat, n ≤ l.length ∧ i = .int .i64 n ∧ sm = .bool (anyIn ⟨qlo, qhi, qbd⟩ (l.take n)) ∧ Bl w11 wr ∧ g = l.length - n)
        case atStart => exact ⟨0, by omega, rfl, rfl, Bl.refl _, rfl⟩
        obtain ⟨n, hn1, rfl, rfl, hbw, hg⟩ := hrel
        have G := Lib.hid hg
        have hr := HR.out.bl hbw
        have hbn := Bl.trans hb hbw
        clear hb
        have hb := hbn
        clear hbn
        clear HR hm
        have HR := Lib.hid hr
        
        have hm := hr
        simp only [Mem, VE, List.cons_append, List.nil_append, and_true] at hm
        clear hr
        clear hg
        by_cases hnl : n < l.length
        · obtain ⟨b, off, rfl, hat⟩ := HO.out.ents.get hnl
          obtain ⟨y, hy⟩ : ∃ y, l[n]? = some y := ⟨_, List.getElem?_eq_getElem hnl⟩
          have d0 := ((hat n y hy).bl hb).key
          have hyk := (HO.out.ents.ok y (List.mem_of_getElem? hy)).1
          have hh := fun w => HHQ.out y.key w hyk
          have hstep := HS1.out n y hy
          have HHH := Lib.hid hh
          have HST := Lib.hid hstep
          have hmz := fun z : BW wr => HR.out.bl z.h
          simp only [Mem, VE, List.cons_append, List.nil_append, and_true] at hmz
          have d0' := BW.cell d0
          have hq1 : (0 : Int) ≤ (n : Int) := by omega
          have hq2 : (n : Int) < (l.length : Int) := by omega
          clear hat hy hyk hh hstep
          generalize hcur : (anyIn ⟨qlo, qhi, qbd⟩ (l.take n)) = cur at *
          have HCU := Lib.hid hcur
          clear hcur
          cases cur
          all_goals
            go_wp2_with fail
            
            refine wp_region_quiet_bw wr (by kernel_rfl) (by kernel_rfl) (Bl.refl wr) ?_
            repeat (go_big_quiet_step ((go_at_call 22; exact quietB (HHH.out _))))
            refine wpQuiet_nil ?_
            intro wq hw'
            have hwq : Bl wr wq := by obtain ⟨x, hx⟩ := hw'; rw [hx]; exact x.h
            clear hw'
            have hbw := hbw.trans hwq
            clear hmz d0' d0
            have hr := HR.out.bl hwq
            have hbn := Bl.trans hb hwq
            clear hb
            have hb := hbn
            clear hbn
            clear HR hm
            have HR := Lib.hid hr
            
            have hm := hr
            simp only [Mem, VE, List.cons_append, List.nil_append, and_true] at hm
            clear hr
            clear hwq
            go_wp2_with fail
            go_roundg (l.length - (n + 1))
            case rel => exact ⟨n + 1, by omega, by go_num, by rw [HST.out]; first | rfl | simp, hbw, rfl⟩
            case measure => rw [G.out]; omega
        · obtain rfl : n = l.length := by omega
          have hB : anyIn ⟨qlo, qhi, qbd⟩ (l.take l.length) = anyIn ⟨qlo, qhi, qbd⟩ l := by rw [List.take_length]
          rw [hB]
          clear hB hbw
          have HAN2 := Lib.hid HAN.out
          generalize anyIn ⟨qlo, qhi, qbd⟩ l = B1 at *
          go_wp2_with fail
          obtain ⟨wo, rfl⟩ : ∃ wo : World, wo = wr := ⟨_, rfl⟩
          go_loopg [24, 26] m.length (fun g sm i wr => ∃ n : Nat, n ≤ m.length ∧ i = .int .i64 n ∧ sm = .bool (B1 || anyIn ⟨plo, phi, pbd⟩ (m.take n)) ∧ Bl wo wr ∧ g = m.length - n)
          case atStart => exact ⟨0, by omega, rfl, by simp [anyIn], Bl.refl _, rfl⟩
          obtain ⟨n, hn1, rfl, rfl, hbw, hg⟩ := hrel
          have G := Lib.hid hg
          have hr := HR.out.bl hbw
          have hbn := Bl.trans hb hbw
          clear hb
          have hb := hbn
          clear hbn
          clear HR hm
          have HR := Lib.hid hr
          
          have hm := hr
          simp only [Mem, VE, List.cons_append, List.nil_append, and_true] at hm
          clear hr
          clear hg
          by_cases hnl : n < m.length
          · skip
            obtain ⟨b, off, rfl, hat⟩ := KO.out.ents.get hnl
            obtain ⟨y, hy⟩ : ∃ y, m[n]? = some y := ⟨_, List.getElem?_eq_getElem hnl⟩
            have d0 := ((hat n y hy).bl hb).key
            have hyk := (KO.out.ents.ok y (List.mem_of_getElem? hy)).1
            have hh := fun w => HHP.out y.key w hyk
            have hstep := HS2.out n y hy
            have HHH := Lib.hid hh
            have HST := Lib.hid hstep
            have hmz := fun z : BW wr => HR.out.bl z.h
            simp only [Mem, VE, List.cons_append, List.nil_append, and_true] at hmz
            have d0' := BW.cell d0
            have hq1 : (0 : Int) ≤ (n : Int) := by omega
            have hq2 : (n : Int) < (m.length : Int) := by omega
            clear hat hy hyk hh hstep
            generalize hcur : (B1 || anyIn ⟨plo, phi, pbd⟩ (m.take n)) = cur at *
            have HCU := Lib.hid hcur
            clear hcur
            cases cur
            all_goals
              go_wp2_with fail
              
              refine wp_region_quiet_bw wr (by kernel_rfl) (by kernel_rfl) (Bl.refl wr) ?_
              repeat (go_big_quiet_step ((go_at_call 22; exact quietB (HHH.out _))))
              refine wpQuiet_nil ?_
              intro wz hw'
              have hwz : Bl wr wz := by obtain ⟨x, hx⟩ := hw'; rw [hx]; exact x.h
              clear hw'
              have hbw := hbw.trans hwz
              clear hmz d0' d0
              have hr := HR.out.bl hwz
              have hbn := Bl.trans hb hwz
              clear hb
              have hb := hbn
              clear hbn
              clear HR hm
              have HR := Lib.hid hr
              
              have hm := hr
              simp only [Mem, VE, List.cons_append, List.nil_append, and_true] at hm
              clear hr
              clear hwz
              go_wp2_with fail
              go_roundg (m.length - (n + 1))
              case rel => exact ⟨n + 1, by omega, by go_num, by rw [HST.out, ← Bool.or_assoc, HCU.out]; first | rfl | simp, hbw, rfl⟩
              case measure => rw [G.out]; omega
          · obtain rfl : n = m.length := by omega
            have hB : (B1 || anyIn ⟨plo, phi, pbd⟩ (m.take m.length)) = ov := by rw [List.take_length]; exact HAN2.out
            rw [hB]
            have u1 : (ov == ov) = true := by simp
            clear hB hbw
            go_wp2_with fail
            refine (HA.out _).mono ?_; rintro e w20 ⟨rfl, hb20⟩
            have hb := hb.trans hb20
            clear hb20
            go_wp2_with fail
            go_ret
            exact RB.mk rfl hb
    · have z6 : (rchk x == 0) = false := by simp [hz]
      generalize rchk x = cx at *
      clear hz HRS HX0 H8
      obtain ⟨lo, hi, bd⟩ := x
      obtain ⟨plo, phi, pbd⟩ := P
      obtain ⟨qlo, qhi, qbd⟩ := Q
      unfold Rn.v Rng.v at *
      simp only at *
      have H5 := Lib.hid h5
      have H6 := Lib.hid h6
      have H7 := Lib.hid h7
      have H9 := Lib.hid h9
      clear h5 h6 h7 h9
      have H0 := Lib.hid h0
      have H0' := Lib.hid h0'
      have H1 := Lib.hid h1
      have H2 := Lib.hid h2
      have H3 := Lib.hid h3
      have H4 := Lib.hid h4
      clear h0 h0' h1 h2 h3 h4 h k
      go_enter Try.func8, Try.ntmps8
      go_wp2_with fail
      refine (H0.out _ (HO.out.bl (by repeat (first | assumption | exact Bl.refl _ | apply Bl.drewN | apply Bl.drew | apply Bl.alloc | (refine Bl.dr ?_ (by assumption)) | (refine Bl.trans ?_ (by assumption)))))).mono ?_; rintro e w1 ⟨fb, rfl, hb1⟩
      have hr : Mem w1 [(⟨w.heap.size, 0, none⟩, .int .i64 id), (⟨w.heap.size, 1, none⟩, .slice a l.length c), (⟨w.heap.size + 1, 0, none⟩, .int .i64 id2), (⟨w.heap.size + 1, 1, none⟩, .slice a2 m.length c2), (⟨w.heap.size + 2, 0, none⟩, .string lo), (⟨w.heap.size + 2, 1, none⟩, .string hi), (⟨w.heap.size + 2, 2, none⟩, .bool bd)] :=
        Mem.bl (w := ((w.alloc (Obj.cells #[.int .i64 id, .slice a l.length c] 24)).alloc (Obj.cells #[.int .i64 id2, .slice a2 m.length c2] 24)).alloc (Obj.cells #[.string lo, .string hi, .bool bd] 39)) (by simp [Mem, go_sem]) hb1
      have HR := Lib.hid hr
      
      have hm := hr
      simp only [Mem, VE, List.cons_append, List.nil_append, and_true] at hm
      have hb : Bl w w1 := (by repeat (first | assumption | exact Bl.refl _ | apply Bl.drewN | apply Bl.drew | apply Bl.alloc | (refine Bl.dr ?_ (by assumption)) | (refine Bl.trans ?_ (by assumption))))
      clear hr hb1
      cases fb
      case true =>
        go_wp2_with fail
        refine (HA.out _).mono ?_; rintro e w20 ⟨rfl, hb20⟩
        have hb := hb.trans hb20
        clear hb20
        go_wp2_with fail
        go_ret
        exact RB.mk rfl hb
      go_wp2_with fail
      refine (H0'.out _ (KO.out.bl hb)).mono ?_; rintro e w2 ⟨fb, rfl, hb1⟩
      have hr := HR.out.bl hb1
      have hbn := Bl.trans hb hb1
      clear hb
      have hb := hbn
      clear hbn
      clear HR hm
      have HR := Lib.hid hr
      
      have hm := hr
      simp only [Mem, VE, List.cons_append, List.nil_append, and_true] at hm
      clear hr
      clear hb1
      cases fb
      case true =>
        go_wp2_with fail
        refine (HA.out _).mono ?_; rintro e w20 ⟨rfl, hb20⟩
        have hb := hb.trans hb20
        clear hb20
        go_wp2_with fail
        go_ret
        exact RB.mk rfl hb
      by_cases g1 : (100 : Int) < lo.size
      · go_wp2_with fail
        refine (HA.out _).mono ?_; rintro e w20 ⟨rfl, hb20⟩
        have hb := hb.trans hb20
        clear hb20
        go_wp2_with fail
        go_ret
        exact RB.mk rfl hb
      by_cases g2 : (100 : Int) < hi.size
      · go_wp2_with fail
        refine (HA.out _).mono ?_; rintro e w20 ⟨rfl, hb20⟩
        have hb := hb.trans hb20
        clear hb20
        go_wp2_with fail
        go_ret
        exact RB.mk rfl hb
      go_wp2_with fail
      refine (H1.out _ (HO.out.bl hb)).mono ?_; rintro e w3 ⟨rfl, hb1⟩
      have hr := HR.out.bl hb1
      have hbn := Bl.trans hb hb1
      clear hb
      have hb := hbn
      clear hbn
      clear HR hm
      have HR := Lib.hid hr
      
      have hm := hr
      simp only [Mem, VE, List.cons_append, List.nil_append, and_true] at hm
      clear hr
      clear hb1
      have hal := (Bl.refl w3).alloc (Obj.cells #[.string plo, .string phi, .bool pbd] 39)
      have hp : Mem (w3.alloc (Obj.cells #[.string plo, .string phi, .bool pbd] 39)) [(⟨w3.heap.size, 0, none⟩, .string plo), (⟨w3.heap.size, 1, none⟩, .string phi), (⟨w3.heap.size, 2, none⟩, .bool pbd)] := by simp [Mem, go_sem]
      have hr := (HR.out.bl hal).app hp
      have hbn := hb.trans hal
      clear hb
      have hb := hbn
      clear hbn HR hm hp
      have HR := Lib.hid hr
      
      have hm := hr
      simp only [Mem, VE, List.cons_append, List.nil_append, and_true] at hm
      clear hr hal
      go_wp2_with fail
      refine (H2.out _ (KO.out.bl hb)).mono ?_; rintro e w4 ⟨rfl, hb1⟩
      have hr := HR.out.bl hb1
      have hbn := Bl.trans hb hb1
      clear hb
      have hb := hbn
      clear hbn
      clear HR hm
      have HR := Lib.hid hr
      
      have hm := hr
      simp only [Mem, VE, List.cons_append, List.nil_append, and_true] at hm
      clear hr
      clear hb1
      have hal := (Bl.refl w4).alloc (Obj.cells #[.string qlo, .string qhi, .bool qbd] 39)
      have hp : Mem (w4.alloc (Obj.cells #[.string qlo, .string qhi, .bool qbd] 39)) [(⟨w4.heap.size, 0, none⟩, .string qlo), (⟨w4.heap.size, 1, none⟩, .string qhi), (⟨w4.heap.size, 2, none⟩, .bool qbd)] := by simp [Mem, go_sem]
      have hr := (HR.out.bl hal).app hp
      have hbn := hb.trans hal
      clear hb
      have hb := hbn
      clear hbn HR hm hp
      have HR := Lib.hid hr
      
      have hm := hr
      simp only [Mem, VE, List.cons_append, List.nil_append, and_true] at hm
      clear hr hal
      go_wp2_with fail
      refine (H3.out _ (HO.out.bl hb) (KO.out.bl hb)).mono ?_; rintro e w5 ⟨rfl, hb1⟩
      have hr := HR.out.bl hb1
      have hbn := Bl.trans hb hb1
      clear hb
      have hb := hbn
      clear hbn
      clear HR hm
      have HR := Lib.hid hr
      
      have hm := hr
      simp only [Mem, VE, List.cons_append, List.nil_append, and_true] at hm
      clear hr
      clear hb1
      go_wp2_with fail
      refine (H4.out _ (KO.out.bl hb) (HO.out.bl hb)).mono ?_; rintro e w6 ⟨rfl, hb1⟩
      have hr := HR.out.bl hb1
      have hbn := Bl.trans hb hb1
      clear hb
      have hb := hbn
      clear hbn
      clear HR hm
      have HR := Lib.hid hr
      
      have hm := hr
      simp only [Mem, VE, List.cons_append, List.nil_append, and_true] at hm
      clear hr
      clear hb1
      have u1 : (ov != ov) = false := by simp
      have u2 : ((l.length : Int) != (l.length : Int)) = false := by simp
      go_wp2_with fail
      refine (H5.out _ (HO.out.bl hb)).mono ?_; rintro e w7 ⟨rfl, hb1⟩
      have hr := HR.out.bl hb1
      have hbn := Bl.trans hb hb1
      clear hb
      have hb := hbn
      clear hbn
      clear HR hm
      have HR := Lib.hid hr
      
      have hm := hr
      simp only [Mem, VE, List.cons_append, List.nil_append, and_true] at hm
      clear hr
      clear hb1
      go_wp2_with fail
      refine (H6.out _).mono ?_; rintro e w11 ⟨rfl, hb1⟩
      have hr := HR.out.bl hb1
      have hbn := Bl.trans hb hb1
      clear hb
      have hb := hbn
      clear hbn
      clear HR hm
      have HR := Lib.hid hr
      
      have hm := hr
      simp only [Mem, VE, List.cons_append, List.nil_append, and_true] at hm
      clear hr
      clear hb1
      go_wp2_with fail
      clear u1 u2
      go_loopg [24, 25] l.length (fun g sm i wr => ∃ n : Nat, n ≤ l.length ∧ i = .int .i64 n ∧ sm = .bool (anyIn ⟨qlo, qhi, qbd⟩ (l.take n)) ∧ Bl w11 wr ∧ g = l.length - n)
      case atStart => exact ⟨0, by omega, rfl, rfl, Bl.refl _, rfl⟩
      obtain ⟨n, hn1, rfl, rfl, hbw, hg⟩ := hrel
      have G := Lib.hid hg
      have hr := HR.out.bl hbw
      have hbn := Bl.trans hb hbw
      clear hb
      have hb := hbn
      clear hbn
      clear HR hm
      have HR := Lib.hid hr
      
      have hm := hr
      simp only [Mem, VE, List.cons_append, List.nil_append, and_true] at hm
      clear hr
      clear hg
      by_cases hnl : n < l.length
      · obtain ⟨b, off, rfl, hat⟩ := HO.out.ents.get hnl
        obtain ⟨y, hy⟩ : ∃ y, l[n]? = some y := ⟨_, List.getElem?_eq_getElem hnl⟩
        have d0 := ((hat n y hy).bl hb).key
        have hyk := (HO.out.ents.ok y (List.mem_of_getElem? hy)).1
        have hh := fun w => HHQ.out y.key w hyk
        have hstep := HS1.out n y hy
        have HHH := Lib.hid hh
        have HST := Lib.hid hstep
        have hmz := fun z : BW wr => HR.out.bl z.h
        simp only [Mem, VE, List.cons_append, List.nil_append, and_true] at hmz
        have d0' := BW.cell d0
        have hq1 : (0 : Int) ≤ (n : Int) := by omega
        have hq2 : (n : Int) < (l.length : Int) := by omega
        clear hat hy hyk hh hstep
        generalize hcur : (anyIn ⟨qlo, qhi, qbd⟩ (l.take n)) = cur at *
        have HCU := Lib.hid hcur
        clear hcur
        cases cur
        all_goals
          go_wp2_with fail
          
          refine wp_region_quiet_bw wr (by kernel_rfl) (by kernel_rfl) (Bl.refl wr) ?_
          repeat (go_big_quiet_step ((go_at_call 22; exact quietB (HHH.out _))))
          refine wpQuiet_nil ?_
          intro wq hw'
          have hwq : Bl wr wq := by obtain ⟨x, hx⟩ := hw'; rw [hx]; exact x.h
          clear hw'
          have hbw := hbw.trans hwq
          clear hmz d0' d0
          have hr := HR.out.bl hwq
          have hbn := Bl.trans hb hwq
          clear hb
          have hb := hbn
          clear hbn
          clear HR hm
          have HR := Lib.hid hr
          
          have hm := hr
          simp only [Mem, VE, List.cons_append, List.nil_append, and_true] at hm
          clear hr
          clear hwq
          go_wp2_with fail
          go_roundg (l.length - (n + 1))
          case rel => exact ⟨n + 1, by omega, by go_num, by rw [HST.out]; first | rfl | simp, hbw, rfl⟩
          case measure => rw [G.out]; omega
      · obtain rfl : n = l.length := by omega
        have hB : anyIn ⟨qlo, qhi, qbd⟩ (l.take l.length) = anyIn ⟨qlo, qhi, qbd⟩ l := by rw [List.take_length]
        rw [hB]
        clear hB hbw
        have HAN2 := Lib.hid HAN.out
        generalize anyIn ⟨qlo, qhi, qbd⟩ l = B1 at *
        go_wp2_with fail
        obtain ⟨wo, rfl⟩ : ∃ wo : World, wo = wr := ⟨_, rfl⟩
        go_loopg [24, 26] m.length (fun g sm i wr => ∃ n : Nat, n ≤ m.length ∧ i = .int .i64 n ∧ sm = .bool (B1 || anyIn ⟨plo, phi, pbd⟩ (m.take n)) ∧ Bl wo wr ∧ g = m.length - n)
        case atStart => exact ⟨0, by omega, rfl, by simp [anyIn], Bl.refl _, rfl⟩
        obtain ⟨n, hn1, rfl, rfl, hbw, hg⟩ := hrel
        have G := Lib.hid hg
        have hr := HR.out.bl hbw
        have hbn := Bl.trans hb hbw
        clear hb
        have hb := hbn
        clear hbn
        clear HR hm
        have HR := Lib.hid hr
        
        have hm := hr
        simp only [Mem, VE, List.cons_append, List.nil_append, and_true] at hm
        clear hr
        clear hg
        by_cases hnl : n < m.length
        · skip
          obtain ⟨b, off, rfl, hat⟩ := KO.out.ents.get hnl
          obtain ⟨y, hy⟩ : ∃ y, m[n]? = some y := ⟨_, List.getElem?_eq_getElem hnl⟩
          have d0 := ((hat n y hy).bl hb).key
          have hyk := (KO.out.ents.ok y (List.mem_of_getElem? hy)).1
          have hh := fun w => HHP.out y.key w hyk
          have hstep := HS2.out n y hy
          have HHH := Lib.hid hh
          have HST := Lib.hid hstep
          have hmz := fun z : BW wr => HR.out.bl z.h
          simp only [Mem, VE, List.cons_append, List.nil_append, and_true] at hmz
          have d0' := BW.cell d0
          have hq1 : (0 : Int) ≤ (n : Int) := by omega
          have hq2 : (n : Int) < (m.length : Int) := by omega
          clear hat hy hyk hh hstep
          generalize hcur : (B1 || anyIn ⟨plo, phi, pbd⟩ (m.take n)) = cur at *
          have HCU := Lib.hid hcur
          clear hcur
          cases cur
          all_goals
            go_wp2_with fail
            
            refine wp_region_quiet_bw wr (by kernel_rfl) (by kernel_rfl) (Bl.refl wr) ?_
            repeat (go_big_quiet_step ((go_at_call 22; exact quietB (HHH.out _))))
            refine wpQuiet_nil ?_
            intro wz hw'
            have hwz : Bl wr wz := by obtain ⟨x, hx⟩ := hw'; rw [hx]; exact x.h
            clear hw'
            have hbw := hbw.trans hwz
            clear hmz d0' d0
            have hr := HR.out.bl hwz
            have hbn := Bl.trans hb hwz
            clear hb
            have hb := hbn
            clear hbn
            clear HR hm
            have HR := Lib.hid hr
            
            have hm := hr
            simp only [Mem, VE, List.cons_append, List.nil_append, and_true] at hm
            clear hr
            clear hwz
            go_wp2_with fail
            go_roundg (m.length - (n + 1))
            case rel => exact ⟨n + 1, by omega, by go_num, by rw [HST.out, ← Bool.or_assoc, HCU.out]; first | rfl | simp, hbw, rfl⟩
            case measure => rw [G.out]; omega
        · obtain rfl : n = m.length := by omega
          have hB : (B1 || anyIn ⟨plo, phi, pbd⟩ (m.take m.length)) = ov := by rw [List.take_length]; exact HAN2.out
          rw [hB]
          have u1 : (ov == ov) = true := by simp
          clear hB hbw
          go_wp2_with fail
          refine (HA.out _).mono ?_; rintro e w20 ⟨rfl, hb20⟩
          have hb := hb.trans hb20
          clear hb20
          go_wp2_with fail
          go_ret
          exact RB.mk rfl hb
  · have hno := over_none (r := r) (s := s) (by omega)
    have htwo := rover_two r s
    rw [← hsym, hno] at h4
    rw [hno] at h3
    have hor : ((rcov r).2 != 0) = true ∨ ((rcov r).2 != 0) = false ∧ ((rcov s).2 != 0) = true := by
      by_cases z : (rcov r).2 = 0
      · right; exact ⟨by simp [z], by simp; omega⟩
      · left; simp [z]
    generalize (rover r s).2 = g at *
    generalize (rover s r).2 = gg at *
    generalize (rcov r).1 = P at *
    generalize (rcov r).2 = e1 at *
    generalize (rcov s).1 = Q at *
    generalize (rcov s).2 = e2 at *
    obtain ⟨id, l⟩ := r
    obtain ⟨id2, m⟩ := s
    obtain ⟨lo, hi, bd⟩ := x
    obtain ⟨plo, phi, pbd⟩ := P
    obtain ⟨qlo, qhi, qbd⟩ := Q
    unfold Rn.v Rng.v at *
    simp only at h0 h0' h1 h2 h3 h4 hl1 hl2 hx1 hx2 ⊢
    clear hsym hno hc hxx
    have HT := Lib.hid htwo
    have HQ := Lib.hid hor
    clear htwo hor
    have H0 := Lib.hid h0
    have H0' := Lib.hid h0'
    have H1 := Lib.hid h1
    have H2 := Lib.hid h2
    have H3 := Lib.hid h3
    have H4 := Lib.hid h4
    clear h0 h0' h1 h2 h3 h4 h k
    go_enter Try.func8, Try.ntmps8
    go_wp2_with fail
    refine (H0.out _ (HO.out.bl (by repeat (first | assumption | exact Bl.refl _ | apply Bl.drewN | apply Bl.drew | apply Bl.alloc | (refine Bl.dr ?_ (by assumption)) | (refine Bl.trans ?_ (by assumption)))))).mono ?_; rintro e w1 ⟨fb, rfl, hb1⟩
    have hr : Mem w1 [(⟨w.heap.size, 0, none⟩, .int .i64 id), (⟨w.heap.size, 1, none⟩, .slice a l.length c), (⟨w.heap.size + 1, 0, none⟩, .int .i64 id2), (⟨w.heap.size + 1, 1, none⟩, .slice a2 m.length c2), (⟨w.heap.size + 2, 0, none⟩, .string lo), (⟨w.heap.size + 2, 1, none⟩, .string hi), (⟨w.heap.size + 2, 2, none⟩, .bool bd)] :=
      Mem.bl (w := ((w.alloc (Obj.cells #[.int .i64 id, .slice a l.length c] 24)).alloc (Obj.cells #[.int .i64 id2, .slice a2 m.length c2] 24)).alloc (Obj.cells #[.string lo, .string hi, .bool bd] 39)) (by simp [Mem, go_sem]) hb1
    have HR := Lib.hid hr
    
    have hm := hr
    simp only [Mem, VE, List.cons_append, List.nil_append, and_true] at hm
    have hb : Bl w w1 := (by repeat (first | assumption | exact Bl.refl _ | apply Bl.drewN | apply Bl.drew | apply Bl.alloc | (refine Bl.dr ?_ (by assumption)) | (refine Bl.trans ?_ (by assumption))))
    clear hr hb1
    cases fb
    case true =>
      go_wp2_with fail
      refine (HA.out _).mono ?_; rintro e w20 ⟨rfl, hb20⟩
      have hb := hb.trans hb20
      clear hb20
      go_wp2_with fail
      go_ret
      exact RB.mk rfl hb
    go_wp2_with fail
    refine (H0'.out _ (KO.out.bl hb)).mono ?_; rintro e w2 ⟨fb, rfl, hb1⟩
    have hr := HR.out.bl hb1
    have hbn := Bl.trans hb hb1
    clear hb
    have hb := hbn
    clear hbn
    clear HR hm
    have HR := Lib.hid hr
    
    have hm := hr
    simp only [Mem, VE, List.cons_append, List.nil_append, and_true] at hm
    clear hr
    clear hb1
    cases fb
    case true =>
      go_wp2_with fail
      refine (HA.out _).mono ?_; rintro e w20 ⟨rfl, hb20⟩
      have hb := hb.trans hb20
      clear hb20
      go_wp2_with fail
      go_ret
      exact RB.mk rfl hb
    by_cases g1 : (100 : Int) < lo.size
    · go_wp2_with fail
      refine (HA.out _).mono ?_; rintro e w20 ⟨rfl, hb20⟩
      have hb := hb.trans hb20
      clear hb20
      go_wp2_with fail
      go_ret
      exact RB.mk rfl hb
    by_cases g2 : (100 : Int) < hi.size
    · go_wp2_with fail
      refine (HA.out _).mono ?_; rintro e w20 ⟨rfl, hb20⟩
      have hb := hb.trans hb20
      clear hb20
      go_wp2_with fail
      go_ret
      exact RB.mk rfl hb
    go_wp2_with fail
    refine (H1.out _ (HO.out.bl hb)).mono ?_; rintro e w3 ⟨rfl, hb1⟩
    have hr := HR.out.bl hb1
    have hbn := Bl.trans hb hb1
    clear hb
    have hb := hbn
    clear hbn
    clear HR hm
    have HR := Lib.hid hr
    
    have hm := hr
    simp only [Mem, VE, List.cons_append, List.nil_append, and_true] at hm
    clear hr
    clear hb1
    have hal := (Bl.refl w3).alloc (Obj.cells #[.string plo, .string phi, .bool pbd] 39)
    have hp : Mem (w3.alloc (Obj.cells #[.string plo, .string phi, .bool pbd] 39)) [(⟨w3.heap.size, 0, none⟩, .string plo), (⟨w3.heap.size, 1, none⟩, .string phi), (⟨w3.heap.size, 2, none⟩, .bool pbd)] := by simp [Mem, go_sem]
    have hr := (HR.out.bl hal).app hp
    have hbn := hb.trans hal
    clear hb
    have hb := hbn
    clear hbn HR hm hp
    have HR := Lib.hid hr
    
    have hm := hr
    simp only [Mem, VE, List.cons_append, List.nil_append, and_true] at hm
    clear hr hal
    go_wp2_with fail
    refine (H2.out _ (KO.out.bl hb)).mono ?_; rintro e w4 ⟨rfl, hb1⟩
    have hr := HR.out.bl hb1
    have hbn := Bl.trans hb hb1
    clear hb
    have hb := hbn
    clear hbn
    clear HR hm
    have HR := Lib.hid hr
    
    have hm := hr
    simp only [Mem, VE, List.cons_append, List.nil_append, and_true] at hm
    clear hr
    clear hb1
    have hal := (Bl.refl w4).alloc (Obj.cells #[.string qlo, .string qhi, .bool qbd] 39)
    have hp : Mem (w4.alloc (Obj.cells #[.string qlo, .string qhi, .bool qbd] 39)) [(⟨w4.heap.size, 0, none⟩, .string qlo), (⟨w4.heap.size, 1, none⟩, .string qhi), (⟨w4.heap.size, 2, none⟩, .bool qbd)] := by simp [Mem, go_sem]
    have hr := (HR.out.bl hal).app hp
    have hbn := hb.trans hal
    clear hb
    have hb := hbn
    clear hbn HR hm hp
    have HR := Lib.hid hr
    
    have hm := hr
    simp only [Mem, VE, List.cons_append, List.nil_append, and_true] at hm
    clear hr hal
    go_wp2_with fail
    refine (H3.out _ (HO.out.bl hb) (KO.out.bl hb)).mono ?_; rintro e w5 ⟨rfl, hb1⟩
    have hr := HR.out.bl hb1
    have hbn := Bl.trans hb hb1
    clear hb
    have hb := hbn
    clear hbn
    clear HR hm
    have HR := Lib.hid hr
    
    have hm := hr
    simp only [Mem, VE, List.cons_append, List.nil_append, and_true] at hm
    clear hr
    clear hb1
    go_wp2_with fail
    refine (H4.out _ (KO.out.bl hb) (HO.out.bl hb)).mono ?_; rintro e w6 ⟨rfl, hb1⟩
    have hr := HR.out.bl hb1
    have hbn := Bl.trans hb hb1
    clear hb
    have hb := hbn
    clear hbn
    clear HR hm
    have HR := Lib.hid hr
    
    have hm := hr
    simp only [Mem, VE, List.cons_append, List.nil_append, and_true] at hm
    clear hr
    clear hb1
    have zz : ((g == 0) = true ∧ (gg == 0) = true) ∨ ((g == 0) = false ∧ (gg == 0) = false) := by
      rcases HT.out with ⟨h1, h2⟩ | ⟨h1, h2⟩
      · exact .inl ⟨by simp [h1], by simp [h2]⟩
      · exact .inr ⟨by simp [h1], by simp [h2]⟩
    rcases zz with ⟨z1, z2⟩ | ⟨z1, z2⟩
    all_goals
      rcases HQ.out with z3 | ⟨z3, z4⟩
      all_goals
        go_wp2_with fail
        refine (HA.out _).mono ?_; rintro e w20 ⟨rfl, hb20⟩
        have hb := hb.trans hb20
        clear hb20
        go_wp2_with fail
        go_ret
        exact RB.mk rfl hb
end Go.Proofs.Ytndcjgkgkpkklaa


/-
  The law RunsNeighbours, walked.
-/
import Derived.Test.YtndcjgkgkpkklaaRnJ
import Derived.Test.YtndcjgkgkpkklaaRnS
import Derived.IntWalk
namespace Go.Proofs.Ytndcjgkgkpkklaa
open Go.RowKit
set_option linter.unusedSimpArgs false
set_option linter.unusedVariables false
set_option maxRecDepth 100000

theorem quietAwake {w0 : World} (x : BW w0) : Calls Try.prog 10 #[] x.w fun e w'' => e = .returned (.bool true) ∧ ∃ y : BW w0, w'' = y.w := quietB (lawRunAwake x.w)

set_option maxHeartbeats 16000000 in
theorem lawNeighbours (a : Option Addr) (c : Nat) (r : Rn) (k : ByteArray) (w : World) (h : ROk w a c r) (hk : k.size ≤ maxLen) :
    Calls Try.prog 4 #[r.v a c, .string k] w (RB w (.bool true)) := by
  have HA := Lib.hid (fun w => lawRunAwake w)
  have h0 := fun w h => lawRunFar a c r w h
  have h1 := fun w h => runGet a c r k w h hk
  have h2 := fun s w h => runFloor a c r k s w h hk
  have h3 := fun s w h => runCeiling a c r k s w h hk
  have hlen := Nat.le_trans h.len h.cap
  have hne := @neigh r k
  have her := @neigh_err r k
  have h4 := rask_four r k
  have hO := fun (t : ByteArray) w (ht : t.size ≤ maxLen) => refOrder t k w ht hk
  have h2a := h2 true
  have h2b := h2 false
  have h3a := h3 true
  have h3b := h3 false
  have her2 : rask r k ≠ 0 → rget r k = (ent0, rask r k) ∧ rflo r k true = (ent0, rask r k) ∧ rcei r k true = (ent0, rask r k) ∧ rflo r k false = (ent0, rask r k) ∧ rcei r k false = (ent0, rask r k) :=
    fun h => ⟨(her h).1, (her h).2.1 _, (her h).2.2 _, (her h).2.1 _, (her h).2.2 _⟩
  clear her h2 h3
  generalize rget r k = G at *
  generalize rflo r k true = FS at *
  generalize rflo r k false = FL at *
  generalize rcei r k true = CS at *
  generalize rcei r k false = CL at *
  generalize rask r k = q0 at *
  have HO := Lib.hid h
  obtain ⟨id, l⟩ := r
  obtain ⟨X1, e1⟩ := G
  obtain ⟨X2, e2⟩ := FS
  obtain ⟨X3, e3⟩ := CS
  obtain ⟨X4, e4⟩ := FL
  obtain ⟨X5, e5⟩ := CL
  unfold Rn.v Ent.v at *
  simp only at h0 h1 h2a h2b h3a h3b hne hlen ⊢
  have H0 := Lib.hid h0
  have H1 := Lib.hid h1
  have H2 := Lib.hid h2a
  have H3 := Lib.hid h3a
  have H4 := Lib.hid h2b
  have H5 := Lib.hid h3b
  have HN := Lib.hid hne
  have HE := Lib.hid her2
  have HC := Lib.hid hO
  have HF := Lib.hid h4
  unfold maxLen at hk hlen
  clear h0 h1 h2a h2b h3a h3b hne her2 hO h4 h
  go_enter Try.func4, Try.ntmps4
  go_wp2_with fail
  refine (H0.out _ (HO.out.bl (by repeat (first | assumption | exact Bl.refl _ | apply Bl.drewN | apply Bl.drew | apply Bl.alloc | (refine Bl.dr ?_ (by assumption)) | (refine Bl.trans ?_ (by assumption)))))).mono ?_; rintro e w1 ⟨fb, rfl, hb1⟩
  have hr : Mem w1 [(⟨w.heap.size, 0, none⟩, .int .i64 id), (⟨w.heap.size, 1, none⟩, .slice a l.length c)] := Mem.bl (w := w.alloc (Obj.cells #[.int .i64 id, .slice a l.length c] 24)) (by simp [Mem, go_sem]) hb1
  have HR := Lib.hid hr
  
  have hm := hr
  simp only [Mem, VE, List.cons_append, List.nil_append, and_true] at hm
  have hb : Bl w w1 := (by repeat (first | assumption | exact Bl.refl _ | apply Bl.drewN | apply Bl.drew | apply Bl.alloc | (refine Bl.dr ?_ (by assumption)) | (refine Bl.trans ?_ (by assumption))))
  clear hr hb1
  cases fb
  case true =>
    
    go_wp2_with fail
    refine (HA.out _).mono ?_; rintro e w8 ⟨rfl, hb8⟩
    go_wp2_with fail
    go_ret
    exact RB.mk rfl (by repeat (first | assumption | exact Bl.refl _ | apply Bl.drewN | apply Bl.drew | apply Bl.alloc | (refine Bl.dr ?_ (by assumption)) | (refine Bl.trans ?_ (by assumption))))
  by_cases hkl : 100 < k.size
  · 
    go_wp2_with fail
    refine (HA.out _).mono ?_; rintro e w8 ⟨rfl, hb8⟩
    go_wp2_with fail
    go_ret
    exact RB.mk rfl (by repeat (first | assumption | exact Bl.refl _ | apply Bl.drewN | apply Bl.drew | apply Bl.alloc | (refine Bl.dr ?_ (by assumption)) | (refine Bl.trans ?_ (by assumption))))
  go_wp2_with fail
  refine (H1.out _ (HO.out.bl hb)).mono ?_; rintro e w2 ⟨rfl, hb1⟩
  have hr := HR.out.bl hb1
  have hbn := Bl.trans hb hb1
  clear hb
  have hb := hbn
  clear hbn
  clear HR hm
  have HR := Lib.hid hr
  
  have hm := hr
  simp only [Mem, VE, List.cons_append, List.nil_append, and_true] at hm
  clear hr
  clear hb1
  have hal := (Bl.refl w2).alloc (Obj.cells #[.string X1.key, .string X1.val, .bool X1.dead, .int .i64 X1.seq] 31)
  have hr := (HR.out.bl hal).app (Mem.new4 w2 X1 31)
  have hbn := hb.trans hal
  clear hb
  have hb := hbn
  clear hbn
  clear HR hm
  have HR := Lib.hid hr
  
  have hm := hr
  simp only [Mem, VE, List.cons_append, List.nil_append, and_true] at hm
  clear hr hal
  go_wp2_with fail
  refine (H2.out _ (HO.out.bl hb)).mono ?_; rintro e w3 ⟨rfl, hb1⟩
  have hr := HR.out.bl hb1
  have hbn := Bl.trans hb hb1
  clear hb
  have hb := hbn
  clear hbn
  clear HR hm
  have HR := Lib.hid hr
  
  have hm := hr
  simp only [Mem, VE, List.cons_append, List.nil_append, and_true] at hm
  clear hr
  clear hb1
  have hal := (Bl.refl w3).alloc (Obj.cells #[.string X2.key, .string X2.val, .bool X2.dead, .int .i64 X2.seq] 31)
  have hr := (HR.out.bl hal).app (Mem.new4 w3 X2 31)
  have hbn := hb.trans hal
  clear hb
  have hb := hbn
  clear hbn
  clear HR hm
  have HR := Lib.hid hr
  
  have hm := hr
  simp only [Mem, VE, List.cons_append, List.nil_append, and_true] at hm
  clear hr hal
  go_wp2_with fail
  refine (H3.out _ (HO.out.bl hb)).mono ?_; rintro e w4 ⟨rfl, hb1⟩
  have hr := HR.out.bl hb1
  have hbn := Bl.trans hb hb1
  clear hb
  have hb := hbn
  clear hbn
  clear HR hm
  have HR := Lib.hid hr
  
  have hm := hr
  simp only [Mem, VE, List.cons_append, List.nil_append, and_true] at hm
  clear hr
  clear hb1
  have hal := (Bl.refl w4).alloc (Obj.cells #[.string X3.key, .string X3.val, .bool X3.dead, .int .i64 X3.seq] 31)
  have hr := (HR.out.bl hal).app (Mem.new4 w4 X3 31)
  have hbn := hb.trans hal
  clear hb
  have hb := hbn
  clear hbn
  clear HR hm
  have HR := Lib.hid hr
  
  have hm := hr
  simp only [Mem, VE, List.cons_append, List.nil_append, and_true] at hm
  clear hr hal
  go_wp2_with fail
  refine (H4.out _ (HO.out.bl hb)).mono ?_; rintro e w5 ⟨rfl, hb1⟩
  have hr := HR.out.bl hb1
  have hbn := Bl.trans hb hb1
  clear hb
  have hb := hbn
  clear hbn
  clear HR hm
  have HR := Lib.hid hr
  
  have hm := hr
  simp only [Mem, VE, List.cons_append, List.nil_append, and_true] at hm
  clear hr
  clear hb1
  have hal := (Bl.refl w5).alloc (Obj.cells #[.string X4.key, .string X4.val, .bool X4.dead, .int .i64 X4.seq] 31)
  have hr := (HR.out.bl hal).app (Mem.new4 w5 X4 31)
  have hbn := hb.trans hal
  clear hb
  have hb := hbn
  clear hbn
  clear HR hm
  have HR := Lib.hid hr
  
  have hm := hr
  simp only [Mem, VE, List.cons_append, List.nil_append, and_true] at hm
  clear hr hal
  go_wp2_with fail
  refine (H5.out _ (HO.out.bl hb)).mono ?_; rintro e w6 ⟨rfl, hb1⟩
  have hr := HR.out.bl hb1
  have hbn := Bl.trans hb hb1
  clear hb
  have hb := hbn
  clear hbn
  clear HR hm
  have HR := Lib.hid hr
  
  have hm := hr
  simp only [Mem, VE, List.cons_append, List.nil_append, and_true] at hm
  clear hr
  clear hb1
  have hal := (Bl.refl w6).alloc (Obj.cells #[.string X5.key, .string X5.val, .bool X5.dead, .int .i64 X5.seq] 31)
  have hr := (HR.out.bl hal).app (Mem.new4 w6 X5 31)
  have hbn := hb.trans hal
  clear hb
  have hb := hbn
  clear hbn
  clear HR hm
  have HR := Lib.hid hr
  
  have hm := hr
  simp only [Mem, VE, List.cons_append, List.nil_append, and_true] at hm
  clear hr hal
  by_cases hq : q0 = 0
  · obtain ⟨q, n, hq1, hn1, hlt, hget, hfl, hce⟩ := HN.out hq
    clear HN HE HF
    have HL := Lib.hid hlt
    clear hlt
    have hfl' : (0 < q ∧ ∃ y, l[q - 1]? = some y ∧ (X2, e2) = (y, 0)) ∨ (q = 0 ∧ (X2, e2) = (ent0, 4)) := by
      rcases hfl with ⟨m, rfl, _, y, h1, h2⟩ | h
      · exact .inl ⟨by omega, y, h1, h2⟩
      · exact .inr h
    have FL := Lib.hid hfl'
    have CE := Lib.hid hce
    clear hfl hfl' hce hq
    rcases hget with ⟨hn, x, hx, hxk, u1, u2, u3⟩ | ⟨hn, u1, u2, u3⟩
    · injection u1 with u1 v1; injection u2 with u2 v2; injection u3 with u3 v3
      subst u1 v1 u2 v2 u3 v3 hn hxk
      have y1 : (X5.key.toList == X5.key.toList) = true := by simp
      have y2 : (X5.val.toList == X5.val.toList) = true := by simp
      have hql := (List.getElem?_eq_some_iff.1 hx).1
      have X := Lib.hid hx
      clear hx
      go_wp2_with fail
      go_loopg [15] (q + 1) (fun g i wr => ∃ j : Nat, j ≤ q ∧ i = .int .i64 j ∧ Bl (w6.alloc (Obj.cells #[.string X5.key, .string X5.val, .bool X5.dead, .int .i64 X5.seq] 31)) wr ∧ g = q + 1 - j)
      case atStart => exact ⟨0, by omega, rfl, Bl.refl _, rfl⟩
      obtain ⟨j, hj, rfl, hbw, hg⟩ := hrel
      have G := Lib.hid hg
      have hr := HR.out.bl hbw
      have hbn := Bl.trans hb hbw
      clear hb
      have hb := hbn
      clear hbn
      clear HR hm
      have HR := Lib.hid hr
      
      have hm := hr
      simp only [Mem, VE, List.cons_append, List.nil_append, and_true] at hm
      clear hr
      clear hg
      by_cases hjq : j < q
      · obtain ⟨b, off, rfl, hat⟩ := HO.out.ents.get (show j < l.length by omega)
        obtain ⟨y, hy⟩ : ∃ y, l[j]? = some y := ⟨_, List.getElem?_eq_getElem (by omega)⟩
        have d0 := ((hat j y hy).bl hb).key
        have hyk := (HO.out.ents.ok y (List.mem_of_getElem? hy)).1
        have hlt := HL.out j y hy
        rw [← cmpS_lss] at hlt
        have hO := fun w => HC.out y.key w hyk
        generalize cmpS y.key (X5.key) = cv at *
        have HO2 := Lib.hid hO
        have hlt2 : decide (cv < 0) = true := by rw [hlt]; simp [hjq]
        have hjl : (j : Int) < (l.length : Int) := by omega
        clear hat hy hyk hlt hO
        go_wp2_with fail
        refine (HO2.out _).mono ?_; rintro e w' ⟨rfl, n1, rfl⟩
        have hbw := hbw.trans (Bl.of_dr ⟨n1, rfl⟩)
        go_wp2_with fail
        go_roundg (q + 1 - (j + 1))
        case rel => exact ⟨j + 1, by omega, by go_num, hbw, rfl⟩
        case measure => rw [G.out]; omega
      · obtain rfl : j = q := by omega
        clear hjq
        obtain ⟨b, off, rfl, hat⟩ := HO.out.ents.get (show j < l.length by omega)
        obtain ⟨y, hy⟩ : ∃ y, l[j]? = some y := ⟨_, List.getElem?_eq_getElem (by omega)⟩
        have d0 := ((hat j y hy).bl hb).key
        have hyk := (HO.out.ents.ok y (List.mem_of_getElem? hy)).1
        have hlt := HL.out j y hy
        rw [← cmpS_lss] at hlt
        have hO := fun w => HC.out y.key w hyk
        generalize cmpS y.key (X5.key) = cv at *
        have HO2 := Lib.hid hO
        have hlt2 : decide (cv < 0) = false := by rw [hlt]; simp
        have hjl : (j : Int) < (l.length : Int) := by omega
        clear hy hyk hlt hO
        go_wp2_with fail
        refine (HO2.out _).mono ?_; rintro e w7 ⟨rfl, hdr⟩
        clear hbw d0
        have hr := HR.out.bl (Bl.of_dr hdr)
        have hbn := Bl.trans hb (Bl.of_dr hdr)
        clear hb
        have hb := hbn
        clear hbn
        clear HR hm
        have HR := Lib.hid hr
        
        have hm := hr
        simp only [Mem, VE, List.cons_append, List.nil_append, and_true] at hm
        clear hr
        clear hdr
        go_wp2_with fail
        have hxx := (hat j X5 X.out).bl hb
        obtain ⟨d0, d1, d2, d3⟩ := hxx
        have hql' : (j : Int) < (l.length : Int) := by omega
        have hqe : ((j : Int) == (l.length : Int)) = false := by rw [beq_eq_false_iff_ne]; omega
        have tn : ((j : Int) + 1).toNat = j + 1 := by omega
        have hj0 : (0 : Int) ≤ (j : Int) := by omega
        have hj1 : (0 : Int) ≤ (j : Int) + 1 := by omega
        have hw1 : IntKind.i64.wrap ((j : Int) + 1) = (j : Int) + 1 := IntWalk.i64_in _ (by omega)
        rcases FL.out with ⟨f1, y, f2, f3⟩ | ⟨f1, f3⟩
        all_goals
          injection f3 with f3 f4
          subst f3 f4
          rcases CE.out with ⟨g1, z, g2, g3⟩ | ⟨g1, g3⟩
          all_goals
            injection g3 with g3 g4
            subst g3 g4
            first
            | (obtain ⟨k0, k1, k2, k3⟩ := (hat _ _ f2).bl hb; clear f2)
            | skip
            first
            | (obtain ⟨m0, m1, m2, m3⟩ := (hat _ _ g2).bl hb; clear g2)
            | skip
            have p1 : ∀ s : ByteArray, (s.toList == s.toList) = true := fun s => by simp
            first
            | (have r1 : decide (0 < j) = true := by rw [decide_eq_true_iff]; exact f1)
            | (have r1 : decide (0 < j) = false := by rw [f1]; rfl)
            first
            | (have r2 : decide (j + 1 < l.length) = true := by rw [decide_eq_true_iff]; omega)
            | (have r2 : decide (j + 1 < l.length) = false := by rw [decide_eq_false_iff_not]; omega)
            first
            | (have q1 : decide ((0 : Int) < (j : Int)) = true := by rw [decide_eq_true_iff]; omega)
            | (have q1 : decide ((0 : Int) < (j : Int)) = false := by rw [f1]; rfl)
            first
            | (have q2 : decide ((j : Int) + 1 < (l.length : Int)) = true := by rw [decide_eq_true_iff]; omega
               have q2' : (j : Int) + 1 < (l.length : Int) := by omega)
            | (have q2 : decide ((j : Int) + 1 < (l.length : Int)) = false := by rw [decide_eq_false_iff_not]; omega)
            have q3 : 0 < j → IntKind.i64.wrap ((j : Int) - 1) = (j : Int) - 1 := fun _ => IntWalk.i64_in _ (by omega)
            have q4 : ((j : Int) - 1).toNat = j - 1 := by omega
            have q5 : (j : Int) - 1 < (l.length : Int) := by omega
            first
            | (have q6 : (0 : Int) ≤ (j : Int) - 1 := by omega
               have q7 : IntKind.i64.wrap ((j : Int) - 1) = (j : Int) - 1 := IntWalk.i64_in _ (by omega))
            | skip
            clear f1 g1 q3
            go_quiet (fail)
            go_wp2_with fail
            go_quiet (fail)
            go_wp2_with fail
            have hmz := fun z : BW w7 => HR.out.bl z.h
            simp only [Mem, VE, List.cons_append, List.nil_append, and_true] at hmz
            first
            | (have m0' := BW.cell m0; have m1' := BW.cell m1; have m2' := BW.cell m2; have m3' := BW.cell m3)
            | skip
            
            refine wp_region_quiet_bw w7 (by kernel_rfl) (by kernel_rfl) (by repeat (first | assumption | exact Bl.refl _ | apply Bl.drewN | apply Bl.drew | apply Bl.alloc | (refine Bl.dr ?_ (by assumption)) | (refine Bl.trans ?_ (by assumption)))) ?_
            repeat (go_big_quiet_step ((go_at_call 10; exact quietAwake _)))
            refine wpQuiet_nil ?_
            intro wq hw'
            have hwq : Bl w7 wq := by obtain ⟨x, hx⟩ := hw'; rw [hx]; exact x.h
            clear hw'
            have hb := hb.trans hwq
            clear hmz hm
            go_wp2_with fail
            go_ret
            exact RB.mk rfl hb
    · injection u1 with u1 v1; injection u2 with u2 v2; injection u3 with u3 v3
      subst u1 v1 u2 v2 u3 v3 hn
      have p1 : ∀ s : ByteArray, (s.toList == s.toList) = true := fun s => by simp
      have p2 : (e4 != e4) = false := by simp
      have p3 : (e5 != e5) = false := by simp
      go_wp2_with fail
      go_loopg [15] (n + 1) (fun g i wr => ∃ j : Nat, j ≤ n ∧ i = .int .i64 j ∧ Bl (w6.alloc (Obj.cells #[.string X5.key, .string X5.val, .bool X5.dead, .int .i64 X5.seq] 31)) wr ∧ g = n + 1 - j)
      case atStart => exact ⟨0, by omega, rfl, Bl.refl _, rfl⟩
      obtain ⟨j, hj, rfl, hbw, hg⟩ := hrel
      have G := Lib.hid hg
      have hr := HR.out.bl hbw
      have hbn := Bl.trans hb hbw
      clear hb
      have hb := hbn
      clear hbn
      clear HR hm
      have HR := Lib.hid hr
      
      have hm := hr
      simp only [Mem, VE, List.cons_append, List.nil_append, and_true] at hm
      clear hr
      clear hg
      by_cases hjq : j < n
      · obtain ⟨b, off, rfl, hat⟩ := HO.out.ents.get (show j < l.length by omega)
        obtain ⟨y, hy⟩ : ∃ y, l[j]? = some y := ⟨_, List.getElem?_eq_getElem (by omega)⟩
        have d0 := ((hat j y hy).bl hb).key
        have hyk := (HO.out.ents.ok y (List.mem_of_getElem? hy)).1
        have hlt := HL.out j y hy
        rw [← cmpS_lss] at hlt
        have hO := fun w => HC.out y.key w hyk
        generalize cmpS y.key (k) = cv at *
        have HO2 := Lib.hid hO
        have hlt2 : decide (cv < 0) = true := by rw [hlt]; simp [hjq]
        have hjl : (j : Int) < (l.length : Int) := by omega
        clear hat hy hyk hlt hO
        go_wp2_with fail
        refine (HO2.out _).mono ?_; rintro e w' ⟨rfl, n1, rfl⟩
        have hbw := hbw.trans (Bl.of_dr ⟨n1, rfl⟩)
        go_wp2_with fail
        go_roundg (n + 1 - (j + 1))
        case rel => exact ⟨j + 1, by omega, by go_num, hbw, rfl⟩
        case measure => rw [G.out]; omega
      · obtain rfl : j = n := by omega
        clear hjq
        rcases CE.out with ⟨g1, z, g2, g3⟩ | ⟨g1, g3⟩
        all_goals
          injection g3 with g3 g4
          subst g3 g4
        · obtain ⟨b, off, rfl, hat⟩ := HO.out.ents.get (show j < l.length by omega)
          obtain ⟨y, hy⟩ : ∃ y, l[j]? = some y := ⟨_, List.getElem?_eq_getElem (by omega)⟩
          have d0 := ((hat j y hy).bl hb).key
          have hyk := (HO.out.ents.ok y (List.mem_of_getElem? hy)).1
          have hlt := HL.out j y hy
          rw [← cmpS_lss] at hlt
          have hO := fun w => HC.out y.key w hyk
          generalize cmpS y.key (k) = cv at *
          have HO2 := Lib.hid hO
          have hlt2 : decide (cv < 0) = false := by rw [hlt]; simp
          have hjl : (j : Int) < (l.length : Int) := by omega
          clear hy hyk hlt hO
          go_wp2_with fail
          refine (HO2.out _).mono ?_; rintro e w7 ⟨rfl, hdr⟩
          clear hbw d0
          have hr := HR.out.bl (Bl.of_dr hdr)
          have hbn := Bl.trans hb (Bl.of_dr hdr)
          clear hb
          have hb := hbn
          clear hbn
          clear HR hm
          have HR := Lib.hid hr
          
          have hm := hr
          simp only [Mem, VE, List.cons_append, List.nil_append, and_true] at hm
          clear hr
          clear hdr
          go_wp2_with fail
          obtain ⟨d0, d1, d2, d3⟩ := (hat _ _ g2).bl hb
          rcases FL.out with ⟨f1, y, f2, f3⟩ | ⟨f1, f3⟩
          all_goals
            injection f3 with f3 f4
            subst f3 f4
            first
            | (obtain ⟨k0, k1, k2, k3⟩ := (hat _ _ f2).bl hb; clear f2)
            | skip
            first
            | (have r1 : decide (0 < j) = true := by rw [decide_eq_true_iff]; exact f1)
            | (have r1 : decide (0 < j) = false := by rw [f1]; rfl)
            first
            | (have r2 : decide (j < l.length) = true := by rw [decide_eq_true_iff]; omega)
            | (have r2 : decide (j < l.length) = false := by rw [decide_eq_false_iff_not]; omega)
            have q4 : ((j : Int) - 1).toNat = j - 1 := by omega
            have q5 : (j : Int) - 1 < (l.length : Int) := by omega
            first
            | (have q6 : (0 : Int) ≤ (j : Int) - 1 := by omega
               have q7 : IntKind.i64.wrap ((j : Int) - 1) = (j : Int) - 1 := IntWalk.i64_in _ (by omega))
            | skip
            have hj0 : (0 : Int) ≤ (j : Int) := by omega
            clear f1 g1
          · go_quiet (fail)
            go_wp2_with fail
            have hmz := fun z : BW w7 => HR.out.bl z.h
            simp only [Mem, VE, List.cons_append, List.nil_append, and_true] at hmz
            first
            | (have d0' := BW.cell d0; have d1' := BW.cell d1; have d2' := BW.cell d2; have d3' := BW.cell d3)
            | skip
            
            refine wp_region_quiet_bw w7 (by kernel_rfl) (by kernel_rfl) (by repeat (first | assumption | exact Bl.refl _ | apply Bl.drewN | apply Bl.drew | apply Bl.alloc | (refine Bl.dr ?_ (by assumption)) | (refine Bl.trans ?_ (by assumption)))) ?_
            repeat (go_big_quiet_step ((go_at_call 10; exact quietAwake _)))
            refine wpQuiet_nil ?_
            intro wq hw'
            have hwq : Bl w7 wq := by obtain ⟨x, hx⟩ := hw'; rw [hx]; exact x.h
            clear hw'
            have hb := hb.trans hwq
            clear hmz hm
            go_wp2_with fail
            go_ret
            exact RB.mk rfl hb
          · go_quiet (fail)
            go_wp2_with fail
            have hmz := fun z : BW w7 => HR.out.bl z.h
            simp only [Mem, VE, List.cons_append, List.nil_append, and_true] at hmz
            first
            | (have d0' := BW.cell d0; have d1' := BW.cell d1; have d2' := BW.cell d2; have d3' := BW.cell d3)
            | skip
            
            refine wp_region_quiet_bw w7 (by kernel_rfl) (by kernel_rfl) (by repeat (first | assumption | exact Bl.refl _ | apply Bl.drewN | apply Bl.drew | apply Bl.alloc | (refine Bl.dr ?_ (by assumption)) | (refine Bl.trans ?_ (by assumption)))) ?_
            repeat (go_big_quiet_step ((go_at_call 10; exact quietAwake _)))
            refine wpQuiet_nil ?_
            intro wq hw'
            have hwq : Bl w7 wq := by obtain ⟨x, hx⟩ := hw'; rw [hx]; exact x.h
            clear hw'
            have hb := hb.trans hwq
            clear hmz hm
            go_wp2_with fail
            go_ret
            exact RB.mk rfl hb
        · have hjl : ¬ j < l.length := by omega
          rcases FL.out with ⟨f1, y, f2, f3⟩ | ⟨f1, f3⟩
          all_goals
            injection f3 with f3 f4
            subst f3 f4
          · obtain ⟨b, off, rfl, hat⟩ := HO.out.ents.get (show j - 1 < l.length by omega)
            obtain ⟨k0, k1, k2, k3⟩ := (hat _ _ f2).bl hb
            clear hbw
            first
            | (have r1 : decide (0 < j) = true := by rw [decide_eq_true_iff]; exact f1)
            | (have r1 : decide (0 < j) = false := by rw [f1]; rfl)
            first
            | (have r2 : decide (j < l.length) = true := by rw [decide_eq_true_iff]; omega)
            | (have r2 : decide (j < l.length) = false := by rw [decide_eq_false_iff_not]; omega)
            have q4 : ((j : Int) - 1).toNat = j - 1 := by omega
            have q5 : (j : Int) - 1 < (l.length : Int) := by omega
            first
            | (have q6 : (0 : Int) ≤ (j : Int) - 1 := by omega
               have q7 : IntKind.i64.wrap ((j : Int) - 1) = (j : Int) - 1 := IntWalk.i64_in _ (by omega))
            | skip
            have hj0 : (0 : Int) ≤ (j : Int) := by omega
            clear f1 g1
            go_wp2_with fail
            go_quiet (fail)
            go_wp2_with fail
            have hmz := fun z : BW wr => HR.out.bl z.h
            simp only [Mem, VE, List.cons_append, List.nil_append, and_true] at hmz
            first
            | (have d0' := BW.cell d0; have d1' := BW.cell d1; have d2' := BW.cell d2; have d3' := BW.cell d3)
            | skip
            
            refine wp_region_quiet_bw wr (by kernel_rfl) (by kernel_rfl) (by repeat (first | assumption | exact Bl.refl _ | apply Bl.drewN | apply Bl.drew | apply Bl.alloc | (refine Bl.dr ?_ (by assumption)) | (refine Bl.trans ?_ (by assumption)))) ?_
            repeat (go_big_quiet_step ((go_at_call 10; exact quietAwake _)))
            refine wpQuiet_nil ?_
            intro wq hw'
            have hwq : Bl wr wq := by obtain ⟨x, hx⟩ := hw'; rw [hx]; exact x.h
            clear hw'
            have hb := hb.trans hwq
            clear hmz hm
            go_wp2_with fail
            go_ret
            exact RB.mk rfl hb
          · first
            | (have r1 : decide (0 < j) = true := by rw [decide_eq_true_iff]; exact f1)
            | (have r1 : decide (0 < j) = false := by rw [f1]; rfl)
            first
            | (have r2 : decide (j < l.length) = true := by rw [decide_eq_true_iff]; omega)
            | (have r2 : decide (j < l.length) = false := by rw [decide_eq_false_iff_not]; omega)
            have q4 : ((j : Int) - 1).toNat = j - 1 := by omega
            have q5 : (j : Int) - 1 < (l.length : Int) := by omega
            first
            | (have q6 : (0 : Int) ≤ (j : Int) - 1 := by omega
               have q7 : IntKind.i64.wrap ((j : Int) - 1) = (j : Int) - 1 := IntWalk.i64_in _ (by omega))
            | skip
            have hj0 : (0 : Int) ≤ (j : Int) := by omega
            clear f1 g1
            clear hbw
            go_wp2_with fail
            go_quiet (fail)
            go_wp2_with fail
            have hmz := fun z : BW wr => HR.out.bl z.h
            simp only [Mem, VE, List.cons_append, List.nil_append, and_true] at hmz
            first
            | (have d0' := BW.cell d0; have d1' := BW.cell d1; have d2' := BW.cell d2; have d3' := BW.cell d3)
            | skip
            
            refine wp_region_quiet_bw wr (by kernel_rfl) (by kernel_rfl) (by repeat (first | assumption | exact Bl.refl _ | apply Bl.drewN | apply Bl.drew | apply Bl.alloc | (refine Bl.dr ?_ (by assumption)) | (refine Bl.trans ?_ (by assumption)))) ?_
            repeat (go_big_quiet_step ((go_at_call 10; exact quietAwake _)))
            refine wpQuiet_nil ?_
            intro wq hw'
            have hwq : Bl wr wq := by obtain ⟨x, hx⟩ := hw'; rw [hx]; exact x.h
            clear hw'
            have hb := hb.trans hwq
            clear hmz hm
            go_wp2_with fail
            go_ret
            exact RB.mk rfl hb
  · obtain ⟨u1, u2, u3, u4, u5⟩ := HE.out hq
    injection u1 with u1 v1; injection u2 with u2 v2; injection u3 with u3 v3; injection u4 with u4 v4; injection u5 with u5 v5
    subst u1 v1 u2 v2 u3 v3 u4 v4 u5 v5
    have z1 : (e5 != 0) = true := by simp [hq]
    have z2 : (e5 != 4) = true := by simp [HF.out]
    have z3 : (e5 == e5) = true := by simp
    clear hq
    go_wp2_with fail
    refine (HA.out _).mono ?_; rintro e w10 ⟨rfl, hb1⟩
    have hb := hb.trans hb1
    clear hb1
    go_wp2_with fail
    go_ret
    exact RB.mk rfl hb
end Go.Proofs.Ytndcjgkgkpkklaa

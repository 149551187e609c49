
/-
  Contracts of the reference's Get, Floor and Ceiling of a run.
-/
import Derived.Test.YtndcjgkgkpkklaaRnB
import Derived.IntWalk
namespace Go.Proofs.Ytndcjgkgkpkklaa
open Go.RowKit
set_option linter.unusedSimpArgs false
set_option linter.unusedVariables false
set_option maxRecDepth 100000

/-- A run's own cells and the result's, in a loop. -/
structure RC (w wr : World) (a : Option Addr) (n c : Nat) : Prop where
  c1 : wr.cell? ⟨w.heap.size, 1, none⟩ = some (.slice a n c)
  z0 : wr.cell? ⟨w.heap.size + 1, 0, none⟩ = some (.string ⟨#[]⟩)
  z1 : wr.cell? ⟨w.heap.size + 1, 1, none⟩ = some (.string ⟨#[]⟩)
  z2 : wr.cell? ⟨w.heap.size + 1, 2, none⟩ = some (.bool false)
  z3 : wr.cell? ⟨w.heap.size + 1, 3, none⟩ = some (.int .i64 0)
  y0 : wr.frozen? ⟨w.heap.size + 1, 0, none⟩ = false
  y1 : wr.frozen? ⟨w.heap.size + 1, 1, none⟩ = false
  y2 : wr.frozen? ⟨w.heap.size + 1, 2, none⟩ = false
  y3 : wr.frozen? ⟨w.heap.size + 1, 3, none⟩ = false
  hb : Bl w wr
theorem RC.bl {w wr wq : World} {a : Option Addr} {n c : Nat} (h : RC w wr a n c) (k : Bl wr wq) : RC w wq a n c :=
  ⟨k.cell h.c1, k.cell h.z0, k.cell h.z1, k.cell h.z2, k.cell h.z3, k.frozen h.z0 h.y0, k.frozen h.z1 h.y1, k.frozen h.z2 h.y2, k.frozen h.z3 h.y3, h.hb.trans k⟩
theorem cmp3 (a b : ByteArray) : (cmpS a b = -1 ∧ slt a b = true ∧ (a.toList == b.toList) = false ∧ slt b a = false) ∨ (cmpS a b = 0 ∧ slt a b = false ∧ (a.toList == b.toList) = true ∧ slt b a = false) ∨ (cmpS a b = 1 ∧ slt a b = false ∧ (a.toList == b.toList) = false ∧ slt b a = true) := by
  unfold cmpS
  cases h : slt a b
  · by_cases e : a.toList = b.toList
    · have := str_ext e; subst this
      right; left; simp [h]
    · right; right
      have h2 : slt b a = true := by
        cases h2 : slt b a
        · exact absurd (by rw [slt_tri h h2]) e
        · rfl
      simp [e, h2]
  · left
    have h3 := slt_asymm h
    have e : (a.toList == b.toList) = false := by
      rw [beq_eq_false_iff_ne]; intro hh; have := str_ext hh; subst this; rw [slt_irrefl] at h; cases h
    exact ⟨by simp, rfl, e, h3⟩


set_option maxHeartbeats 2000000 in
theorem refRunGet (a : Option Addr) (c : Nat) (r : Rn) (k : ByteArray) (w : World) (h : ROk w a c r) (hk : k.size ≤ maxLen) :
    Calls Try.prog 14 #[r.v a c, .string k] w (RB w (.tuple #[(rget r k).1.v, .int .i64 (rget r k).2])) := by
  have hA := fun w h => refRunAsked a c r k w h hk
  unfold rget
  by_cases e : rask r k = 0
  · rw [if_neg (by simp [e])]
    obtain ⟨o1, o2⟩ := rask_ok e
    obtain ⟨-, -, o3, o4, -, o5⟩ := rck_ok o1
    rw [e] at hA
    have hq := cntLtE_le r.es k
    have hke := fun (j : Nat) x (hx : r.es[j]? = some x) => key_eq o5 hx (k := k)
    have hkl := @hasK_lt r.es k
    generalize cntLtE r.es k = q at *
    generalize hasK r.es k = is at *
    have HA := Lib.hid hA
    have HO := Lib.hid h
    have HK := Lib.hid hke
    obtain ⟨id, l⟩ := r
    unfold Rn.v
    simp only at hq o4 hkl ⊢
    clear hA h hke o1 o2 o3 o5 e
    obtain ⟨res, hres⟩ : ∃ res, (if is = true then atE l (q : Int) else (ent0, 4)) = res := ⟨_, rfl⟩
    rw [hres]
    have HR := Lib.hid hres
    clear hres
    obtain ⟨lim, hlim⟩ : ∃ lim, lim = if is = true then q else l.length := ⟨_, rfl⟩
    have hl1 : lim ≤ l.length := by rw [hlim]; split <;> omega
    have HL := Lib.hid hlim
    have HKL := Lib.hid hkl
    clear hlim hkl
    go_enter Try.func14, Try.ntmps14
    go_wp2_with fail
    refine (HA.out _ (HO.out.bl (by repeat (first | assumption | exact Bl.refl _ | apply Bl.drewN | apply Bl.drew | apply Bl.alloc | (refine Bl.dr ?_ (by assumption)) | (refine Bl.trans ?_ (by assumption)))))).mono ?_; rintro e w1 ⟨rfl, hb1⟩
    
    have c1 : World.cell? w1 ⟨w.heap.size, 1, none⟩ = some (.slice a l.length c) := hb1.cell (by simp [go_sem])
    have z0 : World.cell? w1 ⟨w.heap.size + 1, 0, none⟩ = some (.string ⟨#[]⟩) := hb1.cell (by simp [go_sem])
    have z1 : World.cell? w1 ⟨w.heap.size + 1, 1, none⟩ = some (.string ⟨#[]⟩) := hb1.cell (by simp [go_sem])
    have z2 : World.cell? w1 ⟨w.heap.size + 1, 2, none⟩ = some (.bool false) := hb1.cell (by simp [go_sem])
    have z3 : World.cell? w1 ⟨w.heap.size + 1, 3, none⟩ = some (.int .i64 0) := hb1.cell (by simp [go_sem])
    have y0 : World.frozen? w1 ⟨w.heap.size + 1, 0, none⟩ = false := hb1.frozen (by simp [go_sem]; rfl) (by simp [go_sem])
    have y1 : World.frozen? w1 ⟨w.heap.size + 1, 1, none⟩ = false := hb1.frozen (by simp [go_sem]; rfl) (by simp [go_sem])
    have y2 : World.frozen? w1 ⟨w.heap.size + 1, 2, none⟩ = false := hb1.frozen (by simp [go_sem]; rfl) (by simp [go_sem])
    have y3 : World.frozen? w1 ⟨w.heap.size + 1, 3, none⟩ = false := hb1.frozen (by simp [go_sem]; rfl) (by simp [go_sem])
    have hb : Bl w w1 := (by repeat (first | assumption | exact Bl.refl _ | apply Bl.drewN | apply Bl.drew | apply Bl.alloc | (refine Bl.dr ?_ (by assumption)) | (refine Bl.trans ?_ (by assumption))))
    clear hb1
    go_wp2_with fail
    go_loopg [7] l.length (fun g i wr => ∃ n : Nat, n ≤ lim ∧ i = .int .i64 n ∧ RC w wr a l.length c ∧ g = l.length - n)
    case atStart => exact ⟨0, by omega, rfl, ⟨c1, z0, z1, z2, z3, y0, y1, y2, y3, hb⟩, rfl⟩
    case round =>
      clear c1 z0 z1 z2 z3 y0 y1 y2 y3 hb
      obtain ⟨n, hn1, rfl, hrc, hg⟩ := hrel
      obtain ⟨c1, z0, z1, z2, z3, y0, y1, y2, y3, hb⟩ := hrc
      have G := Lib.hid hg
      clear hg
      by_cases h1 : n < l.length
      · obtain ⟨b, off, rfl, hat⟩ := HO.out.ents.get h1
        obtain ⟨x, hx⟩ : ∃ x, l[n]? = some x := ⟨_, List.getElem?_eq_getElem h1⟩
        have X := Lib.hid hx
        have hs := HK.out n x hx
        obtain ⟨d0, d1, d2, d3⟩ := (hat n x hx).bl hb
        clear hx hat
        by_cases hf : n = q ∧ is = true
        · obtain ⟨rfl, rfl⟩ := hf
          simp only [decide_true, Bool.and_true] at hs
          have hr := HR.out
          rw [if_pos rfl, atE_some X.out] at hr
          subst hr
          obtain ⟨kk, vv, dd, ss⟩ := x
          unfold Ent.v
          simp only at d0 d1 d2 d3 hs ⊢
          go_wp2_with fail
          
          refine bodyPost_ret (v := .tuple #[.agg #[.string kk, .string vv, .bool dd, .int .i64 ss], .int .i64 0]) (by simp [results, Try.results14, go_sem, *]) rfl ?_
          exact RB.mk rfl (by repeat (first | assumption | exact Bl.refl _ | apply Bl.drewN | apply Bl.drew | apply Bl.alloc | (refine Bl.setCell ?_ _ (by first | (simp; done) | (simp; omega)) _) | (refine Bl.dr ?_ (by assumption)) | (refine Bl.trans ?_ (by assumption))))
        · have hs : (x.key.toList == k.toList) = false := by
            rw [hs]
            cases is
            · simp
            · simp; intro e; exact hf ⟨e, rfl⟩
          have hn2 : n + 1 ≤ lim := by
            rw [HL.out] at hn1 ⊢
            split at hn1
            · rename_i hi
              rw [if_pos hi]
              have : n ≠ q := fun e => hf ⟨e, hi⟩
              omega
            · rename_i hi
              rw [if_neg hi]; omega
          have HN := Lib.hid hf
          clear hf
          go_wp2_with fail
          go_roundg (l.length - (n + 1))
          case rel => exact ⟨n + 1, by omega, by go_num, ⟨c1, z0, z1, z2, z3, y0, y1, y2, y3, (by repeat (first | assumption | exact Bl.refl _ | apply Bl.drewN | apply Bl.drew | apply Bl.alloc | (refine Bl.dr ?_ (by assumption)) | (refine Bl.trans ?_ (by assumption))))⟩, rfl⟩
          case measure => rw [G.out]; omega
      · cases is
        · have hr := HR.out
          rw [if_neg (by simp)] at hr
          subst hr
          unfold Ent.v ent0
          go_wp2_with fail
          
          refine bodyPost_ret (v := .tuple #[.agg #[.string ⟨#[]⟩, .string ⟨#[]⟩, .bool false, .int .i64 0], .int .i64 4]) (by simp [results, Try.results14, go_sem, *]) rfl ?_
          exact RB.mk rfl (by repeat (first | assumption | exact Bl.refl _ | apply Bl.drewN | apply Bl.drew | apply Bl.alloc | (refine Bl.setCell ?_ _ (by first | (simp; done) | (simp; omega)) _) | (refine Bl.dr ?_ (by assumption)) | (refine Bl.trans ?_ (by assumption))))
        · exfalso
          have := HKL.out rfl
          have := HL.out
          rw [if_pos rfl] at this
          omega
  · rw [if_pos e]
    have e' : (rask r k != 0) = true := by simp [e]
    generalize rask r k = q at *
    have HA := Lib.hid hA
    have HO := Lib.hid h
    obtain ⟨id, l⟩ := r
    unfold Rn.v Ent.v ent0
    simp only
    clear hA h e
    go_enter Try.func14, Try.ntmps14
    go_wp2_with fail
    refine (HA.out _ (HO.out.bl (by repeat (first | assumption | exact Bl.refl _ | apply Bl.drewN | apply Bl.drew | apply Bl.alloc | (refine Bl.dr ?_ (by assumption)) | (refine Bl.trans ?_ (by assumption)))))).mono ?_; rintro e w1 ⟨rfl, hb1⟩
    
    have c1 : World.cell? w1 ⟨w.heap.size, 1, none⟩ = some (.slice a l.length c) := hb1.cell (by simp [go_sem])
    have z0 : World.cell? w1 ⟨w.heap.size + 1, 0, none⟩ = some (.string ⟨#[]⟩) := hb1.cell (by simp [go_sem])
    have z1 : World.cell? w1 ⟨w.heap.size + 1, 1, none⟩ = some (.string ⟨#[]⟩) := hb1.cell (by simp [go_sem])
    have z2 : World.cell? w1 ⟨w.heap.size + 1, 2, none⟩ = some (.bool false) := hb1.cell (by simp [go_sem])
    have z3 : World.cell? w1 ⟨w.heap.size + 1, 3, none⟩ = some (.int .i64 0) := hb1.cell (by simp [go_sem])
    have y0 : World.frozen? w1 ⟨w.heap.size + 1, 0, none⟩ = false := hb1.frozen (by simp [go_sem]; rfl) (by simp [go_sem])
    have y1 : World.frozen? w1 ⟨w.heap.size + 1, 1, none⟩ = false := hb1.frozen (by simp [go_sem]; rfl) (by simp [go_sem])
    have y2 : World.frozen? w1 ⟨w.heap.size + 1, 2, none⟩ = false := hb1.frozen (by simp [go_sem]; rfl) (by simp [go_sem])
    have y3 : World.frozen? w1 ⟨w.heap.size + 1, 3, none⟩ = false := hb1.frozen (by simp [go_sem]; rfl) (by simp [go_sem])
    have hb : Bl w w1 := (by repeat (first | assumption | exact Bl.refl _ | apply Bl.drewN | apply Bl.drew | apply Bl.alloc | (refine Bl.dr ?_ (by assumption)) | (refine Bl.trans ?_ (by assumption))))
    clear hb1
    go_wp2_with fail
    
    refine bodyPost_ret (v := .tuple #[.agg #[.string ⟨#[]⟩, .string ⟨#[]⟩, .bool false, .int .i64 0], .int .i64 q]) (by simp [results, Try.results14, go_sem, *]) rfl ?_
    exact RB.mk rfl (by repeat (first | assumption | exact Bl.refl _ | apply Bl.drewN | apply Bl.drew | apply Bl.alloc | (refine Bl.setCell ?_ _ (by first | (simp; done) | (simp; omega)) _) | (refine Bl.dr ?_ (by assumption)) | (refine Bl.trans ?_ (by assumption))))

set_option maxHeartbeats 4000000 in
theorem refRunCeiling (a : Option Addr) (c : Nat) (r : Rn) (k : ByteArray) (s : Bool) (w : World) (h : ROk w a c r) (hk : k.size ≤ maxLen) :
    Calls Try.prog 18 #[r.v a c, .string k, .bool s] w (RB w (.tuple #[(rcei r k s).1.v, .int .i64 (rcei r k s).2])) := by
  have hA := fun w h => refRunAsked a c r k w h hk
  rw [rcei_at]
  by_cases e : rask r k = 0
  · rw [if_neg (by simp [e])]
    obtain ⟨o1, o2⟩ := rask_ok e
    obtain ⟨-, -, o3, o4, -, o5⟩ := rck_ok o1
    rw [e] at hA
    have hq := ceN_le r.es k s
    have hke := fun (j : Nat) x (hx : r.es[j]? = some x) => ce_cond o5 s hx (k := k)
    have hO := fun (t : ByteArray) w (ht : t.size ≤ maxLen) => refOrder t k w ht hk
    generalize ceN r.es k s = q at *
    have HA := Lib.hid hA
    have HO := Lib.hid h
    have HK := Lib.hid hke
    have HC := Lib.hid hO
    obtain ⟨id, l⟩ := r
    unfold Rn.v
    simp only at hq o4 ⊢
    clear hA h hke hO o1 o2 o3 o5 e
    obtain ⟨res, hres⟩ : ∃ res, atE l ((q : Int)) = res := ⟨_, rfl⟩
    rw [hres]
    have HR := Lib.hid hres
    clear hres
    go_enter Try.func18, Try.ntmps18
    go_wp2_with fail
    refine (HA.out _ (HO.out.bl (by repeat (first | assumption | exact Bl.refl _ | apply Bl.drewN | apply Bl.drew | apply Bl.alloc | (refine Bl.dr ?_ (by assumption)) | (refine Bl.trans ?_ (by assumption)))))).mono ?_; rintro e w1 ⟨rfl, hb1⟩
    
    have c1 : World.cell? w1 ⟨w.heap.size, 1, none⟩ = some (.slice a l.length c) := hb1.cell (by simp [go_sem])
    have z0 : World.cell? w1 ⟨w.heap.size + 1, 0, none⟩ = some (.string ⟨#[]⟩) := hb1.cell (by simp [go_sem])
    have z1 : World.cell? w1 ⟨w.heap.size + 1, 1, none⟩ = some (.string ⟨#[]⟩) := hb1.cell (by simp [go_sem])
    have z2 : World.cell? w1 ⟨w.heap.size + 1, 2, none⟩ = some (.bool false) := hb1.cell (by simp [go_sem])
    have z3 : World.cell? w1 ⟨w.heap.size + 1, 3, none⟩ = some (.int .i64 0) := hb1.cell (by simp [go_sem])
    have y0 : World.frozen? w1 ⟨w.heap.size + 1, 0, none⟩ = false := hb1.frozen (by simp [go_sem]; rfl) (by simp [go_sem])
    have y1 : World.frozen? w1 ⟨w.heap.size + 1, 1, none⟩ = false := hb1.frozen (by simp [go_sem]; rfl) (by simp [go_sem])
    have y2 : World.frozen? w1 ⟨w.heap.size + 1, 2, none⟩ = false := hb1.frozen (by simp [go_sem]; rfl) (by simp [go_sem])
    have y3 : World.frozen? w1 ⟨w.heap.size + 1, 3, none⟩ = false := hb1.frozen (by simp [go_sem]; rfl) (by simp [go_sem])
    have hb : Bl w w1 := (by repeat (first | assumption | exact Bl.refl _ | apply Bl.drewN | apply Bl.drew | apply Bl.alloc | (refine Bl.dr ?_ (by assumption)) | (refine Bl.trans ?_ (by assumption))))
    clear hb1
    go_wp2_with fail
    go_loopg [9, 10] l.length (fun g i z wr => ∃ n : Nat, n ≤ q ∧ i = .int .i64 n ∧ RC w wr a l.length c ∧ g = l.length - n)
    case atStart => exact ⟨0, by omega, rfl, ⟨c1, z0, z1, z2, z3, y0, y1, y2, y3, hb⟩, rfl⟩
    case round =>
      clear c1 z0 z1 z2 z3 y0 y1 y2 y3 hb
      obtain ⟨n, hn1, rfl, hrc, hg⟩ := hrel
      have HRC := Lib.hid hrc
      obtain ⟨c1, z0, z1, z2, z3, y0, y1, y2, y3, hb⟩ := hrc
      have G := Lib.hid hg
      clear hg
      by_cases h1 : n < l.length
      · obtain ⟨b, off, rfl, hat⟩ := HO.out.ents.get h1
        obtain ⟨x, hx⟩ : ∃ x, l[n]? = some x := ⟨_, List.getElem?_eq_getElem h1⟩
        have X := Lib.hid hx
        have hs := HK.out n x hx
        obtain ⟨d0, d1, d2, d3⟩ := (hat n x hx).bl hb
        have hxk := (HO.out.ents.ok x (List.mem_of_getElem? hx)).1
        have hO := fun w => HC.out x.key w hxk
        clear hx hat hxk
        have hfound : q ≤ n → (x, (0 : Int)) = res := by
          intro hh
          have : q = n := by omega
          subst this
          rw [← HR.out, atE_some X.out]
        have HF := Lib.hid hfound
        clear hfound
        rcases cmp3 x.key k with ⟨e1, e2, e3, e4⟩ | ⟨e1, e2, e3, e4⟩ | ⟨e1, e2, e3, e4⟩
        all_goals
          rw [e1] at hO
          rw [e3, e4] at hs
          have HO2 := Lib.hid hO
          clear e1 e2 e3 e4 hO
        · have hn2 : ¬ q ≤ n := by simpa using hs
          clear hs
          go_wp2_with fail
          refine (HO2.out _).mono ?_; rintro e w' ⟨rfl, n1, rfl⟩
          have hrc := HRC.out.bl (Bl.of_dr ⟨n1, rfl⟩)
          have HRC := Lib.hid hrc
          clear hrc
          go_wp2_with fail
          go_roundg (l.length - (n + 1))
          case rel => exact ⟨n + 1, by omega, by go_num, HRC.out, rfl⟩
          case measure => rw [G.out]; omega
        · cases s
          · have hn2 : q ≤ n := by simpa using hs
            clear hs
            have hr := HF.out hn2
            subst hr
            obtain ⟨kk, vv, dd, ss⟩ := x
            unfold Ent.v
            simp only at d0 d1 d2 d3 ⊢
            go_wp2_with fail
            refine (HO2.out _).mono ?_; rintro e w' ⟨rfl, n1, rfl⟩
            go_wp2_with fail
            
            refine bodyPost_ret (v := .tuple #[.agg #[.string kk, .string vv, .bool dd, .int .i64 ss], .int .i64 0]) (by simp [results, Try.results18, go_sem, *]) rfl ?_
            exact RB.mk rfl (by repeat (first | assumption | exact Bl.refl _ | apply Bl.drewN | apply Bl.drew | apply Bl.alloc | (refine Bl.setCell ?_ _ (by first | (simp; done) | (simp; omega)) _) | (refine Bl.dr ?_ (by assumption)) | (refine Bl.trans ?_ (by assumption))))
          · have hn2 : ¬ q ≤ n := by simpa using hs
            clear hs
            go_wp2_with fail
            refine (HO2.out _).mono ?_; rintro e w' ⟨rfl, n1, rfl⟩
            have hrc := HRC.out.bl (Bl.of_dr ⟨n1, rfl⟩)
            have HRC := Lib.hid hrc
            clear hrc
            go_wp2_with fail
            go_roundg (l.length - (n + 1))
            case rel => exact ⟨n + 1, by omega, by go_num, HRC.out, rfl⟩
            case measure => rw [G.out]; omega
        · have hn2 : q ≤ n := by simpa using hs
          clear hs
          have hr := HF.out hn2
          subst hr
          obtain ⟨kk, vv, dd, ss⟩ := x
          unfold Ent.v
          simp only at d0 d1 d2 d3 ⊢
          go_wp2_with fail
          refine (HO2.out _).mono ?_; rintro e w' ⟨rfl, n1, rfl⟩
          go_wp2_with fail
          
          refine bodyPost_ret (v := .tuple #[.agg #[.string kk, .string vv, .bool dd, .int .i64 ss], .int .i64 0]) (by simp [results, Try.results18, go_sem, *]) rfl ?_
          exact RB.mk rfl (by repeat (first | assumption | exact Bl.refl _ | apply Bl.drewN | apply Bl.drew | apply Bl.alloc | (refine Bl.setCell ?_ _ (by first | (simp; done) | (simp; omega)) _) | (refine Bl.dr ?_ (by assumption)) | (refine Bl.trans ?_ (by assumption))))
      · have hr := HR.out
        rw [atE_none (.inr (by omega))] at hr
        subst hr
        unfold Ent.v ent0
        go_wp2_with fail
        
        refine bodyPost_ret (v := .tuple #[.agg #[.string ⟨#[]⟩, .string ⟨#[]⟩, .bool false, .int .i64 0], .int .i64 4]) (by simp [results, Try.results18, go_sem, *]) rfl ?_
        exact RB.mk rfl (by repeat (first | assumption | exact Bl.refl _ | apply Bl.drewN | apply Bl.drew | apply Bl.alloc | (refine Bl.setCell ?_ _ (by first | (simp; done) | (simp; omega)) _) | (refine Bl.dr ?_ (by assumption)) | (refine Bl.trans ?_ (by assumption))))
  · rw [if_pos e]
    have e' : (rask r k != 0) = true := by simp [e]
    generalize rask r k = q at *
    have HA := Lib.hid hA
    have HO := Lib.hid h
    obtain ⟨id, l⟩ := r
    unfold Rn.v Ent.v ent0
    simp only
    clear hA h e
    go_enter Try.func18, Try.ntmps18
    go_wp2_with fail
    refine (HA.out _ (HO.out.bl (by repeat (first | assumption | exact Bl.refl _ | apply Bl.drewN | apply Bl.drew | apply Bl.alloc | (refine Bl.dr ?_ (by assumption)) | (refine Bl.trans ?_ (by assumption)))))).mono ?_; rintro e w1 ⟨rfl, hb1⟩
    
    have c1 : World.cell? w1 ⟨w.heap.size, 1, none⟩ = some (.slice a l.length c) := hb1.cell (by simp [go_sem])
    have z0 : World.cell? w1 ⟨w.heap.size + 1, 0, none⟩ = some (.string ⟨#[]⟩) := hb1.cell (by simp [go_sem])
    have z1 : World.cell? w1 ⟨w.heap.size + 1, 1, none⟩ = some (.string ⟨#[]⟩) := hb1.cell (by simp [go_sem])
    have z2 : World.cell? w1 ⟨w.heap.size + 1, 2, none⟩ = some (.bool false) := hb1.cell (by simp [go_sem])
    have z3 : World.cell? w1 ⟨w.heap.size + 1, 3, none⟩ = some (.int .i64 0) := hb1.cell (by simp [go_sem])
    have y0 : World.frozen? w1 ⟨w.heap.size + 1, 0, none⟩ = false := hb1.frozen (by simp [go_sem]; rfl) (by simp [go_sem])
    have y1 : World.frozen? w1 ⟨w.heap.size + 1, 1, none⟩ = false := hb1.frozen (by simp [go_sem]; rfl) (by simp [go_sem])
    have y2 : World.frozen? w1 ⟨w.heap.size + 1, 2, none⟩ = false := hb1.frozen (by simp [go_sem]; rfl) (by simp [go_sem])
    have y3 : World.frozen? w1 ⟨w.heap.size + 1, 3, none⟩ = false := hb1.frozen (by simp [go_sem]; rfl) (by simp [go_sem])
    have hb : Bl w w1 := (by repeat (first | assumption | exact Bl.refl _ | apply Bl.drewN | apply Bl.drew | apply Bl.alloc | (refine Bl.dr ?_ (by assumption)) | (refine Bl.trans ?_ (by assumption))))
    clear hb1
    go_wp2_with fail
    
    refine bodyPost_ret (v := .tuple #[.agg #[.string ⟨#[]⟩, .string ⟨#[]⟩, .bool false, .int .i64 0], .int .i64 q]) (by simp [results, Try.results18, go_sem, *]) rfl ?_
    exact RB.mk rfl (by repeat (first | assumption | exact Bl.refl _ | apply Bl.drewN | apply Bl.drew | apply Bl.alloc | (refine Bl.setCell ?_ _ (by first | (simp; done) | (simp; omega)) _) | (refine Bl.dr ?_ (by assumption)) | (refine Bl.trans ?_ (by assumption))))

set_option maxHeartbeats 4000000 in
theorem refRunFloor (a : Option Addr) (c : Nat) (r : Rn) (k : ByteArray) (s : Bool) (w : World) (h : ROk w a c r) (hk : k.size ≤ maxLen) :
    Calls Try.prog 16 #[r.v a c, .string k, .bool s] w (RB w (.tuple #[(rflo r k s).1.v, .int .i64 (rflo r k s).2])) := by
  have hA := fun w h => refRunAsked a c r k w h hk
  rw [rflo_at]
  by_cases e : rask r k = 0
  · rw [if_neg (by simp [e])]
    obtain ⟨o1, o2⟩ := rask_ok e
    obtain ⟨-, -, o3, o4, -, o5⟩ := rck_ok o1
    rw [e] at hA
    have hq := flN_le r.es k s
    have hke := fun (j : Nat) x (hx : r.es[j]? = some x) => fl_cond o5 s hx (k := k)
    have hO := fun (t : ByteArray) w (ht : t.size ≤ maxLen) => refOrder t k w ht hk
    generalize flN r.es k s = q at *
    have HA := Lib.hid hA
    have HO := Lib.hid h
    have HK := Lib.hid hke
    have HC := Lib.hid hO
    obtain ⟨id, l⟩ := r
    unfold Rn.v
    simp only at hq o4 ⊢
    clear hA h hke hO o1 o2 o3 o5 e
    obtain ⟨res, hres⟩ : ∃ res, atE l ((q : Int) - 1) = res := ⟨_, rfl⟩
    rw [hres]
    have HR := Lib.hid hres
    clear hres
    have hst : IntKind.i64.wrap ((l.length : Int) - 1) = (l.length : Int) - 1 := IntWalk.i64_in _ (by omega)
    go_enter Try.func16, Try.ntmps16
    go_wp2_with fail
    refine (HA.out _ (HO.out.bl (by repeat (first | assumption | exact Bl.refl _ | apply Bl.drewN | apply Bl.drew | apply Bl.alloc | (refine Bl.dr ?_ (by assumption)) | (refine Bl.trans ?_ (by assumption)))))).mono ?_; rintro e w1 ⟨rfl, hb1⟩
    
    have c1 : World.cell? w1 ⟨w.heap.size, 1, none⟩ = some (.slice a l.length c) := hb1.cell (by simp [go_sem])
    have z0 : World.cell? w1 ⟨w.heap.size + 1, 0, none⟩ = some (.string ⟨#[]⟩) := hb1.cell (by simp [go_sem])
    have z1 : World.cell? w1 ⟨w.heap.size + 1, 1, none⟩ = some (.string ⟨#[]⟩) := hb1.cell (by simp [go_sem])
    have z2 : World.cell? w1 ⟨w.heap.size + 1, 2, none⟩ = some (.bool false) := hb1.cell (by simp [go_sem])
    have z3 : World.cell? w1 ⟨w.heap.size + 1, 3, none⟩ = some (.int .i64 0) := hb1.cell (by simp [go_sem])
    have y0 : World.frozen? w1 ⟨w.heap.size + 1, 0, none⟩ = false := hb1.frozen (by simp [go_sem]; rfl) (by simp [go_sem])
    have y1 : World.frozen? w1 ⟨w.heap.size + 1, 1, none⟩ = false := hb1.frozen (by simp [go_sem]; rfl) (by simp [go_sem])
    have y2 : World.frozen? w1 ⟨w.heap.size + 1, 2, none⟩ = false := hb1.frozen (by simp [go_sem]; rfl) (by simp [go_sem])
    have y3 : World.frozen? w1 ⟨w.heap.size + 1, 3, none⟩ = false := hb1.frozen (by simp [go_sem]; rfl) (by simp [go_sem])
    have hb : Bl w w1 := (by repeat (first | assumption | exact Bl.refl _ | apply Bl.drewN | apply Bl.drew | apply Bl.alloc | (refine Bl.dr ?_ (by assumption)) | (refine Bl.trans ?_ (by assumption))))
    clear hb1
    go_wp2_with fail
    go_loopg [9, 10] (l.length + 1) (fun g i z wr => ((∃ m : Nat, m < l.length ∧ i = .int .i64 m ∧ q ≤ m + 1 ∧ g = m + 2) ∨ (i = .int .i64 (-1) ∧ q = 0 ∧ g = 1)) ∧ RC w wr a l.length c)
    case atStart =>
      refine ⟨?_, ⟨c1, z0, z1, z2, z3, y0, y1, y2, y3, hb⟩⟩
      rcases Nat.eq_zero_or_pos l.length with h0 | h0
      · exact .inr ⟨by rw [h0]; rfl, by omega, by rw [h0]⟩
      · exact .inl ⟨l.length - 1, by omega, by go_num, by omega, by omega⟩
    case round =>
      clear c1 z0 z1 z2 z3 y0 y1 y2 y3 hb
      obtain ⟨hrel, hrc⟩ := hrel
      have HRC := Lib.hid hrc
      obtain ⟨c1, z0, z1, z2, z3, y0, y1, y2, y3, hb⟩ := hrc
      rcases hrel with ⟨n, h1, rfl, hn1, hg⟩ | ⟨rfl, hq0, hg⟩
      · have G := Lib.hid hg
        clear hg
        obtain ⟨b, off, rfl, hat⟩ := HO.out.ents.get h1
        obtain ⟨x, hx⟩ : ∃ x, l[n]? = some x := ⟨_, List.getElem?_eq_getElem h1⟩
        have X := Lib.hid hx
        have hs := HK.out n x hx
        obtain ⟨d0, d1, d2, d3⟩ := (hat n x hx).bl hb
        have hxk := (HO.out.ents.ok x (List.mem_of_getElem? hx)).1
        have hO := fun w => HC.out x.key w hxk
        clear hx hat hxk
        have hfound : n < q → (x, (0 : Int)) = res := by
          intro hh
          rw [← HR.out, show (q : Int) - 1 = (n : Int) by omega, atE_some X.out]
        have HF := Lib.hid hfound
        clear hfound
        have hnext : ∀ wr, RC w wr (some ⟨b, off, none⟩) l.length c → ¬ n < q → ((∃ m : Nat, m < l.length ∧ Value.int .i64 ((n : Int) - 1) = .int .i64 m ∧ q ≤ m + 1 ∧ n + 1 = m + 2) ∨ (Value.int .i64 ((n : Int) - 1) = .int .i64 (-1) ∧ q = 0 ∧ n + 1 = 1)) ∧ RC w wr (some ⟨b, off, none⟩) l.length c := by
          intro wr hrc hh
          refine ⟨?_, hrc⟩
          rcases Nat.eq_zero_or_pos n with h0 | h0
          · exact .inr ⟨by rw [h0]; rfl, by omega, by omega⟩
          · exact .inl ⟨n - 1, by omega, by go_num, by omega, by omega⟩
        have HN := Lib.hid hnext
        clear hnext
        rcases cmp3 x.key k with ⟨e1, e2, e3, e4⟩ | ⟨e1, e2, e3, e4⟩ | ⟨e1, e2, e3, e4⟩
        all_goals
          rw [e1] at hO
          rw [e3, e2] at hs
          have HO2 := Lib.hid hO
          clear e1 e2 e3 e4 hO
        · have hn2 : n < q := by simpa using hs
          clear hs
          have hr := HF.out hn2
          subst hr
          obtain ⟨kk, vv, dd, ss⟩ := x
          unfold Ent.v
          simp only at d0 d1 d2 d3 ⊢
          go_wp2_with fail
          refine (HO2.out _).mono ?_; rintro e w' ⟨rfl, n1, rfl⟩
          go_wp2_with fail
          
          refine bodyPost_ret (v := .tuple #[.agg #[.string kk, .string vv, .bool dd, .int .i64 ss], .int .i64 0]) (by simp [results, Try.results16, go_sem, *]) rfl ?_
          exact RB.mk rfl (by repeat (first | assumption | exact Bl.refl _ | apply Bl.drewN | apply Bl.drew | apply Bl.alloc | (refine Bl.setCell ?_ _ (by first | (simp; done) | (simp; omega)) _) | (refine Bl.dr ?_ (by assumption)) | (refine Bl.trans ?_ (by assumption))))
        · cases s
          · have hn2 : n < q := by simpa using hs
            clear hs
            have hr := HF.out hn2
            subst hr
            obtain ⟨kk, vv, dd, ss⟩ := x
            unfold Ent.v
            simp only at d0 d1 d2 d3 ⊢
            go_wp2_with fail
            refine (HO2.out _).mono ?_; rintro e w' ⟨rfl, n1, rfl⟩
            go_wp2_with fail
            
            refine bodyPost_ret (v := .tuple #[.agg #[.string kk, .string vv, .bool dd, .int .i64 ss], .int .i64 0]) (by simp [results, Try.results16, go_sem, *]) rfl ?_
            exact RB.mk rfl (by repeat (first | assumption | exact Bl.refl _ | apply Bl.drewN | apply Bl.drew | apply Bl.alloc | (refine Bl.setCell ?_ _ (by first | (simp; done) | (simp; omega)) _) | (refine Bl.dr ?_ (by assumption)) | (refine Bl.trans ?_ (by assumption))))
          · have hn2 : ¬ n < q := by simpa using hs
            clear hs
            go_wp2_with fail
            refine (HO2.out _).mono ?_; rintro e w' ⟨rfl, n1, rfl⟩
            have hrc := HRC.out.bl (Bl.of_dr ⟨n1, rfl⟩)
            have HRC := Lib.hid hrc
            clear hrc
            go_wp2_with fail
            go_roundg (n + 1)
            case rel => exact HN.out _ HRC.out hn2
            case measure => rw [G.out]; omega
        · have hn2 : ¬ n < q := by simpa using hs
          clear hs
          go_wp2_with fail
          refine (HO2.out _).mono ?_; rintro e w' ⟨rfl, n1, rfl⟩
          have hrc := HRC.out.bl (Bl.of_dr ⟨n1, rfl⟩)
          have HRC := Lib.hid hrc
          clear hrc
          go_wp2_with fail
          go_roundg (n + 1)
          case rel => exact HN.out _ HRC.out hn2
          case measure => rw [G.out]; omega
      · have hr := HR.out
        rw [atE_none (.inl (by omega))] at hr
        subst hr
        unfold Ent.v ent0
        go_wp2_with fail
        
        refine bodyPost_ret (v := .tuple #[.agg #[.string ⟨#[]⟩, .string ⟨#[]⟩, .bool false, .int .i64 0], .int .i64 4]) (by simp [results, Try.results16, go_sem, *]) rfl ?_
        exact RB.mk rfl (by repeat (first | assumption | exact Bl.refl _ | apply Bl.drewN | apply Bl.drew | apply Bl.alloc | (refine Bl.setCell ?_ _ (by first | (simp; done) | (simp; omega)) _) | (refine Bl.dr ?_ (by assumption)) | (refine Bl.trans ?_ (by assumption))))
  · rw [if_pos e]
    have e' : (rask r k != 0) = true := by simp [e]
    generalize rask r k = q at *
    have HA := Lib.hid hA
    have HO := Lib.hid h
    obtain ⟨id, l⟩ := r
    unfold Rn.v Ent.v ent0
    simp only
    clear hA h e
    go_enter Try.func16, Try.ntmps16
    go_wp2_with fail
    refine (HA.out _ (HO.out.bl (by repeat (first | assumption | exact Bl.refl _ | apply Bl.drewN | apply Bl.drew | apply Bl.alloc | (refine Bl.dr ?_ (by assumption)) | (refine Bl.trans ?_ (by assumption)))))).mono ?_; rintro e w1 ⟨rfl, hb1⟩
    
    have c1 : World.cell? w1 ⟨w.heap.size, 1, none⟩ = some (.slice a l.length c) := hb1.cell (by simp [go_sem])
    have z0 : World.cell? w1 ⟨w.heap.size + 1, 0, none⟩ = some (.string ⟨#[]⟩) := hb1.cell (by simp [go_sem])
    have z1 : World.cell? w1 ⟨w.heap.size + 1, 1, none⟩ = some (.string ⟨#[]⟩) := hb1.cell (by simp [go_sem])
    have z2 : World.cell? w1 ⟨w.heap.size + 1, 2, none⟩ = some (.bool false) := hb1.cell (by simp [go_sem])
    have z3 : World.cell? w1 ⟨w.heap.size + 1, 3, none⟩ = some (.int .i64 0) := hb1.cell (by simp [go_sem])
    have y0 : World.frozen? w1 ⟨w.heap.size + 1, 0, none⟩ = false := hb1.frozen (by simp [go_sem]; rfl) (by simp [go_sem])
    have y1 : World.frozen? w1 ⟨w.heap.size + 1, 1, none⟩ = false := hb1.frozen (by simp [go_sem]; rfl) (by simp [go_sem])
    have y2 : World.frozen? w1 ⟨w.heap.size + 1, 2, none⟩ = false := hb1.frozen (by simp [go_sem]; rfl) (by simp [go_sem])
    have y3 : World.frozen? w1 ⟨w.heap.size + 1, 3, none⟩ = false := hb1.frozen (by simp [go_sem]; rfl) (by simp [go_sem])
    have hb : Bl w w1 := (by repeat (first | assumption | exact Bl.refl _ | apply Bl.drewN | apply Bl.drew | apply Bl.alloc | (refine Bl.dr ?_ (by assumption)) | (refine Bl.trans ?_ (by assumption))))
    clear hb1
    go_wp2_with fail
    
    refine bodyPost_ret (v := .tuple #[.agg #[.string ⟨#[]⟩, .string ⟨#[]⟩, .bool false, .int .i64 0], .int .i64 q]) (by simp [results, Try.results16, go_sem, *]) rfl ?_
    exact RB.mk rfl (by repeat (first | assumption | exact Bl.refl _ | apply Bl.drewN | apply Bl.drew | apply Bl.alloc | (refine Bl.setCell ?_ _ (by first | (simp; done) | (simp; omega)) _) | (refine Bl.dr ?_ (by assumption)) | (refine Bl.trans ?_ (by assumption))))
end Go.Proofs.Ytndcjgkgkpkklaa

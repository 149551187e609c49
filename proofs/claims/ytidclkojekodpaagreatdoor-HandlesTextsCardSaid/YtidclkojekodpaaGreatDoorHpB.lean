
/-
  Contracts of handles: a line's row, in the program and in the reference.
-/
import Derived.Test.YtidclkojekodpaaGreatDoorHpA
import Derived.Test.YtidclkojekodpaaGreatDoorWoQ
import Derived.Test.YtidclkojekodpaaGreatDoorWoN
namespace Go.Proofs.YtidclkojekodpaaGreatDoor
open Go.RowKit
set_option linter.unusedSimpArgs false
set_option linter.unusedVariables false
set_option maxRecDepth 100000

theorem wsplit_err {s : List UInt8} {f : List Fld} {e : Int} (h : wsplit s = (f, e)) (he : e ≠ 0) : f = [] := by
  unfold wsplit at h
  split at h
  · injection h with h _; exact h.symm
  · split at h
    · injection h with _ h; exact absurd h.symm he
    · split at h
      · injection h with h _; exact h.symm
      · split at h
        · injection h with h _; exact h.symm
        · injection h with _ h; exact absurd h.symm he
theorem wsplit_sizes {s : List UInt8} {f : List Fld} (h : wsplit s = (f, 0)) : f.length ≤ 64 ∧ ∀ x ∈ f, x.s.length ≤ 2000 := by
  obtain ⟨_, ⟨_, rfl⟩ | ⟨_, _, h3, h4⟩⟩ := wsplit_ok h
  · simp
  · refine ⟨h4, fun x hx => ?_⟩
    unfold tooL at h3
    rw [List.any_eq_false] at h3
    have := h3 x hx
    simpa using this
set_option maxHeartbeats 4000000 in
theorem hnRow (s : ByteArray) (hs : s.size ≤ 100000) (w : World) (hE : WEnv w) : Calls Tryz.prog 20 #[.string s] w (RB w (.tuple #[.string ⟨(rowR s.data.toList).1.toArray⟩, .int .i64 (rowR s.data.toList).2.1, .bool (rowR s.data.toList).2.2])) := by
  have H1 := Lib.hid (fun w (h : WEnv w) => woSplit s hs w h.esc)
  have HInt := Lib.hid (fun x (hx : ByteArray.size x ≤ 100000) w h => woInt x 0 1000000000 hx w h)
  have HE := Lib.hid hE
  obtain ⟨r, hr⟩ : ∃ r, wsplit s.data.toList = r := ⟨_, rfl⟩
  obtain ⟨res, hres⟩ : ∃ r, rowR s.data.toList = r := ⟨_, rfl⟩
  rw [hres]
  rw [hr] at H1
  obtain ⟨fl, en⟩ := r
  clear hE
  by_cases hen : en = 0
  · subst hen
    by_cases h2 : fl.length = 2
    · obtain ⟨f, g, rfl⟩ : ∃ f g, fl = [f, g] := by
        match fl, h2 with
        | [f, g], _ => exact ⟨f, g, rfl⟩
      obtain ⟨-, hsz⟩ := wsplit_sizes hr
      have hg := hsz g (by simp)
      have hrow : rowR s.data.toList = if (f.q || g.q) = true then ([], 0, false) else (f.s, (wint g.s 0 1000000000).1, (wint g.s 0 1000000000).2 == 0) := by unfold rowR; rw [hr]
      rw [hres] at hrow
      clear hres
      have hI := HInt.out (⟨g.s.toArray⟩ : ByteArray) (by show g.s.toArray.size ≤ _; simp; omega)
      cases hfq : f.q with
      | true =>
        rw [hfq, Bool.true_or, if_pos rfl] at hrow
        subst hrow
        clear hsz hg hI h2 hr
        go_enter Tryz.func20, Tryz.ntmps20
        go_wp2_with fail
        refine (H1.out _ HE.out).mono ?_; rintro e w1 ⟨v, rfl, ⟨vl, rfl, a, c, rfl, hF, -, -⟩, hb1⟩
        obtain ⟨b, off, rfl, hat⟩ := hF.get (k := 0) (by simp)
        have d0 := (hat 0 f rfl).2
        rw [hfq] at d0
        simp only [Nat.zero_mul, Nat.add_zero] at d0
        simp only [List.length_cons, List.length_nil]
        clear hat hF hfq
        go_wp2_with fail
        go_ret3
        exact rb_tuple3 rfl rfl rfl hb1
      | false =>
        rw [hfq, Bool.false_or] at hrow
        cases hgq : g.q with
        | true =>
          rw [hgq, if_pos rfl] at hrow
          subst hrow
          clear hsz hg hI h2 hr
          go_enter Tryz.func20, Tryz.ntmps20
          go_wp2_with fail
          refine (H1.out _ HE.out).mono ?_; rintro e w1 ⟨v, rfl, ⟨vl, rfl, a, c, rfl, hF, -, -⟩, hb1⟩
          obtain ⟨b, off, rfl, hat⟩ := hF.get (k := 0) (by simp)
          have d0 := (hat 0 f rfl).2
          have d1 := (hat 1 g rfl).2
          rw [hfq] at d0
          rw [hgq] at d1
          simp only [Nat.zero_mul, Nat.add_zero, Nat.one_mul] at d0 d1
          simp only [List.length_cons, List.length_nil]
          clear hat hF hfq hgq
          go_wp2_with fail
          go_ret3
          exact rb_tuple3 rfl rfl rfl hb1
        | false =>
          rw [hgq, if_neg (by simp)] at hrow
          obtain ⟨gs, hgs⟩ : ∃ gs : ByteArray, (⟨g.s.toArray⟩ : ByteArray) = gs := ⟨_, rfl⟩
          obtain ⟨fs, hfs⟩ : ∃ fs : ByteArray, (⟨f.s.toArray⟩ : ByteArray) = fs := ⟨_, rfl⟩
          have hgd : g.s = gs.data.toList := by rw [← hgs]
          rw [hgs] at hI
          rw [hgd] at hrow
          generalize wint gs.data.toList 0 1000000000 = iv at hI hrow
          obtain ⟨i1, i2⟩ := iv
          simp only at hI hrow
          subst hrow
          have HI := Lib.hid hI
          have HFs := Lib.hid hfs
          have HGs := Lib.hid hgs
          clear hsz hg hI h2 hr hgd hgs hfs
          go_enter Tryz.func20, Tryz.ntmps20
          go_wp2_with fail
          refine (H1.out _ HE.out).mono ?_; rintro e w1 ⟨v, rfl, ⟨vl, rfl, a, c, rfl, hF, -, -⟩, hb1⟩
          obtain ⟨b, off, rfl, hat⟩ := hF.get (k := 0) (by simp)
          obtain ⟨p0, d0⟩ := hat 0 f rfl
          obtain ⟨p1, d1⟩ := hat 1 g rfl
          rw [hfq] at d0
          rw [hgq] at d1
          rw [HFs.out] at p0
          rw [HGs.out] at p1
          simp only [Nat.zero_mul, Nat.add_zero, Nat.one_mul] at d0 d1 p0 p1
          simp only [List.length_cons, List.length_nil]
          clear hat hF hfq hgq
          go_wp2_with fail
          refine (HI.out _ (HE.out.bl hb1)).mono ?_; rintro e w2 ⟨rfl, hb2⟩
          have p0 := hb2.cell p0
          go_wp2_with fail
          go_ret3
          exact rb_tuple3 (sval HFs.out.symm) rfl rfl (hb1.trans hb2)
    · have hrow : rowR s.data.toList = ([], 0, false) := by
        unfold rowR
        rw [hr]
        split
        · rename_i f g e; simp only at e; rw [e] at h2; simp at h2
        · rfl
      rw [hres] at hrow
      subst hrow
      have t2 : ((fl.length : Int) != 2) = true := by rw [bne_iff_ne]; omega
      clear h2 hr hres
      go_enter Tryz.func20, Tryz.ntmps20
      go_wp2_with fail
      refine (H1.out _ HE.out).mono ?_; rintro e w1 ⟨v, rfl, ⟨vl, rfl, a, c, rfl, hF, -, -⟩, hb1⟩
      go_wp2_with fail
      go_ret3
      exact rb_tuple3 rfl rfl rfl hb1
  · have hz := wsplit_err hr hen
    have hrow : rowR s.data.toList = ([], 0, false) := by
      unfold rowR
      rw [hr, hz]
    rw [hres] at hrow
    subst hrow
    have t1 : (en != 0) = true := by rw [bne_iff_ne]; exact hen
    clear hen hz hr hres
    go_enter Tryz.func20, Tryz.ntmps20
    go_wp2_with fail
    refine (H1.out _ HE.out).mono ?_; rintro e w1 ⟨v, rfl, ⟨vl, rfl, a, c, rfl, hF, -, -⟩, hb1⟩
    go_wp2_with fail
    go_ret3
    exact rb_tuple3 rfl rfl rfl hb1
set_option maxHeartbeats 4000000 in
theorem refRow (s : ByteArray) (hs : s.size ≤ 100000) (w : World) (hE : WEnv w) : Calls Tryz.prog 22 #[.string s] w (RB w (.tuple #[.string ⟨(rowR s.data.toList).1.toArray⟩, .int .i64 (rowR s.data.toList).2.1, .bool (rowR s.data.toList).2.2])) := by
  have H1 := Lib.hid (fun w (h : WEnv w) => refSplit s hs w)
  have HInt := Lib.hid (fun x (hx : ByteArray.size x ≤ 100000) w (h : WEnv w) => refInt x 0 1000000000 hx w)
  have HE := Lib.hid hE
  obtain ⟨r, hr⟩ : ∃ r, wsplit s.data.toList = r := ⟨_, rfl⟩
  obtain ⟨res, hres⟩ : ∃ r, rowR s.data.toList = r := ⟨_, rfl⟩
  rw [hres]
  rw [hr] at H1
  obtain ⟨fl, en⟩ := r
  clear hE
  by_cases hen : en = 0
  · subst hen
    by_cases h2 : fl.length = 2
    · obtain ⟨f, g, rfl⟩ : ∃ f g, fl = [f, g] := by
        match fl, h2 with
        | [f, g], _ => exact ⟨f, g, rfl⟩
      obtain ⟨-, hsz⟩ := wsplit_sizes hr
      have hg := hsz g (by simp)
      have hrow : rowR s.data.toList = if (f.q || g.q) = true then ([], 0, false) else (f.s, (wint g.s 0 1000000000).1, (wint g.s 0 1000000000).2 == 0) := by unfold rowR; rw [hr]
      rw [hres] at hrow
      clear hres
      have hI := HInt.out (⟨g.s.toArray⟩ : ByteArray) (by show g.s.toArray.size ≤ _; simp; omega)
      cases hfq : f.q with
      | true =>
        rw [hfq, Bool.true_or, if_pos rfl] at hrow
        subst hrow
        clear hsz hg hI h2 hr
        go_enter Tryz.func22, Tryz.ntmps22
        go_wp2_with fail
        refine (H1.out _ HE.out).mono ?_; rintro e w1 ⟨v, rfl, ⟨vl, rfl, a, c, rfl, hF, -, -⟩, hb1⟩
        obtain ⟨b, off, rfl, hat⟩ := hF.get (k := 0) (by simp)
        have d0 := (hat 0 f rfl).2
        rw [hfq] at d0
        simp only [Nat.zero_mul, Nat.add_zero] at d0
        simp only [List.length_cons, List.length_nil]
        clear hat hF hfq
        go_wp2_with fail
        go_ret3
        exact rb_tuple3 rfl rfl rfl hb1
      | false =>
        rw [hfq, Bool.false_or] at hrow
        cases hgq : g.q with
        | true =>
          rw [hgq, if_pos rfl] at hrow
          subst hrow
          clear hsz hg hI h2 hr
          go_enter Tryz.func22, Tryz.ntmps22
          go_wp2_with fail
          refine (H1.out _ HE.out).mono ?_; rintro e w1 ⟨v, rfl, ⟨vl, rfl, a, c, rfl, hF, -, -⟩, hb1⟩
          obtain ⟨b, off, rfl, hat⟩ := hF.get (k := 0) (by simp)
          have d0 := (hat 0 f rfl).2
          have d1 := (hat 1 g rfl).2
          rw [hfq] at d0
          rw [hgq] at d1
          simp only [Nat.zero_mul, Nat.add_zero, Nat.one_mul] at d0 d1
          simp only [List.length_cons, List.length_nil]
          clear hat hF hfq hgq
          go_wp2_with fail
          go_ret3
          exact rb_tuple3 rfl rfl rfl hb1
        | false =>
          rw [hgq, if_neg (by simp)] at hrow
          obtain ⟨gs, hgs⟩ : ∃ gs : ByteArray, (⟨g.s.toArray⟩ : ByteArray) = gs := ⟨_, rfl⟩
          obtain ⟨fs, hfs⟩ : ∃ fs : ByteArray, (⟨f.s.toArray⟩ : ByteArray) = fs := ⟨_, rfl⟩
          have hgd : g.s = gs.data.toList := by rw [← hgs]
          rw [hgs] at hI
          rw [hgd] at hrow
          generalize wint gs.data.toList 0 1000000000 = iv at hI hrow
          obtain ⟨i1, i2⟩ := iv
          simp only at hI hrow
          subst hrow
          have HI := Lib.hid hI
          have HFs := Lib.hid hfs
          have HGs := Lib.hid hgs
          clear hsz hg hI h2 hr hgd hgs hfs
          go_enter Tryz.func22, Tryz.ntmps22
          go_wp2_with fail
          refine (H1.out _ HE.out).mono ?_; rintro e w1 ⟨v, rfl, ⟨vl, rfl, a, c, rfl, hF, -, -⟩, hb1⟩
          obtain ⟨b, off, rfl, hat⟩ := hF.get (k := 0) (by simp)
          obtain ⟨p0, d0⟩ := hat 0 f rfl
          obtain ⟨p1, d1⟩ := hat 1 g rfl
          rw [hfq] at d0
          rw [hgq] at d1
          rw [HFs.out] at p0
          rw [HGs.out] at p1
          simp only [Nat.zero_mul, Nat.add_zero, Nat.one_mul] at d0 d1 p0 p1
          simp only [List.length_cons, List.length_nil]
          clear hat hF hfq hgq
          go_wp2_with fail
          refine (HI.out _ (HE.out.bl hb1)).mono ?_; rintro e w2 ⟨rfl, hb2⟩
          have p0 := hb2.cell p0
          go_wp2_with fail
          go_ret3
          exact rb_tuple3 (sval HFs.out.symm) rfl rfl (hb1.trans hb2)
    · have hrow : rowR s.data.toList = ([], 0, false) := by
        unfold rowR
        rw [hr]
        split
        · rename_i f g e; simp only at e; rw [e] at h2; simp at h2
        · rfl
      rw [hres] at hrow
      subst hrow
      have t2 : ((fl.length : Int) != 2) = true := by rw [bne_iff_ne]; omega
      clear h2 hr hres
      go_enter Tryz.func22, Tryz.ntmps22
      go_wp2_with fail
      refine (H1.out _ HE.out).mono ?_; rintro e w1 ⟨v, rfl, ⟨vl, rfl, a, c, rfl, hF, -, -⟩, hb1⟩
      go_wp2_with fail
      go_ret3
      exact rb_tuple3 rfl rfl rfl hb1
  · have hz := wsplit_err hr hen
    have hrow : rowR s.data.toList = ([], 0, false) := by
      unfold rowR
      rw [hr, hz]
    rw [hres] at hrow
    subst hrow
    have t1 : (en != 0) = true := by rw [bne_iff_ne]; exact hen
    clear hen hz hr hres
    go_enter Tryz.func22, Tryz.ntmps22
    go_wp2_with fail
    refine (H1.out _ HE.out).mono ?_; rintro e w1 ⟨v, rfl, ⟨vl, rfl, a, c, rfl, hF, -, -⟩, hb1⟩
    go_wp2_with fail
    go_ret3
    exact rb_tuple3 rfl rfl rfl hb1
end Go.Proofs.YtidclkojekodpaaGreatDoor

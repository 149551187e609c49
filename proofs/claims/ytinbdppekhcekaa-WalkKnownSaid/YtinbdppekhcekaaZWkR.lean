/-
  Own texts laid together: WkR.
-/
import Derived.Test.YtinbdppekhcekaaZWkQ
import Derived.Test.YtinbdppekhcekaaZp
import Derived.Deep.DeepCutAuto
/-
  The law WalkKnown, walked.
-/
namespace Go.Proofs.Ytinbdppekhcekaa
open Go.RowKit Go.Shelf
set_option linter.unusedSimpArgs false
set_option linter.unusedVariables false
set_option maxRecDepth 100000

def kz : Rng := ⟨⟨#[98]⟩, ⟨#[100]⟩, true⟩
theorem ek1 : wseek exR ⟨#[99]⟩ false = (1, 0) := by kernel_rfl
theorem ek2 : wseek exR ⟨#[100]⟩ false = (2, 0) := by kernel_rfl
theorem ek3 : wnext exR 3 = (ent0, 3, 12) := by kernel_rfl
theorem ek4 : wprev exR 1 = (exE1, 0, 0) := by kernel_rfl
theorem ek5 : wtake exR 0 2 = ([exE1, exE2], 2, 0) := by kernel_rfl
theorem ek6 : wtake exR 2 9 = ([exE3], 3, 0) := by kernel_rfl
theorem ek7 : wstep exR 0 false (fun x => x.dead == true) = (exE2, 2, 0) := by kernel_rfl
theorem ek8 : wstep exR 2 true (fun x => x.dead == false) = (exE1, 0, 0) := by kernel_rfl
theorem ek9 : wclip exR 0 kz = (1, 0) := by kernel_rfl
theorem ek10 : wclip exR 3 kz = (2, 0) := by kernel_rfl
theorem kz_ok : kz.ok := ⟨small_str (n := 3) _ (by decide) (by omega), small_str (n := 3) _ (by decide) (by omega)⟩

/-- How many cells own blocks have at most. -/
def Szs (W : World) (l : List (Nat × Nat)) : Prop := ∀ q, q ∈ l → q.1 < W.heap.size ∧ 1 ≤ q.2 ∧ ∀ j, q.2 ≤ j → W.cell? ⟨q.1, j, none⟩ = none
theorem Szs.bl {W W' : World} {l : List (Nat × Nat)} (h : Szs W l) (k : Bl W W') : Szs W' l :=
  fun q hq => ⟨Nat.lt_of_lt_of_le (h q hq).1 k.size, (h q hq).2.1, fun j hj => (Below.cell k (p := ⟨q.1, j, none⟩) (h q hq).1).trans ((h q hq).2.2 j hj)⟩
theorem Szs.new (W : World) (cs : Array Value) (t : TypeId) (n : Nat) (hn : cs.size = n) (h1 : 1 ≤ n) : Szs (W.alloc (Obj.cells cs t)) [(W.heap.size, n)] := by
  intro q hq
  simp at hq; subst hq
  refine ⟨by simp, h1, fun j hj => ?_⟩
  rw [new_cell]
  exact Array.getElem?_eq_none (by omega)
theorem Szs.app {W : World} {l k : List (Nat × Nat)} (h : Szs W l) (h2 : Szs W k) : Szs W (l ++ k) := fun q hq => (List.mem_append.1 hq).elim (h q) (h2 q)
theorem Szs.set {W : World} {l : List (Nat × Nat)} (h : Szs W l) (b : Nat) (u : Value) : Szs (W.setCell ⟨b, 0, none⟩ u) l :=
  fun q hq => ⟨by simpa using (h q hq).1, (h q hq).2.1, fun j hj => (World.cell?_setCell_other W ⟨b, 0, none⟩ ⟨q.1, j, none⟩ u (by intro e; have e2 : (0 : Nat) = j := congrArg Addr.off e; have := (h q hq).2.1; omega)).trans ((h q hq).2.2 j hj)⟩
theorem Szs.set2 {W : World} {l : List (Nat × Nat)} (h : Szs W l) (p : Addr) (u : Value) (hp : ∀ q, q ∈ l → q.1 = p.block → p.off < q.2) : Szs (W.setCell p u) l :=
  fun q hq => ⟨by simpa using (h q hq).1, (h q hq).2.1, fun j hj => (World.cell?_setCell_other W p ⟨q.1, j, none⟩ u (by intro e; have e1 : p.block = q.1 := congrArg Addr.block e; have e2 : p.off = j := congrArg Addr.off e; have := hp q hq e1.symm; omega)).trans ((h q hq).2.2 j hj)⟩
theorem Szs.ne {W : World} {l : List (Nat × Nat)} {b o : Nat} {x : Ent} {q : Nat × Nat} {i : Nat} (h : Szs W l) (hx : EntAt W b (o + i * 4) x) (hq : q ∈ l) (hn : q.2 < (i + 1) * 4) : b ≠ q.1 := by
  intro e
  subst e
  have h1 := hx.4
  rw [(h q hq).2.2 _ (by omega)] at h1
  cases h1
theorem Ents.set {W : World} {b o : Nat} {l : List Ent} (h : Ents W (some ⟨b, o, none⟩) l) (p : Addr) (u : Value) (hp : b ≠ p.block) : Ents (W.setCell p u) (some ⟨b, o, none⟩) l := by
  refine ⟨h.ok, fun hn => ?_⟩
  obtain ⟨b', o', e, hat⟩ := h.at_ hn
  injection e with e; injection e with e1 e2; subst e1 e2
  refine ⟨b, o, rfl, fun i x hx => ?_⟩
  have hc : ∀ j v, W.cell? ⟨b, j, none⟩ = some v → (W.setCell p u).cell? ⟨b, j, none⟩ = some v := fun j v hv => (World.cell?_setCell_other W p ⟨b, j, none⟩ u (fun e => hp (by rw [e]))).trans hv
  exact ⟨hc _ _ (hat i x hx).1, hc _ _ (hat i x hx).2, hc _ _ (hat i x hx).3, hc _ _ (hat i x hx).4⟩
theorem Ents.sub {W : World} {b o : Nat} {l : List Ent} (h : ∀ (i : Nat) x, l[i]? = some x → EntAt W b (o + i * 4) x) (m : List Ent) (k : Nat) (hm : ∀ (i : Nat) x, m[i]? = some x → l[i + k]? = some x) (hok : ∀ x, x ∈ m → x.ok) : Ents W (some ⟨b, o + k * 4, none⟩) m :=
  ⟨hok, fun _ => ⟨b, o + k * 4, rfl, fun i x hx => by have := h _ x (hm i x hx); rwa [show o + (i + k) * 4 = o + k * 4 + i * 4 by omega] at this⟩⟩

set_option maxHeartbeats 8000000 in
theorem lawWalkKnown (w : World) : Calls Try.prog 10 #[] w (RB w (.bool true)) := by
  have h1 := fun a c w h => walkSeek a c exR ⟨#[99]⟩ false w h (small_str (n := 3) _ (by decide) (by omega))
  have h2 := fun a c w h => walkSeek a c exR ⟨#[100]⟩ false w h (small_str (n := 3) _ (by decide) (by omega))
  have h3 := fun a c w h => walkNext a c exR 3 w h
  have h4 := fun a c w h => walkPrev a c exR 1 w h
  have h5 := fun a c w h => walkTake a c exR 0 2 w h
  have h6 := fun a c w h => walkTake a c exR 2 9 w h
  have h7 := fun a c w h => walkSkip a c exR 0 true false w h
  have h8 := fun a c w h => walkSkip a c exR 2 false true w h
  have h9 := fun a c w h => walkClip a c exR 0 kz w h kz_ok
  have h10 := fun a c w h => walkClip a c exR 3 kz w h kz_ok
  rw [ek1] at h1; rw [ek2] at h2; rw [ek3] at h3; rw [ek4] at h4; rw [ek5] at h5; rw [ek6] at h6; rw [ek7] at h7; rw [ek8] at h8; rw [ek9] at h9; rw [ek10] at h10
  unfold wv Ent.v at h3 h4 h7 h8
  unfold Rng.v kz at h9 h10
  unfold TkOut at h5 h6
  simp only at h3 h4 h5 h6 h7 h8 h9 h10
  have HA := Lib.hid (fun w => lawWalkAwake w)
  have HX := Lib.hid (fun w => lawWalkExample w)
  have H1 := Lib.hid h1
  have H2 := Lib.hid h2
  have H3 := Lib.hid h3
  have H4 := Lib.hid h4
  have H5 := Lib.hid h5
  have H6 := Lib.hid h6
  have H7 := Lib.hid h7
  have H8 := Lib.hid h8
  have H9 := Lib.hid h9
  have H10 := Lib.hid h10
  clear h1 h2 h3 h4 h5 h6 h7 h8 h9 h10
  go_enter Try.func10, Try.ntmps10
  go_wp2_with fail
  refine (HX.out _).mono ?_; rintro e w1 ⟨v, rfl, ⟨a, c, rfl, ho⟩, hb0⟩
  unfold Rn.v exR
  simp only
  obtain ⟨b, off, rfl, hat⟩ := ho.ents.get (k := 0) (by decide)
  have hcap := ho.len
  have HL := Lib.hid ho.ents
  have HB0 := Lib.hid hb0
  have HAT := Lib.hid hat
  clear ho hat hb0
  have hb : Bl w1 w1 := Bl.refl _
  have hr : Mem w1 [] := trivial
  have HR := Lib.hid hr
  have hm : True := trivial
  have hz : Szs w1 [] := fun q hq => by cases hq
  clear hr
  have hfl := fun v w => fld_es (.int .i64 7) v w
  go_wp2_with fail
  clear hfl
  go_wp2_with fail
  refine (HX.out _).mono ?_; rintro e w2 ⟨v, rfl, ⟨ak, ck, rfl, ho⟩, hb1⟩
  unfold Rn.v exR
  simp only
  have hr := HR.out.bl hb1
  have hbn := Bl.trans hb hb1
  clear hb
  have hb := hbn
  clear hbn
  clear HR hm
  have HR := Lib.hid hr
  have hzn := hz.bl hb1
  clear hz
  have hz := hzn
  clear hzn
  try have hE5n := hE5.bl hb1; clear hE5; have hE5 := hE5n; clear hE5n
  try have hE6n := hE6.bl hb1; clear hE6; have hE6 := hE6n; clear hE6n
  
  have hm := hr
  simp only [Mem, VE, List.cons_append, List.nil_append, and_true] at hm
  clear hr
  clear hb1
  go_wp2_with fail
  refine (H1.out _ _ _ ho).mono ?_; rintro e w3 ⟨rfl, hb1⟩
  have hr := HR.out.bl hb1
  have hbn := Bl.trans hb hb1
  clear hb
  have hb := hbn
  clear hbn
  clear HR hm
  have HR := Lib.hid hr
  have hzn := hz.bl hb1
  clear hz
  have hz := hzn
  clear hzn
  try have hE5n := hE5.bl hb1; clear hE5; have hE5 := hE5n; clear hE5n
  try have hE6n := hE6.bl hb1; clear hE6; have hE6 := hE6n; clear hE6n
  
  have hm := hr
  simp only [Mem, VE, List.cons_append, List.nil_append, and_true] at hm
  clear hr
  clear hb1
  clear ho
  have s4 := hb.size
  have hal := (Bl.refl w3).alloc (Obj.cells #[.int .i64 1] 28)
  have hp : Mem ((w3).alloc (Obj.cells #[.int .i64 1] 28)) [(⟨(w3).heap.size, 0, none⟩, .int .i64 1)] := by simp [Mem, go_sem]
  have hr := (HR.out.bl hal).app hp
  have hzn := (hz.bl hal).app (Szs.new w3 #[.int .i64 1] 28 1 rfl (by omega))
  clear hz
  have hz := hzn
  clear hzn
  have hbn := hb.trans hal
  clear hb
  have hb := hbn
  clear hbn
  clear HR hm
  have HR := Lib.hid hr
  
  have hm := hr
  simp only [Mem, VE, List.cons_append, List.nil_append, and_true] at hm
  clear hr hp hal
  go_wp2_with fail
  refine (HX.out _).mono ?_; rintro e w4 ⟨v, rfl, ⟨ak, ck, rfl, ho⟩, hb1⟩
  unfold Rn.v exR
  simp only
  have hr := HR.out.bl hb1
  have hbn := Bl.trans hb hb1
  clear hb
  have hb := hbn
  clear hbn
  clear HR hm
  have HR := Lib.hid hr
  have hzn := hz.bl hb1
  clear hz
  have hz := hzn
  clear hzn
  try have hE5n := hE5.bl hb1; clear hE5; have hE5 := hE5n; clear hE5n
  try have hE6n := hE6.bl hb1; clear hE6; have hE6 := hE6n; clear hE6n
  
  have hm := hr
  simp only [Mem, VE, List.cons_append, List.nil_append, and_true] at hm
  clear hr
  clear hb1
  go_wp2_with fail
  refine (H2.out _ _ _ ho).mono ?_; rintro e w5 ⟨rfl, hb1⟩
  have hr := HR.out.bl hb1
  have hbn := Bl.trans hb hb1
  clear hb
  have hb := hbn
  clear hbn
  clear HR hm
  have HR := Lib.hid hr
  have hzn := hz.bl hb1
  clear hz
  have hz := hzn
  clear hzn
  try have hE5n := hE5.bl hb1; clear hE5; have hE5 := hE5n; clear hE5n
  try have hE6n := hE6.bl hb1; clear hE6; have hE6 := hE6n; clear hE6n
  
  have hm := hr
  simp only [Mem, VE, List.cons_append, List.nil_append, and_true] at hm
  clear hr
  clear hb1
  clear ho
  have s1 : w3.heap.size < w5.heap.size := lt_of_cell HR.out.right.1
  have hal := (Bl.refl w5).alloc (Obj.cells #[.int .i64 2] 28)
  have hp : Mem ((w5).alloc (Obj.cells #[.int .i64 2] 28)) [(⟨(w5).heap.size, 0, none⟩, .int .i64 2)] := by simp [Mem, go_sem]
  have hr := (HR.out.bl hal).app hp
  have hzn := (hz.bl hal).app (Szs.new w5 #[.int .i64 2] 28 1 rfl (by omega))
  clear hz
  have hz := hzn
  clear hzn
  have hbn := hb.trans hal
  clear hb
  have hb := hbn
  clear hbn
  clear HR hm
  have HR := Lib.hid hr
  
  have hm := hr
  simp only [Mem, VE, List.cons_append, List.nil_append, and_true] at hm
  clear hr hp hal
  go_wp2_with fail
  refine (HX.out _).mono ?_; rintro e w6 ⟨v, rfl, ⟨ak, ck, rfl, ho⟩, hb1⟩
  unfold Rn.v exR
  simp only
  have hr := HR.out.bl hb1
  have hbn := Bl.trans hb hb1
  clear hb
  have hb := hbn
  clear hbn
  clear HR hm
  have HR := Lib.hid hr
  have hzn := hz.bl hb1
  clear hz
  have hz := hzn
  clear hzn
  try have hE5n := hE5.bl hb1; clear hE5; have hE5 := hE5n; clear hE5n
  try have hE6n := hE6.bl hb1; clear hE6; have hE6 := hE6n; clear hE6n
  
  have hm := hr
  simp only [Mem, VE, List.cons_append, List.nil_append, and_true] at hm
  clear hr
  clear hb1
  go_wp2_with fail
  refine (lawAt _ _).mono ?_; rintro e w7 ⟨rfl, hb1⟩
  have ho' := (ho).bl hb1
  clear ho
  have ho := ho'
  clear ho'
  have hr := HR.out.bl hb1
  have hbn := Bl.trans hb hb1
  clear hb
  have hb := hbn
  clear hbn
  clear HR hm
  have HR := Lib.hid hr
  have hzn := hz.bl hb1
  clear hz
  have hz := hzn
  clear hzn
  try have hE5n := hE5.bl hb1; clear hE5; have hE5 := hE5n; clear hE5n
  try have hE6n := hE6.bl hb1; clear hE6; have hE6 := hE6n; clear hE6n
  
  have hm := hr
  simp only [Mem, VE, List.cons_append, List.nil_append, and_true] at hm
  clear hr
  clear hb1
  go_wp2_with fail
  refine (H3.out _ _ _ ho).mono ?_; rintro e w8 ⟨rfl, hb1⟩
  have hr := HR.out.bl hb1
  have hbn := Bl.trans hb hb1
  clear hb
  have hb := hbn
  clear hbn
  clear HR hm
  have HR := Lib.hid hr
  have hzn := hz.bl hb1
  clear hz
  have hz := hzn
  clear hzn
  try have hE5n := hE5.bl hb1; clear hE5; have hE5 := hE5n; clear hE5n
  try have hE6n := hE6.bl hb1; clear hE6; have hE6 := hE6n; clear hE6n
  
  have hm := hr
  simp only [Mem, VE, List.cons_append, List.nil_append, and_true] at hm
  clear hr
  clear hb1
  clear ho
  have s2 : w5.heap.size < w8.heap.size := lt_of_cell HR.out.right.1
  have hal := ((Bl.refl w8).alloc (Obj.cells #[.string (ent0).key, .string (ent0).val, .bool (ent0).dead, .int .i64 (ent0).seq] 36)).alloc (Obj.cells #[.int .i64 3] 28)
  have hp : Mem (((w8).alloc (Obj.cells #[.string (ent0).key, .string (ent0).val, .bool (ent0).dead, .int .i64 (ent0).seq] 36)).alloc (Obj.cells #[.int .i64 3] 28)) (VE (w8).heap.size ent0 ++ [(⟨(w8).heap.size + 1, 0, none⟩, .int .i64 3)]) := by simp [Mem, VE, go_sem]
  have hr := (HR.out.bl hal).app hp
  have hzn := ((hz.bl hal).app ((Szs.new w8 #[.string (ent0).key, .string (ent0).val, .bool (ent0).dead, .int .i64 (ent0).seq] 36 4 rfl (by omega)).bl ((Bl.refl _).alloc (Obj.cells #[.int .i64 3] 28)))).app (show Szs _ [((w8).heap.size + 1, 1)] by have := Szs.new ((w8).alloc (Obj.cells #[.string (ent0).key, .string (ent0).val, .bool (ent0).dead, .int .i64 (ent0).seq] 36)) #[.int .i64 3] 28 1 rfl (by omega); simpa using this)
  clear hz
  have hz := hzn
  clear hzn
  have hbn := hb.trans hal
  clear hb
  have hb := hbn
  clear hbn
  clear HR hm
  have HR := Lib.hid hr
  
  have hm := hr
  simp only [Mem, VE, List.cons_append, List.nil_append, and_true] at hm
  clear hr hp hal
  go_wp2_with fail
  refine (HX.out _).mono ?_; rintro e w9 ⟨v, rfl, ⟨ak, ck, rfl, ho⟩, hb1⟩
  unfold Rn.v exR
  simp only
  have hr := HR.out.bl hb1
  have hbn := Bl.trans hb hb1
  clear hb
  have hb := hbn
  clear hbn
  clear HR hm
  have HR := Lib.hid hr
  have hzn := hz.bl hb1
  clear hz
  have hz := hzn
  clear hzn
  try have hE5n := hE5.bl hb1; clear hE5; have hE5 := hE5n; clear hE5n
  try have hE6n := hE6.bl hb1; clear hE6; have hE6 := hE6n; clear hE6n
  
  have hm := hr
  simp only [Mem, VE, List.cons_append, List.nil_append, and_true] at hm
  clear hr
  clear hb1
  go_wp2_with fail
  refine (lawAt _ _).mono ?_; rintro e w10 ⟨rfl, hb1⟩
  have ho' := (ho).bl hb1
  clear ho
  have ho := ho'
  clear ho'
  have hr := HR.out.bl hb1
  have hbn := Bl.trans hb hb1
  clear hb
  have hb := hbn
  clear hbn
  clear HR hm
  have HR := Lib.hid hr
  have hzn := hz.bl hb1
  clear hz
  have hz := hzn
  clear hzn
  try have hE5n := hE5.bl hb1; clear hE5; have hE5 := hE5n; clear hE5n
  try have hE6n := hE6.bl hb1; clear hE6; have hE6 := hE6n; clear hE6n
  
  have hm := hr
  simp only [Mem, VE, List.cons_append, List.nil_append, and_true] at hm
  clear hr
  clear hb1
  go_wp2_with fail
  refine (H4.out _ _ _ ho).mono ?_; rintro e w11 ⟨rfl, hb1⟩
  have hr := HR.out.bl hb1
  have hbn := Bl.trans hb hb1
  clear hb
  have hb := hbn
  clear hbn
  clear HR hm
  have HR := Lib.hid hr
  have hzn := hz.bl hb1
  clear hz
  have hz := hzn
  clear hzn
  try have hE5n := hE5.bl hb1; clear hE5; have hE5 := hE5n; clear hE5n
  try have hE6n := hE6.bl hb1; clear hE6; have hE6 := hE6n; clear hE6n
  
  have hm := hr
  simp only [Mem, VE, List.cons_append, List.nil_append, and_true] at hm
  clear hr
  clear hb1
  clear ho
  have s3 : w8.heap.size + 1 < w11.heap.size := lt_of_cell HR.out.right.right.1
  have hal := ((Bl.refl w11).alloc (Obj.cells #[.string (exE1).key, .string (exE1).val, .bool (exE1).dead, .int .i64 (exE1).seq] 36)).alloc (Obj.cells #[.int .i64 0] 28)
  have hp : Mem (((w11).alloc (Obj.cells #[.string (exE1).key, .string (exE1).val, .bool (exE1).dead, .int .i64 (exE1).seq] 36)).alloc (Obj.cells #[.int .i64 0] 28)) (VE (w11).heap.size exE1 ++ [(⟨(w11).heap.size + 1, 0, none⟩, .int .i64 0)]) := by simp [Mem, VE, go_sem]
  have hr := (HR.out.bl hal).app hp
  have hzn := ((hz.bl hal).app ((Szs.new w11 #[.string (exE1).key, .string (exE1).val, .bool (exE1).dead, .int .i64 (exE1).seq] 36 4 rfl (by omega)).bl ((Bl.refl _).alloc (Obj.cells #[.int .i64 0] 28)))).app (show Szs _ [((w11).heap.size + 1, 1)] by have := Szs.new ((w11).alloc (Obj.cells #[.string (exE1).key, .string (exE1).val, .bool (exE1).dead, .int .i64 (exE1).seq] 36)) #[.int .i64 0] 28 1 rfl (by omega); simpa using this)
  clear hz
  have hz := hzn
  clear hzn
  have hbn := hb.trans hal
  clear hb
  have hb := hbn
  clear hbn
  clear HR hm
  have HR := Lib.hid hr
  
  have hm := hr
  simp only [Mem, VE, List.cons_append, List.nil_append, and_true] at hm
  clear hr hp hal
  go_upto_region 6 with fail
  generalize (w11.alloc (Obj.cells #[.string exE1.key, .string exE1.val, .bool exE1.dead, .int .i64 exE1.seq] 36)).alloc (Obj.cells #[.int .i64 0] 28) = W6 at *
  generalize w3.heap.size = A at *
  generalize w5.heap.size = B at *
  generalize w8.heap.size = C at *
  generalize w11.heap.size = D at *
  obtain ⟨d0, d1, d2, d3⟩ := (HAT.out 0 exE1 rfl).bl hb
  have hq := fun x : BW W6 => HR.out.bl x.h
  have hd := fun x : BW W6 => And.intro (x.h.cell d0) (And.intro (x.h.cell d1) (And.intro (x.h.cell d2) (x.h.cell d3)))
  clear d0 d1 d2 d3
  simp only [Mem, VE, List.cons_append, List.nil_append, and_true, exE1, exE2, exE3, ent0, mt, Nat.zero_mul, Nat.one_mul, Nat.add_zero] at hq hd
  
  refine wp_region_quiet_bw W6 (by kernel_rfl) (by kernel_rfl) (Bl.refl W6) ?_
  repeat (go_big_quiet_step ((go_at_call 20; exact quietB (lawAt _ _))))
  refine wpQuiet_nil ?_
  intro wq hw'
  have hwq : Bl W6 wq := by obtain ⟨x, hx⟩ := hw'; rw [hx]; exact x.h
  clear hw'
  clear hq hd
  have hr := HR.out.bl hwq
  have hbn := Bl.trans hb hwq
  clear hb
  have hb := hbn
  clear hbn
  clear HR hm
  have HR := Lib.hid hr
  have hzn := hz.bl hwq
  clear hz
  have hz := hzn
  clear hzn
  try have hE5n := hE5.bl hwq; clear hE5; have hE5 := hE5n; clear hE5n
  try have hE6n := hE6.bl hwq; clear hE6; have hE6 := hE6n; clear hE6n
  
  have hm := hr
  simp only [Mem, VE, List.cons_append, List.nil_append, and_true] at hm
  clear hr
  clear hwq
  simp only [exE1, exE2, exE3, ent0, mt] at hm
  have hne : A ≠ B ∧ A ≠ C ∧ A ≠ C + 1 ∧ A ≠ D ∧ A ≠ D + 1 ∧ B ≠ A ∧ B ≠ C ∧ B ≠ C + 1 ∧ B ≠ D ∧ B ≠ D + 1 ∧ C ≠ A ∧ C ≠ B ∧ C ≠ D ∧ C ≠ D + 1 ∧ C + 1 ≠ A ∧ C + 1 ≠ B ∧ C + 1 ≠ D ∧ C + 1 ≠ D + 1 ∧ D ≠ A ∧ D ≠ B ∧ D ≠ C ∧ D ≠ C + 1 ∧ D + 1 ≠ A ∧ D + 1 ≠ B ∧ D + 1 ≠ C ∧ D + 1 ≠ C + 1 := by refine ⟨?_, ?_, ?_, ?_, ?_, ?_, ?_, ?_, ?_, ?_, ?_, ?_, ?_, ?_, ?_, ?_, ?_, ?_, ?_, ?_, ?_, ?_, ?_, ?_, ?_, ?_⟩ <;> omega
  go_wp2_with fail
  refine (HX.out _).mono ?_; rintro e w12 ⟨v, rfl, ⟨ak, ck, rfl, ho⟩, hb1⟩
  unfold Rn.v exR
  simp only
  have hr := HR.out.bl hb1
  have hbn := Bl.trans hb hb1
  clear hb
  have hb := hbn
  clear hbn
  clear HR hm
  have HR := Lib.hid hr
  have hzn := hz.bl hb1
  clear hz
  have hz := hzn
  clear hzn
  try have hE5n := hE5.bl hb1; clear hE5; have hE5 := hE5n; clear hE5n
  try have hE6n := hE6.bl hb1; clear hE6; have hE6 := hE6n; clear hE6n
  
  have hm := hr
  simp only [Mem, VE, List.cons_append, List.nil_append, and_true] at hm
  clear hr
  clear hb1
  go_wp2_with fail
  refine (lawAt _ _).mono ?_; rintro e w13 ⟨rfl, hb1⟩
  have ho' := (ho).bl hb1
  clear ho
  have ho := ho'
  clear ho'
  have hr := HR.out.bl hb1
  have hbn := Bl.trans hb hb1
  clear hb
  have hb := hbn
  clear hbn
  clear HR hm
  have HR := Lib.hid hr
  have hzn := hz.bl hb1
  clear hz
  have hz := hzn
  clear hzn
  try have hE5n := hE5.bl hb1; clear hE5; have hE5 := hE5n; clear hE5n
  try have hE6n := hE6.bl hb1; clear hE6; have hE6 := hE6n; clear hE6n
  
  have hm := hr
  simp only [Mem, VE, List.cons_append, List.nil_append, and_true] at hm
  clear hr
  clear hb1
  go_wp2_with fail
  refine ((H5).out _ _ _ ho).mono ?_; rintro e w14 ⟨v, rfl, ⟨a5, c5, rfl, hE5, hc1, hc2⟩, hb1⟩
  have hr := HR.out.bl hb1
  have hbn := Bl.trans hb hb1
  clear hb
  have hb := hbn
  clear hbn
  clear HR hm
  have HR := Lib.hid hr
  have hzn := hz.bl hb1
  clear hz
  have hz := hzn
  clear hzn
  try have hE5n := hE5.bl hb1; clear hE5; have hE5 := hE5n; clear hE5n
  try have hE6n := hE6.bl hb1; clear hE6; have hE6 := hE6n; clear hE6n
  
  have hm := hr
  simp only [Mem, VE, List.cons_append, List.nil_append, and_true] at hm
  clear hr
  clear hb1 hc1 hc2 ho
  simp only [List.length_cons, List.length_nil, Nat.zero_add, Nat.reduceAdd]
  obtain ⟨b5, o5, rfl, hat⟩ := hE5.get (k := 0) (by decide)
  have n5 : b5 ≠ A ∧ b5 ≠ B ∧ b5 ≠ C + 1 ∧ b5 ≠ D ∧ b5 ≠ D + 1 := by
    have g := hat 1 exE2 rfl
    exact ⟨hz.ne (q := (A, 1)) g (by simp) (by simp), hz.ne (q := (B, 1)) g (by simp) (by simp), hz.ne (q := (C + 1, 1)) g (by simp) (by simp), hz.ne (q := (D, 4)) g (by simp) (by simp), hz.ne (q := (D + 1, 1)) g (by simp) (by simp)⟩
  clear hat
  go_wp2_with fail
  have hr := HR.out.upd ⟨A, 0, none⟩ (.int .i64 2)
  simp [updM, VE, hne] at hr
  have hzn := hz.set2 ⟨A, 0, none⟩ (.int .i64 2) (by intro q hq; simp at hq; rcases hq with rfl | rfl | rfl | rfl | rfl | rfl <;> simp <;> omega)
  clear hz
  have hz := hzn
  clear hzn
  try have hE5n := hE5.set ⟨A, 0, none⟩ (.int .i64 2) (by simp only; omega); clear hE5; have hE5 := hE5n; clear hE5n
  try have hE6n := hE6.set ⟨A, 0, none⟩ (.int .i64 2) (by simp only; omega); clear hE6; have hE6 := hE6n; clear hE6n
  have hbn := hb.setCell ⟨A, 0, none⟩ (by simp only; omega) (.int .i64 2)
  clear hb
  have hb := hbn
  clear hbn
  clear HR hm
  have HR := Lib.hid hr
  
  have hm := hr
  simp only [Mem, VE, List.cons_append, List.nil_append, and_true] at hm
  clear hr
  go_wp2_with fail
  refine (HX.out _).mono ?_; rintro e w15 ⟨v, rfl, ⟨ak, ck, rfl, ho⟩, hb1⟩
  unfold Rn.v exR
  simp only
  have hr := HR.out.bl hb1
  have hbn := Bl.trans hb hb1
  clear hb
  have hb := hbn
  clear hbn
  clear HR hm
  have HR := Lib.hid hr
  have hzn := hz.bl hb1
  clear hz
  have hz := hzn
  clear hzn
  try have hE5n := hE5.bl hb1; clear hE5; have hE5 := hE5n; clear hE5n
  try have hE6n := hE6.bl hb1; clear hE6; have hE6 := hE6n; clear hE6n
  
  have hm := hr
  simp only [Mem, VE, List.cons_append, List.nil_append, and_true] at hm
  clear hr
  clear hb1
  go_wp2_with fail
  refine (lawAt _ _).mono ?_; rintro e w16 ⟨rfl, hb1⟩
  have ho' := (ho).bl hb1
  clear ho
  have ho := ho'
  clear ho'
  have hr := HR.out.bl hb1
  have hbn := Bl.trans hb hb1
  clear hb
  have hb := hbn
  clear hbn
  clear HR hm
  have HR := Lib.hid hr
  have hzn := hz.bl hb1
  clear hz
  have hz := hzn
  clear hzn
  try have hE5n := hE5.bl hb1; clear hE5; have hE5 := hE5n; clear hE5n
  try have hE6n := hE6.bl hb1; clear hE6; have hE6 := hE6n; clear hE6n
  
  have hm := hr
  simp only [Mem, VE, List.cons_append, List.nil_append, and_true] at hm
  clear hr
  clear hb1
  go_wp2_with fail
  refine ((H6).out _ _ _ ho).mono ?_; rintro e w17 ⟨v, rfl, ⟨a6, c6, rfl, hE6, hc1, hc2⟩, hb1⟩
  have hr := HR.out.bl hb1
  have hbn := Bl.trans hb hb1
  clear hb
  have hb := hbn
  clear hbn
  clear HR hm
  have HR := Lib.hid hr
  have hzn := hz.bl hb1
  clear hz
  have hz := hzn
  clear hzn
  try have hE5n := hE5.bl hb1; clear hE5; have hE5 := hE5n; clear hE5n
  try have hE6n := hE6.bl hb1; clear hE6; have hE6 := hE6n; clear hE6n
  
  have hm := hr
  simp only [Mem, VE, List.cons_append, List.nil_append, and_true] at hm
  clear hr
  clear hb1 hc1 hc2 ho
  simp only [List.length_cons, List.length_nil, Nat.zero_add, Nat.reduceAdd]
  obtain ⟨b6, o6, rfl, hat⟩ := hE6.get (k := 0) (by decide)
  have n6 : b6 ≠ A ∧ b6 ≠ B ∧ b6 ≠ C + 1 ∧ b6 ≠ D ∧ b6 ≠ D + 1 := by
    have g := hat 0 exE3 rfl
    refine ⟨hz.ne (q := (A, 1)) g (by simp) (by simp), hz.ne (q := (B, 1)) g (by simp) (by simp), hz.ne (q := (C + 1, 1)) g (by simp) (by simp), ?_, hz.ne (q := (D + 1, 1)) g (by simp) (by simp)⟩
    rintro rfl
    have k1 := (hz (b6, 4) (by simp)).2.2
    rcases Nat.eq_zero_or_pos o6 with z | z
    · subst z
      exact absurd g.1 (by simp [hm, exE1, exE3])
    · have g3 := g.4
      rw [k1 _ (by omega)] at g3
      cases g3
  clear hat
  go_wp2_with fail
  have hr := HR.out.upd ⟨B, 0, none⟩ (.int .i64 3)
  simp [updM, VE, hne] at hr
  have hzn := hz.set2 ⟨B, 0, none⟩ (.int .i64 3) (by intro q hq; simp at hq; rcases hq with rfl | rfl | rfl | rfl | rfl | rfl <;> simp <;> omega)
  clear hz
  have hz := hzn
  clear hzn
  try have hE5n := hE5.set ⟨B, 0, none⟩ (.int .i64 3) (by simp only; omega); clear hE5; have hE5 := hE5n; clear hE5n
  try have hE6n := hE6.set ⟨B, 0, none⟩ (.int .i64 3) (by simp only; omega); clear hE6; have hE6 := hE6n; clear hE6n
  have hbn := hb.setCell ⟨B, 0, none⟩ (by simp only; omega) (.int .i64 3)
  clear hb
  have hb := hbn
  clear hbn
  clear HR hm
  have HR := Lib.hid hr
  
  have hm := hr
  simp only [Mem, VE, List.cons_append, List.nil_append, and_true] at hm
  clear hr
  go_wp2_with fail
  refine (HX.out _).mono ?_; rintro e w18 ⟨v, rfl, ⟨ak, ck, rfl, ho⟩, hb1⟩
  unfold Rn.v exR
  simp only
  have hr := HR.out.bl hb1
  have hbn := Bl.trans hb hb1
  clear hb
  have hb := hbn
  clear hbn
  clear HR hm
  have HR := Lib.hid hr
  have hzn := hz.bl hb1
  clear hz
  have hz := hzn
  clear hzn
  try have hE5n := hE5.bl hb1; clear hE5; have hE5 := hE5n; clear hE5n
  try have hE6n := hE6.bl hb1; clear hE6; have hE6 := hE6n; clear hE6n
  
  have hm := hr
  simp only [Mem, VE, List.cons_append, List.nil_append, and_true] at hm
  clear hr
  clear hb1
  go_wp2_with fail
  refine (lawAt _ _).mono ?_; rintro e w19 ⟨rfl, hb1⟩
  have ho' := (ho).bl hb1
  clear ho
  have ho := ho'
  clear ho'
  have hr := HR.out.bl hb1
  have hbn := Bl.trans hb hb1
  clear hb
  have hb := hbn
  clear hbn
  clear HR hm
  have HR := Lib.hid hr
  have hzn := hz.bl hb1
  clear hz
  have hz := hzn
  clear hzn
  try have hE5n := hE5.bl hb1; clear hE5; have hE5 := hE5n; clear hE5n
  try have hE6n := hE6.bl hb1; clear hE6; have hE6 := hE6n; clear hE6n
  
  have hm := hr
  simp only [Mem, VE, List.cons_append, List.nil_append, and_true] at hm
  clear hr
  clear hb1
  go_wp2_with fail
  refine (H7.out _ _ _ ho).mono ?_; rintro e w20 ⟨rfl, hb1⟩
  have hr := HR.out.bl hb1
  have hbn := Bl.trans hb hb1
  clear hb
  have hb := hbn
  clear hbn
  clear HR hm
  have HR := Lib.hid hr
  have hzn := hz.bl hb1
  clear hz
  have hz := hzn
  clear hzn
  try have hE5n := hE5.bl hb1; clear hE5; have hE5 := hE5n; clear hE5n
  try have hE6n := hE6.bl hb1; clear hE6; have hE6 := hE6n; clear hE6n
  
  have hm := hr
  simp only [Mem, VE, List.cons_append, List.nil_append, and_true] at hm
  clear hr
  clear hb1
  clear ho
  go_wp2_with fail
  have hr := HR.out.upd ⟨D, 0, none⟩ (.string exE2.key)
  simp [updM, VE, hne] at hr
  have hzn := hz.set2 ⟨D, 0, none⟩ (.string exE2.key) (by intro q hq; simp at hq; rcases hq with rfl | rfl | rfl | rfl | rfl | rfl <;> simp <;> omega)
  clear hz
  have hz := hzn
  clear hzn
  try have hE5n := hE5.set ⟨D, 0, none⟩ (.string exE2.key) (by simp only; omega); clear hE5; have hE5 := hE5n; clear hE5n
  try have hE6n := hE6.set ⟨D, 0, none⟩ (.string exE2.key) (by simp only; omega); clear hE6; have hE6 := hE6n; clear hE6n
  have hbn := hb.setCell ⟨D, 0, none⟩ (by simp only; omega) (.string exE2.key)
  clear hb
  have hb := hbn
  clear hbn
  clear HR hm
  have HR := Lib.hid hr
  
  have hm := hr
  simp only [Mem, VE, List.cons_append, List.nil_append, and_true] at hm
  clear hr
  have hr := HR.out.upd ⟨D, 1, none⟩ (.string exE2.val)
  simp [updM, VE, hne] at hr
  have hzn := hz.set2 ⟨D, 1, none⟩ (.string exE2.val) (by intro q hq; simp at hq; rcases hq with rfl | rfl | rfl | rfl | rfl | rfl <;> simp <;> omega)
  clear hz
  have hz := hzn
  clear hzn
  try have hE5n := hE5.set ⟨D, 1, none⟩ (.string exE2.val) (by simp only; omega); clear hE5; have hE5 := hE5n; clear hE5n
  try have hE6n := hE6.set ⟨D, 1, none⟩ (.string exE2.val) (by simp only; omega); clear hE6; have hE6 := hE6n; clear hE6n
  have hbn := hb.setCell ⟨D, 1, none⟩ (by simp only; omega) (.string exE2.val)
  clear hb
  have hb := hbn
  clear hbn
  clear HR hm
  have HR := Lib.hid hr
  
  have hm := hr
  simp only [Mem, VE, List.cons_append, List.nil_append, and_true] at hm
  clear hr
  have hr := HR.out.upd ⟨D, 2, none⟩ (.bool exE2.dead)
  simp [updM, VE, hne] at hr
  have hzn := hz.set2 ⟨D, 2, none⟩ (.bool exE2.dead) (by intro q hq; simp at hq; rcases hq with rfl | rfl | rfl | rfl | rfl | rfl <;> simp <;> omega)
  clear hz
  have hz := hzn
  clear hzn
  try have hE5n := hE5.set ⟨D, 2, none⟩ (.bool exE2.dead) (by simp only; omega); clear hE5; have hE5 := hE5n; clear hE5n
  try have hE6n := hE6.set ⟨D, 2, none⟩ (.bool exE2.dead) (by simp only; omega); clear hE6; have hE6 := hE6n; clear hE6n
  have hbn := hb.setCell ⟨D, 2, none⟩ (by simp only; omega) (.bool exE2.dead)
  clear hb
  have hb := hbn
  clear hbn
  clear HR hm
  have HR := Lib.hid hr
  
  have hm := hr
  simp only [Mem, VE, List.cons_append, List.nil_append, and_true] at hm
  clear hr
  have hr := HR.out.upd ⟨D, 3, none⟩ (.int .i64 exE2.seq)
  simp [updM, VE, hne] at hr
  have hzn := hz.set2 ⟨D, 3, none⟩ (.int .i64 exE2.seq) (by intro q hq; simp at hq; rcases hq with rfl | rfl | rfl | rfl | rfl | rfl <;> simp <;> omega)
  clear hz
  have hz := hzn
  clear hzn
  try have hE5n := hE5.set ⟨D, 3, none⟩ (.int .i64 exE2.seq) (by simp only; omega); clear hE5; have hE5 := hE5n; clear hE5n
  try have hE6n := hE6.set ⟨D, 3, none⟩ (.int .i64 exE2.seq) (by simp only; omega); clear hE6; have hE6 := hE6n; clear hE6n
  have hbn := hb.setCell ⟨D, 3, none⟩ (by simp only; omega) (.int .i64 exE2.seq)
  clear hb
  have hb := hbn
  clear hbn
  clear HR hm
  have HR := Lib.hid hr
  
  have hm := hr
  simp only [Mem, VE, List.cons_append, List.nil_append, and_true] at hm
  clear hr
  have hr := HR.out.upd ⟨C + 1, 0, none⟩ (.int .i64 2)
  simp [updM, VE, hne] at hr
  have hzn := hz.set2 ⟨C + 1, 0, none⟩ (.int .i64 2) (by intro q hq; simp at hq; rcases hq with rfl | rfl | rfl | rfl | rfl | rfl <;> simp <;> omega)
  clear hz
  have hz := hzn
  clear hzn
  try have hE5n := hE5.set ⟨C + 1, 0, none⟩ (.int .i64 2) (by simp only; omega); clear hE5; have hE5 := hE5n; clear hE5n
  try have hE6n := hE6.set ⟨C + 1, 0, none⟩ (.int .i64 2) (by simp only; omega); clear hE6; have hE6 := hE6n; clear hE6n
  have hbn := hb.setCell ⟨C + 1, 0, none⟩ (by simp only; omega) (.int .i64 2)
  clear hb
  have hb := hbn
  clear hbn
  clear HR hm
  have HR := Lib.hid hr
  
  have hm := hr
  simp only [Mem, VE, List.cons_append, List.nil_append, and_true] at hm
  clear hr
  go_wp2_with fail
  refine (HX.out _).mono ?_; rintro e w21 ⟨v, rfl, ⟨ak, ck, rfl, ho⟩, hb1⟩
  unfold Rn.v exR
  simp only
  have hr := HR.out.bl hb1
  have hbn := Bl.trans hb hb1
  clear hb
  have hb := hbn
  clear hbn
  clear HR hm
  have HR := Lib.hid hr
  have hzn := hz.bl hb1
  clear hz
  have hz := hzn
  clear hzn
  try have hE5n := hE5.bl hb1; clear hE5; have hE5 := hE5n; clear hE5n
  try have hE6n := hE6.bl hb1; clear hE6; have hE6 := hE6n; clear hE6n
  
  have hm := hr
  simp only [Mem, VE, List.cons_append, List.nil_append, and_true] at hm
  clear hr
  clear hb1
  go_wp2_with fail
  refine (lawAt _ _).mono ?_; rintro e w22 ⟨rfl, hb1⟩
  have ho' := (ho).bl hb1
  clear ho
  have ho := ho'
  clear ho'
  have hr := HR.out.bl hb1
  have hbn := Bl.trans hb hb1
  clear hb
  have hb := hbn
  clear hbn
  clear HR hm
  have HR := Lib.hid hr
  have hzn := hz.bl hb1
  clear hz
  have hz := hzn
  clear hzn
  try have hE5n := hE5.bl hb1; clear hE5; have hE5 := hE5n; clear hE5n
  try have hE6n := hE6.bl hb1; clear hE6; have hE6 := hE6n; clear hE6n
  
  have hm := hr
  simp only [Mem, VE, List.cons_append, List.nil_append, and_true] at hm
  clear hr
  clear hb1
  go_wp2_with fail
  refine (H8.out _ _ _ ho).mono ?_; rintro e w23 ⟨rfl, hb1⟩
  have hr := HR.out.bl hb1
  have hbn := Bl.trans hb hb1
  clear hb
  have hb := hbn
  clear hbn
  clear HR hm
  have HR := Lib.hid hr
  have hzn := hz.bl hb1
  clear hz
  have hz := hzn
  clear hzn
  try have hE5n := hE5.bl hb1; clear hE5; have hE5 := hE5n; clear hE5n
  try have hE6n := hE6.bl hb1; clear hE6; have hE6 := hE6n; clear hE6n
  
  have hm := hr
  simp only [Mem, VE, List.cons_append, List.nil_append, and_true] at hm
  clear hr
  clear hb1
  clear ho
  have hal := (Bl.refl w23).alloc (Obj.cells #[.string exE1.key, .string exE1.val, .bool exE1.dead, .int .i64 exE1.seq] 36)
  have s9 : D + 1 < w23.heap.size := (hz (D + 1, 1) (by simp)).1
  have hr := HR.out.bl hal
  have hbn := Bl.trans hb hal
  clear hb
  have hb := hbn
  clear hbn
  clear HR hm
  have HR := Lib.hid hr
  have hzn := hz.bl hal
  clear hz
  have hz := hzn
  clear hzn
  try have hE5n := hE5.bl hal; clear hE5; have hE5 := hE5n; clear hE5n
  try have hE6n := hE6.bl hal; clear hE6; have hE6 := hE6n; clear hE6n
  
  have hm := hr
  simp only [Mem, VE, List.cons_append, List.nil_append, and_true] at hm
  clear hr
  have hr := HR.out.app (Mem.new4 w23 exE1 36)
  clear HR hm hal
  have HR := Lib.hid hr
  
  have hm := hr
  simp only [Mem, VE, List.cons_append, List.nil_append, and_true] at hm
  clear hr
  have hcm := World.setCell_alloc_past (w := w23) (Obj.cells #[.string exE1.key, .string exE1.val, .bool exE1.dead, .int .i64 exE1.seq] 36) (D + 1) 0 (.int .i64 0) s9
  have HCM := Lib.hid hcm
  clear hcm
  go_upto_region 12 with fail
  rw [← HCM.out]
  generalize w23.heap.size = E at *
  have hneo := hne
  clear hne
  have hne := And.intro (show E ≠ D + 1 by omega) (And.intro (show E ≠ D by omega) hneo)
  clear hneo
  have hr := HR.out.upd ⟨D + 1, 0, none⟩ (.int .i64 0)
  simp [updM, VE, hne] at hr
  have hzn := hz.set2 ⟨D + 1, 0, none⟩ (.int .i64 0) (by intro q hq; simp at hq; rcases hq with rfl | rfl | rfl | rfl | rfl | rfl <;> simp <;> omega)
  clear hz
  have hz := hzn
  clear hzn
  try have hE5n := hE5.set ⟨D + 1, 0, none⟩ (.int .i64 0) (by simp only; omega); clear hE5; have hE5 := hE5n; clear hE5n
  try have hE6n := hE6.set ⟨D + 1, 0, none⟩ (.int .i64 0) (by simp only; omega); clear hE6; have hE6 := hE6n; clear hE6n
  have hbn := hb.setCell ⟨D + 1, 0, none⟩ (by simp only; omega) (.int .i64 0)
  clear hb
  have hb := hbn
  clear hbn
  clear HR hm
  have HR := Lib.hid hr
  
  have hm := hr
  simp only [Mem, VE, List.cons_append, List.nil_append, and_true] at hm
  clear hr
  generalize (World.setCell (w23.alloc (Obj.cells #[.string exE1.key, .string exE1.val, .bool exE1.dead, .int .i64 exE1.seq] 36)) ⟨D + 1, 0, none⟩ (.int .i64 0)) = W12 at *
  have hat12 := fun (i : Nat) (x : Ent) (hx : [exE1, exE2, exE3][i]? = some x) => (HAT.out i x hx).bl hb
  have hc3 : 3 ≤ c := hcap
  have hL1 := Ents.sub hat12 [exE1, exE2] 0 (by intro i x hx; match i, hx with | 0, hx => simpa using hx | 1, hx => simpa using hx | i + 2, hx => simp at hx) (fun x hx => exR_ok x (by simp [exR] at hx ⊢; rcases hx with rfl | rfl <;> simp))
  have hL2 := Ents.sub hat12 [exE3] 2 (by intro i x hx; match i, hx with | 0, hx => simpa using hx | i + 1, hx => simp at hx) (fun x hx => exR_ok x (by simp [exR] at hx ⊢; simp [hx]))
  rw [Nat.zero_mul, Nat.add_zero] at hL1
  have S1 := Lib.hid (fun x : BW W12 => refSameE (some ⟨b5, o5, none⟩) c5 (some ⟨b, off, none⟩) c [exE1, exE2] x.w (hE5.bl x.h) (hL1.bl x.h) (by unfold maxLen; simp))
  have S2 := Lib.hid (fun x : BW W12 => refSameE (some ⟨b6, o6, none⟩) c6 (some ⟨b, off + 2 * 4, none⟩) (c - 2) [exE3] x.w (hE6.bl x.h) (hL2.bl x.h) (by unfold maxLen; simp))
  simp only [List.length_cons, List.length_nil, Nat.zero_add, Nat.reduceAdd, Nat.reduceMul] at S1 S2
  obtain ⟨d0, d1, d2, d3⟩ := hat12 0 exE1 rfl
  obtain ⟨e0, e1, e2, e3⟩ := hat12 1 exE2 rfl
  have hq := fun x : BW W12 => HR.out.bl x.h
  have hd := fun x : BW W12 => And.intro (x.h.cell d0) (And.intro (x.h.cell d1) (And.intro (x.h.cell d2) (And.intro (x.h.cell d3) (And.intro (x.h.cell e0) (And.intro (x.h.cell e1) (And.intro (x.h.cell e2) (x.h.cell e3)))))))
  clear d0 d1 d2 d3 e0 e1 e2 e3 hL1 hL2 hat12 n5 n6 hm
  simp only [Mem, VE, List.cons_append, List.nil_append, and_true, exE1, exE2, exE3, ent0, mt, Nat.zero_mul, Nat.one_mul, Nat.add_zero] at hq hd
  have hm : True := trivial
  have hc0 : (2 : Int) ≤ (c : Int) := by omega
  have hc4 : (3 : Int) ≤ (c : Int) := by omega
  have hc5 : ¬ (c = 2) := by omega
  
  refine wp_region_quiet_bw W12 (by kernel_rfl) (by kernel_rfl) (Bl.refl W12) ?_
  repeat (go_big_quiet_step ((first | (go_at_call 20; exact quietB (lawAt _ _)) | (go_at_call 16; first | with_reducible exact quietB (S1.out _) | with_reducible exact quietB (S2.out _)))))
  refine wpQuiet_nil ?_
  intro wq hw'
  have hwq : Bl W12 wq := by obtain ⟨x, hx⟩ := hw'; rw [hx]; exact x.h
  clear hw'
  clear hq hd
  have hrq := HR.out.bl hwq
  simp only [Mem, VE, List.cons_append, List.nil_append, and_true] at hrq
  have hr : Mem wq [(⟨A, 0, none⟩, .int .i64 2), (⟨B, 0, none⟩, .int .i64 3)] := by simp [Mem, hrq]
  have hbn := hb.trans hwq
  clear hb HR hrq hwq hm hE5 hE6 S1 S2 hz hc0 hc4 hc5 HL HAT hc3 hcap
  have hb := hbn
  clear hbn
  have hal := (Bl.refl wq).alloc (Obj.cells #[.string ⟨#[98]⟩, .string ⟨#[100]⟩, .bool true] 53)
  have hp : Mem (wq.alloc (Obj.cells #[.string ⟨#[98]⟩, .string ⟨#[100]⟩, .bool true] 53)) [(⟨wq.heap.size, 0, none⟩, .string ⟨#[98]⟩), (⟨wq.heap.size, 1, none⟩, .string ⟨#[100]⟩), (⟨wq.heap.size, 2, none⟩, .bool true)] := by simp [Mem, go_sem]
  have hr2 := (hr.bl hal).app hp
  have sA := lt_of_cell hr.1
  have sB := lt_of_cell hr.2.2.1
  simp only at sA sB
  clear hr hp
  have hbn := hb.trans hal
  clear hb hal
  have hb := hbn
  clear hbn
  
  have hm := hr2
  simp only [Mem, VE, List.cons_append, List.nil_append, and_true] at hm
  go_upto_region 15 with fail
  generalize (wq.alloc (Obj.cells #[.string ⟨#[98]⟩, .string ⟨#[100]⟩, .bool true] 53)) = W13 at *
  generalize wq.heap.size = Z at *
  have hneZ : A ≠ Z ∧ Z ≠ A ∧ B ≠ Z ∧ Z ≠ B := by refine ⟨?_, ?_, ?_, ?_⟩ <;> omega
  have HK : Hid (∀ w', Bl W13 w' → (w'.cell? ⟨A, 0, none⟩ = some (.int .i64 2) ∧ w'.frozen? ⟨A, 0, none⟩ = false ∧ w'.cell? ⟨B, 0, none⟩ = some (.int .i64 3) ∧ w'.frozen? ⟨B, 0, none⟩ = false ∧ w'.cell? ⟨Z, 0, none⟩ = some (.string ⟨#[98]⟩) ∧ w'.cell? ⟨Z, 1, none⟩ = some (.string ⟨#[100]⟩) ∧ w'.cell? ⟨Z, 2, none⟩ = some (.bool true))) :=
    Lib.hid (fun w' k => by have := hr2.bl k; simp only [Mem, VE, List.cons_append, List.nil_append, and_true] at this; simp [this])
  have HR := Lib.hid hr2
  clear hr2 hm
  have hb00 : Bl W13 W13 := Bl.refl _
  have hk0 := HK.out _ hb00
  go_cut [3] (fun s wx => s = .int .i64 0 ∧ Bl w1 wx ∧ Mem wx [(⟨A, 0, none⟩, .int .i64 1), (⟨B, 0, none⟩, .int .i64 3), (⟨Z, 0, none⟩, .string ⟨#[98]⟩), (⟨Z, 1, none⟩, .string ⟨#[100]⟩), (⟨Z, 2, none⟩, .bool true)])
  case first =>
    go_region_with ((first | (go_at_call 20; refine (lawAt _ _).mono ?_; rintro e w8 ⟨rfl, hb8⟩; have hk8 := HK.out w8 (by repeat (first | assumption | exact Bl.refl _ | apply Bl.drewN | apply Bl.drew | apply Bl.alloc | (refine Bl.dr ?_ (by assumption)) | (refine Bl.trans ?_ (by assumption))))) | (go_at_call 35; refine (HX.out _).mono ?_; rintro e w7 ⟨v, rfl, ⟨ak, ck, rfl, ho⟩, hb7⟩; have hk7 := HK.out w7 (by repeat (first | assumption | exact Bl.refl _ | apply Bl.drewN | apply Bl.drew | apply Bl.alloc | (refine Bl.dr ?_ (by assumption)) | (refine Bl.trans ?_ (by assumption))))) | (go_at_call 32; refine ((H9).out _ _ _ (ho.bl (by repeat (first | assumption | exact Bl.refl _ | apply Bl.drewN | apply Bl.drew | apply Bl.alloc | (refine Bl.dr ?_ (by assumption)) | (refine Bl.trans ?_ (by assumption)))))).mono ?_; rintro e w9 ⟨rfl, hb9⟩; have hk9 := HK.out w9 (by repeat (first | assumption | exact Bl.refl _ | apply Bl.drewN | apply Bl.drew | apply Bl.alloc | (refine Bl.dr ?_ (by assumption)) | (refine Bl.trans ?_ (by assumption)))))))
    all_goals
      have hb9' : Bl W13 w9 := (by repeat (first | assumption | exact Bl.refl _ | apply Bl.drewN | apply Bl.drew | apply Bl.alloc | (refine Bl.dr ?_ (by assumption)) | (refine Bl.trans ?_ (by assumption))))
      have hr9 := HR.out.bl hb9'
      have hrz := hr9.upd ⟨A, 0, none⟩ (.int .i64 1)
      simp [updM, hne, hneZ] at hrz
      have hbz := (hb.trans hb9').setCell ⟨A, 0, none⟩ (by simp only; omega) (.int .i64 1)
      go_wp2_with fail
      go_meet
      exact ⟨rfl, hbz, hrz⟩
  case rest =>
    clear hb HR hk0 HK hb00
    obtain ⟨rfl, hb, hr2⟩ := hcut
    generalize wc = W13 at *
    
    have hm := hr2
    simp only [Mem, VE, List.cons_append, List.nil_append, and_true] at hm
    go_upto_region 16 with fail
    have HK : Hid (∀ w', Bl W13 w' → (w'.cell? ⟨A, 0, none⟩ = some (.int .i64 1) ∧ w'.frozen? ⟨A, 0, none⟩ = false ∧ w'.cell? ⟨B, 0, none⟩ = some (.int .i64 3) ∧ w'.frozen? ⟨B, 0, none⟩ = false ∧ w'.cell? ⟨Z, 0, none⟩ = some (.string ⟨#[98]⟩) ∧ w'.cell? ⟨Z, 1, none⟩ = some (.string ⟨#[100]⟩) ∧ w'.cell? ⟨Z, 2, none⟩ = some (.bool true))) :=
      Lib.hid (fun w' k => by have := hr2.bl k; simp only [Mem, VE, List.cons_append, List.nil_append, and_true] at this; simp [this])
    have HR := Lib.hid hr2
    clear hr2 hm
    have hb00 : Bl W13 W13 := Bl.refl _
    have hk0 := HK.out _ hb00
    go_cut [5] (fun s wx => s = .int .i64 0 ∧ Bl w1 wx ∧ Mem wx [(⟨A, 0, none⟩, .int .i64 1), (⟨B, 0, none⟩, .int .i64 2), (⟨Z, 0, none⟩, .string ⟨#[98]⟩), (⟨Z, 1, none⟩, .string ⟨#[100]⟩), (⟨Z, 2, none⟩, .bool true)])
    case first =>
      go_region_with ((first | (go_at_call 20; refine (lawAt _ _).mono ?_; rintro e w8 ⟨rfl, hb8⟩; have hk8 := HK.out w8 (by repeat (first | assumption | exact Bl.refl _ | apply Bl.drewN | apply Bl.drew | apply Bl.alloc | (refine Bl.dr ?_ (by assumption)) | (refine Bl.trans ?_ (by assumption))))) | (go_at_call 35; refine (HX.out _).mono ?_; rintro e w7 ⟨v, rfl, ⟨ak, ck, rfl, ho⟩, hb7⟩; have hk7 := HK.out w7 (by repeat (first | assumption | exact Bl.refl _ | apply Bl.drewN | apply Bl.drew | apply Bl.alloc | (refine Bl.dr ?_ (by assumption)) | (refine Bl.trans ?_ (by assumption))))) | (go_at_call 32; refine ((H10).out _ _ _ (ho.bl (by repeat (first | assumption | exact Bl.refl _ | apply Bl.drewN | apply Bl.drew | apply Bl.alloc | (refine Bl.dr ?_ (by assumption)) | (refine Bl.trans ?_ (by assumption)))))).mono ?_; rintro e w9 ⟨rfl, hb9⟩; have hk9 := HK.out w9 (by repeat (first | assumption | exact Bl.refl _ | apply Bl.drewN | apply Bl.drew | apply Bl.alloc | (refine Bl.dr ?_ (by assumption)) | (refine Bl.trans ?_ (by assumption)))))))
      all_goals
        have hb9' : Bl W13 w9 := (by repeat (first | assumption | exact Bl.refl _ | apply Bl.drewN | apply Bl.drew | apply Bl.alloc | (refine Bl.dr ?_ (by assumption)) | (refine Bl.trans ?_ (by assumption))))
        have hr9 := HR.out.bl hb9'
        have hrz := hr9.upd ⟨B, 0, none⟩ (.int .i64 2)
        simp [updM, hne, hneZ] at hrz
        have hbz := (hb.trans hb9').setCell ⟨B, 0, none⟩ (by simp only; omega) (.int .i64 2)
        go_wp2_with fail
        go_meet
        exact ⟨rfl, hbz, hrz⟩
    case rest =>
      clear hb HR hk0 HK hb00
      obtain ⟨rfl, hb, hr2⟩ := hcut
      generalize wc = W14 at *
      have HR := Lib.hid hr2
      have hq := fun x : BW W14 => HR.out.bl x.h
      simp only [Mem, VE, List.cons_append, List.nil_append, and_true] at hq
      
      have hm := hr2
      simp only [Mem, VE, List.cons_append, List.nil_append, and_true] at hm
      clear hr2
      go_upto_region 17 with fail
      
      refine wp_region_quiet_bw W14 (by kernel_rfl) (by kernel_rfl) (Bl.refl W14) ?_
      repeat (go_big_quiet_step ((first | (go_at_call 20; exact quietB (lawAt _ _)) | (go_at_call 12; exact quietB (HA.out _)))))
      refine wpQuiet_nil ?_
      intro wq hw'
      have hwq : Bl W14 wq := by obtain ⟨x, hx⟩ := hw'; rw [hx]; exact x.h
      clear hw'
      clear hq
      have hb := (HB0.out.trans hb).trans hwq
      go_wp2_with fail
      go_ret
      exact RB.mk rfl hb
end Go.Proofs.Ytinbdppekhcekaa

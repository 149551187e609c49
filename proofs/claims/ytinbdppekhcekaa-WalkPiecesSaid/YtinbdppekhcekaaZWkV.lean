/-
  Own texts laid together: WkV.
-/
import Derived.Test.YtinbdppekhcekaaZWkQ
import Derived.Test.YtinbdppekhcekaaZPlWd
import Derived.IntWalk
import Derived.Deep.DeepCutAuto
import Derived.Maps.AppendAt
import Derived.Laws.OwnMore
/-
  The law WalkPieces, walked.
-/
namespace Go.Proofs.Ytinbdppekhcekaa
open Go.RowKit
set_option linter.unusedSimpArgs false
set_option linter.unusedVariables false
set_option maxRecDepth 100000

theorem entCells_app (l k : List Ent) : entCells (l ++ k) = entCells l ++ entCells k := by simp [entCells]
theorem ents_news {w : World} {ad : Addr} {l : List Ent} (h : Ents w (some ad) l) : ∀ (j : Nat) u, (entCells l)[j]? = some u → w.cell? (ad.add j) = some u := by
  intro j u hj
  have hlt := (List.getElem?_eq_some_iff.1 hj).1
  rw [entCells_len] at hlt
  have hi : j / 4 < l.length := by omega
  obtain ⟨b, off, e, hat⟩ := h.get hi
  injection e with e
  subst e
  have hx : l[j / 4]? = some l[j / 4] := List.getElem?_eq_getElem hi
  obtain ⟨c0, c1, c2, c3⟩ := hat _ _ hx
  obtain ⟨d0, d1, d2, d3⟩ := entCells_get l (j / 4) _ hx
  rw [show (⟨b, off, none⟩ : Addr).add j = ⟨b, off + j, none⟩ by unfold Addr.add; split <;> simp_all]
  have h4 : j % 4 = 0 ∨ j % 4 = 1 ∨ j % 4 = 2 ∨ j % 4 = 3 := by omega
  rcases h4 with e | e | e | e
  · rw [show j / 4 * 4 = j by omega] at c0 d0
    rw [d0] at hj; injection hj with hj; subst hj; exact c0
  · rw [show j / 4 * 4 + 1 = j by omega] at d1
    rw [show off + j / 4 * 4 + 1 = off + j by omega] at c1
    rw [d1] at hj; injection hj with hj; subst hj; exact c1
  · rw [show j / 4 * 4 + 2 = j by omega] at d2
    rw [show off + j / 4 * 4 + 2 = off + j by omega] at c2
    rw [d2] at hj; injection hj with hj; subst hj; exact c2
  · rw [show j / 4 * 4 + 3 = j by omega] at d3
    rw [show off + j / 4 * 4 + 3 = off + j by omega] at c3
    rw [d3] at hj; injection hj with hj; subst hj; exact c3
theorem entCells_one (l : List Ent) : ∀ u ∈ entCells l, u.oneCell' = true := by
  intro u hu
  simp only [entCells, List.mem_flatMap] at hu
  obtain ⟨x, -, hu⟩ := hu
  simp at hu
  rcases hu with rfl | rfl | rfl | rfl <;> rfl
theorem run_app {w : World} {base : Nat} {v : Value} {n : Nat} {xs : List Value} {a : Option Addr} {l : List Ent} (c : Nat) (ty : TypeId) (hown : w.ownsRow base 36 4 v n xs) (hE : Ents w a l) (hb : base ≤ w.heap.size) (hn : n + l.length ≤ 5000) :
    ∃ v' w', (Builtin.append_ #[22, 22] ty #[v, .slice a l.length c]).run Try.prog w = .ok v' w' ∧ w'.ownsRow base 36 4 v' (n + l.length) (xs ++ entCells l) ∧ w.grownBy w' v.ownBlock := by
  obtain ⟨i0, hi0, hz0, hz1, hz2⟩ := info_parts inf_ent
  match a, hE with
  | some ad, hE =>
    obtain ⟨v', w', h1, h2, h3, -, -⟩ := run_append_own_at (P := Try.prog) w base 22 ty 36 i0 (.agg #[.string ⟨#[]⟩, .string ⟨#[]⟩, .bool false, .int .i64 0]) 4 48 Try.underlying22 hi0 hz0 hz1 hz2 rfl (by omega) v n xs hown ad l.length c (entCells l) (entCells_len l) (ents_news hE) (entCells_one l) (by unfold maxLen; omega) (by omega) hb
    exact ⟨v', w', h1, h2, h3⟩
  | none, hE =>
    have hl : l = [] := by
      match l, hE with
      | [], _ => rfl
      | x :: l, hE => obtain ⟨b, off, e, -⟩ := hE.get (k := 0) (by simp); cases e
    subst hl
    refine ⟨v, w, ?_, by simpa [entCells] using hown, ⟨rfl, rfl, rfl, Nat.le_refl _, fun _ _ _ => rfl⟩⟩
    rcases hown.2 with ⟨rfl, rfl⟩ | ⟨g, cap, cur, rfl, _, _, hnc, _⟩
    · simp [Builtin.append_, run_underlying Try.underlying22, sizeOf, typeInfo, hi0, Builtin.lenOf, Builtin.firstCells]
    · simp [Builtin.append_, run_underlying Try.underlying22, sizeOf, typeInfo, hi0, Builtin.lenOf, Builtin.firstCells, hnc, storeCells]
theorem wpList_app {w : World} {ops : Array Oper} {rest : List Oper} {o : Oper} {a : Act} {Q : Exit → Act → World → Prop} (hw : Region.wanted o (yielded ops a.tmps) = true) (s x : Operand)
    (ho : o.op = .call { callee := .builtin .append, args := #[s, x], argTypes := #[22, 22] })
    (base : Nat) (v : Value) (n : Nat) (xs : List Value) (hs : a.eval s = v) (hown : w.ownsRow base 36 4 v n xs)
    (ad : Option Addr) (c : Nat) (l : List Ent) (hx : a.eval x = .slice ad l.length c) (hE : Ents w ad l) (hb : base ≤ w.heap.size) (hn : n + l.length ≤ 5000)
    (h : ∀ v' w', w'.ownsRow base 36 4 v' (n + l.length) (xs ++ entCells l) → w.grownBy w' v.ownBlock → wpList Try.prog ops Q rest (a.put o.dst v') w') :
    wpList Try.prog ops Q (o :: rest) a w := by
  refine wpList_step fun K hK => ?_
  rw [if_pos hw]
  obtain ⟨v', w', hr, h2, h3⟩ := run_app c o.type hown hE hb hn
  unfold Oper.wp execOp
  simp only [ho, resolve, invoke, builtin, Sem.run_bind, Sem.run_pure, Result.andThen_ok, List.map_toArray, List.map_cons, List.map_nil, hs, hx, hr]
  exact hK _ _ (h v' w' h2 h3)
theorem tmod_bd (x : Int) (h : -128 ≤ x ∧ x ≤ 127) : -99 ≤ x.tmod 100 ∧ x.tmod 100 ≤ 99 := by
  rcases Int.lt_or_le x 0 with k | k
  · have h1 := Int.tmod_eq_emod (a := -x) (b := 100)
    have h2 : (-x).tmod 100 = -(x.tmod 100) := Int.neg_tmod ..
    rw [if_pos (Or.inl (by omega))] at h1
    omega
  · have h1 := Int.tmod_eq_emod (a := x) (b := 100)
    rw [if_pos (Or.inl (by omega))] at h1
    omega
theorem own0 (w : World) (n : Nat) (h : w.heap.size = n) : (w.alloc (Obj.cells #[] 36)).ownsRow n 36 4 (.slice (some ⟨n, 0, none⟩) 0 0) 0 [] := by
  subst h
  exact World.ownsRow_lit w #[] 0 (Nat.le_refl _) (Nat.zero_le _) (by simp)
/-- What a call of Take leaves behind: its list, its cursor in a variable, its error. -/
def PTk (w : World) (R : List (Addr × Value)) (L : List Ent) (v : Int) (s1 s2 s3 : Value) (wx : World) (Q : World → Prop) : Prop :=
  ∃ a4 c4 g, s1 = .slice a4 L.length c4 ∧ s2 = .pointer (some ⟨g, 0, none⟩) ∧ s3 = .int .i64 0 ∧ Mem wx (R ++ [(⟨g, 0, none⟩, .int .i64 v)]) ∧ Ents wx a4 L ∧ Bl w wx ∧ Q wx
def PFl (w : World) (R : List (Addr × Value)) (s : Value) (wx : World) (Q : World → Prop) : Prop := s = .bool false ∧ Mem wx R ∧ Bl w wx ∧ Q wx
theorem pieces_far (a : Option Addr) (c : Nat) (r : Rn) (cu x y : Int) (w : World) (h : ROk w a c r) (hx : -128 ≤ x ∧ x ≤ 127) (hy : -128 ≤ y ∧ y ≤ 127) (hl : ¬ r.es.length ≤ 80) :
    Calls Try.prog 4 #[r.v a c, cur cu, .agg #[.int .i8 x, .int .i8 y]] w (RB w (.bool true)) := by
  have HA := Lib.hid (fun w => lawWalkAwake w)
  have h0 := fun w h => lawRunFar a c r w h
  have h1 : True := trivial
  have hl80 : (80 : Int) < (r.es.length : Int) := by omega
  have HO := Lib.hid h
  obtain ⟨id, l⟩ := r
  unfold Rn.v at *
  try simp only at h0 h1
  try simp only at hl hl80
  have H0 := Lib.hid h0
  have H1 := Lib.hid h1
  clear h0 h1 h
  go_enter Try.func4, Try.ntmps4
  go_wp2_with fail
  refine (H0.out _ (HO.out.bl (by repeat (first | assumption | exact Bl.refl _ | apply Bl.drewN | apply Bl.drew | apply Bl.alloc | (refine Bl.dr ?_ (by assumption)) | (refine Bl.trans ?_ (by assumption)))))).mono ?_; rintro e w1 ⟨fb, rfl, hb1⟩
  have hr : Mem w1 [(⟨w.heap.size, 0, none⟩, .int .i64 id), (⟨w.heap.size, 1, none⟩, .slice a l.length c), (⟨w.heap.size + 1, 0, none⟩, .int .i64 cu), (⟨w.heap.size + 1 + 1, 0, none⟩, .int .i8 x), (⟨w.heap.size + 1 + 1, 1, none⟩, .int .i8 y)] := by
    refine Mem.bl ?_ hb1
    simp [Mem, go_sem]
  have HR := Lib.hid hr
  
  have hm := hr
  simp only [Mem, VE, List.cons_append, List.nil_append, and_true] at hm
  have hb : Bl w w1 := (by repeat (first | assumption | exact Bl.refl _ | apply Bl.drewN | apply Bl.drew | apply Bl.alloc | (refine Bl.dr ?_ (by assumption)) | (refine Bl.trans ?_ (by assumption))))
  clear hr hb1
  cases fb
  case true =>
    
    go_wp2_with fail
    refine (HA.out _).mono ?_; rintro e w8 ⟨rfl, hb8⟩
    go_wp2_with fail
    go_ret
    exact RB.mk rfl (by repeat (first | assumption | exact Bl.refl _ | apply Bl.drewN | apply Bl.drew | apply Bl.alloc | (refine Bl.dr ?_ (by assumption)) | (refine Bl.trans ?_ (by assumption))))
  
  go_wp2_with fail
  refine (HA.out _).mono ?_; rintro e w8 ⟨rfl, hb8⟩
  go_wp2_with fail
  go_ret
  exact RB.mk rfl (by repeat (first | assumption | exact Bl.refl _ | apply Bl.drewN | apply Bl.drew | apply Bl.alloc | (refine Bl.dr ?_ (by assumption)) | (refine Bl.trans ?_ (by assumption))))
set_option maxHeartbeats 4000000 in
theorem pieces_bad (a : Option Addr) (c : Nat) (r : Rn) (cu x y e : Int) (w : World) (h : ROk w a c r) (hx : -128 ≤ x ∧ x ≤ 127) (hy : -128 ≤ y ∧ y ≤ 127) (hl : r.es.length ≤ 80) (he : e ≠ 0)
    (h1 : ∀ w, ROk w a c r → Calls Try.prog 14 #[r.v a c, cur cu, .int .i64 (x.tmod 100)] w (RM w (TkOut ([], 0, e)))) :
    Calls Try.prog 4 #[r.v a c, cur cu, .agg #[.int .i8 x, .int .i8 y]] w (RB w (.bool true)) := by
  have HA := Lib.hid (fun w => lawWalkAwake w)
  have h0 := fun w h => lawRunFar a c r w h
  have hl80 : ¬ (80 : Int) < (r.es.length : Int) := by omega
  unfold TkOut at h1
  simp only [List.length_nil] at h1
  have z1 : (e == 0) = false := by simpa using he
  have HO := Lib.hid h
  obtain ⟨id, l⟩ := r
  unfold Rn.v at *
  try simp only at h0 h1
  try simp only at hl hl80
  have H0 := Lib.hid h0
  have H1 := Lib.hid h1
  clear h0 h1 h
  go_enter Try.func4, Try.ntmps4
  go_wp2_with fail
  refine (H0.out _ (HO.out.bl (by repeat (first | assumption | exact Bl.refl _ | apply Bl.drewN | apply Bl.drew | apply Bl.alloc | (refine Bl.dr ?_ (by assumption)) | (refine Bl.trans ?_ (by assumption)))))).mono ?_; rintro e w1 ⟨fb, rfl, hb1⟩
  have hr : Mem w1 [(⟨w.heap.size, 0, none⟩, .int .i64 id), (⟨w.heap.size, 1, none⟩, .slice a l.length c), (⟨w.heap.size + 1, 0, none⟩, .int .i64 cu), (⟨w.heap.size + 1 + 1, 0, none⟩, .int .i8 x), (⟨w.heap.size + 1 + 1, 1, none⟩, .int .i8 y)] := by
    refine Mem.bl ?_ hb1
    simp [Mem, go_sem]
  have HR := Lib.hid hr
  
  have hm := hr
  simp only [Mem, VE, List.cons_append, List.nil_append, and_true] at hm
  have hb : Bl w w1 := (by repeat (first | assumption | exact Bl.refl _ | apply Bl.drewN | apply Bl.drew | apply Bl.alloc | (refine Bl.dr ?_ (by assumption)) | (refine Bl.trans ?_ (by assumption))))
  clear hr hb1
  cases fb
  case true =>
    
    go_wp2_with fail
    refine (HA.out _).mono ?_; rintro e w8 ⟨rfl, hb8⟩
    go_wp2_with fail
    go_ret
    exact RB.mk rfl (by repeat (first | assumption | exact Bl.refl _ | apply Bl.drewN | apply Bl.drew | apply Bl.alloc | (refine Bl.dr ?_ (by assumption)) | (refine Bl.trans ?_ (by assumption))))
  go_wp2_with fail
  go_quiet (fail)
  go_wp2_with fail
  refine (H1.out _ (HO.out.bl (by repeat (first | assumption | exact Bl.refl _ | apply Bl.drewN | apply Bl.drew | apply Bl.alloc | (refine Bl.dr ?_ (by assumption)) | (refine Bl.trans ?_ (by assumption)))))).mono ?_; rintro e2 w2 ⟨v, rfl, ⟨a2, c2, rfl, hE, hc1, hc2⟩, hb1⟩
  have hb2 : Bl w1 w2 := (by repeat (first | assumption | exact Bl.refl _ | apply Bl.drewN | apply Bl.drew | apply Bl.alloc | (refine Bl.dr ?_ (by assumption)) | (refine Bl.trans ?_ (by assumption))))
  have hr := HR.out.bl hb2
  have hbn := Bl.trans hb hb2
  clear hb
  have hb := hbn
  clear hbn
  clear HR hm
  have HR := Lib.hid hr
  
  have hm := hr
  simp only [Mem, VE, List.cons_append, List.nil_append, and_true] at hm
  clear hr
  clear hb1 hb2
  
  go_wp2_with fail
  refine (HA.out _).mono ?_; rintro e w8 ⟨rfl, hb8⟩
  go_wp2_with fail
  go_ret
  exact RB.mk rfl (by repeat (first | assumption | exact Bl.refl _ | apply Bl.drewN | apply Bl.drew | apply Bl.alloc | (refine Bl.dr ?_ (by assumption)) | (refine Bl.trans ?_ (by assumption))))
set_option maxHeartbeats 8000000 in
theorem pieces_ok (a : Option Addr) (c : Nat) (r : Rn) (cu x y n m va vb vc vd : Int) (L K A B : List Ent) (w : World) (h : ROk w a c r) (hx : -128 ≤ x ∧ x ≤ 127) (hy : -128 ≤ y ∧ y ≤ 127) (hl : r.es.length ≤ 80)
    (en : x.tmod 100 = n) (em : y.tmod 100 = m) (hn : -99 ≤ n ∧ n ≤ 99) (hm99 : -99 ≤ m ∧ m ≤ 99) (hS : PiecesLaw n m cu L K A B vb vc vd)
    (h1 : ∀ w, ROk w a c r → Calls Try.prog 14 #[r.v a c, cur cu, .int .i64 n] w (RM w (TkOut (L, va, 0))))
    (h2 : ∀ w, ROk w a c r → Calls Try.prog 14 #[r.v a c, cur va, .int .i64 m] w (RM w (TkOut (K, vb, 0))))
    (h3 : ∀ w, ROk w a c r → Calls Try.prog 14 #[r.v a c, cur cu, .int .i64 (n + m)] w (RM w (TkOut (A, vc, 0))))
    (h4 : ∀ w, ROk w a c r → Calls Try.prog 14 #[r.v a c, cur va, .int .i64 (-n)] w (RM w (TkOut (B, vd, 0)))) :
    Calls Try.prog 4 #[r.v a c, cur cu, .agg #[.int .i8 x, .int .i8 y]] w (RB w (.bool true)) := by
  have HA := Lib.hid (fun w => lawWalkAwake w)
  have h0 := fun w h => lawRunFar a c r w h
  have hl80 : ¬ (80 : Int) < (r.es.length : Int) := by omega
  unfold TkOut at h1 h2 h3 h4
  simp only at h1 h2 h3 h4
  have H2 := Lib.hid h2
  have H3 := Lib.hid h3
  have H4 := Lib.hid h4
  have HS := Lib.hid hS
  have EN := Lib.hid en
  have EM := Lib.hid em
  clear h2 h3 h4 hS en em
  have HO := Lib.hid h
  obtain ⟨id, l⟩ := r
  unfold Rn.v at *
  try simp only at h0 h1
  try simp only at hl hl80
  have H0 := Lib.hid h0
  have H1 := Lib.hid h1
  clear h0 h1 h
  go_enter Try.func4, Try.ntmps4
  go_wp2_with fail
  refine (H0.out _ (HO.out.bl (by repeat (first | assumption | exact Bl.refl _ | apply Bl.drewN | apply Bl.drew | apply Bl.alloc | (refine Bl.dr ?_ (by assumption)) | (refine Bl.trans ?_ (by assumption)))))).mono ?_; rintro e w1 ⟨fb, rfl, hb1⟩
  have hr : Mem w1 [(⟨w.heap.size, 0, none⟩, .int .i64 id), (⟨w.heap.size, 1, none⟩, .slice a l.length c), (⟨w.heap.size + 1, 0, none⟩, .int .i64 cu), (⟨w.heap.size + 1 + 1, 0, none⟩, .int .i8 x), (⟨w.heap.size + 1 + 1, 1, none⟩, .int .i8 y)] := by
    refine Mem.bl ?_ hb1
    simp [Mem, go_sem]
  have HR := Lib.hid hr
  
  have hm := hr
  simp only [Mem, VE, List.cons_append, List.nil_append, and_true] at hm
  have hb : Bl w w1 := (by repeat (first | assumption | exact Bl.refl _ | apply Bl.drewN | apply Bl.drew | apply Bl.alloc | (refine Bl.dr ?_ (by assumption)) | (refine Bl.trans ?_ (by assumption))))
  clear hr hb1
  cases fb
  case true =>
    
    go_wp2_with fail
    refine (HA.out _).mono ?_; rintro e w8 ⟨rfl, hb8⟩
    go_wp2_with fail
    go_ret
    exact RB.mk rfl (by repeat (first | assumption | exact Bl.refl _ | apply Bl.drewN | apply Bl.drew | apply Bl.alloc | (refine Bl.dr ?_ (by assumption)) | (refine Bl.trans ?_ (by assumption))))
  go_wp2_with fail
  go_quiet (fail)
  rw [EN.out, EM.out]
  have hbq : Bl w1 (w1.drewN nq) := (by repeat (first | assumption | exact Bl.refl _ | apply Bl.drewN | apply Bl.drew | apply Bl.alloc | (refine Bl.dr ?_ (by assumption)) | (refine Bl.trans ?_ (by assumption))))
  have hr := HR.out.bl hbq
  have hbn := Bl.trans hb hbq
  clear hb
  have hb := hbn
  clear hbn
  clear HR hm
  have HR := Lib.hid hr
  
  have hm := hr
  simp only [Mem, VE, List.cons_append, List.nil_append, and_true] at hm
  clear hr
  clear hbq
  generalize w1.drewN nq = W1 at *
  have hr := (show Mem W1 ([(⟨w.heap.size, 0, none⟩, .int .i64 id), (⟨w.heap.size, 1, none⟩, .slice a l.length c), (⟨w.heap.size + 1, 0, none⟩, .int .i64 cu)] ++ [(⟨w.heap.size + 1 + 1, 0, none⟩, .int .i8 x), (⟨w.heap.size + 1 + 1, 1, none⟩, .int .i8 y)]) from HR.out).left
  clear HR hm
  have HR := Lib.hid hr
  
  have hm := hr
  simp only [Mem, VE, List.cons_append, List.nil_append, and_true] at hm
  clear hr
  have q1 : IntKind.i64.wrap (n + m) = n + m := IntWalk.i64_in _ (by omega)
  have q2 : IntKind.i64.wrap (-n) = -n := IntWalk.i64_in _ (by omega)
  have q3 : IntKind.i64.wrap (n * m) = n * m := by
    have : (n * m).natAbs ≤ 99 * 99 := by rw [Int.natAbs_mul]; exact Nat.mul_le_mul (by omega) (by omega)
    exact IntWalk.i64_in _ (by omega)
  go_upto_region 4 with fail
  go_cut [9, 10, 11] (fun s1 s2 s3 wx => PTk w [(⟨w.heap.size, 0, none⟩, .int .i64 id), (⟨w.heap.size, 1, none⟩, .slice a l.length c), (⟨w.heap.size + 1, 0, none⟩, .int .i64 cu)] L va s1 s2 s3 wx (fun _ => True))
  case first =>
    go_wp2_with fail
    refine ((H1).out _ (HO.out.bl hb)).mono ?_; rintro e w4 ⟨v, rfl, ⟨a9, c9, rfl, hE, hc1, hc2⟩, hb1⟩
    have hal := hb1.trans ((Bl.refl w4).alloc (Obj.cells #[.int .i64 va] 28))
    have hr := (HR.out.bl hal).app (show Mem (w4.alloc (Obj.cells #[.int .i64 va] 28)) [(⟨w4.heap.size, 0, none⟩, .int .i64 va)] by simp [Mem, go_sem])
    have hEn := hE.bl ((Bl.refl w4).alloc (Obj.cells #[.int .i64 va] 28))
    have hbn := hb.trans hal
    have HRn := Lib.hid hr
    clear HR hm hE hc1 hc2
    
    have hm := hr
    simp only [Mem, VE, List.cons_append, List.nil_append, and_true] at hm
    clear hr
    go_wp2_with fail
    go_meet
    exact ⟨a9, c9, _, rfl, rfl, rfl, HRn.out, hEn, hbn, trivial⟩
  case rest =>
    clear hb HR hm
    obtain ⟨a4, c4, g4, rfl, rfl, rfl, hr, hL, hb, -⟩ := hcut
    generalize wc = W4 at *
    have HR := Lib.hid hr
    
    have hm := hr
    simp only [Mem, VE, List.cons_append, List.nil_append, and_true] at hm
    clear hr
    as_aux_lemma =>
    go_upto_region 7 with fail
    go_cut [12, 13, 14] (fun s1 s2 s3 wx => PTk w ([(⟨w.heap.size, 0, none⟩, .int .i64 id), (⟨w.heap.size, 1, none⟩, .slice a l.length c), (⟨w.heap.size + 1, 0, none⟩, .int .i64 cu)] ++ [(⟨g4, 0, none⟩, .int .i64 va)]) K vb s1 s2 s3 wx (fun wx => Ents wx a4 L))
    case first =>
      go_wp2_with fail
      refine ((H2).out _ (HO.out.bl hb)).mono ?_; rintro e w4 ⟨v, rfl, ⟨a9, c9, rfl, hE, hc1, hc2⟩, hb1⟩
      have hal := hb1.trans ((Bl.refl w4).alloc (Obj.cells #[.int .i64 vb] 28))
      have hr := (HR.out.bl hal).app (show Mem (w4.alloc (Obj.cells #[.int .i64 vb] 28)) [(⟨w4.heap.size, 0, none⟩, .int .i64 vb)] by simp [Mem, go_sem])
      have hEn := hE.bl ((Bl.refl w4).alloc (Obj.cells #[.int .i64 vb] 28))
      have hbn := hb.trans hal
      have HRn := Lib.hid hr
      clear HR hm hE hc1 hc2
      
      have hm := hr
      simp only [Mem, VE, List.cons_append, List.nil_append, and_true] at hm
      clear hr
      go_wp2_with fail
      go_meet
      exact ⟨a9, c9, _, rfl, rfl, rfl, HRn.out, hEn, hbn, hL.bl hal⟩
    case rest =>
      clear hb HR hm
      clear hL
      obtain ⟨a5, c5, g5, rfl, rfl, rfl, hr, hK, hb, hL⟩ := hcut
      generalize wc = W5 at *
      have HR := Lib.hid hr
      
      have hm := hr
      simp only [Mem, VE, List.cons_append, List.nil_append, and_true] at hm
      clear hr
      as_aux_lemma =>
      go_upto_region 8 with fail
      go_cut [15, 16, 17] (fun s1 s2 s3 wx => PTk w ([(⟨w.heap.size, 0, none⟩, .int .i64 id), (⟨w.heap.size, 1, none⟩, .slice a l.length c), (⟨w.heap.size + 1, 0, none⟩, .int .i64 cu)] ++ [(⟨g4, 0, none⟩, .int .i64 va)] ++ [(⟨g5, 0, none⟩, .int .i64 vb)]) A vc s1 s2 s3 wx (fun wx => Ents wx a4 L ∧ Ents wx a5 K))
      case first =>
        go_wp2_with fail
        refine ((H3).out _ (HO.out.bl hb)).mono ?_; rintro e w4 ⟨v, rfl, ⟨a9, c9, rfl, hE, hc1, hc2⟩, hb1⟩
        have hal := hb1.trans ((Bl.refl w4).alloc (Obj.cells #[.int .i64 vc] 28))
        have hr := (HR.out.bl hal).app (show Mem (w4.alloc (Obj.cells #[.int .i64 vc] 28)) [(⟨w4.heap.size, 0, none⟩, .int .i64 vc)] by simp [Mem, go_sem])
        have hEn := hE.bl ((Bl.refl w4).alloc (Obj.cells #[.int .i64 vc] 28))
        have hbn := hb.trans hal
        have HRn := Lib.hid hr
        clear HR hm hE hc1 hc2
        
        have hm := hr
        simp only [Mem, VE, List.cons_append, List.nil_append, and_true] at hm
        clear hr
        go_wp2_with fail
        go_meet
        exact ⟨a9, c9, _, rfl, rfl, rfl, HRn.out, hEn, hbn, ⟨hL.bl hal, hK.bl hal⟩⟩
      case rest =>
        clear hb HR hm
        clear hL hK
        obtain ⟨a6, c6, g6, rfl, rfl, rfl, hr, hA, hb, hL, hK⟩ := hcut
        generalize wc = W6 at *
        have HR := Lib.hid hr
        
        have hm := hr
        simp only [Mem, VE, List.cons_append, List.nil_append, and_true] at hm
        clear hr
        as_aux_lemma =>
        go_upto_region 11 with fail
        go_cut [96] (fun s wx => PFl w ([(⟨w.heap.size, 0, none⟩, .int .i64 id), (⟨w.heap.size, 1, none⟩, .slice a l.length c), (⟨w.heap.size + 1, 0, none⟩, .int .i64 cu)] ++ [(⟨g4, 0, none⟩, .int .i64 va)]) s wx (fun wx => Ents wx a4 L))
        case first =>
          by_cases hs : 0 ≤ n * m
          · obtain ⟨f1, f2⟩ := HS.out.join hs
            subst f2
            have HF1 := Lib.hid f1
            clear f1
            have d1 : decide (0 ≤ n * m) = true := by simpa using hs
            obtain ⟨u1, u2, -, -⟩ := HS.out.small
            have hb0 : Bl W6 (W6.alloc (Obj.cells #[] 36)) := (Bl.refl _).alloc _
            have hL0 := hL.bl hb0
            have ho0 := own0 W6 W6.heap.size rfl
            go_wp2_with (at_builtin; refine wpList_app ?hw _ _ rfl W6.heap.size (.slice (some ⟨W6.heap.size, 0, none⟩) 0 0) 0 [] rfl ho0 a4 c4 L rfl hL0 (by simp) (by omega) ?_)
            intro v1 wA hA1 hg1
            have hbA : Bl W6 wA := grown_bl hb0 ho0 hg1 (Nat.le_refl _)
            have hKA := hK.bl hbA
            have hsA : W6.heap.size ≤ wA.heap.size := hbA.size
            clear hg1 hL0 hb0 ho0
            as_aux_lemma =>
            go_wp2_with (at_builtin; refine wpList_app ?hw2 _ _ rfl W6.heap.size v1 L.length (entCells L) rfl hA1 a5 c5 K rfl hKA hsA (by omega) ?_)
            intro v2 wB hA2 hg2
            have hbB : Bl W6 wB := grown_bl hbA hA1 hg2 (Nat.le_refl _)
            obtain ⟨a8, c8, rfl, hE8, -, -⟩ := own_ents (l := L ++ K) (by rw [List.length_append, entCells_app]; exact hA2) (fun z hz => (List.mem_append.1 hz).elim (hL.ok z) (hK.ok z))
            have hAl : L.length + K.length = A.length := by rw [HF1.out, List.length_append]
            have hSm : Calls Try.prog 16 #[.slice a8 (L.length + K.length) c8, .slice a6 A.length c6] wB (RB wB (.bool true)) := by
              rw [hAl]
              exact refSameE a8 c8 a6 c6 A wB (by rw [HF1.out]; exact hE8) (hA.bl hbB) (by unfold maxLen; omega)
            have HSm := Lib.hid hSm
            clear hAl
            rw [List.length_append]
            clear hSm hE8 hA2 hg2 hA1 hKA hsA hA
            have hL := hL.bl hbB
            have hr := HR.out.bl hbB
            have hbn := Bl.trans hb hbB
            clear hb
            have hb := hbn
            clear hbn
            clear HR hm
            have HR := Lib.hid hr
            
            have hm := hr
            simp only [Mem, VE, List.cons_append, List.nil_append, and_true] at hm
            clear hr
            clear hbB hbA
            as_aux_lemma =>
            go_wp2_with fail
            refine HSm.out.mono ?_; rintro e wC ⟨rfl, hb1⟩
            have hL := hL.bl hb1
            have hr := HR.out.bl hb1
            have hbn := Bl.trans hb hb1
            clear hb
            have hb := hbn
            clear hbn
            clear HR hm
            have HR := Lib.hid hr
            
            have hm := hr
            simp only [Mem, VE, List.cons_append, List.nil_append, and_true] at hm
            clear hr
            clear hb1 HSm
            go_wp2_with fail
            go_meet
            exact ⟨rfl, HR.out.left.left, hb, hL⟩
          · go_wp2_with fail
            go_meet
            exact ⟨rfl, HR.out.left.left, hb, hL⟩
        case rest =>
          clear hL hK hA hb HR hm
          obtain ⟨rfl, hr, hb, hL⟩ := hcut
          generalize wc = W7 at *
          have HR := Lib.hid hr
          
          have hm := hr
          simp only [Mem, VE, List.cons_append, List.nil_append, and_true] at hm
          clear hr
          as_aux_lemma =>
          go_upto_region 13 with fail
          go_cut [11, 18, 19] (fun s3 s1 s2 wx => PTk w ([(⟨w.heap.size, 0, none⟩, .int .i64 id), (⟨w.heap.size, 1, none⟩, .slice a l.length c), (⟨w.heap.size + 1, 0, none⟩, .int .i64 cu)] ++ [(⟨g4, 0, none⟩, .int .i64 va)]) B vd s1 s2 s3 wx (fun wx => Ents wx a4 L))
          case first =>
            go_wp2_with fail
            refine ((H4).out _ (HO.out.bl hb)).mono ?_; rintro e w4 ⟨v, rfl, ⟨a9, c9, rfl, hE, hc1, hc2⟩, hb1⟩
            have hal := hb1.trans ((Bl.refl w4).alloc (Obj.cells #[.int .i64 vd] 28))
            have hr := (HR.out.bl hal).app (show Mem (w4.alloc (Obj.cells #[.int .i64 vd] 28)) [(⟨w4.heap.size, 0, none⟩, .int .i64 vd)] by simp [Mem, go_sem])
            have hEn := hE.bl ((Bl.refl w4).alloc (Obj.cells #[.int .i64 vd] 28))
            have hbn := hb.trans hal
            have HRn := Lib.hid hr
            clear HR hm hE hc1 hc2
            
            have hm := hr
            simp only [Mem, VE, List.cons_append, List.nil_append, and_true] at hm
            clear hr
            go_wp2_with fail
            go_meet
            exact ⟨a9, c9, _, rfl, rfl, rfl, HRn.out, hEn, hbn, hL.bl hal⟩
          case rest =>
            clear hb HR hm
            clear hL
            obtain ⟨a7, c7, g7, rfl, rfl, rfl, hr, hB, hb, hL⟩ := hcut
            generalize wc = W7 at *
            have HR := Lib.hid hr
            
            have hm := hr
            simp only [Mem, VE, List.cons_append, List.nil_append, and_true] at hm
            clear hr
            as_aux_lemma =>
            have hle := HS.out.le
            have hL8 := HS.out.small.1
            have m1 : (L.length : Int) ≤ max n (-n) := by omega
            by_cases hq : L.length = n.natAbs
            · have m2 : max n (-n) ≤ (L.length : Int) := by omega
              obtain ⟨f1, f2, f3⟩ := HS.out.back hq
              have m3 : ((B.length : Int) != (L.length : Int)) = false := by simp [f2]
              subst f1
              have HB3 := Lib.hid f3
              clear f3 hle hq
              go_wp2_with fail
              have HL := Lib.hid hL
              have HB := Lib.hid hB
              have HB2 := Lib.hid f2
              clear hL hB f2 m1 m2 m3
              go_loopg [20] L.length (fun g i wr => ∃ k : Nat, k ≤ L.length ∧ i = .int .i64 k ∧ Bl W7 wr ∧ g = L.length - k)
              case atStart => exact ⟨0, by omega, rfl, Bl.refl _, rfl⟩
              case round =>
                obtain ⟨k, hk, rfl, hbw, hg⟩ := hrel
                have G := Lib.hid hg
                clear hg
                have hr := HR.out.bl hbw
                have hbn := Bl.trans hb hbw
                clear hb
                have hb := hbn
                clear hbn
                clear HR hm
                have HR := Lib.hid hr
                
                have hm := hr
                simp only [Mem, VE, List.cons_append, List.nil_append, and_true] at hm
                clear hr
                by_cases hkl : k < L.length
                · obtain ⟨b2, off, rfl, hat⟩ := HL.out.get hkl
                  obtain ⟨z, hz⟩ : ∃ z, L[k]? = some z := ⟨_, List.getElem?_eq_getElem hkl⟩
                  obtain ⟨j, hj⟩ : ∃ j, L.length - 1 - k = j := ⟨_, rfl⟩
                  have hz2 : B[j]? = some z := by rw [← hj, HB3.out k hkl]; exact hz
                  have hjB := (List.getElem?_eq_some_iff.1 hz2).1
                  obtain ⟨b3, off3, rfl, hat2⟩ := HB.out.get hjB
                  obtain ⟨d0, d1, d2, d3⟩ := (hat k z hz).bl hbw
                  obtain ⟨e0, e1, e2, e3⟩ := (hat2 j z hz2).bl hbw
                  have y1 : (z.key.toList == z.key.toList) = true := by simp
                  have y2 : (z.val.toList == z.val.toList) = true := by simp
                  have hk0 : (0 : Int) ≤ (k : Int) := by omega
                  have hkL : (k : Int) < (L.length : Int) := by omega
                  have hj0 : (0 : Int) ≤ (j : Int) := by omega
                  have hjB2 : (j : Int) < (L.length : Int) := by omega
                  have q4 : IntKind.i64.wrap ((L.length : Int) - 1) = (L.length : Int) - 1 := IntWalk.i64_in _ (by omega)
                  have q5 : IntKind.i64.wrap ((L.length : Int) - 1 - (k : Int)) = (j : Int) := by rw [IntWalk.i64_in _ (by omega)]; omega
                  have q6 : (j : Int) < (B.length : Int) := by omega
                  clear hat hat2 hz hz2 hj hjB
                  go_wp2_with fail
                  go_quiet (fail)
                  go_wp2_with fail
                  go_roundg (L.length - (k + 1))
                  case rel => exact ⟨k + 1, by omega, by go_num, (by repeat (first | assumption | exact Bl.refl _ | apply Bl.drewN | apply Bl.drew | apply Bl.alloc | (refine Bl.dr ?_ (by assumption)) | (refine Bl.trans ?_ (by assumption)))), rfl⟩
                  case measure => rw [G.out]; omega
                · 
                  go_wp2_with fail
                  refine (HA.out _).mono ?_; rintro e w8 ⟨rfl, hb8⟩
                  go_wp2_with fail
                  go_ret
                  exact RB.mk rfl (by repeat (first | assumption | exact Bl.refl _ | apply Bl.drewN | apply Bl.drew | apply Bl.alloc | (refine Bl.dr ?_ (by assumption)) | (refine Bl.trans ?_ (by assumption))))
            · have m2 : (L.length : Int) < max n (-n) := by omega
              
              go_wp2_with fail
              refine (HA.out _).mono ?_; rintro e w8 ⟨rfl, hb8⟩
              go_wp2_with fail
              go_ret
              exact RB.mk rfl (by repeat (first | assumption | exact Bl.refl _ | apply Bl.drewN | apply Bl.drew | apply Bl.alloc | (refine Bl.dr ?_ (by assumption)) | (refine Bl.trans ?_ (by assumption))))
theorem lawPieces (a : Option Addr) (c : Nat) (r : Rn) (cu x y : Int) (w : World) (h : ROk w a c r) (hx : -128 ≤ x ∧ x ≤ 127) (hy : -128 ≤ y ∧ y ≤ 127) :
    Calls Try.prog 4 #[r.v a c, cur cu, .agg #[.int .i8 x, .int .i8 y]] w (RB w (.bool true)) := by
  have hn := tmod_bd x hx
  have hyy := tmod_bd y hy
  by_cases hl : r.es.length ≤ 80
  · have h1 := fun w h => walkTake a c r cu (x.tmod 100) w h
    rcases pieces_cases r cu (x.tmod 100) (y.tmod 100) hl hn hyy with ⟨e, he, e1⟩ | ⟨va, e1, e2, e3, e4, e5, hS⟩
    · rw [e1] at h1
      exact pieces_bad a c r cu x y e w h hx hy hl he h1
    · have h2 := fun w h => walkTake a c r va (y.tmod 100) w h
      have h3 := fun w h => walkTake a c r cu (x.tmod 100 + y.tmod 100) w h
      have h4 := fun w h => walkTake a c r va (-x.tmod 100) w h
      have t : ∀ (q : List Ent × Int × Int), q.2.2 = 0 → q = (q.1, q.2.1, 0) := fun q hq => Prod.ext rfl (Prod.ext rfl hq)
      rw [t _ e2, e1] at h1
      rw [t _ e3] at h2
      rw [t _ e4] at h3
      rw [t _ e5] at h4
      exact pieces_ok a c r cu x y _ _ va _ _ _ _ _ _ _ w h hx hy hl rfl rfl hn hyy hS h1 h2 h3 h4
  · exact pieces_far a c r cu x y w h hx hy hl
end Go.Proofs.Ytinbdppekhcekaa

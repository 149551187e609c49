
/-
  CompactFunc of entries by their keys; Newest.
-/
import Derived.Test.YtcgpkcaaojkpcaaGreatDoorEsJ
namespace Go.Proofs.YtcgpkcaaojkpcaaGreatDoor
open Go.RowKit Go.Sort
set_option linter.unusedSimpArgs false
set_option linter.unusedVariables false
set_option maxRecDepth 100000

/-! ### Plain: one of each key -/
def lastK (p : Option ByteArray) : List DE → Option ByteArray
  | [] => p
  | x :: r => lastK (some x.1.key) r
def keepD : Option ByteArray → List DE → List DE
  | _, [] => []
  | p, x :: r => if p = some x.1.key then keepD (some x.1.key) r else x :: keepD (some x.1.key) r
theorem keepD_snoc : ∀ (A : List DE) (p : Option ByteArray) (x : DE), keepD p (A ++ [x]) = keepD p A ++ (if lastK p A = some x.1.key then [] else [x])
  | [], p, x => by by_cases h : p = some x.1.key <;> simp [keepD, lastK, h]
  | y :: A, p, x => by
    rw [List.cons_append]
    unfold keepD lastK
    split
    · exact keepD_snoc A _ x
    · rw [keepD_snoc A _ x]; rfl
theorem lastK_snoc : ∀ (A : List DE) (p : Option ByteArray) (x : DE), lastK p (A ++ [x]) = some x.1.key
  | [], _, _ => rfl
  | _ :: A, _, x => lastK_snoc A _ x
theorem keepD_go : ∀ (l : List DE) (k : ByteArray), (keepD (some k) l).map Prod.fst = cmpct.cmpctGo k (l.map Prod.fst)
  | [], _ => rfl
  | x :: r, k => by
    unfold keepD
    rw [List.map_cons, cmpct.cmpctGo]
    by_cases h : x.1.key = k
    · rw [if_pos (by rw [h]), if_pos h, keepD_go r, h]
    · rw [if_neg (by intro e; injection e with e; exact h e.symm), if_neg h, List.map_cons, keepD_go r]
theorem keepD_cmpct (l : List DE) : (keepD none l).map Prod.fst = cmpct (l.map Prod.fst) := by
  cases l with
  | nil => rfl
  | cons x r => unfold keepD; rw [if_neg (by simp), List.map_cons, keepD_go]; rfl
theorem keepD_len : ∀ (l : List DE) (p : Option ByteArray), (keepD p l).length ≤ l.length
  | [], _ => Nat.le_refl _
  | x :: r, p => by
    unfold keepD
    have := keepD_len r (some x.1.key)
    split <;> simp only [List.length_cons] <;> omega
theorem keep_step {L : List DE} {k : Nat} {x y : DE} (hk : 0 < k) (hx : L[k]? = some x) (hy : L[k - 1]? = some y) : keepD none (L.take (k + 1)) = keepD none (L.take k) ++ (if y.1.key = x.1.key then [] else [x]) := by
  obtain ⟨h1, rfl⟩ := List.getElem?_eq_some_iff.1 hx
  obtain ⟨h2, rfl⟩ := List.getElem?_eq_some_iff.1 hy
  rw [List.take_succ_eq_append_getElem h1, keepD_snoc]
  have : lastK none (L.take k) = some L[k - 1].1.key := by
    obtain ⟨j, rfl⟩ : ∃ j, k = j + 1 := ⟨k - 1, by omega⟩
    simp only [Nat.add_sub_cancel] at h2 ⊢
    rw [List.take_succ_eq_append_getElem h2, lastK_snoc]
  rw [this]
  simp only [Option.some.injEq]
/-! ### One element stored; elements cleared -/
theorem cells_set4o {W : World} {g o j : Nat} {x : Ent} (h : j < o ∨ o + 3 < j) : (set4o W g o x).cell? ⟨g, j, none⟩ = W.cell? ⟨g, j, none⟩ := set4o_other W g o j x h
theorem holdsK_set {W : World} {g : Nat} {A B : List DE} {x y : DE} {k : Nat} (hk : k = A.length) (h : HoldsK enc4 4 W g 0 (A ++ y :: B).toArray) : HoldsK enc4 4 (set4o W g (k * 4) x.1) g 0 (A ++ x :: B).toArray := by
  subst hk
  rw [holdsK_iff] at h ⊢
  have hA : (entCells (A.map Prod.fst)).length = A.length * 4 := by rw [entCells_len, List.length_map]
  have split : ∀ z : DE, entCells ((A ++ z :: B).map Prod.fst) = entCells (A.map Prod.fst) ++ ([.string z.1.key, .string z.1.val, .bool z.1.dead, .int .i64 z.1.seq] ++ entCells (B.map Prod.fst)) := by
    intro z; simp [entCells]
  rw [split] at h ⊢
  have hbase : ∀ c, c < 4 → ∃ u, W.cell? ⟨g, A.length * 4 + c, none⟩ = some u ∧ W.frozen? ⟨g, A.length * 4 + c, none⟩ = false := by
    intro c hc
    have := fun u => h (A.length * 4 + c) u
    rw [List.getElem?_append_right (by omega), hA, Nat.add_sub_cancel_left, List.getElem?_append_left (by simpa using hc)] at this
    exact ⟨_, this _ (List.getElem?_eq_getElem (by simpa using hc))⟩
  intro j u hj
  rcases Nat.lt_or_ge j (A.length * 4) with hlt | hge
  · rw [List.getElem?_append_left (by omega)] at hj
    have := h j u (by rw [List.getElem?_append_left (by omega)]; exact hj)
    rw [cells_set4o (by omega), set4o_frozen]; exact this
  · rw [List.getElem?_append_right (by omega), hA] at hj
    rcases Nat.lt_or_ge (j - A.length * 4) 4 with h4 | h4
    · rw [List.getElem?_append_left (by simpa using h4)] at hj
      obtain ⟨c, hc, hjc⟩ : ∃ c, c < 4 ∧ j = A.length * 4 + c := ⟨j - A.length * 4, h4, by omega⟩
      subst hjc
      rw [Nat.add_sub_cancel_left] at hj
      rw [set4o_frozen]
      refine ⟨?_, (hbase c hc).choose_spec.2⟩
      obtain ⟨u0, c0, -⟩ := hbase 0 (by omega)
      obtain ⟨u1, c1, -⟩ := hbase 1 (by omega)
      obtain ⟨u2, c2, -⟩ := hbase 2 (by omega)
      obtain ⟨u3, c3, -⟩ := hbase 3 (by omega)
      rw [Nat.add_zero] at c0
      unfold set4o
      match c, hc with
      | 0, _ =>
        simp at hj; subst hj
        rw [Nat.add_zero, oth _ _ _ _ _ (by omega), oth _ _ _ _ _ (by omega), oth _ _ _ _ _ (by omega)]; exact smc _ _ _ _ _ c0
      | 1, _ =>
        simp at hj; subst hj
        rw [oth _ _ _ _ _ (by omega), oth _ _ _ _ _ (by omega)]; exact smc _ _ _ _ _ (by rw [oth _ _ _ _ _ (by omega)]; exact c1)
      | 2, _ =>
        simp at hj; subst hj
        rw [oth _ _ _ _ _ (by omega)]; exact smc _ _ _ _ _ (by rw [oth _ _ _ _ _ (by omega), oth _ _ _ _ _ (by omega)]; exact c2)
      | 3, _ =>
        simp at hj; subst hj
        exact smc _ _ _ _ _ (by rw [oth _ _ _ _ _ (by omega), oth _ _ _ _ _ (by omega), oth _ _ _ _ _ (by omega)]; exact c3)
    · rw [List.getElem?_append_right (by simpa using h4)] at hj
      have := h j u (by rw [List.getElem?_append_right (by omega), hA, List.getElem?_append_right (by simpa using h4)]; exact hj)
      rw [cells_set4o (by omega), set4o_frozen]; exact this
theorem rw_set {w0 W : World} {g k : Nat} {A B : List DE} {x y : DE} (hk : k = A.length) (h : RW w0 g 0 (A ++ y :: B).toArray W) : RW w0 g 0 (A ++ x :: B).toArray (set4o W g (k * 4) x.1) := by
  have hsz : (set4o W g (k * 4) x.1).heap.size = W.heap.size := by simp [set4o, World.setCell]
  refine ⟨h.os, h.tape, h.output, by rw [hsz]; exact h.size, fun j hj hne => ?_, holdsK_set hk h.row, by rw [hsz]; exact h.lt⟩
  rw [← h.block j hj hne]
  simp only [set4o, World.setCell, Array.getElem?_modify, if_neg (Ne.symm hne)]
theorem setCells_block (g : Nat) : ∀ (vs : List Value) (o : Nat) (W : World) (j : Nat), j ≠ g → (W.setCells g o vs).heap[j]? = W.heap[j]?
  | [], _, _, _, _ => rfl
  | v :: r, o, W, j, h => by
    rw [World.setCells, setCells_block g r (o + 1) _ j h]
    simp only [World.setCell, Array.getElem?_modify, if_neg (Ne.symm h)]
theorem setCells_same (g : Nat) : ∀ (vs : List Value) (o : Nat) (W : World), (W.setCells g o vs).os = W.os ∧ (W.setCells g o vs).tape = W.tape ∧ (W.setCells g o vs).output = W.output ∧ (W.setCells g o vs).heap.size = W.heap.size
  | [], _, _ => ⟨rfl, rfl, rfl, rfl⟩
  | v :: r, o, W => by
    obtain ⟨a, b, c, d⟩ := setCells_same g r (o + 1) (W.setCell ⟨g, o, none⟩ v)
    rw [World.setCells]
    exact ⟨a, b, c, d.trans (by simp [World.setCell])⟩
/-- The elements behind the first k are cleared: the first k stay. -/
theorem holdsK_cut {W : World} {g k : Nat} {A B : List DE} (hk : k = A.length) (h : HoldsK enc4 4 W g 0 (A ++ B).toArray) (zs : List Value) : HoldsK enc4 4 (W.setCells g (k * 4) zs) g 0 A.toArray := by
  subst hk
  rw [holdsK_iff] at h ⊢
  intro j u hj
  have hlt := (List.getElem?_eq_some_iff.1 hj).1
  rw [entCells_len, List.length_map] at hlt
  have := h j u (by
    rw [show entCells ((A ++ B).map Prod.fst) = entCells (A.map Prod.fst) ++ entCells (B.map Prod.fst) by simp [entCells]]
    rw [List.getElem?_append_left (by rw [entCells_len, List.length_map]; exact hlt)]; exact hj)
  rw [World.cell?_setCells_out g _ _ _ _ (fun _ _ => .inl hlt), World.frozen?_setCells]
  exact this
theorem run_clear4 (w : World) (g k n c : Nat) (hn : 0 < n) (hc : ∀ j, j < n * 4 → (w.cell? ⟨g, k + j, none⟩).isSome = true) (hf : ∀ j, j < n * 4 → w.frozen? ⟨g, k + j, none⟩ = false) :
    ∃ zs, ∀ ty, (Builtin.clear_ #[22] ty #[.slice (some ⟨g, k, none⟩) n c]).run Tryz.prog w = .ok (.tuple #[]) (w.setCells g k zs) := by
  obtain ⟨zs, hzs⟩ : ∃ zs, (Builtin.zeroCells (#[.string ⟨#[]⟩, .string ⟨#[]⟩, .bool false, .int .i64 0] : Array Value) n).toList = zs := ⟨_, rfl⟩
  have hl : zs.length = n * 4 := by rw [← hzs]; simp [Builtin.zeroCells]
  have h1 : ∀ v ∈ zs, v.oneCell' = true := by
    intro v hv
    rw [← hzs] at hv
    simp [Builtin.zeroCells] at hv
    obtain ⟨j, hj, rfl⟩ := hv
    have : j % 4 = 0 ∨ j % 4 = 1 ∨ j % 4 = 2 ∨ j % 4 = 3 := by omega
    rcases this with h | h | h | h <;> (simp [h]; rfl)
  have hst := run_storeCells_cells (P := Tryz.prog) g k zs 0 w (by simpa [hl] using hc) (by simpa [hl] using hf) h1
  simp only [Nat.add_zero] at hst
  refine ⟨zs, fun ty => ?_⟩
  obtain ⟨m, rfl⟩ : ∃ m, n = m + 1 := ⟨n - 1, by omega⟩
  have hz : ∀ w, (zeroValue 34).run Tryz.prog w = .ok (.agg #[.string ⟨#[]⟩, .string ⟨#[]⟩, .bool false, .int .i64 0]) w := Tryz.zeroValue34
  simp [Builtin.clear_, run_underlying Tryz.underlying22, hz, Value.cells, hzs, hst]
/-! ### The test of keys -/
set_option maxHeartbeats 1000000 in
theorem keyEq (x y : Ent) (w : World) (b : Bool) (h : (x.key.toList == y.key.toList) = b) : Calls Tryz.prog 34 #[x.v, y.v] w (RB w (.bool b)) := by
  unfold Ent.v
  go_enter Tryz.func34, Tryz.ntmps34
  go_wp2_with fail
  go_ret
  exact RB.mk rfl (by repeat (first | assumption | exact Bl.refl _ | apply Bl.drewN | apply Bl.drew | apply Bl.alloc | (refine Bl.dr ?_ (by assumption)) | (refine Bl.trans ?_ (by assumption))))
/-! ### CompactFunc -/
theorem beq_key {x y : ByteArray} (h : x = y) : (x.toList == y.toList) = true := by rw [beq_iff_eq, h]
theorem bne_key {x y : ByteArray} (h : ¬ x = y) : (x.toList == y.toList) = false := by rw [beq_eq_false_iff_ne]; exact fun e => h (str_ext e)
theorem get_row (P Z : List DE) {L : List DE} {k j : Nat} {x : DE} (hP : P.length = k) (hk : k ≤ j) (hx : L[j]? = some x) : (P ++ L.drop k).toArray[j]! = x := by
  have := get_at P (L.drop k) [] j (j - k) x (by omega) (by rw [List.getElem?_drop, show k + (j - k) = j by omega]; exact hx)
  simpa using this
set_option maxHeartbeats 8000000 in
theorem slCompactB (g c : Nat) (L : List DE) (hl2 : 2 ≤ L.length) (hc : L.length ≤ c) (hcm : c ≤ maxLen) (hm : L.length ≤ 400000) (w : World) (S : RW w g 0 L.toArray w) :
    Calls Tryz.prog 33 #[.slice (some ⟨g, 0, none⟩) L.length c, .func (.func 34) #[] #[]] w fun e w' => ∃ n, e = .returned (.slice (some ⟨g, 0, none⟩) n c) ∧ n = (keepD none L).length ∧ HoldsK enc4 4 w' g 0 (keepD none L).toArray ∧ g < w'.heap.size ∧ w'.os = w.os ∧ w'.tape = w.tape ∧ w'.output = w.output ∧ w.heap.size ≤ w'.heap.size ∧ ∀ k, k < w.heap.size → k ≠ g → w'.heap[k]? = w.heap[k]? := by
  have HB := Lib.hid (fun x y w b h => keyEq x y w b h)
  have HS := Lib.hid S
  have HM := Lib.hid hcm
  have i1 : ¬ (L.length : Int) < 2 := by omega
  have HL2 := Lib.hid hl2
  clear S hcm hl2
  go_enter Tryz.func33, Tryz.ntmps33
  go_wp2_with fail
  go_loopg [5] L.length (fun gh v1 wr => ∃ k : Nat, v1 = .int .i64 k ∧ Hid (1 ≤ k ∧ k ≤ L.length ∧ L.length - k ≤ gh ∧ keepD none (L.take k) = L.take k ∧ RW w g 0 L.toArray wr))
  case atStart =>
    refine ⟨1, rfl, Lib.hid ⟨by omega, by have := HL2.out; omega, by omega, ?_, HS.out⟩⟩
    match L, HL2.out with
    | x :: L, _ => simp [keepD]
  case round =>
    clear HS
    obtain ⟨k, rfl, H⟩ := hrel
    obtain ⟨h1, h2, hg, hkd, hS⟩ := H.out
    by_cases hlt : k < L.length
    · obtain ⟨kp, rfl⟩ : ∃ kp, k = kp + 1 := ⟨k - 1, by omega⟩
      obtain ⟨x, hx⟩ : ∃ x, L[kp + 1]? = some x := ⟨_, List.getElem?_eq_getElem hlt⟩
      obtain ⟨y, hy⟩ : ∃ y, L[kp]? = some y := ⟨_, List.getElem?_eq_getElem (by omega)⟩
      have hd1 := get_row [] [] (k := 0) rfl (Nat.zero_le _) hx
      have hd0 := get_row [] [] (k := 0) rfl (Nat.zero_le _) hy
      rw [List.nil_append, List.drop_zero] at hd1 hd0
      obtain ⟨⟨x0, x1, x2, x3⟩, -⟩ := hS.ent (kp + 1) x (by simpa using hlt) hd1
      obtain ⟨⟨y0, y1, y2, y3⟩, -⟩ := hS.ent kp y (by simp; omega) hd0
      rw [Nat.zero_add] at x0 x1 x2 x3 y0 y1 y2 y3
      have x0' := @BW.cell wr _ _ x0
      have x1' := @BW.cell wr _ _ x1
      have x2' := @BW.cell wr _ _ x2
      have x3' := @BW.cell wr _ _ x3
      have y0' := @BW.cell wr _ _ y0
      have y1' := @BW.cell wr _ _ y1
      have y2' := @BW.cell wr _ _ y2
      have y3' := @BW.cell wr _ _ y3
      have hst := keep_step (L := L) (k := kp + 1) (by omega) hx hy
      have hk3 : kp + 1 ≤ 1000000 := by omega
      have q0 : (0 : Int) ≤ (kp : Int) + 1 := by omega
      have q1 : (kp : Int) + 1 < (L.length : Int) := by omega
      have q2 : (kp : Int) < (L.length : Int) := by omega
      have q3 : ((kp : Int) + 1).toNat = kp + 1 := by omega
      have HH := Lib.hid (And.intro hlt (And.intro hst (And.intro hg (And.intro hx hy))))
      have q4 : wrap64 (kp : Int) = (kp : Int) := wrapNat _ (by omega)
      have HS1 := Lib.hid hS
      clear h1 h2 hg hkd hS hlt hx hy hd1 hd0 hst
      by_cases he : x.1.key = y.1.key
      · have hb := fun w => HB.out x.1 y.1 w true (beq_key he)
        unfold Ent.v at hb
        have HBy := Lib.hid hb
        have HE := Lib.hid he
        clear hb he
        go_wp2_with fail
        
        refine wp_region_quiet_bw wr (by kernel_rfl) (by kernel_rfl) (Bl.refl wr) ?_
        repeat (go_big_quiet_step ((go_at_call 34; exact quietB (HBy.out _))))
        refine wpQuiet_nil ?_
        intro wq hw'
        have hwq : Bl wr wq := by obtain ⟨x, hx⟩ := hw'; rw [hx]; exact x.h
        clear hw'
        clear x0' x1' x2' x3' y0' y1' y2' y3' x0 x1 x2 x3 y0 y1 y2 y3
        go_wp2_with fail
        have hstart : keepD none (L.take (kp + 1 + 1)) = L.take (kp + 1) := by
          rw [HH.out.2.1, H.out.2.2.2.1, if_pos HE.out.symm, List.append_nil]
        have HSt := Lib.hid hstart
        clear hstart
        go_loopg [5, 7] L.length (fun gh v1 v2 wr => ∃ k j : Nat, v1 = .int .i64 k ∧ v2 = .int .i64 j ∧ Hid (1 ≤ j ∧ kp + 1 + j ≤ L.length ∧ L.length - (kp + 1 + j) ≤ gh ∧ (keepD none (L.take (kp + 1 + j))).length = k ∧ k ≤ kp + j ∧ RW w g 0 (keepD none (L.take (kp + 1 + j)) ++ L.drop k).toArray wr))
        case atStart =>
          have hlt := HH.out.1
          refine ⟨kp + 1, 1, rfl, rfl, Lib.hid ⟨by omega, by omega, by omega, ?_, by omega, ?_⟩⟩
          · rw [HSt.out, List.length_take]; omega
          · rw [HSt.out, List.take_append_drop]; exact HS1.out.bl hwq
        case round =>
          clear HS1 HBy
          obtain ⟨k, j, rfl, rfl, H⟩ := hrel
          obtain ⟨h1, h2, hg, hk, hkj, hS⟩ := H.out
          by_cases hjl : kp + 1 + j < L.length
          · obtain ⟨jp, rfl⟩ : ∃ jp, j = jp + 1 := ⟨j - 1, by omega⟩
            obtain ⟨x, hx⟩ : ∃ x, L[kp + 1 + (jp + 1)]? = some x := ⟨_, List.getElem?_eq_getElem hjl⟩
            obtain ⟨y, hy⟩ : ∃ y, L[kp + 1 + jp]? = some y := ⟨_, List.getElem?_eq_getElem (by omega)⟩
            have hd1 := get_row (keepD none (L.take (kp + 1 + (jp + 1)))) [] hk (by omega : k ≤ kp + 1 + (jp + 1)) hx
            have hd0 := get_row (keepD none (L.take (kp + 1 + (jp + 1)))) [] hk (by omega : k ≤ kp + 1 + jp) hy
            have hsz : (keepD none (L.take (kp + 1 + (jp + 1))) ++ L.drop k).toArray.size = L.length := by simp; omega
            obtain ⟨⟨x0, x1, x2, x3⟩, -⟩ := hS.ent (kp + 1 + (jp + 1)) x (by omega) hd1
            obtain ⟨⟨y0, y1, y2, y3⟩, -⟩ := hS.ent (kp + 1 + jp) y (by omega) hd0
            rw [Nat.zero_add, Nat.add_mul (kp + 1) (jp + 1) 4] at x0 x1 x2 x3
            rw [Nat.zero_add, Nat.add_mul (kp + 1) jp 4] at y0 y1 y2 y3
            have x0' := @BW.cell wr _ _ x0
            have x1' := @BW.cell wr _ _ x1
            have x2' := @BW.cell wr _ _ x2
            have x3' := @BW.cell wr _ _ x3
            have y0' := @BW.cell wr _ _ y0
            have y1' := @BW.cell wr _ _ y1
            have y2' := @BW.cell wr _ _ y2
            have y3' := @BW.cell wr _ _ y3
            have hst := keep_step (L := L) (k := kp + 1 + (jp + 1)) (by omega) hx (by rw [show kp + 1 + (jp + 1) - 1 = kp + 1 + jp by omega]; exact hy)
            have p0 : (0 : Int) ≤ (jp : Int) + 1 := by omega
            have p1 : (jp : Int) + 1 < ((L.length - (kp + 1) : Nat) : Int) := by omega
            have p2 : (jp : Int) < ((L.length - (kp + 1) : Nat) : Int) := by omega
            have p3 : ((jp : Int) + 1).toNat = jp + 1 := by omega
            have p5 : k < L.length := by omega
            have hk9 : k ≤ 1000000 := by omega
            have hj9 : jp ≤ 1000000 := by omega
            have HH2 := Lib.hid (And.intro hjl (And.intro hst (And.intro hsz (And.intro hx hk))))
            have HMs := Lib.hid (show L.length - (kp + 1 + (jp + 1 + 1)) < gk by omega)
            have HS2 := Lib.hid hS
            have p4 : wrap64 (jp : Int) = (jp : Int) := wrapNat _ (by omega)
            clear h1 h2 hg hk hkj hS hjl hx hy hd1 hd0 hst hsz
            by_cases he : x.1.key = y.1.key
            · have hb := fun w => HB.out x.1 y.1 w true (beq_key he)
              unfold Ent.v at hb
              have HBy := Lib.hid hb
              have HE := Lib.hid he
              clear hb he
              go_wp2_with fail
              
              refine wp_region_quiet_bw wr (by kernel_rfl) (by kernel_rfl) (Bl.refl wr) ?_
              repeat (go_big_quiet_step ((go_at_call 34; exact quietB (HBy.out _))))
              refine wpQuiet_nil ?_
              intro wq hw'
              have hwq : Bl wr wq := by obtain ⟨x, hx⟩ := hw'; rw [hx]; exact x.h
              clear hw'
              go_wp2_with fail
              go_roundg (L.length - (kp + 1 + (jp + 1 + 1)))
              case rel =>
                obtain ⟨h1, h2, hg, hk, hkj, hS⟩ := H.out
                obtain ⟨hjl, hst, hsz, hx, -⟩ := HH2.out
                rw [if_pos HE.out.symm, List.append_nil] at hst
                refine ⟨k, jp + 1 + 1, rfl, by go_num, Lib.hid ⟨by omega, by omega, Nat.le_refl _, ?_, by omega, ?_⟩⟩
                · rw [← Nat.add_assoc (kp + 1), hst]; exact hk
                · rw [← Nat.add_assoc (kp + 1), hst]; exact hS.bl hwq
              case measure => exact HMs.out
            · have hb := fun w => HB.out x.1 y.1 w false (bne_key he)
              unfold Ent.v at hb
              have HBy := Lib.hid hb
              have HE := Lib.hid he
              clear hb he
              go_wp2_with fail
              
              refine wp_region_quiet_bw wr (by kernel_rfl) (by kernel_rfl) (Bl.refl wr) ?_
              repeat (go_big_quiet_step ((go_at_call 34; exact quietB (HBy.out _))))
              refine wpQuiet_nil ?_
              intro wq hw'
              have hwq : Bl wr wq := by obtain ⟨x, hx⟩ := hw'; rw [hx]; exact x.h
              clear hw'
              have z0 := hwq.cell x0
              have z1 := hwq.cell x1
              have z2 := hwq.cell x2
              have z3 := hwq.cell x3
              have hS3 := HS2.out.bl hwq
              have hk := HH2.out.2.2.2.2
              obtain ⟨z, hz⟩ : ∃ z, L[k]? = some z := ⟨_, List.getElem?_eq_getElem p5⟩
              have hdz := get_row (keepD none (L.take (kp + 1 + (jp + 1)))) [] hk (Nat.le_refl k) hz
              obtain ⟨⟨a0, a1, a2, a3⟩, f0, f1, f2, f3⟩ := hS3.ent k z (by rw [HH2.out.2.2.1]; exact p5) hdz
              rw [Nat.zero_add] at a0 a1 a2 a3 f0 f1 f2 f3
              have hnew := rw_set (x := x) (y := z) (B := L.drop (k + 1)) hk.symm (by
                have e : L.drop k = z :: L.drop (k + 1) := by
                  rw [List.drop_eq_getElem_cons p5]
                  obtain ⟨_, e⟩ := List.getElem?_eq_some_iff.1 hz
                  rw [e]
                rw [← e]; exact hS3)
              unfold set4o at hnew
              have HNew := Lib.hid hnew
              clear hnew hS3 hk hz hdz x0' x1' x2' x3' y0' y1' y2' y3' x0 x1 x2 x3 y0 y1 y2 y3
              go_wp2_with fail
              go_roundg (L.length - (kp + 1 + (jp + 1 + 1)))
              case rel =>
                obtain ⟨h1, h2, hg, hk, hkj, hS⟩ := H.out
                obtain ⟨hjl, hst, hsz, hx, -⟩ := HH2.out
                rw [if_neg (fun e => HE.out e.symm)] at hst
                refine ⟨k + 1, jp + 1 + 1, by go_num, by go_num, Lib.hid ⟨by omega, by omega, Nat.le_refl _, ?_, by omega, ?_⟩⟩
                · rw [← Nat.add_assoc (kp + 1), hst, List.length_append, hk]; rfl
                · rw [← Nat.add_assoc (kp + 1), hst]
                  have := HNew.out
                  simp only [List.append_assoc, List.cons_append, List.nil_append] at this ⊢
                  exact this
              case measure => exact HMs.out
          · have hje : kp + 1 + j = L.length := by omega
            rw [hje, List.take_length] at hk hS
            have p1 : ¬ (j : Int) < ((L.length - (kp + 1) : Nat) : Int) := by omega
            have hkl : k < L.length := by omega
            have hk9 : k ≤ 1000000 := by omega
            have hj9 : j ≤ 1000000 := by omega
            obtain ⟨zs, hzs⟩ := run_clear4 wr g (k * 4) (L.length - k) (c - k) (by omega)
              (fun i hi => by
                have := (hS.row (k * 4 + i) (by rw [size_flatK]; simp; omega)).1
                rw [Nat.zero_add] at this; rw [this]; rfl)
              (fun i hi => by
                have := (hS.row (k * 4 + i) (by rw [size_flatK]; simp; omega)).2
                rw [Nat.zero_add] at this; exact this)
            have hcut := holdsK_cut hk.symm hS.row zs
            obtain ⟨s1, s2, s3, s4⟩ := setCells_same g zs (k * 4) wr
            have hfin : k = (keepD none L).length ∧ HoldsK enc4 4 (wr.setCells g (k * 4) zs) g 0 (keepD none L).toArray ∧ g < (wr.setCells g (k * 4) zs).heap.size ∧ (wr.setCells g (k * 4) zs).os = w.os ∧ (wr.setCells g (k * 4) zs).tape = w.tape ∧ (wr.setCells g (k * 4) zs).output = w.output ∧ w.heap.size ≤ (wr.setCells g (k * 4) zs).heap.size ∧ ∀ i, i < w.heap.size → i ≠ g → (wr.setCells g (k * 4) zs).heap[i]? = w.heap[i]? :=
              ⟨hk.symm, hcut, by rw [s4]; exact hS.lt, s1.trans hS.os, s2.trans hS.tape, s3.trans hS.output, by rw [s4]; exact hS.size, fun i hi hne => (setCells_block g zs _ _ i hne).trans (hS.block i hi hne)⟩
            have HF := Lib.hid hfin
            clear h1 h2 hg hk hkj hS hje hcut s1 s2 s3 s4 hfin hjl H
            go_wp2_with fail
            go_ret
            exact ⟨k, rfl, HF.out⟩
      · have hb := fun w => HB.out x.1 y.1 w false (bne_key he)
        unfold Ent.v at hb
        have HBy := Lib.hid hb
        have HE := Lib.hid he
        clear hb he
        go_wp2_with fail
        
        refine wp_region_quiet_bw wr (by kernel_rfl) (by kernel_rfl) (Bl.refl wr) ?_
        repeat (go_big_quiet_step ((go_at_call 34; exact quietB (HBy.out _))))
        refine wpQuiet_nil ?_
        intro wq hw'
        have hwq : Bl wr wq := by obtain ⟨x, hx⟩ := hw'; rw [hx]; exact x.h
        clear hw'
        go_wp2_with fail
        obtain ⟨hlt, hst, hg, hx, hy⟩ := HH.out
        go_roundg (L.length - (kp + 1 + 1))
        case rel =>
          obtain ⟨h1, h2, hg, hkd, hS⟩ := H.out
          refine ⟨kp + 1 + 1, by go_num, Lib.hid ⟨by omega, by omega, Nat.le_refl _, ?_, hS.bl hwq⟩⟩
          rw [hst, hkd, if_neg (fun e => HE.out e.symm)]
          rw [List.take_succ_eq_append_getElem hlt]
          obtain ⟨_, e⟩ := List.getElem?_eq_some_iff.1 hx
          rw [e]
        case measure => omega
    · have hk : k = L.length := by omega
      subst hk
      have hlt' : ¬ (L.length : Int) < (L.length : Int) := by omega
      have hkd' : keepD none L = L := by rw [List.take_length] at hkd; exact hkd
      have HF := Lib.hid (And.intro hkd' hS)
      clear h1 h2 hg hkd hS hkd' H hlt
      go_wp2_with fail
      go_ret
      obtain ⟨a, S⟩ := HF.out
      rw [a]
      exact ⟨L.length, rfl, rfl, S.row, S.lt, S.os, S.tape, S.output, S.size, S.block⟩
end Go.Proofs.YtcgpkcaaojkpcaaGreatDoor

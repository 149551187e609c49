
/-
  The reference's texts: a quoted form ahead, a line, Print.
-/
import Derived.Test.YtkbfjficmdgjpaaGreatDoorEsT
import Derived.Test.YtkbfjficmdgjpaaGreatDoorEtL
import Derived.Test.YtkbfjficmdgjpaaGreatDoorEpA
import Derived.Test.YtkbfjficmdgjpaaGreatDoorWoP
import Derived.Test.YtkbfjficmdgjpaaGreatDoorWoN
namespace Go.Proofs.YtkbfjficmdgjpaaGreatDoor
open Go.RowKit Go.Sort
set_option linter.unusedSimpArgs false
set_option linter.unusedVariables false
set_option maxRecDepth 100000

/-! ### Plain -/
theorem qs_at92 {l : List UInt8} {i : Nat} (h : l[i]? = some 92) : qs (l.drop i) = (qs (l.drop (i + 2))).map (· + 2) := by
  obtain ⟨hi, e⟩ := List.getElem?_eq_some_iff.1 h
  rw [List.drop_eq_getElem_cons hi, e]
  cases hd : l.drop (i + 1) with
  | nil =>
    have : l.drop (i + 2) = [] := by
      rw [List.drop_eq_nil_iff] at hd ⊢; omega
    rw [this]; rfl
  | cons d r =>
    have : l.drop (i + 2) = r := by rw [show i + 2 = (i + 1) + 1 by omega, ← List.drop_drop, hd]; rfl
    rw [this, qs_two]
theorem qs_at34 {l : List UInt8} {i : Nat} (h : l[i]? = some 34) : qs (l.drop i) = some 1 := by
  obtain ⟨hi, e⟩ := List.getElem?_eq_some_iff.1 h
  rw [List.drop_eq_getElem_cons hi, e, qs_end]
theorem qs_at {l : List UInt8} {i : Nat} {c : UInt8} (h : l[i]? = some c) (h1 : c ≠ 34) (h2 : c ≠ 92) : qs (l.drop i) = (qs (l.drop (i + 1))).map (· + 1) := by
  obtain ⟨hi, e⟩ := List.getElem?_eq_some_iff.1 h
  rw [List.drop_eq_getElem_cons hi, e, qs_one h1 h2]
theorem map_add (o : Option Nat) (a b c : Nat) (h : a + b = c) : (o.map (· + a)).map (· + b) = o.map (· + c) := by
  cases o <;> simp; omega
theorem byte_eq {s : ByteArray} {k : Nat} (hk : k < s.size) {c : UInt8} (h : s.data.toList[k]? = some c) : s[k]'hk = c := by
  have := str_get hk
  rw [this] at h; injection h
theorem byte_t {c d : UInt8} (h : c = d) : ((c.toNat : Int) == (d.toNat : Int)) = true := by rw [h]; simp
theorem byte_f {c d : UInt8} (h : c ≠ d) : ((c.toNat : Int) == (d.toNat : Int)) = false := by
  rw [beq_eq_false_iff_ne]
  intro e
  exact h (UInt8.toNat_inj.1 (by omega))
/-! ### A quoted form ahead -/
set_option maxHeartbeats 4000000 in
theorem refQuotedE (s : ByteArray) (hs : s.size ≤ 100000) (w : World) (res : List UInt8 × Nat × Bool) (hres : rquoted s.data.toList = res) :
    Calls Tryz.prog 78 #[.string s] w (RB w (.tuple #[.string ⟨res.1.toArray⟩, .int .i64 (res.2.1 : Nat), .bool res.2.2])) := by
  have hsz : s.data.toList.length = s.size := (Lib.size_eq s).symm
  cases hl : s.data.toList with
  | nil =>
    rw [hl] at hres
    subst hres
    have hem : s.toList.isEmpty = true := by rw [toL, hl]; rfl
    have hem2 : s.toList = [] := by rw [toL, hl]
    clear hl hsz
    go_enter Tryz.func78, Tryz.ntmps78
    go_wp2_with fail
    go_ret3
    exact rb_tuple3 rfl rfl rfl (by repeat (first | assumption | exact Bl.refl _ | apply Bl.drewN | apply Bl.drew | apply Bl.alloc | (refine Bl.dr ?_ (by assumption)) | (refine Bl.trans ?_ (by assumption))))
  | cons c t =>
    have hem : s.toList.isEmpty = false := by rw [toL, hl]; rfl
    have h0 : 0 < s.size := by rw [← hsz, hl]; simp
    have hc : s[0]'h0 = c := byte_eq h0 (by rw [hl]; rfl)
    by_cases h34 : c = 34
    · rw [hl, rquoted_cons, if_pos h34] at hres
      have e0 : (((s[0]'h0).toNat : Int) != 34) = false := by rw [hc, h34]; rfl
      have hdt : s.data.toList.drop 1 = t := by rw [hl]; rfl
      have hu := fun m (h : m ≤ s.size) w => refUnquote (s.extract 0 m) (by rw [ByteArray.size_extract]; omega) w
      have HU := Lib.hid hu
      have HRes := Lib.hid (And.intro hres (And.intro hdt hl))
      have hs0 : (0 : Int) < (s.size : Int) := by omega
      clear hu hres hc h34 hdt hl hsz
      go_enter Tryz.func78, Tryz.ntmps78
      go_wp2_with fail
      go_loopg [5] s.size (fun g v wr => ∃ i : Nat, v = .int .i64 i ∧ Hid (1 ≤ i ∧ i ≤ s.size + 1 ∧ g = s.size + 1 - i ∧ qs t = (qs (s.data.toList.drop i)).map (· + (i - 1))) ∧ Bl w wr)
      case atStart => exact ⟨1, rfl, Lib.hid ⟨Nat.le_refl _, by omega, rfl, by rw [HRes.out.2.1]; simp⟩, Bl.refl _⟩
      case round =>
        obtain ⟨i, rfl, H, hb⟩ := hrel
        have hi9 : i ≤ 100001 := by have := H.out; omega
        by_cases hi : i < s.size
        · obtain ⟨d, hd⟩ : ∃ d, s.data.toList[i]? = some d := ⟨_, List.getElem?_eq_getElem (by simpa using hi)⟩
          have hdi := byte_eq hi hd
          have i1 : (i : Int) < (s.size : Int) := by omega
          have i2 : (0 : Int) ≤ (i : Int) := by omega
          by_cases h92 : d = 92
          · have e1 : (((s[i]'hi).toNat : Int) == 92) = true := by rw [hdi, h92]; rfl
            subst h92
            have hq := H.out.2.2.2
            rw [qs_at92 hd, map_add _ _ _ (i + 2 - 1) (by have := H.out.1; omega)] at hq
            have HQ := Lib.hid hq
            have HMs := Lib.hid (show s.size + 1 - (i + 2) < gk by have := H.out; omega)
            clear hd hq hdi
            go_wp2_with fail
            go_roundg (s.size + 1 - (i + 2))
            case rel => exact ⟨i + 2, by go_num, Lib.hid ⟨by omega, by omega, rfl, HQ.out⟩, hb⟩
            case measure => exact HMs.out
          · have e1 : (((s[i]'hi).toNat : Int) == 92) = false := by rw [hdi]; exact byte_f (d := 92) h92
            by_cases h34 : d = 34
            · have e2 : (((s[i]'hi).toNat : Int) == 34) = true := by rw [hdi, h34]; rfl
              subst h34
              have hq := H.out.2.2.2
              rw [qs_at34 hd] at hq
              have hq2 : qs t = some i := by rw [hq]; simp; have := H.out.1; omega
              have hr := HRes.out.1
              rw [hq2] at hr
              simp only at hr
              have hex : (s.extract 0 (i + 1)).data.toList = (c :: t).take (i + 1) := by rw [ext_takeW s (i + 1) (by omega), HRes.out.2.2]
              have hU := fun w => HU.out (i + 1) (by omega) w
              rw [hex] at hU
              obtain ⟨⟨uv, ue⟩, hup⟩ : ∃ p, unqR ((c :: t).take (i + 1)) = p := ⟨_, rfl⟩
              rw [hup] at hU hr
              obtain ⟨q, hqe⟩ : ∃ q, s.extract 0 (i + 1) = q := ⟨_, rfl⟩
              rw [hqe] at hU
              have HU2 := Lib.hid hU
              have HR := Lib.hid hr
              have HQE := Lib.hid hqe
              have i3 : (i : Int) + 1 ≤ (s.size : Int) := by omega
              clear hd hq hq2 hdi hr hex hU hup hqe h92
              go_wp2_with fail
              rw [HQE.out]
              refine (HU2.out _).mono ?_; rintro e w1 ⟨rfl, hb1⟩
              go_wp2_with fail
              
              refine bodyPost_ret (v := .tuple #[.string ⟨uv.toArray⟩, .int .i64 ((i : Int) + 1), .bool (ue == 0)]) (by simp [results, Tryz.results78, go_sem, *]) rfl ?_
              exact ⟨by rw [← HR.out]; simp, hb.trans hb1⟩
            · have e2 : (((s[i]'hi).toNat : Int) == 34) = false := by rw [hdi]; exact byte_f (d := 34) h34
              have hq := H.out.2.2.2
              rw [qs_at hd h34 h92, map_add _ _ _ (i + 1 - 1) (by have := H.out.1; omega)] at hq
              have HQ := Lib.hid hq
              have HMs := Lib.hid (show s.size + 1 - (i + 1) < gk by have := H.out; omega)
              clear hd hq hdi h92 h34
              go_wp2_with fail
              go_roundg (s.size + 1 - (i + 1))
              case rel => exact ⟨i + 1, by go_num, Lib.hid ⟨by omega, by omega, rfl, HQ.out⟩, hb⟩
              case measure => exact HMs.out
        · have hq := H.out.2.2.2
          rw [List.drop_of_length_le (by simpa using hi)] at hq
          have hr := HRes.out.1
          rw [hq] at hr
          simp only [qs, Option.map_none] at hr
          have HR := Lib.hid hr
          have i1 : ¬ (i : Int) < (s.size : Int) := by omega
          clear hq hr hi
          go_wp2_with fail
          
          refine bodyPost_ret (v := .tuple #[.string ⟨#[]⟩, .int .i64 0, .bool false]) (by simp [results, Tryz.results78, go_sem, *]) rfl ?_
          exact ⟨by rw [← HR.out]; rfl, hb⟩
    · rw [hl, rquoted_cons, if_neg h34] at hres
      subst hres
      have e0 : (((s[0]'h0).toNat : Int) != 34) = true := by rw [hc]; exact u8_bne (d := 34) h34
      have hs0 : (0 : Int) < (s.size : Int) := by omega
      clear hl hsz hc h34
      go_enter Tryz.func78, Tryz.ntmps78
      go_wp2_with fail
      go_ret3
      exact rb_tuple3 rfl rfl rfl (by repeat (first | assumption | exact Bl.refl _ | apply Bl.drewN | apply Bl.drew | apply Bl.alloc | (refine Bl.dr ?_ (by assumption)) | (refine Bl.trans ?_ (by assumption))))
/-! ### A line -/
theorem app_list (a b : ByteArray) : (a ++ b).data.toList = a.data.toList ++ b.data.toList := by rw [ByteArray.data_append]; simp
theorem line_put {x : Ent} {k v d : ByteArray} (hd : x.dead = false) (hk : k.data.toList = quoteW x.key.data.toList) (hv : v.data.toList = quoteW x.val.data.toList) (hn : d.data.toList = Lib.itoa x.seq) :
    (⟨#[112, 117, 116, 32]⟩ : ByteArray) ++ k ++ ⟨#[32]⟩ ++ v ++ ⟨#[32]⟩ ++ d ++ ⟨#[10]⟩ = ⟨(lineE x).toArray⟩ := by
  apply str_ext
  rw [toL, toL]
  unfold lineE lhdE ltlE
  rw [hd]
  simp only [app_list, hk, hv, hn]
  simp
theorem line_del {x : Ent} {k d : ByteArray} (hd : x.dead = true) (hk : k.data.toList = quoteW x.key.data.toList) (hn : d.data.toList = Lib.itoa x.seq) :
    (⟨#[100, 101, 108, 32]⟩ : ByteArray) ++ k ++ ⟨#[32]⟩ ++ d ++ ⟨#[10]⟩ = ⟨(lineE x).toArray⟩ := by
  apply str_ext
  rw [toL, toL]
  unfold lineE lhdE ltlE
  rw [hd]
  simp only [app_list, hk, hn]
  simp
set_option maxHeartbeats 4000000 in
theorem refLineE (x : Ent) (h : echk x = 0) (w : World) : Calls Tryz.prog 42 #[x.v] w (RB w (.string ⟨(lineE x).toArray⟩)) := by
  obtain ⟨h1, h2, -, h4, h5⟩ := echk_ok h
  have hk := fun w => refQuote x.key (by omega) w
  have hv := fun w => refQuote x.val (by omega) w
  have hn := fun w => refDigits _ x.seq rfl (by omega) (by omega) w
  have q1 := quote_most x.key.data.toList
  have q2 := quote_most x.val.data.toList
  have q3 := Lib.itoa_length_le x.seq (by omega) (by omega)
  rw [← Lib.size_eq] at q1 q2
  obtain ⟨qk, hqk⟩ : ∃ q : ByteArray, (⟨(quoteW x.key.data.toList).toArray⟩ : ByteArray) = q := ⟨_, rfl⟩
  obtain ⟨qv, hqv⟩ : ∃ q : ByteArray, (⟨(quoteW x.val.data.toList).toArray⟩ : ByteArray) = q := ⟨_, rfl⟩
  obtain ⟨qn, hqn⟩ : ∃ q : ByteArray, (⟨(Lib.itoa x.seq).toArray⟩ : ByteArray) = q := ⟨_, rfl⟩
  have lk : qk.data.toList = quoteW x.key.data.toList := by rw [← hqk]
  have lv : qv.data.toList = quoteW x.val.data.toList := by rw [← hqv]
  have ln : qn.data.toList = Lib.itoa x.seq := by rw [← hqn]
  have sk : qk.size ≤ 300 := by rw [Lib.size_eq, lk]; omega
  have sv : qv.size ≤ 300 := by rw [Lib.size_eq, lv]; omega
  have sn : qn.size ≤ 300 := by rw [Lib.size_eq, ln]; omega
  rw [hqk] at hk
  rw [hqv] at hv
  rw [hqn] at hn
  obtain ⟨d, hd⟩ : ∃ d, x.dead = d := ⟨_, rfl⟩
  have HK := Lib.hid hk
  have HV := Lib.hid hv
  have HN := Lib.hid hn
  have HP := Lib.hid (And.intro hd (And.intro lk (And.intro lv ln)))
  unfold Ent.v
  rw [hd]
  clear hk hv hn hqk hqv hqn lk lv ln q1 q2 q3 h h1 h2 h4 h5 hd
  obtain ⟨wa, hwa⟩ : ∃ z, w.alloc (.cells #[.string x.key, .string x.val, .bool d, .int .i64 x.seq] 35) = z := ⟨_, rfl⟩
  have hba : Bl w wa := hwa ▸ (Bl.refl _).alloc _
  have k0 : wa.cell? ⟨w.heap.size, 0, none⟩ = some (.string x.key) := by rw [← hwa]; simp [go_sem]
  have k1 : wa.cell? ⟨w.heap.size, 1, none⟩ = some (.string x.val) := by rw [← hwa]; simp [go_sem]
  have k2 : wa.cell? ⟨w.heap.size, 2, none⟩ = some (.bool d) := by rw [← hwa]; simp [go_sem]
  have k3 : wa.cell? ⟨w.heap.size, 3, none⟩ = some (.int .i64 x.seq) := by rw [← hwa]; simp [go_sem]
  have k0' := @BW.cell wa _ _ k0
  have k1' := @BW.cell wa _ _ k1
  go_enter Tryz.func42, Tryz.ntmps42
  go_wp2_with fail
  
  refine wp_region_quiet_bw wa (by kernel_rfl) (by kernel_rfl) (Bl.refl wa) ?_
  repeat (go_big_quiet_step (first | (go_at_call 63; with_reducible exact quietB (HK.out _)) | (go_at_call 63; with_reducible exact quietB (HV.out _))))
  refine wpQuiet_nil ?_
  intro wq hw'
  have hwq : Bl wa wq := by obtain ⟨x, hx⟩ := hw'; rw [hx]; exact x.h
  clear hw'
  have j0 := hwq.cell k0
  have j2 := hwq.cell k2
  have j3 := hwq.cell k3
  clear k0' k1' k0 k1 k2 k3 hwa
  cases d with
  | true =>
    go_wp2_with fail
    refine (HK.out _).mono ?_; rintro e w1 ⟨rfl, hb1⟩
    have j3 := hb1.cell j3
    go_wp2_with fail
    refine (HN.out _).mono ?_; rintro e w2 ⟨rfl, hb2⟩
    go_wp2_with fail
    go_ret
    exact RB.mk (sval (line_del HP.out.1 HP.out.2.1 HP.out.2.2.2)) (((hba.trans hwq).trans hb1).trans hb2)
  | false =>
    go_wp2_with fail
    refine (HN.out _).mono ?_; rintro e w2 ⟨rfl, hb2⟩
    go_wp2_with fail
    go_ret
    exact RB.mk (sval (line_put HP.out.1 HP.out.2.1 HP.out.2.2.1 HP.out.2.2.2)) ((hba.trans hwq).trans hb2)
/-! ### Print -/
theorem eprint_rall (l : List Ent) : eprint l = if rall l ≠ 0 then ([], rall l) else if 1048576 < (linesE l).length then ([], 3) else (linesE l, 0) := by
  unfold eprint rall
  split
  · rfl
  · rfl
theorem linesE_step' {l : List Ent} {k : Nat} {x : Ent} (h : l[k]? = some x) : linesE (l.take (k + 1)) = linesE (l.take k) ++ lineE x := by
  rw [linesE_step h, List.append_assoc]; rfl
set_option maxHeartbeats 4000000 in
theorem refPrintE (a : Option Addr) (c : Nat) (l : List Ent) (w : World) (hl : Ents w a l) (hn : l.length ≤ maxLen) : Calls Tryz.prog 20 #[.slice a l.length c] w (RB w (.tuple #[.string ⟨(eprint l).1.toArray⟩, .int .i64 (eprint l).2])) := by
  have hA := refAllE a c l w hl hn
  obtain ⟨res, hres⟩ : ∃ r, eprint l = r := ⟨_, rfl⟩
  rw [hres]
  rw [eprint_rall] at hres
  have HL := Lib.hid hl
  have hz : rall l = 0 → l.length ≤ 5000 ∧ ∀ x ∈ l, echk x = 0 := fun h => by
    unfold rall at h
    split at h
    · cases h
    · exact ⟨by omega, (eall_iff l).1 h⟩
  obtain ⟨q, hq⟩ : ∃ q, rall l = q := ⟨_, rfl⟩
  rw [hq] at hA hres hz
  have HA := Lib.hid hA
  clear hA hl hq
  by_cases h : q = 0
  · subst h
    rw [if_neg (by simp)] at hres
    obtain ⟨h5, hok⟩ := hz rfl
    have HOk := Lib.hid hok
    have HRes := Lib.hid hres
    clear hz hok hres
    go_enter Tryz.func20, Tryz.ntmps20
    go_wp2_with fail
    refine HA.out.mono ?_; rintro e w1 ⟨rfl, hb1⟩
    go_wp2_with fail
    go_loopg [5, 6] l.length (fun g v1 v2 wr => ∃ (b : ByteArray) (k : Nat), v1 = .string b ∧ v2 = .int .i64 k ∧ Hid (k ≤ l.length ∧ g = l.length - k ∧ b.data.toList = linesE (l.take k)) ∧ Bl w wr)
    case atStart => exact ⟨⟨#[]⟩, 0, rfl, rfl, Lib.hid ⟨by omega, rfl, rfl⟩, hb1⟩
    case round =>
      obtain ⟨b, k, rfl, rfl, H, hb⟩ := hrel
      have hbs : b.size ≤ 450 * l.length := by
        rw [Lib.size_eq, H.out.2.2]
        have := linesE_len (l := l.take k) (fun x hx => HOk.out x (List.mem_of_mem_take hx))
        rw [List.length_take] at this
        have h2 := H.out.1
        refine Nat.le_trans this (Nat.mul_le_mul_left _ ?_); omega
      by_cases hk : k < l.length
      · obtain ⟨x, hx⟩ : ∃ x, l[k]? = some x := ⟨_, List.getElem?_eq_getElem hk⟩
        obtain ⟨g1, o1, rfl, hat⟩ := HL.out.get hk
        obtain ⟨x0, x1, x2, x3⟩ := (hat k x hx).bl hb
        have hxo := HOk.out x (List.mem_of_getElem? hx)
        have hLn := fun w => refLineE x hxo w
        have hll := lineE_len hxo
        obtain ⟨ln, hln⟩ : ∃ q : ByteArray, (⟨(lineE x).toArray⟩ : ByteArray) = q := ⟨_, rfl⟩
        have hl2 : ln.data.toList = lineE x := by rw [← hln]
        have hls : ln.size ≤ 450 := by rw [Lib.size_eq, hl2]; exact hll
        rw [hln] at hLn
        unfold Ent.v at hLn
        have HLn := Lib.hid hLn
        have hst := linesE_step' hx
        have HSt := Lib.hid (show (b ++ ln).data.toList = linesE (l.take (k + 1)) by rw [app_list, H.out.2.2, hl2, hst])
        have HMs := Lib.hid (show l.length - (k + 1) < gk by have := H.out; omega)
        clear hat hx hxo hLn hll hln hl2 hst
        go_wp2_with fail
        refine (HLn.out _).mono ?_; rintro e w2 ⟨rfl, hb2⟩
        go_wp2_with fail
        go_roundg (l.length - (k + 1))
        case rel => exact ⟨b ++ ln, k + 1, rfl, by go_num, Lib.hid ⟨by omega, rfl, HSt.out⟩, hb.trans hb2⟩
        case measure => exact HMs.out
      · have hk' : k = l.length := by have := H.out.1; omega
        subst hk'
        have hbl := H.out.2.2
        rw [List.take_length] at hbl
        have hre := HRes.out
        rw [← hbl, ← Lib.size_eq] at hre
        by_cases h1 : 1048576 < b.size
        · rw [if_pos h1] at hre
          subst hre
          have i1 : (1048576 : Int) < (b.size : Int) := by omega
          clear h1 hbl H
          go_wp2_with fail
          go_ret2
          exact rb_tuple rfl rfl hb
        · rw [if_neg h1] at hre
          subst hre
          have i1 : ¬ (1048576 : Int) < (b.size : Int) := by omega
          clear h1 hbl H
          go_wp2_with fail
          go_ret2
          exact rb_tuple (sval (by simp)) rfl hb
  · rw [if_pos h] at hres
    subst hres
    have h1 : (q != 0) = true := by rw [bne_iff_ne]; exact h
    clear h hz
    go_enter Tryz.func20, Tryz.ntmps20
    go_wp2_with fail
    refine HA.out.mono ?_; rintro e w1 ⟨rfl, hb1⟩
    go_wp2_with fail
    go_ret2
    exact rb_tuple rfl rfl hb1
end Go.Proofs.YtkbfjficmdgjpaaGreatDoor

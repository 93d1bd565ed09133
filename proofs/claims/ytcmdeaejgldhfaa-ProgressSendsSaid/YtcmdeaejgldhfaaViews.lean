/-
  entries: rows and views.
-/
import Derived.Test.YtcmdeaejgldhfaaEnts2
set_option linter.unusedVariables false
set_option linter.unusedSimpArgs false
namespace Go.HB
open Go.RowKit
theorem ec_yes {b : Bool} {ec : Int} (h : (if b then (0 : Int) else 1) = ec) (k : ec = 0) : b = true := by cases b <;> simp_all
theorem ec_no {b : Bool} {ec : Int} (h : (if b then (0 : Int) else 1) = ec) (k : ¬ ec = 0) : b = false := by cases b <;> simp_all
theorem rowOk_no {J T : Int} {x : Ent} {t : List Ent} {r : Bool} (h : rowOk J T (x :: t) = r) (hn : ¬ (rightEnt x = true ∧ x.index = J + 1 ∧ T ≤ x.term)) : r = false := by
  subst h
  cases hr : rowOk J T (x :: t) with
  | false => rfl
  | true =>
    simp only [rowOk, Bool.and_eq_true, decide_eq_true_eq] at hr
    exact absurd ⟨hr.1.1.1, hr.1.1.2, hr.1.2⟩ hn
theorem rowOk_yes {J T : Int} {x : Ent} {t : List Ent} {r : Bool} (h : rowOk J T (x :: t) = r) (h1 : rightEnt x = true) (h2 : x.index = J + 1) (h3 : T ≤ x.term) : rowOk (J + 1) x.term t = r := by
  subst h
  simp [rowOk, h1, h2, h3]
theorem rightEnt_range {x : Ent} (h : rightEnt x = true) : 1 ≤ x.term ∧ x.term < 1099511627776 ∧ 1 ≤ x.index ∧ x.index < 1099511627776 := by
  simp only [rightEnt, Bool.and_eq_true, decide_eq_true_eq] at h
  exact ⟨h.1.1.1.1, h.1.1.1.2, h.1.1.2, h.1.2⟩
theorem View.ok_no {x : View} (h : ¬ (0 ≤ x.base ∧ x.base ≤ 549755813888 ∧ 0 ≤ x.term ∧ x.term < 1099511627776 ∧ x.l.length ≤ 4096)) : x.ok = false := by
  cases hr : x.ok with
  | false => rfl
  | true =>
    simp only [View.ok, Bool.and_eq_true, decide_eq_true_eq] at hr
    exact absurd ⟨hr.1.1.1.1.1, hr.1.1.1.1.2, hr.1.1.1.2, hr.1.1.2, hr.1.2⟩ h
theorem View.ok_in {x : View} (h : 0 ≤ x.base ∧ x.base ≤ 549755813888 ∧ 0 ≤ x.term ∧ x.term < 1099511627776 ∧ x.l.length ≤ 4096) : x.ok = rowOk x.base x.term x.l := by
  simp [View.ok, h.1, h.2.1, h.2.2.1, h.2.2.2.1, h.2.2.2.2]
theorem View.ok_range {x : View} (hr : x.ok = true) : 0 ≤ x.base ∧ x.base ≤ 549755813888 ∧ 0 ≤ x.term ∧ x.term < 1099511627776 ∧ x.l.length ≤ 4096 := by
  simp only [View.ok, Bool.and_eq_true, decide_eq_true_eq] at hr
  exact ⟨hr.1.1.1.1.1, hr.1.1.1.1.2, hr.1.1.1.2, hr.1.1.2, hr.1.2⟩
def View.last (v : View) : Int := v.base + v.l.length
def View.at_ (v : View) (i : Int) : Int := if i = v.base then v.term else ((v.l[(i - v.base - 1).toNat]?).map Ent.term).getD 0
def View.lastR (v : View) : Int × Int := if v.ok then (v.last, v.at_ v.last) else (0, 0)
theorem View.lastR_no {v : View} (h : v.ok = false) : v.lastR = (0, 0) := by simp [View.lastR, h]
theorem View.lastR_yes {v : View} (h : v.ok = true) : v.lastR = (v.last, v.at_ v.last) := by simp [View.lastR, h]
def View.termOf (v : View) (i : Int) : Int × Int := if v.ok = false then (0, 1) else if i < v.base then (0, 36) else if i > v.last then (0, 3) else (v.at_ i, 0)
theorem View.termOf_no {v : View} {i : Int} (h : v.ok = false) : v.termOf i = (0, 1) := by simp [View.termOf, h]
theorem View.termOf_lo {v : View} {i : Int} (h : v.ok = true) (h1 : i < v.base) : v.termOf i = (0, 36) := by simp [View.termOf, h, h1]
theorem View.termOf_hi {v : View} {i : Int} (h : v.ok = true) (h1 : v.base ≤ i) (h2 : v.last < i) : v.termOf i = (0, 3) := by simp [View.termOf, h, Int.not_lt.2 h1, h2]
theorem View.termOf_in {v : View} {i : Int} (h : v.ok = true) (h1 : v.base ≤ i) (h2 : i ≤ v.last) : v.termOf i = (v.at_ i, 0) := by simp [View.termOf, h, Int.not_lt.2 h1, Int.not_lt.2 h2]
theorem View.at_base {v : View} {i : Int} (h : i = v.base) : v.at_ i = v.term := by simp [View.at_, h]
theorem View.at_row {v : View} {i : Int} (k : Nat) (h : i - v.base - 1 = k) (hk : k < v.l.length) : v.at_ i = v.l[k].term := by
  have : ¬ i = v.base := by omega
  simp [View.at_, this, h, List.getElem?_eq_getElem hk]
end Go.HB
namespace Go.Proofs.Ytcmdeaejgldhfaa
open Go.RowKit Go.HB Go.Shelf

set_option maxHeartbeats 2000000 in
theorem row_any (w : World) (F : FP) (xs : List Ent) (v : Value) (h : Rd encEnt w F v xs) (index term : Int) (h0 : -9223372036854775808 ≤ index ∧ index ≤ 4611686018427387904) (ht : In64 term) :
    Calls Try.prog 37 #[.int .i64 index, .int .i64 term, v] w fun e w' => e = .returned (.bool (rowOk index term xs)) ∧ Below w.heap.size w w' := by
  have hb := h.bytes_le
  have hbn : xs.length ≤ 140737488355328 := by simp only [encEnt, encIso] at hb; omega
  clear hb
  obtain ⟨A, c, rfl, hl, hm⟩ := h.slice
  have H := h.arg
  clear h
  go_enter Try.func37, Try.ntmps37
  go_wp2
  go_loopw [0, 1, 13] (fun j t i wr => ∃ (k : Nat) (J T : Int), k ≤ xs.length ∧ i = .int .i64 k ∧ j = .int .i64 J ∧ t = .int .i64 T ∧ (-9223372036854775808 ≤ J ∧ J ≤ 4611686018427387904) ∧ In64 T ∧ Hid (rowOk J T (xs.drop k) = rowOk index term xs) ∧ Below w.heap.size w wr) (fun _ _ i _ => xs.length - (intOf i).toNat)
  case atStart => exact ⟨0, index, term, by omega, rfl, rfl, rfl, h0, ht, rfl, Below.refl _ _⟩
  case round =>
    obtain ⟨k, J, T, hk, rfl, rfl, rfl, hJ, hT, HR, HB⟩ := hrel
    obtain ⟨hJ1, hJ2⟩ := hJ
    by_cases hlt : k < xs.length
    · obtain ⟨ad, v, rfl, e0, e1, e2, e3, i0, i1, i2, hd⟩ := ent_at (H.at_ HB) k hlt
      have HD : Hid (xs.drop k = xs[k] :: xs.drop (k + 1)) := List.drop_eq_getElem_cons hlt
      generalize xs[k] = x at *
      obtain ⟨A4, c4, rfl, hl4, hm4⟩ := hd.slice
      obtain ⟨ec, hec⟩ : ∃ ec : Int, (if rightEnt x then 0 else 1) = ec := ⟨_, rfl⟩
      have HEC := Lib.hid hec
      clear hec
      go_wp2_with (go_at_call 50; go_must (refine (putentry_any _ _ x _ (hd.alloc _) ⟨i0, i1, i2⟩).mono ?_); rintro e w1 ⟨v1, rfl, hb1⟩; rw [HEC.out]; obtain ⟨c0, c1, c2, c3, hf⟩ := blk4 ((hb1.block wr.heap.size (by simp)).trans (heap_new rfl rfl)); have HB1 := bel_then (bel_alloc HB (Nat.le_refl _) _) (Nat.le_refl _) hb1)
      case roundEnd =>
        have hr1 := ec_yes HEC.out (by assumption)
        have hrr := rightEnt_range hr1
        go_roundw
        case rel => exact ⟨k + 1, J + 1, x.term, by omega, by go_num, rfl, rfl, ⟨by omega, by omega⟩, ⟨by omega, by omega⟩, rowOk_yes (HD.out ▸ HR.out) hr1 (by assumption) (by omega), HB1⟩
        case measure => simp [intOf]; omega
      all_goals (go_ret; refine ⟨congrArg (fun b => Ending.returned (Value.bool b)) (Eq.symm (rowOk_no (J := J) (T := T) (x := x) (t := xs.drop (k + 1)) (HD.out ▸ HR.out) ?_)), HB1⟩; rintro ⟨q1, q2, q3⟩)
      · omega
      · omega
      · rw [ec_no HEC.out (by assumption)] at q1; exact absurd q1 (by decide)
    · obtain rfl : k = xs.length := by omega
      go_wp2
      go_ret
      have := HR.out
      rw [List.drop_length] at this
      exact ⟨by rw [← this]; rfl, HB⟩

set_option maxHeartbeats 1000000 in
theorem right12_any (w : World) (F : FP) (x : View) (v : Value) (h : Rd encEnt w F v x.l) (hb : In64 x.base) (ht : In64 x.term) :
    Calls Try.prog 24 #[.agg #[.int .i64 x.base, .int .i64 x.term, v]] w fun e w' => e = .returned (.bool x.ok) ∧ Below w.heap.size w w' := by
  obtain ⟨A, c, rfl, hl, hm⟩ := h.slice
  have H := h.arg
  clear h
  obtain ⟨ok, hok⟩ : ∃ ok, rowOk x.base x.term x.l = ok := ⟨_, rfl⟩
  have HOK := Lib.hid hok
  clear hok
  obtain ⟨hb1, hb2⟩ := hb
  obtain ⟨ht1, ht2⟩ := ht
  go_enter Try.func24, Try.ntmps24
  go_wp2_with (go_at_call 37; go_must (refine (row_any _ (ltF w) _ _ (H.alloc _) x.base x.term ⟨by omega, by omega⟩ ⟨by omega, by omega⟩).mono ?_); rintro e w1 ⟨rfl, hb1⟩; rw [HOK.out])
  all_goals (go_ret; refine ⟨congrArg (fun b => Ending.returned (Value.bool b)) ?_, ?_⟩; rotate_left)
  all_goals try exact bel_then (bel_alloc (Below.refl _ _) (Nat.le_refl _) _) (Nat.le_refl _) (by assumption)
  all_goals try exact bel_alloc (Below.refl _ _) (Nat.le_refl _) _
  all_goals first
    | exact ((View.ok_in (x := x) ⟨by omega, by omega, by omega, by omega, by omega⟩).trans HOK.out).symm
    | exact (View.ok_no (x := x) (by omega)).symm

set_option maxHeartbeats 1000000 in
theorem vlast_any (w : World) (x : View) (A : Option Addr) (c : Nat) (hb : -9223372036854775808 ≤ x.base) (hb2 : x.base ≤ 549755813888) (hn : x.l.length ≤ 4096) :
    Calls Try.prog 38 #[.agg #[.int .i64 x.base, .int .i64 x.term, .slice A x.l.length c]] w fun e w' => e = .returned (.int .i64 x.last) ∧ Below w.heap.size w w' := by
  go_enter Try.func38, Try.ntmps38
  go_wp2
  go_ret
  exact ⟨rfl, bel_alloc (Below.refl _ _) (Nat.le_refl _) _⟩

set_option maxHeartbeats 1000000 in
theorem vat_any (w : World) (F : FP) (x : View) (v : Value) (h : Rd encEnt w F v x.l) (hx : x.ok = true) (i : Int) (hi : x.base ≤ i ∧ i ≤ x.last) :
    Calls Try.prog 39 #[.agg #[.int .i64 x.base, .int .i64 x.term, v], .int .i64 i] w fun e w' => e = .returned (.int .i64 (x.at_ i)) ∧ Below w.heap.size w w' := by
  obtain ⟨A, c, rfl, hl, hm⟩ := h.slice
  have H := h.arg
  clear h
  obtain ⟨r1, r2, r3, r4, r5⟩ := View.ok_range hx
  obtain ⟨i1, i2⟩ := hi
  unfold View.last at i2
  by_cases hbi : i = x.base
  · have HB := Lib.hid (View.at_base hbi)
    go_enter Try.func39, Try.ntmps39
    go_wp2
    all_goals go_ret
    exact ⟨congrArg (fun n => Ending.returned (Value.int .i64 n)) HB.out.symm, bel_alloc (Below.refl _ _) (Nat.le_refl _) _⟩
  · obtain ⟨k, hk⟩ : ∃ k : Nat, i - x.base - 1 = k := ⟨(i - x.base - 1).toNat, by omega⟩
    have hkl : k < x.l.length := by omega
    have HB := Lib.hid (View.at_row k hk hkl)
    obtain ⟨ad, v, rfl, e0, e1, e2, e3, i0, i1, i2, hd⟩ := ent_at (H.alloc (.cells #[.int .i64 x.base, .int .i64 x.term, .slice A x.l.length c] 26)) k hkl
    generalize x.l[k] = y at *
    go_enter Try.func39, Try.ntmps39
    go_wp2
    all_goals go_ret
    exact ⟨congrArg (fun n => Ending.returned (Value.int .i64 n)) HB.out.symm, bel_alloc (Below.refl _ _) (Nat.le_refl _) _⟩

set_option maxRecDepth 100000 in
set_option maxHeartbeats 4000000 in
theorem last12_any (w : World) (F : FP) (x : View) (v : Value) (h : Rd encEnt w F v x.l) (hb : In64 x.base) (ht : In64 x.term) :
    Calls Try.prog 25 #[.agg #[.int .i64 x.base, .int .i64 x.term, v]] w fun e w' => e = .returned (.tuple #[.int .i64 x.lastR.1, .int .i64 x.lastR.2]) ∧ Below w.heap.size w w' := by
  obtain ⟨A, c, rfl, hl, hm⟩ := h.slice
  have H := h.arg
  clear h
  cases hx : x.ok with
  | false =>
    have HX := Lib.hid hx
    have HY := Lib.hid (View.lastR_no hx)
    clear hx
    go_enter Try.func25, Try.ntmps25
    go_wp2_with (go_at_call 24; go_must (refine (right12_any _ (ltF w) x _ (H.alloc _) hb ht).mono ?_); rintro e w1 ⟨rfl, hb1⟩; rw [HX.out])
    go_ret2
    exact ⟨by rw [HY.out]; rfl, bel_then (bel_alloc (Below.refl _ _) (Nat.le_refl _) _) (Nat.le_refl _) hb1⟩
  | true =>
    have HX := Lib.hid hx
    have HY := Lib.hid (View.lastR_yes hx)
    obtain ⟨r1, r2, r3, r4, r5⟩ := View.ok_range hx
    have HV : Hid (x.base ≤ x.last ∧ x.last ≤ x.last) := ⟨by unfold View.last; omega, Int.le_refl _⟩
    obtain ⟨L, hL⟩ : ∃ L, x.last = L := ⟨_, rfl⟩
    have HL := Lib.hid hL
    clear hL
    clear hx
    go_enter Try.func25, Try.ntmps25
    go_wp2_with (go_at_call 24; go_must (refine (right12_any _ (ltF w) x _ (H.alloc _) hb ht).mono ?_); rintro e w1 ⟨rfl, hb1⟩; rw [HX.out]; obtain ⟨c0, c1, c2, hf⟩ := blk3 ((hb1.block w.heap.size (by simp)).trans (heap_new rfl rfl)); have HB1 := bel_then (bel_alloc (Below.refl _ _) (Nat.le_refl _) _) (Nat.le_refl _) hb1; have HS : w.heap.size < w1.heap.size := (by have := hb1.size; simp at this; omega))
    replace HB1 : Below w.heap.size w w1.drew := bel_drew HB1
    replace HS : w.heap.size < w1.drew.heap.size := HS
    go_region_held3 (fun w' => w'.cell? ⟨w.heap.size, 0, none⟩ = some (.int .i64 x.base) ∧ w'.cell? ⟨w.heap.size, 1, none⟩ = some (.int .i64 x.term) ∧ w'.cell? ⟨w.heap.size, 2, none⟩ = some (.slice A x.l.length c))
      (first
        | go_keep
        | (go_split_ands
           refine ⟨?_, ?_, ?_⟩ <;> (refine (bel_cell hbn w.heap.size HSo _).trans ?_; assumption)))
      (first
        | (go_at_call 38; go_must (refine (vlast_any _ x A c hb.1 r2 r5).mono ?_); rintro e w3 ⟨rfl, hbn⟩; have HSo := HS; replace HS := Nat.lt_of_lt_of_le HS hbn.size; replace HB1 := bel_then HB1 (Nat.le_refl _) hbn)
        | (go_at_call 39; refine (vat_any _ (ltF w) x _ (H.at_ HB1) HX.out x.last HV.out).mono ?_; rintro e w3 ⟨rfl, hbn⟩; have HSo := HS; replace HS := Nat.lt_of_lt_of_le HS hbn.size; replace HB1 := bel_then HB1 (Nat.le_refl _) hbn))
    all_goals (go_wp2; go_ret2; exact ⟨by rw [HY.out]; rfl, HB1⟩)

set_option maxRecDepth 100000 in
set_option maxHeartbeats 4000000 in
theorem termof_any (w : World) (F : FP) (x : View) (v : Value) (h : Rd encEnt w F v x.l) (hb : In64 x.base) (ht : In64 x.term) (i : Int) :
    Calls Try.prog 27 #[.agg #[.int .i64 x.base, .int .i64 x.term, v], .int .i64 i] w fun e w' => e = .returned (.tuple #[.int .i64 (x.termOf i).1, .int .i64 (x.termOf i).2]) ∧ Below w.heap.size w w' := by
  obtain ⟨A, c, rfl, hl, hm⟩ := h.slice
  have H := h.arg
  clear h
  obtain ⟨ok, hx⟩ : ∃ ok, x.ok = ok := ⟨_, rfl⟩
  have HX := Lib.hid hx
  have HR : ok = true → 0 ≤ x.base ∧ x.base ≤ 549755813888 ∧ 0 ≤ x.term ∧ x.term < 1099511627776 ∧ x.l.length ≤ 4096 := fun h => View.ok_range (hx.trans h)
  clear hx
  cases ok with
  | false =>
    go_enter Try.func27, Try.ntmps27
    go_wp2_with (go_at_call 24; go_must (refine (right12_any _ (ltF w) x _ (H.alloc _) hb ht).mono ?_); rintro e w1 ⟨rfl, hb1⟩; rw [HX.out])
    all_goals go_ret2
    exact ⟨by rw [View.termOf_no HX.out]; rfl, bel_then (bel_alloc (Below.refl _ _) (Nat.le_refl _) _) (Nat.le_refl _) hb1⟩
  | true =>
    obtain ⟨r1, r2, r3, r4, r5⟩ := HR rfl
    obtain ⟨L, hL⟩ : ∃ L, x.last = L := ⟨_, rfl⟩
    have HL := Lib.hid hL
    have hL' : L = x.base + x.l.length := by rw [← hL]; rfl
    clear hL
    go_enter Try.func27, Try.ntmps27
    go_wp2_with (first | (go_at_call 24; go_must (refine (right12_any _ (ltF w) x _ (H.alloc _) hb ht).mono ?_); rintro e w1 ⟨rfl, hb1⟩; rw [HX.out]; obtain ⟨c0, c1, c2, hf⟩ := blk3 ((hb1.block w.heap.size (by simp)).trans (heap_new rfl rfl)); have HB1 := bel_then (bel_alloc (Below.refl _ _) (Nat.le_refl _) _) (Nat.le_refl _) hb1; have HS : w.heap.size < w1.heap.size := (by have := hb1.size; simp at this; omega)) | (go_at_call 38; go_must (refine (vlast_any _ x A c (by omega) (by omega) (by omega)).mono ?_); rintro e w3 ⟨rfl, hb3⟩; rw [HL.out]; have c0' := (bel_cell hb3 _ HS 0).trans c0; have c1' := (bel_cell hb3 _ HS 1).trans c1; have c2' := (bel_cell hb3 _ HS 2).trans c2; have HB3 := bel_then HB1 (Nat.le_refl _) hb3) | (go_at_call 39; go_must (refine (vat_any _ (ltF w) x _ (H.at_ HB3) HX.out i ⟨by omega, by rw [HL.out]; omega⟩).mono ?_); rintro e w4 ⟨rfl, hb4⟩))
    all_goals go_ret2
    · exact ⟨by rw [View.termOf_lo HX.out (by assumption)]; rfl, HB1⟩
    · exact ⟨by rw [View.termOf_hi HX.out (by assumption) (by rw [HL.out]; omega)]; rfl, HB3⟩
    · exact ⟨by rw [View.termOf_in HX.out (by assumption) (by rw [HL.out]; omega)]; rfl, bel_then HB3 (Nat.le_refl _) hb4⟩
end Go.Proofs.Ytcmdeaejgldhfaa

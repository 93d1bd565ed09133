/-
  The document's RightEntry, row, Right, Last, TermOf.
-/
import Derived.Test.YtcmdeaejgldhfaaRef03e
set_option linter.unusedVariables false
set_option linter.unusedSimpArgs false
namespace Go.HB
open Go.RowKit
theorem ent_keep {w w1 : World} {F : FP} {ad : Addr} {n c : Nat} {xs : List Ent} (h : Rd encEnt w F (.slice (some ad) n c) xs) (k : Nat) (hk : k < xs.length) (hb : Rd encEnt w1 F (.slice (some ad) n c) xs) :
    w1.cell? (ad.add (k * 4)) = some (.int .i64 xs[k].term) ∧ w1.cell? ⟨(ad.add (k * 4)).block, (ad.add (k * 4)).off + 1, none⟩ = some (.int .i64 xs[k].index) := by
  obtain ⟨ad', v, hA, e0, e1, _⟩ := ent_at hb k hk
  obtain rfl : ad = ad' := by simpa using hA
  exact ⟨e0, e1⟩
theorem rowOk_no2 {J T : Int} {x : Ent} {t : List Ent} {r : Bool} (h : rowOk J T (x :: t) = r) (hn : rightEnt x = false ∨ x.index ≠ J + 1 ∨ x.term < T) : r = false := by
  refine rowOk_no h ?_
  rintro ⟨q1, q2, q3⟩
  rcases hn with h | h | h
  · rw [h] at q1; cases q1
  · exact h q2
  · omega
end Go.HB
namespace Go.Proofs.Ytcmdeaejgldhfaa
open Go.RowKit Go.HB Go.Shelf

set_option maxHeartbeats 2000000 in
theorem rrightentry_any (w : World) (F : FP) (x : Ent) (v : Value) (h : Rd encU8 w F v x.data) :
    Calls Try.prog 56 #[.agg #[.int .i64 x.term, .int .i64 x.index, .int .i64 x.kind, v]] w fun e w' => e = .returned (.bool (rightEnt x)) ∧ Below w.heap.size w w' := by
  obtain ⟨A, c, rfl, hl, hm⟩ := h.slice
  have H := h.arg
  clear h
  obtain ⟨ok, hok⟩ : ∃ ok, srvOk x.data = ok := ⟨_, rfl⟩
  have HOK := Lib.hid hok
  obtain ⟨ec, hec⟩ : ∃ ec : Int, (if srvOk x.data then 0 else 21) = ec := ⟨_, rfl⟩
  have HEC := Lib.hid hec
  have HEQ : Hid ((ec == 0) = ok) := by
    show _ = _
    rw [← hec, hok]; cases ok <;> rfl
  clear hok hec
  go_enter Try.func56, Try.ntmps56
  go_wp2_with (go_at_call 72; go_must (refine (rgetservers_any _ (ltF w) _ x.data (H.at_ ?_)).mono ?_; rotate_left); (rintro e w1 ⟨v1, rfl, hb1⟩; rw [HEC.out]); rotate_left; repeat (first | with_reducible exact Below.refl _ _ | with_reducible assumption | with_reducible refine bel_alloc ?_ (Nat.le_refl _) _ | with_reducible refine bel_drew ?_ | with_reducible refine bel_drewN ?_ _ | (with_reducible refine bel_set ?_ ?_ _; · (simp <;> omega))))
  all_goals (go_ret; refine ⟨congrArg (fun b => Ending.returned (Value.bool b)) ?_, ?_⟩; rotate_left)
  all_goals try repeat (first | with_reducible exact Below.refl _ _ | with_reducible assumption | with_reducible refine bel_alloc ?_ (Nat.le_refl _) _ | with_reducible refine bel_drew ?_ | with_reducible refine bel_drewN ?_ _ | (with_reducible refine bel_set ?_ ?_ _; · (simp <;> omega)))
  all_goals try (exact bel_then (bel_alloc (Below.refl _ _) (Nat.le_refl _) _) (Nat.le_refl _) hb1)
  all_goals first
    | exact (rightEnt_false (by omega)).symm
    | exact (rightEnt_k1 (by omega) (by assumption)).symm
    | exact (rightEnt_k2 (by omega) (by assumption) (by assumption)).symm
    | exact (rightEnt_k0 (by assumption) (by assumption) (by assumption)).symm
    | (rw [rightEnt_k3 (by omega) (by assumption) (by assumption) (by assumption), HOK.out, HEQ.out])

set_option maxHeartbeats 2000000 in
theorem rrow_any (w : World) (F : FP) (xs : List Ent) (v : Value) (h : Rd encEnt w F v xs) (index term : Int) (h0 : 0 ≤ index ∧ index ≤ 4611686018427387904) (ht : In64 term) :
    Calls Try.prog 48 #[.int .i64 index, .int .i64 term, v] w fun e w' => e = .returned (.bool (rowOk index term xs)) ∧ Below w.heap.size w w' := by
  have hb := h.bytes_le
  have hbn : xs.length ≤ 140737488355328 := by simp only [encEnt, encIso] at hb; omega
  clear hb
  obtain ⟨A, c, rfl, hl, hm⟩ := h.slice
  obtain ⟨h01, h02⟩ := h0
  have H := h.arg
  clear h
  go_enter Try.func48, Try.ntmps48
  go_wp2
  go_loopw [1, 7] (fun t i wr => ∃ (k : Nat) (T : Int), k ≤ xs.length ∧ i = .int .i64 k ∧ t = .int .i64 T ∧ In64 T ∧ Hid (rowOk (index + k) T (xs.drop k) = rowOk index term xs) ∧ Below w.heap.size w wr) (fun _ i _ => xs.length - (intOf i).toNat)
  case atStart => exact ⟨0, term, by omega, rfl, rfl, ht, by show _ = _; simp, Below.refl _ _⟩
  case round =>
    obtain ⟨k, T, hk, rfl, rfl, hT, HR, HB⟩ := hrel
    by_cases hlt : k < xs.length
    · obtain ⟨ad, v, rfl, e0, e1, e2, e3, i0, i1, i2, hd⟩ := ent_at (H.at_ HB) k hlt
      have HD : Hid (xs.drop k = xs[k] :: xs.drop (k + 1)) := List.drop_eq_getElem_cons hlt
      have HK : Hid (∀ w1, Below wr.heap.size wr w1 → w1.cell? (ad.add (k * 4)) = some (.int .i64 xs[k].term) ∧ w1.cell? ⟨(ad.add (k * 4)).block, (ad.add (k * 4)).off + 1, none⟩ = some (.int .i64 xs[k].index)) :=
        fun w1 hb1 => ent_keep (H.at_ HB) k hlt ((H.at_ HB).below' hb1 fun b hb => Nat.lt_of_lt_of_le (ltF_lt hb) HB.size)
      generalize xs[k] = x at *
      obtain ⟨A4, c4, rfl, hl4, hm4⟩ := hd.slice
      obtain ⟨re, hre⟩ : ∃ re, rightEnt x = re := ⟨_, rfl⟩
      have HRE := Lib.hid hre
      clear hre
      go_wp2_with (go_at_call 56; go_must (refine (rrightentry_any _ _ x _ hd).mono ?_); rintro e w1 ⟨rfl, hb1⟩; rw [HRE.out]; obtain ⟨f0, f1⟩ := HK.out w1 hb1; have HB1 := bel_then HB (Nat.le_refl _) hb1)
      · go_ret
        exact ⟨congrArg (fun b => Ending.returned (Value.bool b)) (rowOk_no2 (HD.out ▸ HR.out) (.inr (.inr (by assumption)))).symm, HB1⟩
      · have h1 : re = true := by assumption
        have h2 : x.index = index + 1 + k := by assumption
        have h3 : T ≤ x.term := by assumption
        go_roundw
        case rel =>
          refine ⟨k + 1, x.term, by omega, by go_num, rfl, i0, ?_, HB1⟩
          have := rowOk_yes (HD.out ▸ HR.out) (HRE.out.trans h1) (by omega) h3
          rw [show index + (k : Int) + 1 = index + ((k + 1 : Nat) : Int) by push_cast; omega] at this
          exact this
        case measure => simp [intOf]; omega
      · go_ret
        exact ⟨congrArg (fun b => Ending.returned (Value.bool b)) (rowOk_no2 (HD.out ▸ HR.out) (.inr (.inl (by omega)))).symm, HB1⟩
      · go_ret
        have h1 : rightEnt x = false := by rw [HRE.out]; have h : ¬ re = true := by assumption
                                           simpa using h
        exact ⟨congrArg (fun b => Ending.returned (Value.bool b)) (rowOk_no2 (HD.out ▸ HR.out) (.inl h1)).symm, HB1⟩
    · obtain rfl : k = xs.length := by omega
      go_wp2
      go_ret
      have := HR.out
      rw [List.drop_length] at this
      exact ⟨by rw [← this]; rfl, HB⟩

set_option maxHeartbeats 1000000 in
theorem rright_any (w : World) (F : FP) (x : View) (v : Value) (h : Rd encEnt w F v x.l) (hb : In64 x.base) (ht : In64 x.term) :
    Calls Try.prog 29 #[.agg #[.int .i64 x.base, .int .i64 x.term, v]] w fun e w' => e = .returned (.bool x.ok) ∧ Below w.heap.size w w' := by
  obtain ⟨A, c, rfl, hl, hm⟩ := h.slice
  have H := h.arg
  clear h
  obtain ⟨ok, hok⟩ : ∃ ok, rowOk x.base x.term x.l = ok := ⟨_, rfl⟩
  have HOK := Lib.hid hok
  clear hok
  obtain ⟨hb1, hb2⟩ := hb
  obtain ⟨ht1, ht2⟩ := ht
  go_enter Try.func29, Try.ntmps29
  go_wp2_with (go_at_call 48; go_must (refine (rrow_any _ (ltF w) _ _ (H.alloc _) x.base x.term ⟨by omega, by omega⟩ ⟨by omega, by omega⟩).mono ?_); rintro e w1 ⟨rfl, hb1⟩; rw [HOK.out])
  all_goals (go_ret; refine ⟨congrArg (fun b => Ending.returned (Value.bool b)) ?_, ?_⟩; rotate_left)
  all_goals try exact bel_then (bel_alloc (Below.refl _ _) (Nat.le_refl _) _) (Nat.le_refl _) (by assumption)
  all_goals try exact bel_alloc (Below.refl _ _) (Nat.le_refl _) _
  all_goals first
    | exact ((View.ok_in (x := x) ⟨by omega, by omega, by omega, by omega, by omega⟩).trans HOK.out).symm
    | exact (View.ok_no (x := x) (by omega)).symm

set_option maxRecDepth 100000 in
set_option maxHeartbeats 4000000 in
theorem rlast_any (w : World) (F : FP) (x : View) (v : Value) (h : Rd encEnt w F v x.l) (hb : In64 x.base) (ht : In64 x.term) :
    Calls Try.prog 28 #[.agg #[.int .i64 x.base, .int .i64 x.term, v]] w fun e w' => e = .returned (.tuple #[.int .i64 x.lastR.1, .int .i64 x.lastR.2]) ∧ Below w.heap.size w w' := by
  obtain ⟨A, c, rfl, hl, hm⟩ := h.slice
  have H := h.arg
  clear h
  cases hx : x.ok with
  | false =>
    have HX := Lib.hid hx
    have HY := Lib.hid (View.lastR_no hx)
    clear hx
    go_enter Try.func28, Try.ntmps28
    go_wp2_with (go_at_call 29; go_must (refine (rright_any _ (ltF w) x _ (H.alloc _) hb ht).mono ?_); rintro e w1 ⟨rfl, hb1⟩; rw [HX.out])
    go_ret2
    exact ⟨by rw [HY.out]; rfl, bel_then (bel_alloc (Below.refl _ _) (Nat.le_refl _) _) (Nat.le_refl _) hb1⟩
  | true =>
    have HX := Lib.hid hx
    have HY := Lib.hid (View.lastR_yes hx)
    obtain ⟨r1, r2, r3, r4, r5⟩ := View.ok_range hx
    have HV : Hid (x.base ≤ x.last ∧ x.last ≤ x.last) := ⟨by unfold View.last; omega, Int.le_refl _⟩
    obtain ⟨L, hL⟩ : ∃ L, x.last = L := ⟨_, rfl⟩
    have HL := Lib.hid hL
    clear hL
    clear hx
    go_enter Try.func28, Try.ntmps28
    go_wp2_with (go_at_call 29; go_must (refine (rright_any _ (ltF w) x _ (H.alloc _) hb ht).mono ?_); rintro e w1 ⟨rfl, hb1⟩; rw [HX.out]; obtain ⟨c0, c1, c2, hf⟩ := blk3 ((hb1.block w.heap.size (by simp)).trans (heap_new rfl rfl)); have HB1 := bel_then (bel_alloc (Below.refl _ _) (Nat.le_refl _) _) (Nat.le_refl _) hb1; have HS : w.heap.size < w1.heap.size := (by have := hb1.size; simp at this; omega))
    replace HB1 : Below w.heap.size w w1.drew := bel_drew HB1
    replace HS : w.heap.size < w1.drew.heap.size := HS
    go_region_held3 (fun w' => w'.cell? ⟨w.heap.size, 0, none⟩ = some (.int .i64 x.base) ∧ w'.cell? ⟨w.heap.size, 1, none⟩ = some (.int .i64 x.term) ∧ w'.cell? ⟨w.heap.size, 2, none⟩ = some (.slice A x.l.length c))
      (first
        | go_keep
        | (go_split_ands
           refine ⟨?_, ?_, ?_⟩ <;> (refine (bel_cell hbn w.heap.size HSo _).trans ?_; assumption)))
      (first
        | (go_at_call 32; go_must (refine (rlst_any _ x A c hb.1 r2 r5).mono ?_); rintro e w3 ⟨rfl, hbn⟩; have HSo := HS; replace HS := Nat.lt_of_lt_of_le HS hbn.size; replace HB1 := bel_then HB1 (Nat.le_refl _) hbn)
        | (go_at_call 33; refine (rat_any _ (ltF w) x _ (H.at_ HB1) HX.out x.last HV.out).mono ?_; rintro e w3 ⟨rfl, hbn⟩; have HSo := HS; replace HS := Nat.lt_of_lt_of_le HS hbn.size; replace HB1 := bel_then HB1 (Nat.le_refl _) hbn))
    all_goals (go_wp2; go_ret2; exact ⟨by rw [HY.out]; rfl, HB1⟩)

set_option maxRecDepth 100000 in
set_option maxHeartbeats 4000000 in
theorem rtermof_any (w : World) (F : FP) (x : View) (v : Value) (h : Rd encEnt w F v x.l) (hb : In64 x.base) (ht : In64 x.term) (i : Int) :
    Calls Try.prog 14 #[.agg #[.int .i64 x.base, .int .i64 x.term, v], .int .i64 i] w fun e w' => e = .returned (.tuple #[.int .i64 (x.termOf i).1, .int .i64 (x.termOf i).2]) ∧ Below w.heap.size w w' := by
  obtain ⟨A, c, rfl, hl, hm⟩ := h.slice
  have H := h.arg
  clear h
  obtain ⟨ok, hx⟩ : ∃ ok, x.ok = ok := ⟨_, rfl⟩
  have HX := Lib.hid hx
  have HR : ok = true → 0 ≤ x.base ∧ x.base ≤ 549755813888 ∧ 0 ≤ x.term ∧ x.term < 1099511627776 ∧ x.l.length ≤ 4096 := fun h => View.ok_range (hx.trans h)
  clear hx
  cases ok with
  | false =>
    go_enter Try.func14, Try.ntmps14
    go_wp2_with (go_at_call 29; go_must (refine (rright_any _ (ltF w) x _ (H.alloc _) hb ht).mono ?_); rintro e w1 ⟨rfl, hb1⟩; rw [HX.out])
    all_goals go_ret2
    exact ⟨by rw [View.termOf_no HX.out]; rfl, bel_then (bel_alloc (Below.refl _ _) (Nat.le_refl _) _) (Nat.le_refl _) hb1⟩
  | true =>
    obtain ⟨r1, r2, r3, r4, r5⟩ := HR rfl
    obtain ⟨L, hL⟩ : ∃ L, x.last = L := ⟨_, rfl⟩
    have HL := Lib.hid hL
    have hL' : L = x.base + x.l.length := by rw [← hL]; rfl
    clear hL
    go_enter Try.func14, Try.ntmps14
    go_wp2_with (first | (go_at_call 29; go_must (refine (rright_any _ (ltF w) x _ (H.alloc _) hb ht).mono ?_); rintro e w1 ⟨rfl, hb1⟩; rw [HX.out]; obtain ⟨c0, c1, c2, hf⟩ := blk3 ((hb1.block w.heap.size (by simp)).trans (heap_new rfl rfl)); have HB1 := bel_then (bel_alloc (Below.refl _ _) (Nat.le_refl _) _) (Nat.le_refl _) hb1; have HS : w.heap.size < w1.heap.size := (by have := hb1.size; simp at this; omega)) | (go_at_call 32; go_must (refine (rlst_any _ x A c (by omega) (by omega) (by omega)).mono ?_); rintro e w3 ⟨rfl, hb3⟩; rw [HL.out]; have c0' := (bel_cell hb3 _ HS 0).trans c0; have c1' := (bel_cell hb3 _ HS 1).trans c1; have c2' := (bel_cell hb3 _ HS 2).trans c2; have HB3 := bel_then HB1 (Nat.le_refl _) hb3) | (go_at_call 33; go_must (refine (rat_any _ (ltF w) x _ (H.at_ HB3) HX.out i ⟨by omega, by rw [HL.out]; omega⟩).mono ?_); rintro e w4 ⟨rfl, hb4⟩))
    all_goals go_ret2
    · exact ⟨by rw [View.termOf_lo HX.out (by assumption)]; rfl, HB1⟩
    · exact ⟨by rw [View.termOf_hi HX.out (by assumption) (by rw [HL.out]; omega)]; rfl, HB3⟩
    · exact ⟨by rw [View.termOf_in HX.out (by assumption) (by rw [HL.out]; omega)]; rfl, bel_then HB3 (Nat.le_refl _) hb4⟩
end Go.Proofs.Ytcmdeaejgldhfaa

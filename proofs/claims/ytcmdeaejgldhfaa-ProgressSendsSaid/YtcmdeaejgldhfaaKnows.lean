/-
  hustingslaw13.knows.
-/
import Derived.Test.YtcmdeaejgldhfaaComm
set_option linter.unusedVariables false
set_option linter.unusedSimpArgs false
namespace Go.HB
theorem Rd.ents3 {W : World} {F : FP} {b : Nat} {t : TypeId} {x0 x1 x2 : Ent} {v0 v1 v2 : Value}
    (hb : W.heap[b]? = some (.cells #[.int .i64 x0.term, .int .i64 x0.index, .int .i64 x0.kind, v0, .int .i64 x1.term, .int .i64 x1.index, .int .i64 x1.kind, v1, .int .i64 x2.term, .int .i64 x2.index, .int .i64 x2.kind, v2] t (0, 0))) (hF : F b)
    (i0 : In64 x0.term ∧ In64 x0.index ∧ In64 x0.kind) (i1 : In64 x1.term ∧ In64 x1.index ∧ In64 x1.kind) (i2 : In64 x2.term ∧ In64 x2.index ∧ In64 x2.kind)
    (h0 : Rd encU8 W F v0 x0.data) (h1 : Rd encU8 W F v1 x1.data) (h2 : Rd encU8 W F v2 x2.data) :
    Rd encEnt W F (.slice (some ⟨b, 0, none⟩) 3 3) [x0, x1, x2] := by
  refine ⟨_, 3, rfl, Nat.le_refl _, by simp [maxLen], by simp [encEnt, encIso], fun _ => ⟨_, rfl, hF, ⟨_, _, _, hb⟩, fun j x hx => ?_⟩⟩
  have cl : ∀ i, W.cell? ⟨b, i, none⟩ = (#[Value.int .i64 x0.term, .int .i64 x0.index, .int .i64 x0.kind, v0, .int .i64 x1.term, .int .i64 x1.index, .int .i64 x1.kind, v1, .int .i64 x2.term, .int .i64 x2.index, .int .i64 x2.kind, v2])[i]? := fun i => cell_of_row W b i _ t (0, 0) hb
  match j, hx with
  | 0, hx =>
    obtain rfl : x0 = x := by simpa using hx
    refine ⟨_, encEnt_R.2 ⟨v0, rfl, i0.1, i0.2.1, i0.2.2, h0⟩, fun i u hu => ?_⟩
    rw [add_at, cl]
    match i, hu with
    | 0, hu => exact hu
    | 1, hu => exact hu
    | 2, hu => exact hu
    | 3, hu => exact hu
    | i + 4, hu => simp at hu
  | 1, hx =>
    obtain rfl : x1 = x := by simpa using hx
    refine ⟨_, encEnt_R.2 ⟨v1, rfl, i1.1, i1.2.1, i1.2.2, h1⟩, fun i u hu => ?_⟩
    rw [add_at, cl]
    match i, hu with
    | 0, hu => exact hu
    | 1, hu => exact hu
    | 2, hu => exact hu
    | 3, hu => exact hu
    | i + 4, hu => simp at hu
  | 2, hx =>
    obtain rfl : x2 = x := by simpa using hx
    refine ⟨_, encEnt_R.2 ⟨v2, rfl, i2.1, i2.2.1, i2.2.2, h2⟩, fun i u hu => ?_⟩
    rw [add_at, cl]
    match i, hu with
    | 0, hu => exact hu
    | 1, hu => exact hu
    | 2, hu => exact hu
    | 3, hu => exact hu
    | i + 4, hu => simp at hu
  | j + 3, hx => simp at hx
theorem Rd.ints3 {W : World} {F : FP} {b : Nat} {t : TypeId} {x0 x1 x2 : Int}
    (hb : W.heap[b]? = some (.cells #[.int .i64 x0, .int .i64 x1, .int .i64 x2] t (0, 0))) (hF : F b) (h0 : In64 x0) (h1 : In64 x1) (h2 : In64 x2) :
    Rd encInt W F (.slice (some ⟨b, 0, none⟩) 3 3) [x0, x1, x2] :=
  Rd.of_block1 rfl hb rfl (Nat.le_refl _) (by simp [maxLen]) (by simp [encInt, encOf]) hF fun j x hx => by
    match j, hx with
    | 0, hx => obtain rfl : x0 = x := by simpa using hx
               exact ⟨_, rfl, h0, rfl⟩
    | 1, hx => obtain rfl : x1 = x := by simpa using hx
               exact ⟨_, rfl, h1, rfl⟩
    | 2, hx => obtain rfl : x2 = x := by simpa using hx
               exact ⟨_, rfl, h2, rfl⟩
    | j + 3, hx => simp at hx
def kView : View := ⟨0, 0, [⟨1, 1, 2, [1]⟩, ⟨1, 2, 2, [1]⟩, ⟨2, 3, 2, [2]⟩]⟩
theorem kNth : nthOf [0, 1, 2] [3, 3, 0] = 3 := by
  have : nthRow [0, 1, 2] [3, 3, 0] = [0, 3, 3] := by
    simp [nthRow, List.mergeSort, List.MergeSort.Internal.splitInTwo, List.merge]
  rw [nthOf, this]; rfl
theorem kC2 : kView.commit 3 0 2 = 3 := by decide +kernel
theorem kC1 : kView.commit 3 0 1 = 2 := by decide +kernel
theorem kC3 : kView.commit 3 0 3 = 0 := by decide +kernel
end Go.HB
namespace Go.Proofs.Ytcmdeaejgldhfaa
open Go.RowKit Go.HB Go.Shelf

theorem inK : In64 1 ∧ In64 2 ∧ In64 3 := by unfold In64; omega
theorem kview_l : kView.l = [⟨1, 1, 2, [1]⟩, ⟨1, 2, 2, [1]⟩, ⟨2, 3, 2, [2]⟩] := rfl

set_option maxRecDepth 100000 in
set_option maxHeartbeats 4000000 in
theorem knows13_any (w : World) : Calls Try.prog 12 #[] w fun e w' => e = .returned (.bool true) ∧ Below w.heap.size w w' := by
  have hN : Hid (nthOf [0, 1, 2] [3, 3, 0] = 3) := kNth
  go_enter Try.func12, Try.ntmps12
  go_wp2_with (first
    | (go_at_call 31; with_reducible refine (entry13_any _ 1 1 inK.1 inK.1).mono ?_; rintro e w1 ⟨v1, rfl, hr1, hb1⟩; obtain ⟨A1, k1, rfl, hl1, hm1⟩ := hr1.slice; replace hr1 := hr1.mono (F' := geF w.heap.size) (fun b hb => hb))
    | (go_at_call 31; with_reducible refine (entry13_any _ 1 2 inK.1 inK.2.1).mono ?_; rintro e w2 ⟨v2, rfl, hr2, hb2⟩; obtain ⟨A2, k2, rfl, hl2, hm2⟩ := hr2.slice; replace hr1 := hr1.below hb2; have HB2 := bel_then hb1 (Nat.le_refl _) hb2)
    | (go_at_call 31; with_reducible refine (entry13_any _ 2 3 inK.2.1 inK.2.2).mono ?_; rintro e w3 ⟨v3, rfl, hr3, hb3⟩; obtain ⟨A3, k3, rfl, hl3, hm3⟩ := hr3.slice; replace hr1 := hr1.below hb3; replace hr2 := hr2.below hb3; have HB3 := bel_then HB2 (Nat.le_refl _) hb3)
    | (go_at_call 8; go_must (refine (view12_any _ (fun _ => True) kView _ (Rd.ents3 (x0 := ⟨1, 1, 2, [1]⟩) (x1 := ⟨1, 2, 2, [1]⟩) (x2 := ⟨2, 3, 2, [2]⟩) (heap_new rfl rfl) trivial ⟨inK.1, inK.1, inK.2.1⟩ ⟨inK.1, inK.2.1, inK.2.1⟩ ⟨inK.2.1, inK.2.2, inK.2.1⟩ ((hr1.alloc _).mono fun _ _ => trivial) ((hr2.alloc _).mono fun _ _ => trivial) ((hr3.alloc _).mono fun _ _ => trivial))).mono ?_); rintro e w4 ⟨v4, rfl, hr4, hb4⟩; obtain ⟨A4, k4, rfl, hl4, hm4⟩ := hr4.slice; replace hr4 := hr4.mono (F' := fun _ => True) (fun _ _ => trivial); have HB4 := bel_then (bel_alloc HB3 (Nat.le_refl _) _) (Nat.le_refl _) hb4))
  obtain ⟨W, hW⟩ : ∃ W, ((w4.alloc (.cells #[.int .i64 kView.base, .int .i64 kView.term, .slice A4 kView.l.length k4] 26)).alloc (.cells #[.int .i64 0, .int .i64 1, .int .i64 2] 3)).alloc (.cells #[.int .i64 3, .int .i64 3, .int .i64 0] 3) = W := ⟨_, rfl⟩
  have HB : Below w.heap.size w W := hW ▸ bel_alloc (bel_alloc (bel_alloc HB4 (Nat.le_refl _) _) (Nat.le_refl _) _) (Nat.le_refl _) _
  have R4 : Rd encEnt W (fun _ => True) (.slice A4 kView.l.length k4) kView.l := hW ▸ ((hr4.alloc _).alloc _).alloc _
  have S1 : Rd encInt W (fun _ => True) (.slice (some ⟨w4.heap.size + 1, 0, none⟩) 3 3) [0, 1, 2] := Rd.ints3 (by rw [← hW]; exact heap_old (by simp) (heap_new (by simp) rfl)) trivial (by unfold In64; omega) (by unfold In64; omega) (by unfold In64; omega)
  have S2 : Rd encInt W (fun _ => True) (.slice (some ⟨w4.heap.size + 1 + 1, 0, none⟩) 3 3) [3, 3, 0] := Rd.ints3 (by rw [← hW]; exact heap_new (by simp) rfl) trivial (by unfold In64; omega) (by unfold In64; omega) (by unfold In64; omega)
  have G : W.heap[w4.heap.size]? = some (.cells #[.int .i64 kView.base, .int .i64 kView.term, .slice A4 kView.l.length k4] 26 (0, 0)) := by rw [← hW]; exact heap_old (by simp; omega) (heap_old (by simp) (heap_new rfl rfl))
  have HL := block_lt G
  rw [hW]
  have hN0 : In64 (nthOf [0, 1, 2] [3, 3, 0]) := by rw [hN.out]; exact inK.2.2
  have i0 : In64 0 := by unfold In64; omega
  have ib : In64 kView.base := i0
  have it : In64 kView.term := i0
  have H2 : Hid (kView.commit (nthOf [0, 1, 2] [3, 3, 0]) 0 2 = 3) := by show _ = _; rw [hN.out]; exact kC2
  have H1 : Hid (kView.commit (nthOf [0, 1, 2] [3, 3, 0]) 0 1 = 2) := by show _ = _; rw [hN.out]; exact kC1
  have H3 : Hid (kView.commit (nthOf [0, 1, 2] [3, 3, 0]) 0 3 = 0) := by show _ = _; rw [hN.out]; exact kC3
  have H5 : Hid (beginOf 4 = 5) := (show beginOf 4 = 5 by decide)
  have hfd : ∀ w : World, (Instr.field 38 (.agg #[.int .i64 5, .int .i64 0]) 0).run Try.prog w = .ok (.int .i64 5) w := fun _ => by kernel_rfl
  clear hW hr1 hr2 hr3 hr4 hb1 hb2 hb3 hb4 HB2 HB3 HB4 hN
  go_must (refine (pcommit_any _ (fun _ => True) kView _ _ _ [0, 1, 2] [3, 3, 0] R4 ib it S1 S2 0 2 i0 hN0).mono ?_)
  rintro e w5 ⟨rfl, hb5⟩
  rw [H2.out]
  have G5 := (hb5.block _ HL).trans G
  obtain ⟨c50, c51, c52, f5⟩ := blk3 G5
  have HB5 := bel_then HB (Nat.le_refl _) hb5
  have HL5 := Nat.lt_of_lt_of_le HL hb5.size
  have R5 := R4.below hb5
  have T1 := S1.below hb5
  have T2 := S2.below hb5
  go_wp2_with (first
    | (go_at_call 9; with_reducible refine (pcommit_any w5 (fun _ => True) kView _ _ _ [0, 1, 2] [3, 3, 0] R5 ib it T1 T2 0 1 i0 hN0).mono ?_; rintro e w6 ⟨rfl, hb6⟩; rw [H1.out]; have G6 := (hb6.block _ HL5).trans G5; obtain ⟨c60, c61, c62, f6⟩ := blk3 G6; have HB6 := bel_then HB5 (Nat.le_refl _) hb6; have R6 := R5.below hb6; have U1 := T1.below hb6; have U2 := T2.below hb6)
    | (go_at_call 9; go_must (with_reducible refine (pcommit_any w6 (fun _ => True) kView _ _ _ [0, 1, 2] [3, 3, 0] R6 ib it U1 U2 0 3 i0 hN0).mono ?_); rintro e w7 ⟨rfl, hb7⟩; rw [H3.out]; have HB7 := bel_then HB6 (Nat.le_refl _) hb7)
    | (go_at_call 15; go_must (refine (begin_any w7 4 (by omega) (by omega)).mono ?_); rintro e w8 ⟨rfl, hb8⟩; rw [H5.out]; have HB8 := bel_then HB7 (Nat.le_refl _) hb8))
  go_ret
  exact ⟨rfl, HB8⟩
end Go.Proofs.Ytcmdeaejgldhfaa

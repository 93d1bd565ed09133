/-
  hustingslaw13.ProgressSends.
-/
import Derived.Test.YtcmdeaejgldhfaaBatch
import Derived.Test.YtcmdeaejgldhfaaSame
import Derived.Test.YtcmdeaejgldhfaaKnows
set_option linter.unusedVariables false
set_option linter.unusedSimpArgs false
namespace Go.Proofs.Ytcmdeaejgldhfaa
open Go.RowKit Go.HB Go.Shelf

theorem batch_sd (w : World) (F : FP) (x : View) (v : Value) (h : Rd encEnt w F v x.l) (hb : In64 x.base) (ht : In64 x.term) (next : Int) (hn : In64 next) (s : SendD) (hs : x.batch next = s) :
    Calls Try.prog 17 #[.agg #[.int .i64 x.base, .int .i64 x.term, v], .int .i64 next] w (SendPost w s) := hs ▸ batch_any w F x v h hb ht next hn
theorem rbatch_sd (w : World) (F : FP) (x : View) (v : Value) (h : Rd encEnt w F v x.l) (hb : In64 x.base) (ht : In64 x.term) (next : Int) (hn : In64 next) (s : SendD) (hs : x.batch next = s) :
    Calls Try.prog 18 #[.agg #[.int .i64 x.base, .int .i64 x.term, v], .int .i64 next] w (SendPost w s) := hs ▸ rbatch_any w F x v h hb ht next hn

set_option maxRecDepth 100000 in
set_option maxHeartbeats 4000000 in
theorem psends_any (w : World) (F : FP) (x : View) (v : Value) (h : Rd encEnt w F v x.l) (hb : In64 x.base) (ht : In64 x.term) (next : Int) (hn : In64 next) :
    Calls Try.prog 6 #[.agg #[.int .i64 x.base, .int .i64 x.term, v], .int .i64 next] w fun e w' => e = .returned (.bool true) ∧ Below w.heap.size w w' := by
  obtain ⟨A, cp, rfl, hl, hml⟩ := h.slice
  have H := h.arg
  clear h
  obtain ⟨sd, hsd⟩ : ∃ sd, x.batch next = sd := ⟨_, rfl⟩
  obtain ⟨sn, sp, st, sl⟩ := sd
  have HSD := Lib.hid hsd
  clear hsd
  go_enter Try.func6, Try.ntmps6
  go_wp2_with (first
    | (go_at_call 8; go_must (refine (view12_any _ (ltF w) x _ (H.alloc _)).mono ?_); rintro e w1 ⟨v1, rfl, hr1, hb1⟩; obtain ⟨A1, k1, rfl, hl1, hm1⟩ := hr1.slice; have G0 := (hb1.block w.heap.size (by simp)).trans (heap_new rfl rfl); have HB1 := bel_then (bel_alloc (Below.refl _ _) (Nat.le_refl _) _) (Nat.le_refl _) hb1; have hz0 := block_lt G0; replace hr1 := hr1.mono (F' := fun _ => True) (fun _ _ => trivial))
    | (go_at_call 17; go_must (refine (batch_sd _ (fun _ => True) x _ (hr1.alloc _) hb ht next hn _ HSD.out).mono ?_); rintro e w2 ⟨v2, rfl, hr2, hb2⟩; obtain ⟨A2, k2, rfl, hl2, hm2⟩ := hr2.slice; have hz2 := hb2.size; rw [World.size_alloc] at hz2; have G1 := (hb2.block w1.heap.size (by simp)).trans (heap_new rfl rfl); replace G0 := (hb2.block w.heap.size (by simp; omega)).trans (heap_old hz0 G0); have HB2 := bel_then (bel_alloc HB1 (Nat.le_refl _) _) (Nat.le_refl _) hb2; have hz1 := block_lt G1; have hz02 := block_lt G0; replace hr1 := (hr1.alloc _).below hb2; obtain ⟨c0, c1, c2, hf⟩ := blk3 G0)
    | (go_at_call 18; go_must (refine (rbatch_sd _ (ltF w) x _ ((H.at_ HB2).alloc _) hb ht next hn _ HSD.out).mono ?_); rintro e w3 ⟨v3, rfl, hr3, hb3⟩; obtain ⟨A3, k3, rfl, hl3, hm3⟩ := hr3.slice; have hz3 := hb3.size; rw [World.size_alloc] at hz3; have G2 := (hb3.block w2.heap.size (by simp)).trans (heap_new rfl rfl); replace G0 := (hb3.block w.heap.size (by simp; omega)).trans (heap_old (by omega) G0); replace G1 := (hb3.block w1.heap.size (by simp; omega)).trans (heap_old (by omega) G1); have HB3 := bel_then (bel_alloc HB2 (Nat.le_refl _) _) (Nat.le_refl _) hb3; replace hr1 := (hr1.alloc _).below hb3; replace hr2 := (hr2.alloc _).below hb3; obtain ⟨c0, c1, c2, hf⟩ := blk3 G0; obtain ⟨d0, d1, d2, hf1⟩ := blk3 G1; have hz03 := block_lt G0; have hz13 := block_lt G1; have hz23 := block_lt G2; obtain ⟨s0, s1, s2, s3, hf2⟩ := blk4 G2)
    | (go_at_call 19; go_must (refine (entries12_any _ (fun _ => True) (fun _ => True) sl _ _ (hr2.alloc _) (hr3.alloc _)).mono ?_); rintro e w4 ⟨rfl, hb4⟩; replace G0 := (hb4.block w.heap.size (by simp; omega)).trans (heap_old (by omega) G0); replace G1 := (hb4.block w1.heap.size (by simp; omega)).trans (heap_old (by omega) G1); have HB4 := bel_then (bel_alloc HB3 (Nat.le_refl _) _) (Nat.le_refl _) hb4; replace hr1 := (hr1.alloc _).below hb4; clear c0 c1 c2 hf d0 d1 d2 hf1 s0 s1 s2 s3 hf2; obtain ⟨c0, c1, c2, hf⟩ := blk3 G0; obtain ⟨d0, d1, d2, hf1⟩ := blk3 G1)
    | (go_at_call 11; go_must (refine (same12_any _ (fun _ => True) (ltF w) x _ _ hr1 (H.at_ HB4)).mono ?_); rintro e w5 ⟨rfl, hb5⟩; have HB5 := bel_then HB4 (Nat.le_refl _) hb5)
    | (go_at_call 12; go_must (refine (knows13_any _).mono ?_); rintro e w6 ⟨rfl, hb6⟩; have HB6 := bel_then HB5 (Nat.le_refl _) hb6))
  all_goals (go_ret; exact ⟨rfl, HB6⟩)
end Go.Proofs.Ytcmdeaejgldhfaa

/-
  progress.Batch, hustingsref13.Batch.
-/
import Derived.Test.YtcmdeaejgldhfaaRFrom
set_option linter.unusedVariables false
set_option linter.unusedSimpArgs false
namespace Go.HB
/-- What a peer is sent: a snapshot, or (previous index, its term, entries). -/
structure SendD where
  snap : Bool
  prev : Int
  term : Int
  l : List Ent
def View.batch (x : View) (next : Int) : SendD :=
  if x.ok = false then ⟨false, 0, 0, []⟩ else if next ≤ x.base then ⟨true, 0, 0, []⟩ else ⟨false, min (next - 1) x.last, x.at_ (min (next - 1) x.last), fromOf x.l (min (next - 1) x.last + 1) 8⟩
theorem View.batch_no {x : View} {n : Int} (h : x.ok = false) : x.batch n = ⟨false, 0, 0, []⟩ := by simp [View.batch, h]
theorem View.batch_snap {x : View} {n : Int} (h : x.ok = true) (hn : n ≤ x.base) : x.batch n = ⟨true, 0, 0, []⟩ := by simp [View.batch, h, hn]
theorem View.batch_yes {x : View} {n p : Int} (h : x.ok = true) (hn : ¬ n ≤ x.base) (hp : min (n - 1) x.last = p) : x.batch n = ⟨false, p, x.at_ p, fromOf x.l (p + 1) 8⟩ := by simp only [View.batch, h, hn, hp]; rfl
theorem size_set (W : World) (p : Addr) (u : Value) : (W.setCell p u).heap.size = W.heap.size := by simp [World.setCell]
end Go.HB
namespace Go.Proofs.Ytcmdeaejgldhfaa
open Go.RowKit Go.HB Go.Shelf

theorem rfrom8_any (w : World) (F : FP) (x : View) (v : Value) (h : Rd encEnt w F v x.l) (hb : In64 x.base) (ht : In64 x.term) (hx : x.ok = true) (i : Int) :
    Calls Try.prog 35 #[.agg #[.int .i64 x.base, .int .i64 x.term, v], .int .i64 i, .int .i64 8] w fun e w' => ∃ v', e = .returned v' ∧ Rd encEnt w' (fun b => F b ∨ w.heap.size ≤ b) v' (fromOf x.l i 8) ∧ Below w.heap.size w w' :=
  rfrom_any w F x v h hb ht hx i 8 (by omega)
theorem from8_any (w : World) (F : FP) (x : View) (v : Value) (h : Rd encEnt w F v x.l) (hb : In64 x.base) (ht : In64 x.term) (hx : x.ok = true) (i : Int) :
    Calls Try.prog 34 #[.agg #[.int .i64 x.base, .int .i64 x.term, v], .int .i64 i, .int .i64 8] w fun e w' => ∃ v', e = .returned v' ∧ Rd encEnt w' (fun b => w.heap.size ≤ b) v' (fromOf x.l i 8) ∧ Below w.heap.size w w' :=
  from_any w F x v h hb ht hx i 8 (by omega)
def SendPost (w : World) (s : SendD) (e : Ending) (w' : World) : Prop :=
  ∃ v', e = .returned (.agg #[.bool s.snap, .int .i64 s.prev, .int .i64 s.term, v']) ∧ Rd encEnt w' (fun _ => True) v' s.l ∧ Below w.heap.size w w'

set_option maxRecDepth 100000 in
set_option maxHeartbeats 4000000 in
theorem rbatch_any (w : World) (F : FP) (x : View) (v : Value) (h : Rd encEnt w F v x.l) (hb : In64 x.base) (ht : In64 x.term) (next : Int) (hn : In64 next) :
    Calls Try.prog 18 #[.agg #[.int .i64 x.base, .int .i64 x.term, v], .int .i64 next] w (SendPost w (x.batch next)) := by
  obtain ⟨A, c, rfl, hl, hml⟩ := h.slice
  have H := h.arg
  clear h
  obtain ⟨n1, n2⟩ := hn
  cases hx : x.ok with
  | false =>
    have HX := Lib.hid hx
    rw [View.batch_no hx]
    clear hx
    go_enter Try.func18, Try.ntmps18
    go_wp2_with (first | (go_at_call 29; go_must (refine (rright_any _ (ltF w) x _ ((H.alloc _).alloc _) hb ht).mono ?_); rintro e w1 ⟨rfl, hb1⟩; rw [HX.out]; have G1 := (hb1.block (w.heap.size + 1) (by simp)).trans (heap_new (by simp) rfl); obtain ⟨d0, d1, d2, d3, hf2⟩ := blk4 G1; have HB1 := bel_then (bel_alloc (bel_alloc (Below.refl _ _) (Nat.le_refl _) _) (Nat.le_refl _) _) (Nat.le_refl _) hb1))
    refine ret_cell (w.heap.size + 1) 47 #[.bool false, .int .i64 0, .int .i64 0, .slice none 0 0] rfl rfl Try.underlying47 rfl (by kernel_rfl) rfl ?hh ?_
    case hh => (repeat (first | with_reducible assumption | (with_reducible refine heap_new ?_ rfl; (simp; done)) | (with_reducible refine heap_old ?_ ?_; · (simp <;> omega)) | with_reducible refine Go.HB.heap_drew ?_ | with_reducible refine heap_drewN ?_ | with_reducible apply heap_set | (with_reducible refine heap_far ?_ ?_; · (simp <;> omega)))) <;> rfl
    exact ⟨_, rfl, Rd.nil_ _ _ _, by repeat (first | with_reducible exact Below.refl _ _ | with_reducible assumption | with_reducible refine bel_alloc ?_ (Nat.le_refl _) _ | with_reducible refine bel_drew ?_ | with_reducible refine bel_drewN ?_ _ | (with_reducible refine bel_set ?_ ?_ _; · (simp <;> omega)))⟩
  | true =>
    have HX := Lib.hid hx
    obtain ⟨r1, r2, r3, r4, r5⟩ := View.ok_range hx
    by_cases hs : next ≤ x.base
    · rw [View.batch_snap hx hs]
      clear hx
      go_enter Try.func18, Try.ntmps18
      go_wp2_with (first | (go_at_call 29; go_must (refine (rright_any _ (ltF w) x _ ((H.alloc _).alloc _) hb ht).mono ?_); rintro e w1 ⟨rfl, hb1⟩; rw [HX.out]; have G0 := (hb1.block w.heap.size (by simp; omega)).trans (heap_old (by simp) (heap_new rfl rfl)); have G1 := (hb1.block (w.heap.size + 1) (by simp)).trans (heap_new (by simp) rfl); obtain ⟨c0, c1, c2, hf⟩ := blk3 G0; obtain ⟨d0, d1, d2, d3, hf2⟩ := blk4 G1; have HB1 := bel_then (bel_alloc (bel_alloc (Below.refl _ _) (Nat.le_refl _) _) (Nat.le_refl _) _) (Nat.le_refl _) hb1))
      refine ret_cell (w.heap.size + 1) 47 #[.bool true, .int .i64 0, .int .i64 0, .slice none 0 0] rfl rfl Try.underlying47 rfl (by kernel_rfl) rfl ?hh ?_
      case hh => (repeat (first | with_reducible assumption | (with_reducible refine heap_new ?_ rfl; (simp; done)) | (with_reducible refine heap_old ?_ ?_; · (simp <;> omega)) | with_reducible refine Go.HB.heap_drew ?_ | with_reducible refine heap_drewN ?_ | with_reducible apply heap_set | (with_reducible refine heap_far ?_ ?_; · (simp <;> omega)))) <;> rfl
      exact ⟨_, rfl, Rd.nil_ _ _ _, by repeat (first | with_reducible exact Below.refl _ _ | with_reducible assumption | with_reducible refine bel_alloc ?_ (Nat.le_refl _) _ | with_reducible refine bel_drew ?_ | with_reducible refine bel_drewN ?_ _ | (with_reducible refine bel_set ?_ ?_ _; · (simp <;> omega)))⟩
    · obtain ⟨p, hp⟩ : ∃ p, min (next - 1) x.last = p := ⟨_, rfl⟩
      rw [View.batch_yes hx hs hp]
      have hpl : p ≤ x.last := by omega
      have hL' : x.last = x.base + x.l.length := rfl
      have hpb : x.base ≤ p := by omega
      have HT := Lib.hid (View.termOf_in hx hpb hpl)
      have HY := Lib.hid (View.lastR_yes hx)
      have HXO : Hid (x.ok = true) := hx
      have HP := Lib.hid hp
      obtain ⟨T, hT⟩ : ∃ T, x.at_ p = T := ⟨_, rfl⟩
      rw [hT] at HT ⊢
      obtain ⟨L, hL⟩ : ∃ L, x.last = L := ⟨_, rfl⟩
      rw [hL] at HP HY hpl hL'
      clear hx hp hT hL
      have hL1 : L ≤ x.base + x.l.length := by omega
      have hL2 : x.base + x.l.length ≤ L := by omega
      clear hL'
      go_enter Try.func18, Try.ntmps18
      go_wp2_with (first | (go_at_call 29; go_must (refine (rright_any _ (ltF w) x _ ((H.alloc _).alloc _) hb ht).mono ?_); rintro e w1 ⟨rfl, hb1⟩; rw [HX.out]; have G0 := (hb1.block w.heap.size (by simp; omega)).trans (heap_old (by simp) (heap_new rfl rfl)); have G1 := (hb1.block (w.heap.size + 1) (by simp)).trans (heap_new (by simp) rfl); obtain ⟨c0, c1, c2, hf⟩ := blk3 G0; have HB1 := bel_then (bel_alloc (bel_alloc (Below.refl _ _) (Nat.le_refl _) _) (Nat.le_refl _) _) (Nat.le_refl _) hb1) | (go_at_call 28; go_must (refine (rlast_any _ (ltF w) x _ (H.at_ HB1) hb ht).mono ?_); rintro e w2 ⟨rfl, hb2⟩; rw [HY.out]; replace G0 := (hb2.block _ (block_lt G0)).trans G0; replace G1 := (hb2.block _ (block_lt G1)).trans G1; obtain ⟨c0, c1, c2, hf⟩ := blk3 G0; have HB2 := bel_then HB1 (Nat.le_refl _) hb2) | (go_at_call 14; rw [HP.out]; go_must (refine (rtermof_any _ (ltF w) x _ (H.at_ HB2) hb ht p).mono ?_); rintro e w3 ⟨rfl, hb3⟩; rw [HT.out]; replace G0 := (hb3.block _ (block_lt G0)).trans G0; replace G1 := (hb3.block _ (block_lt G1)).trans G1; obtain ⟨c0, c1, c2, hf⟩ := blk3 G0; have HB3 := bel_then HB2 (Nat.le_refl _) hb3))
      go_must (refine (rfrom8_any _ (ltF w) x _ (H.at_ HB3) hb ht HXO.out (p + 1)).mono ?_)
      rintro e w4 ⟨v4, rfl, hr4, hb4⟩
      obtain ⟨A4, k4, rfl, hl4, hm4⟩ := hr4.slice
      have hG3 := block_lt G1
      replace G1 := (hb4.block _ (block_lt G1)).trans G1
      obtain ⟨d0, d1, d2, d3, hf2⟩ := blk4 G1
      have HB4 := bel_then HB3 (Nat.le_refl _) hb4
      clear G0 c0 c1 c2 hf
      go_wp2
      refine ret_cell (w.heap.size + 1) 47 #[.bool false, .int .i64 p, .int .i64 T, .slice A4 (fromOf x.l (p + 1) 8).length k4] rfl rfl Try.underlying47 rfl (by kernel_rfl) rfl ?hh ?_
      case hh => (repeat (first | with_reducible assumption | (with_reducible refine heap_new ?_ rfl; (simp; done)) | (with_reducible refine heap_old ?_ ?_; · (simp <;> omega)) | with_reducible refine Go.HB.heap_drew ?_ | with_reducible refine heap_drewN ?_ | with_reducible apply heap_set | (with_reducible refine heap_far ?_ ?_; · (simp <;> omega)))) <;> rfl
      have hne : ∀ i : Nat, ¬ (fun b => ltF w b ∨ w3.heap.size ≤ b) (⟨w.heap.size + 1, i, none⟩ : Addr).block := fun i h => by
        rcases h with h | h
        · have := ltF_lt h; simp at this; omega
        · simp at h; omega
      exact ⟨_, rfl, (hr4.move (agree_set (hne 3) (agree_set (hne 2) (agree_set (hne 1) (agree_set (hne 0) (Agree.refl _ _) _) _) _) _)).mono (fun _ _ => trivial), by repeat (first | with_reducible exact Below.refl _ _ | with_reducible assumption | with_reducible refine bel_alloc ?_ (Nat.le_refl _) _ | with_reducible refine bel_drew ?_ | with_reducible refine bel_drewN ?_ _ | (with_reducible refine bel_set ?_ ?_ _; · (simp <;> omega)))⟩

set_option maxRecDepth 100000 in
set_option maxHeartbeats 4000000 in
theorem batch_any (w : World) (F : FP) (x : View) (v : Value) (h : Rd encEnt w F v x.l) (hb : In64 x.base) (ht : In64 x.term) (next : Int) (hn : In64 next) :
    Calls Try.prog 17 #[.agg #[.int .i64 x.base, .int .i64 x.term, v], .int .i64 next] w (SendPost w (x.batch next)) := by
  obtain ⟨A, c, rfl, hl, hml⟩ := h.slice
  have H := h.arg
  clear h
  obtain ⟨n1, n2⟩ := hn
  cases hx : x.ok with
  | false =>
    have HX := Lib.hid hx
    have HY := Lib.hid (View.lastR_no hx)
    rw [View.batch_no hx]
    clear hx
    go_enter Try.func17, Try.ntmps17
    go_wp2_with (first | (go_at_call 25; go_must (refine (last12_any _ (ltF w) x _ ((H.alloc _).alloc _) hb ht).mono ?_); rintro e w1 ⟨rfl, hb1⟩; rw [HY.out]; have G0 := (hb1.block w.heap.size (by simp; omega)).trans (heap_old (by simp) (heap_new rfl rfl)); have G1 := (hb1.block (w.heap.size + 1) (by simp)).trans (heap_new (by simp) rfl); obtain ⟨c0, c1, c2, hf⟩ := blk3 G0; have HB1 := bel_then (bel_alloc (bel_alloc (Below.refl _ _) (Nat.le_refl _) _) (Nat.le_refl _) _) (Nat.le_refl _) hb1; have HS0 := block_lt G0; have HS1 := block_lt G1; have hw1 : w.heap.size ≤ w1.heap.size := Nat.le_of_lt HS0; have hnb : ¬ ltF w w1.heap.size := (fun h => by have := ltF_lt h; omega)) | (go_at_call 24; go_must (refine (right12_any _ (ltF w) x _ ((H.at_ HB1).alloc _) hb ht).mono ?_); rintro e w2 ⟨rfl, hb2⟩; rw [HX.out]; have G2 := (hb2.block w1.heap.size (by simp)).trans (heap_new rfl rfl); replace G0 := (hb2.block w.heap.size (by simp; omega)).trans (heap_old HS0 G0); replace G1 := (hb2.block (w.heap.size + 1) (by simp; omega)).trans (heap_old HS1 G1); obtain ⟨c0, c1, c2, hf⟩ := blk3 G0; obtain ⟨d0, d1, d2, d3, hf2⟩ := blk4 G1; obtain ⟨s0, s1, s2, s3, hf3⟩ := blk4 G2; have HB2 := bel_then (bel_alloc HB1 (Nat.le_refl _) _) (Nat.le_refl _) hb2))
    refine ret_cell (w.heap.size + 1) 45 #[.bool false, .int .i64 0, .int .i64 0, .slice none 0 0] rfl rfl Try.underlying45 rfl (by kernel_rfl) rfl ?hh ?_
    case hh => (repeat (first | with_reducible assumption | (with_reducible refine heap_new ?_ rfl; (simp; done)) | (with_reducible refine heap_old ?_ ?_; · (simp <;> omega)) | with_reducible refine Go.HB.heap_drew ?_ | with_reducible refine heap_drewN ?_ | with_reducible apply heap_set | (with_reducible refine heap_far ?_ ?_; · (simp <;> omega)))) <;> rfl
    exact ⟨_, rfl, Rd.nil_ _ _ _, by repeat (first | with_reducible exact Below.refl _ _ | with_reducible assumption | with_reducible refine bel_alloc ?_ (Nat.le_refl _) _ | with_reducible refine bel_drew ?_ | with_reducible refine bel_drewN ?_ _ | (with_reducible refine bel_set ?_ ?_ _; · (simp <;> omega)))⟩
  | true =>
    have HX := Lib.hid hx
    obtain ⟨r1, r2, r3, r4, r5⟩ := View.ok_range hx
    have HY := Lib.hid (View.lastR_yes hx)
    have HXO : Hid (x.ok = true) := hx
    by_cases hs : next ≤ x.base
    · rw [View.batch_snap hx hs]
      obtain ⟨L, hL⟩ : ∃ L, x.last = L := ⟨_, rfl⟩
      rw [hL] at HY
      clear hx hL
      go_enter Try.func17, Try.ntmps17
      go_wp2_with (first | (go_at_call 25; go_must (refine (last12_any _ (ltF w) x _ ((H.alloc _).alloc _) hb ht).mono ?_); rintro e w1 ⟨rfl, hb1⟩; rw [HY.out]; have G0 := (hb1.block w.heap.size (by simp; omega)).trans (heap_old (by simp) (heap_new rfl rfl)); have G1 := (hb1.block (w.heap.size + 1) (by simp)).trans (heap_new (by simp) rfl); obtain ⟨c0, c1, c2, hf⟩ := blk3 G0; have HB1 := bel_then (bel_alloc (bel_alloc (Below.refl _ _) (Nat.le_refl _) _) (Nat.le_refl _) _) (Nat.le_refl _) hb1; have HS0 := block_lt G0; have HS1 := block_lt G1; have hw1 : w.heap.size ≤ w1.heap.size := Nat.le_of_lt HS0; have hnb : ¬ ltF w w1.heap.size := (fun h => by have := ltF_lt h; omega)) | (go_at_call 24; go_must (refine (right12_any _ (ltF w) x _ ((H.at_ HB1).alloc _) hb ht).mono ?_); rintro e w2 ⟨rfl, hb2⟩; rw [HX.out]; have G2 := (hb2.block w1.heap.size (by simp)).trans (heap_new rfl rfl); replace G0 := (hb2.block w.heap.size (by simp; omega)).trans (heap_old HS0 G0); replace G1 := (hb2.block (w.heap.size + 1) (by simp; omega)).trans (heap_old HS1 G1); obtain ⟨c0, c1, c2, hf⟩ := blk3 G0; obtain ⟨d0, d1, d2, d3, hf2⟩ := blk4 G1; obtain ⟨s0, s1, s2, s3, hf3⟩ := blk4 G2; have HB2 := bel_then (bel_alloc HB1 (Nat.le_refl _) _) (Nat.le_refl _) hb2))
      refine ret_cell (w.heap.size + 1) 45 #[.bool true, .int .i64 0, .int .i64 0, .slice none 0 0] rfl rfl Try.underlying45 rfl (by kernel_rfl) rfl ?hh ?_
      case hh => (repeat (first | with_reducible assumption | (with_reducible refine heap_new ?_ rfl; (simp; done)) | (with_reducible refine heap_old ?_ ?_; · (simp <;> omega)) | with_reducible refine Go.HB.heap_drew ?_ | with_reducible refine heap_drewN ?_ | with_reducible apply heap_set | (with_reducible refine heap_far ?_ ?_; · (simp <;> omega)))) <;> rfl
      exact ⟨_, rfl, Rd.nil_ _ _ _, by repeat (first | with_reducible exact Below.refl _ _ | with_reducible assumption | with_reducible refine bel_alloc ?_ (Nat.le_refl _) _ | with_reducible refine bel_drew ?_ | with_reducible refine bel_drewN ?_ _ | (with_reducible refine bel_set ?_ ?_ _; · (simp <;> omega)))⟩
    · obtain ⟨p, hp⟩ : ∃ p, min (next - 1) x.last = p := ⟨_, rfl⟩
      rw [View.batch_yes hx hs hp]
      have hpl : p ≤ x.last := by omega
      have hL' : x.last = x.base + x.l.length := rfl
      have hpb : x.base ≤ p := by omega
      have HT := Lib.hid (View.termOf_in hx hpb hpl)
      obtain ⟨T, hT⟩ : ∃ T, x.at_ p = T := ⟨_, rfl⟩
      rw [hT] at HT ⊢
      obtain ⟨L, hL⟩ : ∃ L, x.last = L := ⟨_, rfl⟩
      rw [hL] at hp HY hpl hL'
      clear hx hT hL
      have hL1 : L ≤ x.base + x.l.length := by omega
      have hL2 : x.base + x.l.length ≤ L := by omega
      clear hL'
      by_cases hnl : L < next
      · obtain rfl : p = L := by omega
        clear hp
        go_enter Try.func17, Try.ntmps17
        go_wp2_with (first | (go_at_call 25; go_must (refine (last12_any _ (ltF w) x _ ((H.alloc _).alloc _) hb ht).mono ?_); rintro e w1 ⟨rfl, hb1⟩; rw [HY.out]; have G0 := (hb1.block w.heap.size (by simp; omega)).trans (heap_old (by simp) (heap_new rfl rfl)); have G1 := (hb1.block (w.heap.size + 1) (by simp)).trans (heap_new (by simp) rfl); obtain ⟨c0, c1, c2, hf⟩ := blk3 G0; have HB1 := bel_then (bel_alloc (bel_alloc (Below.refl _ _) (Nat.le_refl _) _) (Nat.le_refl _) _) (Nat.le_refl _) hb1; have HS0 := block_lt G0; have HS1 := block_lt G1; have hw1 : w.heap.size ≤ w1.heap.size := Nat.le_of_lt HS0; have hnb : ¬ ltF w w1.heap.size := (fun h => by have := ltF_lt h; omega)) | (go_at_call 24; go_must (refine (right12_any _ (ltF w) x _ ((H.at_ HB1).alloc _) hb ht).mono ?_); rintro e w2 ⟨rfl, hb2⟩; rw [HX.out]; have G2 := (hb2.block w1.heap.size (by simp)).trans (heap_new rfl rfl); replace G0 := (hb2.block w.heap.size (by simp; omega)).trans (heap_old HS0 G0); replace G1 := (hb2.block (w.heap.size + 1) (by simp; omega)).trans (heap_old HS1 G1); obtain ⟨c0, c1, c2, hf⟩ := blk3 G0; obtain ⟨d0, d1, d2, d3, hf2⟩ := blk4 G1; obtain ⟨s0, s1, s2, s3, hf3⟩ := blk4 G2; have HB2 := bel_then (bel_alloc HB1 (Nat.le_refl _) _) (Nat.le_refl _) hb2) | (go_at_call 27; go_must (refine (termof_any _ (ltF w) x _ ((H.at_ HB2).set hnb _) hb ht p).mono ?_); rintro e w3 ⟨rfl, hb3⟩; rw [HT.out]; have hz3 := hb3.size; rw [size_set] at hz3; replace G2 := (hb3.block w1.heap.size (by rw [size_set]; exact block_lt G2)).trans (heap_set G2 rfl); replace G1 := (hb3.block (w.heap.size + 1) (by rw [size_set]; exact block_lt G1)).trans (heap_far (by simp; omega) G1); replace G0 := (hb3.block w.heap.size (by rw [size_set]; exact block_lt G0)).trans (heap_far (by simp; omega) G0); obtain ⟨c0, c1, c2, hf⟩ := blk3 G0; obtain ⟨d0, d1, d2, d3, hf2⟩ := blk4 G1; obtain ⟨s0, s1, s2, s3, hf3⟩ := blk4 G2; have HB3 := bel_then (bel_set (p := ⟨w1.heap.size, 1, none⟩) hw1 HB2 _) (Nat.le_refl _) hb3) | (go_at_call 34; go_must (refine (from8_any _ (ltF w) x _ ((H.at_ HB3).set hnb _) hb ht HXO.out (p + 1)).mono ?_); rintro e w4 ⟨v4, rfl, hr4, hb4⟩; obtain ⟨A4, k4, rfl, hl4, hm4⟩ := hr4.slice; have hz4 := hb4.size; rw [size_set] at hz4 hr4; have hg2 := block_lt G2; replace G2 := (hb4.block w1.heap.size (by rw [size_set]; exact block_lt G2)).trans (heap_set G2 rfl); replace G1 := (hb4.block (w.heap.size + 1) (by rw [size_set]; exact block_lt G1)).trans (heap_far (by simp; omega) G1); clear c0 c1 c2 hf G0; obtain ⟨d0, d1, d2, d3, hf2⟩ := blk4 G1; obtain ⟨s0, s1, s2, s3, hf3⟩ := blk4 G2; have HB4 := bel_then (bel_set (p := ⟨w1.heap.size, 2, none⟩) hw1 HB3 _) (Nat.le_refl _) hb4))
        refine ret_cell (w.heap.size + 1) 45 #[.bool false, .int .i64 p, .int .i64 T, .slice A4 (fromOf x.l (p + 1) 8).length k4] rfl rfl Try.underlying45 rfl (by kernel_rfl) rfl ?hh ?_
        case hh => (repeat (first | with_reducible assumption | (with_reducible refine heap_new ?_ rfl; (simp; done)) | (with_reducible refine heap_old ?_ ?_; · (simp <;> omega)) | with_reducible refine Go.HB.heap_drew ?_ | with_reducible refine heap_drewN ?_ | with_reducible apply heap_set | (with_reducible refine heap_far ?_ ?_; · (simp <;> omega)))) <;> rfl
        have hne1 : ∀ i : Nat, ¬ (fun b => w3.heap.size ≤ b) (⟨w.heap.size + 1, i, none⟩ : Addr).block := fun i h => by simp at h; omega
        have hne2 : ∀ i : Nat, ¬ (fun b => w3.heap.size ≤ b) (⟨w1.heap.size, i, none⟩ : Addr).block := fun i h => by simp at h; omega
        exact ⟨_, rfl, (hr4.move (agree_set (hne1 3) (agree_set (hne1 2) (agree_set (hne1 1) (agree_set (hne1 0) (agree_set (hne2 3) (Agree.refl _ _) _) _) _) _) _)).mono (fun _ _ => trivial), by repeat (first | with_reducible exact Below.refl _ _ | with_reducible assumption | with_reducible refine bel_alloc ?_ (Nat.le_refl _) _ | with_reducible refine bel_drew ?_ | with_reducible refine bel_drewN ?_ _ | (with_reducible refine bel_set ?_ ?_ _; · (simp <;> omega)))⟩
      · obtain rfl : next = p + 1 := by omega
        clear hp
        go_enter Try.func17, Try.ntmps17
        go_wp2_with (first | (go_at_call 25; go_must (refine (last12_any _ (ltF w) x _ ((H.alloc _).alloc _) hb ht).mono ?_); rintro e w1 ⟨rfl, hb1⟩; rw [HY.out]; have G0 := (hb1.block w.heap.size (by simp; omega)).trans (heap_old (by simp) (heap_new rfl rfl)); have G1 := (hb1.block (w.heap.size + 1) (by simp)).trans (heap_new (by simp) rfl); obtain ⟨c0, c1, c2, hf⟩ := blk3 G0; have HB1 := bel_then (bel_alloc (bel_alloc (Below.refl _ _) (Nat.le_refl _) _) (Nat.le_refl _) _) (Nat.le_refl _) hb1; have HS0 := block_lt G0; have HS1 := block_lt G1; have hw1 : w.heap.size ≤ w1.heap.size := Nat.le_of_lt HS0; have hnb : ¬ ltF w w1.heap.size := (fun h => by have := ltF_lt h; omega)) | (go_at_call 24; go_must (refine (right12_any _ (ltF w) x _ ((H.at_ HB1).alloc _) hb ht).mono ?_); rintro e w2 ⟨rfl, hb2⟩; rw [HX.out]; have G2 := (hb2.block w1.heap.size (by simp)).trans (heap_new rfl rfl); replace G0 := (hb2.block w.heap.size (by simp; omega)).trans (heap_old HS0 G0); replace G1 := (hb2.block (w.heap.size + 1) (by simp; omega)).trans (heap_old HS1 G1); obtain ⟨c0, c1, c2, hf⟩ := blk3 G0; obtain ⟨d0, d1, d2, d3, hf2⟩ := blk4 G1; obtain ⟨s0, s1, s2, s3, hf3⟩ := blk4 G2; have HB2 := bel_then (bel_alloc HB1 (Nat.le_refl _) _) (Nat.le_refl _) hb2) | (go_at_call 27; go_must (refine (termof_any _ (ltF w) x _ ((H.at_ HB2).set hnb _) hb ht p).mono ?_); rintro e w3 ⟨rfl, hb3⟩; rw [HT.out]; have hz3 := hb3.size; rw [size_set] at hz3; replace G2 := (hb3.block w1.heap.size (by rw [size_set]; exact block_lt G2)).trans (heap_set G2 rfl); replace G1 := (hb3.block (w.heap.size + 1) (by rw [size_set]; exact block_lt G1)).trans (heap_far (by simp; omega) G1); replace G0 := (hb3.block w.heap.size (by rw [size_set]; exact block_lt G0)).trans (heap_far (by simp; omega) G0); obtain ⟨c0, c1, c2, hf⟩ := blk3 G0; obtain ⟨d0, d1, d2, d3, hf2⟩ := blk4 G1; obtain ⟨s0, s1, s2, s3, hf3⟩ := blk4 G2; have HB3 := bel_then (bel_set (p := ⟨w1.heap.size, 1, none⟩) hw1 HB2 _) (Nat.le_refl _) hb3) | (go_at_call 34; go_must (refine (from8_any _ (ltF w) x _ ((H.at_ HB3).set hnb _) hb ht HXO.out (p + 1)).mono ?_); rintro e w4 ⟨v4, rfl, hr4, hb4⟩; obtain ⟨A4, k4, rfl, hl4, hm4⟩ := hr4.slice; have hz4 := hb4.size; rw [size_set] at hz4 hr4; have hg2 := block_lt G2; replace G2 := (hb4.block w1.heap.size (by rw [size_set]; exact block_lt G2)).trans (heap_set G2 rfl); replace G1 := (hb4.block (w.heap.size + 1) (by rw [size_set]; exact block_lt G1)).trans (heap_far (by simp; omega) G1); clear c0 c1 c2 hf G0; obtain ⟨d0, d1, d2, d3, hf2⟩ := blk4 G1; obtain ⟨s0, s1, s2, s3, hf3⟩ := blk4 G2; have HB4 := bel_then (bel_set (p := ⟨w1.heap.size, 2, none⟩) hw1 HB3 _) (Nat.le_refl _) hb4))
        refine ret_cell (w.heap.size + 1) 45 #[.bool false, .int .i64 p, .int .i64 T, .slice A4 (fromOf x.l (p + 1) 8).length k4] rfl rfl Try.underlying45 rfl (by kernel_rfl) rfl ?hh ?_
        case hh => (repeat (first | with_reducible assumption | (with_reducible refine heap_new ?_ rfl; (simp; done)) | (with_reducible refine heap_old ?_ ?_; · (simp <;> omega)) | with_reducible refine Go.HB.heap_drew ?_ | with_reducible refine heap_drewN ?_ | with_reducible apply heap_set | (with_reducible refine heap_far ?_ ?_; · (simp <;> omega)))) <;> rfl
        have hne1 : ∀ i : Nat, ¬ (fun b => w3.heap.size ≤ b) (⟨w.heap.size + 1, i, none⟩ : Addr).block := fun i h => by simp at h; omega
        have hne2 : ∀ i : Nat, ¬ (fun b => w3.heap.size ≤ b) (⟨w1.heap.size, i, none⟩ : Addr).block := fun i h => by simp at h; omega
        exact ⟨_, rfl, (hr4.move (agree_set (hne1 3) (agree_set (hne1 2) (agree_set (hne1 1) (agree_set (hne1 0) (agree_set (hne2 3) (Agree.refl _ _) _) _) _) _) _)).mono (fun _ _ => trivial), by repeat (first | with_reducible exact Below.refl _ _ | with_reducible assumption | with_reducible refine bel_alloc ?_ (Nat.le_refl _) _ | with_reducible refine bel_drew ?_ | with_reducible refine bel_drewN ?_ _ | (with_reducible refine bel_set ?_ ?_ _; · (simp <;> omega)))⟩
end Go.Proofs.Ytcmdeaejgldhfaa

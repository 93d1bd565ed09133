/-
  hustingslaw13.ProgressForward.
-/
import Derived.Test.YtcmdeaejgldhfaaKnows
set_option linter.unusedVariables false
set_option linter.unusedSimpArgs false
namespace Go.HB
open Go.RowKit
structure Word where
  yes : Bool
  at_ : Int
def encWord : Enc Word := encIso (encPair encBool encInt) (fun x => (x.yes, x.at_)) 16
theorem encWord_R {w : World} {F : FP} {x : Word} {cs : List Value} : encWord.R w F x cs ↔ cs = [.bool x.yes, .int .i64 x.at_] ∧ In64 x.at_ := by
  constructor
  · rintro ⟨_, _, rfl, ⟨_, rfl⟩, h2, rfl⟩
    exact ⟨rfl, h2⟩
  · rintro ⟨rfl, h1⟩
    exact ⟨[_], _, rfl, ⟨trivial, rfl⟩, h1, rfl⟩
theorem word_at {w : World} {F : FP} {A : Option Addr} {n c : Nat} {xs : List Word} (h : Rd encWord w F (.slice A n c) xs) (k : Nat) (hk : k < xs.length) :
    ∃ ad, A = some ad ∧ w.cell? (ad.add (k * 2)) = some (.bool xs[k].yes) ∧ w.cell? ⟨(ad.add (k * 2)).block, (ad.add (k * 2)).off + 1, none⟩ = some (.int .i64 xs[k].at_) ∧ In64 xs[k].at_ ∧ F ad.block := by
  obtain ⟨ad, cs, hA, hF, _, hR, hc⟩ := h.get k xs[k] (List.getElem?_eq_getElem hk)
  obtain ⟨rfl, h1⟩ := encWord_R.1 hR
  refine ⟨ad, hA, hc 0 _ rfl, ?_, h1, hF⟩
  rw [← add_field _ _ 1 (by omega)]; exact hc 1 _ rfl
theorem set_keep {W : World} {b i : Nat} {u v : Value} {r : Addr} (hb : r.block ≠ b) (h : W.cell? r = some v) : (W.setCell ⟨b, i, none⟩ u).cell? r = some v := (World.cell?_of_block (Below.heap_setCell W ⟨b, i, none⟩ u r.block hb)).trans h
/-- What holds of what is next sent (n) and what matches (m), whatever is heard. -/
def pInv (n m L : Int) : Prop := 0 ≤ m ∧ m < n ∧ n ≤ L + 1 ∧ m ≤ L
theorem heard_inv {n m : Int} {yes : Bool} {at_ L : Int} (h : pInv n m L) (hL : 0 ≤ L) : pInv (heardOf n m yes at_ L).1 (heardOf n m yes at_ L).2 L ∧ m ≤ (heardOf n m yes at_ L).2 ∧ (yes = true → 0 ≤ at_ → at_ ≤ L → at_ ≤ (heardOf n m yes at_ L).2) := by
  obtain ⟨h1, h2, h3, h4⟩ := h
  unfold heardOf
  cases yes
  · simp only [Bool.false_eq_true, false_implies, and_true, if_true]
    split
    · exact ⟨⟨h1, h2, h3, h4⟩, Int.le_refl _⟩
    · exact ⟨⟨h1, by dsimp only; omega, by dsimp only; omega, h4⟩, Int.le_refl _⟩
  · simp only [reduceCtorEq, if_false, true_implies]
    split
    · exact ⟨⟨h1, h2, h3, h4⟩, Int.le_refl _, fun a b => by dsimp only; omega⟩
    · split
      · exact ⟨⟨by dsimp only; omega, by dsimp only; omega, by dsimp only; omega, by dsimp only; omega⟩, by dsimp only; omega, fun _ _ => by dsimp only; omega⟩
      · exact ⟨⟨h1, h2, h3, h4⟩, Int.le_refl _, fun _ b => by omega⟩
end Go.HB
namespace Go.Proofs.Ytcmdeaejgldhfaa
open Go.RowKit Go.HB Go.Shelf

set_option maxRecDepth 100000 in
set_option maxHeartbeats 4000000 in
theorem pforward_any (w : World) (F : FP) (last : Int) (v : Value) (xs : List Word) (h : Rd encWord w F v xs) (hl : In64 last) :
    Calls Try.prog 5 #[.int .i64 last, v] w fun e w' => e = .returned (.bool true) ∧ Below w.heap.size w w' := by
  obtain ⟨A, c, rfl, hlc, hm⟩ := h.slice
  have hbn := h.bytes_le
  simp only [encWord, encIso] at hbn
  have H := h.arg
  clear h
  obtain ⟨hl1, hl2⟩ := hl
  go_enter Try.func5, Try.ntmps5
  go_wp2_with fail
  obtain ⟨L, hL⟩ : ∃ L, (wrap64 (last.tmod 1000 + 1000)).tmod 1000 = L := ⟨_, rfl⟩
  have hLb : 0 ≤ L ∧ L < 1000 := by
    have h1 : last.tmod 1000 < 1000 := Int.tmod_lt_of_pos _ (by decide)
    have h2 : -1000 < last.tmod 1000 := Int.lt_tmod_of_pos _ (by decide)
    have h3 : wrap64 (last.tmod 1000 + 1000) = last.tmod 1000 + 1000 := by unfold wrap64; omega
    rw [h3, Int.tmod_eq_emod_of_nonneg (by omega)] at hL
    omega
  obtain ⟨hL1, hL2⟩ := hLb
  rw [hL]
  have HN := Lib.hid (show beginOf L = L + 1 by unfold beginOf; omega)
  go_must (refine (begin_any _ L (by omega) (by omega)).mono ?_)
  rintro e w1 ⟨rfl, hb1⟩
  rw [HN.out]
  have HBv : Below w.heap.size w (w1.alloc (.cells #[.int .i64 (L + 1), .int .i64 0] 38)) := bel_alloc hb1 (Nat.le_refl _) _
  have HS := hb1.size
  go_wp2
  go_loopw [6] (fun i wr => ∃ (k : Nat) (n m : Int), k ≤ xs.length ∧ i = .int .i64 k ∧ pInv n m L ∧ wr.heap[w1.heap.size]? = some (.cells #[.int .i64 n, .int .i64 m] 38 (0, 0)) ∧ Below w.heap.size w wr) (fun i _ => xs.length - (intOf i).toNat)
  case atStart => exact ⟨0, L + 1, 0, by omega, rfl, ⟨by omega, by omega, by omega, by omega⟩, heap_new rfl rfl, HBv⟩
  case round =>
    obtain ⟨k, n, m, hk, rfl, hI, hB, HB⟩ := hrel
    obtain ⟨p1, p2, p3, p4⟩ := hI
    have HLr := block_lt hB
    by_cases hlt : k < xs.length
    · obtain ⟨ad, rfl, e0, e1, i0, hF⟩ := word_at (H.at_ HB) k hlt
      have hadl := ltF_lt hF
      obtain ⟨q1, q2, q3⟩ := heard_inv (n := n) (m := m) (yes := xs[k].yes) (at_ := xs[k].at_) (L := L) ⟨p1, p2, p3, p4⟩ hL1
      generalize xs[k] = x at *
      obtain ⟨y, a⟩ := x
      dsimp only at *
      obtain ⟨n', hn'⟩ : ∃ n', (heardOf n m y a L).1 = n' := ⟨_, rfl⟩
      obtain ⟨m', hm'⟩ : ∃ m', (heardOf n m y a L).2 = m' := ⟨_, rfl⟩
      rw [hn', hm'] at q1
      rw [hm'] at q2 q3
      obtain ⟨r1, r2, r3, r4⟩ := q1
      have HN' := Lib.hid hn'
      have HM' := Lib.hid hm'
      clear hn' hm' H hL
      have hab : (ad.add (k * 2)).block < w.heap.size := by rw [add_block]; exact hadl
      have hab2 : (ad.add (k * 2)).block < wr.drew.heap.size := Nat.lt_of_lt_of_le hab HB.size
      have HL2 : w1.heap.size < wr.drew.heap.size := HLr
      have HBd := bel_drew HB
      have hab3 : (ad.add (k * 2)).block < wr.heap.size := Nat.lt_of_lt_of_le hab HB.size
      have hb_n : 0 ≤ n ∧ n ≤ 4611686018427387904 := ⟨by omega, by omega⟩
      have hb_m : 0 ≤ m ∧ m ≤ 4611686018427387904 := ⟨by omega, by omega⟩
      have hb_L : 0 ≤ L ∧ L ≤ 4611686018427387904 := ⟨by omega, by omega⟩
      obtain ⟨c0, c1, hf⟩ := blk2 hB
      have hbx : ∀ (w4 : World), Below wr.heap.size wr w4 → w4.cell? ⟨w1.heap.size, 0, none⟩ = some (.int .i64 n) ∧ w4.cell? ⟨w1.heap.size, 1, none⟩ = some (.int .i64 m) ∧ w4.cell? (ad.add (k * 2)) = some (.bool y) ∧ w4.cell? ⟨(ad.add (k * 2)).block, (ad.add (k * 2)).off + 1, none⟩ = some (.int .i64 a) ∧ w1.heap.size < w4.heap.size ∧ (ad.add (k * 2)).block < w4.heap.size := fun w4 h =>
        ⟨(bel_cell h w1.heap.size HLr 0).trans c0, (bel_cell h w1.heap.size HLr 1).trans c1, (World.cell?_of_block (h.block _ hab2)).trans e0, (bel_cell h (ad.add (k * 2)).block hab2 _).trans e1, Nat.lt_of_lt_of_le HL2 h.size, Nat.lt_of_lt_of_le hab2 h.size⟩
      go_wp2
      go_region_held3 (fun w' => w'.cell? ⟨w1.heap.size, 0, none⟩ = some (.int .i64 n) ∧ w'.cell? ⟨w1.heap.size, 1, none⟩ = some (.int .i64 m) ∧ w'.cell? (ad.add (k * 2)) = some (.bool y) ∧ w'.cell? ⟨(ad.add (k * 2)).block, (ad.add (k * 2)).off + 1, none⟩ = some (.int .i64 a))
        (first
          | go_keep
          | (go_split_ands
             refine ⟨?_, ?_, ?_, ?_⟩ <;> assumption)
          | ((try dsimp only); (repeat' apply And.intro); all_goals go_keep)
          | ((try dsimp only); refine ⟨?_, ?_, ?_, ?_⟩ <;> (refine set_keep ?_ (set_keep ?_ ?_); (exact Nat.ne_of_lt (by first | exact HLr | exact hab3)); (exact Nat.ne_of_lt (by first | exact HLr | exact hab3)); assumption)))
        (first
          | (go_at_call 16; go_must (refine (heard_any _ n m y a L hb_n hb_m i0 hb_L).mono ?_); rintro e w4 ⟨rfl, hb4⟩; rw [HN'.out, HM'.out]; (first | (have HX : Below wr.heap.size wr w4 := bel_then (bel_drew (Below.refl _ _)) (Nat.le_refl _) hb4) | (have HX : Below wr.heap.size wr w4 := bel_then (bel_drew (bel_alloc (Below.refl _ _) (Nat.le_refl _) _)) (Nat.le_refl _) hb4; have hzB := (hb4.block wr.heap.size (by simp)).trans (Go.HB.heap_drew (heap_new rfl rfl)); obtain ⟨z0, z1, hz⟩ := blk2 hzB)); obtain ⟨d0, d1, d2, d3, HL4, hab4⟩ := hbx w4 HX))
      · rename_i hH
        have F7 : (w4.alloc (.cells #[.int .i64 n', .int .i64 m'] 38)).heap[w4.heap.size]? = some (.cells #[.int .i64 n', .int .i64 m'] 38 (0, 0)) := heap_new rfl rfl
        have F5 : (w4.alloc (.cells #[.int .i64 n', .int .i64 m'] 38)).heap[w1.heap.size]? = some (.cells #[.int .i64 n, .int .i64 m] 38 (0, 0)) := heap_old HL4 ((HX.block w1.heap.size HLr).trans hB)
        have HB5 : Below w.heap.size w (w4.alloc (.cells #[.int .i64 n', .int .i64 m'] 38)) := bel_alloc (bel_then HB (Nat.le_refl _) HX) (Nat.le_refl _) _
        obtain ⟨_, _, D2, D3⟩ := hH
        have hne : w4.heap.size ≠ w1.heap.size := by omega
        generalize w4.alloc (.cells #[.int .i64 n', .int .i64 m'] 38) = W5 at *
        generalize w4.heap.size = b7 at *
        obtain ⟨s0, s1, hs⟩ := blk2 F7; obtain ⟨t0, t1, ht⟩ := blk2 F5; clear c0 c1 hf e0 e1; go_wp2; (have cs : (y = false) ∨ (y = true ∧ decide (0 ≤ a) = false) ∨ (y = true ∧ decide (0 ≤ a) = true ∧ decide (a ≤ L) = false) ∨ (y = true ∧ decide (0 ≤ a) = true ∧ decide (a ≤ L) = true ∧ decide (m' < a) = false) := by (cases y; exact .inl rfl; by_cases h1 : 0 ≤ a; (by_cases h2 : a ≤ L; exact .inr (.inr (.inr ⟨rfl, by simpa using h1, by simpa using h2, by simpa using q3 rfl h1 h2⟩)); exact .inr (.inr (.inl ⟨rfl, by simpa using h1, by simpa using h2⟩))); exact .inr (.inl ⟨rfl, by simpa using h1⟩))); rcases cs with rfl | ⟨rfl, g1⟩ | ⟨rfl, g1, g2⟩ | ⟨rfl, g1, g2, g3⟩; all_goals (go_quiet (fail)); all_goals go_wp2; all_goals go_roundw; all_goals first | exact ⟨k + 1, n', m', by omega, by go_num, ⟨r1, r2, r3, r4⟩, heap_set (heap_set (Go.HB.heap_drewN F5) rfl) rfl, bel_set HS (bel_set HS (bel_drewN HB5 _) _) _⟩ | (simp [intOf]; omega)
      · rename_i hH
        have F7 : ((w4.setCell ⟨wr.heap.size, 0, none⟩ (.int .i64 n')).setCell ⟨wr.heap.size, 1, none⟩ (.int .i64 m')).heap[wr.heap.size]? = some (.cells #[.int .i64 n', .int .i64 m'] 38 (0, 0)) := heap_set (heap_set hzB rfl) rfl
        have F5 : ((w4.setCell ⟨wr.heap.size, 0, none⟩ (.int .i64 n')).setCell ⟨wr.heap.size, 1, none⟩ (.int .i64 m')).heap[w1.heap.size]? = some (.cells #[.int .i64 n, .int .i64 m] 38 (0, 0)) := heap_far (Nat.ne_of_lt HLr) (heap_far (Nat.ne_of_lt HLr) ((HX.block w1.heap.size HLr).trans hB))
        have hle : w.heap.size ≤ wr.heap.size := HB.size
        have HB5 : Below w.heap.size w ((w4.setCell ⟨wr.heap.size, 0, none⟩ (.int .i64 n')).setCell ⟨wr.heap.size, 1, none⟩ (.int .i64 m')) := bel_set hle (bel_set hle (bel_then HB (Nat.le_refl _) HX) _) _
        obtain ⟨_, _, D2, D3⟩ := hH
        have hne : wr.heap.size ≠ w1.heap.size := by omega
        generalize (w4.setCell ⟨wr.heap.size, 0, none⟩ (.int .i64 n')).setCell ⟨wr.heap.size, 1, none⟩ (.int .i64 m') = W5 at *
        generalize wr.heap.size = b7 at *
        obtain ⟨s0, s1, hs⟩ := blk2 F7; obtain ⟨t0, t1, ht⟩ := blk2 F5; clear c0 c1 hf e0 e1; go_wp2; (have cs : (y = false) ∨ (y = true ∧ decide (0 ≤ a) = false) ∨ (y = true ∧ decide (0 ≤ a) = true ∧ decide (a ≤ L) = false) ∨ (y = true ∧ decide (0 ≤ a) = true ∧ decide (a ≤ L) = true ∧ decide (m' < a) = false) := by (cases y; exact .inl rfl; by_cases h1 : 0 ≤ a; (by_cases h2 : a ≤ L; exact .inr (.inr (.inr ⟨rfl, by simpa using h1, by simpa using h2, by simpa using q3 rfl h1 h2⟩)); exact .inr (.inr (.inl ⟨rfl, by simpa using h1, by simpa using h2⟩))); exact .inr (.inl ⟨rfl, by simpa using h1⟩))); rcases cs with rfl | ⟨rfl, g1⟩ | ⟨rfl, g1, g2⟩ | ⟨rfl, g1, g2, g3⟩; all_goals (go_quiet (fail)); all_goals go_wp2; all_goals go_roundw; all_goals first | exact ⟨k + 1, n', m', by omega, by go_num, ⟨r1, r2, r3, r4⟩, heap_set (heap_set (Go.HB.heap_drewN F5) rfl) rfl, bel_set HS (bel_set HS (bel_drewN HB5 _) _) _⟩ | (simp [intOf]; omega)
    · obtain rfl : k = xs.length := by omega
      go_wp2_with (go_at_call 12; go_must (refine (knows13_any _).mono ?_); rintro e w2 ⟨rfl, hb2⟩)
      go_ret
      exact ⟨rfl, bel_then HB (Nat.le_refl _) hb2⟩
end Go.Proofs.Ytcmdeaejgldhfaa

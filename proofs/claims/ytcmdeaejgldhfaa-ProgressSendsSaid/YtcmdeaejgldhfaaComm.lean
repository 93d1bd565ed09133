/-
  progress.Commit, Begin, Heard; the law's own helpers.
-/
import Derived.Test.YtcmdeaejgldhfaaNth
set_option linter.unusedVariables false
set_option linter.unusedSimpArgs false
namespace Go.HB
/-- The highest n in (low, low + k] whose term is 'term'; else c. -/
def View.findC (v : View) (low term c : Int) : Nat → Int
  | 0 => c
  | k + 1 => if v.at_ (low + (k + 1)) = term then low + (k + 1) else v.findC low term c k
theorem View.findC_yes {v : View} {low term c : Int} {k : Nat} (h : v.at_ (low + (k + 1)) = term) : v.findC low term c (k + 1) = low + (k + 1) := by simp [View.findC, h]
theorem View.findC_no {v : View} {low term c : Int} {k : Nat} (h : ¬ v.at_ (low + (k + 1)) = term) : v.findC low term c (k + 1) = v.findC low term c k := by simp [View.findC, h]
/-- What is next sent to a peer, and what it has (n, m), behind its word. -/
def heardOf (n m : Int) (yes : Bool) (at_ last : Int) : Int × Int :=
  if at_ < 0 ∨ at_ - 1 > last then (n, m)
  else if yes = false then (max (min n at_) (m + 1), m)
  else if at_ ≤ last then (max n (max m at_ + 1), max m at_)
  else (n, m)
theorem heard_out {n m : Int} {yes : Bool} {at_ last : Int} (h : at_ < 0 ∨ at_ - 1 > last) : heardOf n m yes at_ last = (n, m) := by rw [heardOf, if_pos h]
theorem heard_no {n m : Int} {yes : Bool} {at_ last : Int} (h : ¬ (at_ < 0 ∨ at_ - 1 > last)) (hy : yes = false) : heardOf n m yes at_ last = (max (min n at_) (m + 1), m) := by rw [heardOf, if_neg h, if_pos hy]
theorem heard_yes {n m : Int} {yes : Bool} {at_ last : Int} (h : ¬ (at_ < 0 ∨ at_ - 1 > last)) (hy : yes = true) (hl : at_ ≤ last) : heardOf n m yes at_ last = (max n (max m at_ + 1), max m at_) := by rw [heardOf, if_neg h, if_neg (by simp [hy]), if_pos hl]
theorem heard_far {n m : Int} {yes : Bool} {at_ last : Int} (h : ¬ (at_ < 0 ∨ at_ - 1 > last)) (hy : yes = true) (hl : ¬ at_ ≤ last) : heardOf n m yes at_ last = (n, m) := by rw [heardOf, if_neg h, if_neg (by simp [hy]), if_neg hl]
theorem peer_eq {a b c d : Int} (h : a = c) (k : b = d) : Ending.returned (.agg #[.int .i64 a, .int .i64 b]) = Ending.returned (.agg #[.int .i64 c, .int .i64 d]) := by rw [h, k]
theorem ret_peer {P : Program} {fn : Func} {R : Ending → World → Prop} {a : Act} {w : World} {p : Tmp} {ty : TypeId} {d : TypeDesc} {x y : Int} (g : Nat) (t : TypeId) (h : fn.results = #[.cell p ty]) (hp : a.tmps.getD p undef = .pointer (some ⟨g, 0, none⟩))
    (hu : P.underlying ty = some d) (hd : (match d with | .struct _ | .array _ _ => true | _ => false) = true) (hi : (P.info? ty).map (·.size) = some 2) (h0 : a.defers = [])
    (hg : w.heap[g]? = some (.cells #[.int .i64 x, .int .i64 y] t (0, 0))) (hR : R (.returned (.agg #[.int .i64 x, .int .i64 y])) w) : bodyPost P fn R .ret a w :=
  ret_cell g t #[.int .i64 x, .int .i64 y] h hp hu hd hi h0 hg hR
def View.commit (v : View) (nth c term : Int) : Int := if v.ok then v.findC (max c v.base) term c (min nth v.last - max c v.base).toNat else c
theorem View.commit_no {v : View} {nth c term : Int} (h : v.ok = false) : v.commit nth c term = c := by simp [View.commit, h]
theorem View.commit_yes {v : View} {nth c term : Int} (h : v.ok = true) : v.commit nth c term = v.findC (max c v.base) term c (min nth v.last - max c v.base).toNat := by simp [View.commit, h]
end Go.HB
namespace Go.Proofs.Ytcmdeaejgldhfaa
open Go.RowKit Go.HB Go.Shelf

set_option maxRecDepth 100000 in
set_option maxHeartbeats 4000000 in
theorem pcommit_any (w : World) (F : FP) (x : View) (v s m : Value) (ss ms : List Int) (h : Rd encEnt w F v x.l) (hb : In64 x.base) (ht : In64 x.term) (hs : Rd encInt w F s ss) (hm : Rd encInt w F m ms) (c t : Int) (hc : In64 c) (hnt : In64 (nthOf ss ms)) :
    Calls Try.prog 9 #[.agg #[.int .i64 x.base, .int .i64 x.term, v], s, m, .int .i64 c, .int .i64 t] w fun e w' => e = .returned (.int .i64 (x.commit (nthOf ss ms) c t)) ∧ Below w.heap.size w w' := by
  obtain ⟨A, cp, rfl, hl, hml⟩ := h.slice
  obtain ⟨A2, cp2, rfl, hl2, hml2⟩ := hs.slice
  obtain ⟨A3, cp3, rfl, hl3, hml3⟩ := hm.slice
  have H := h.arg
  have H2 := hs.arg
  have H3 := hm.arg
  clear h hs hm
  obtain ⟨ok, hx⟩ : ∃ ok, x.ok = ok := ⟨_, rfl⟩
  have HX := Lib.hid hx
  have HR : ok = true → 0 ≤ x.base ∧ x.base ≤ 549755813888 ∧ 0 ≤ x.term ∧ x.term < 1099511627776 ∧ x.l.length ≤ 4096 := fun h => View.ok_range (hx.trans h)
  clear hx
  cases ok with
  | false =>
    go_enter Try.func9, Try.ntmps9
    go_wp2_with (go_at_call 24; go_must (refine (right12_any _ (ltF w) x _ (H.alloc _) hb ht).mono ?_); rintro e w1 ⟨rfl, hb1⟩; rw [HX.out])
    all_goals go_ret
    exact ⟨congrArg (fun n => Ending.returned (Value.int .i64 n)) (View.commit_no HX.out).symm, bel_then (bel_alloc (Below.refl _ _) (Nat.le_refl _) _) (Nat.le_refl _) hb1⟩
  | true =>
    obtain ⟨r1, r2, r3, r4, r5⟩ := HR rfl
    have HY := Lib.hid (View.lastR_yes HX.out)
    have HC := Lib.hid (View.commit_yes (nth := nthOf ss ms) (c := c) (term := t) HX.out)
    obtain ⟨N, hN⟩ : ∃ N, nthOf ss ms = N := ⟨_, rfl⟩
    have HN := Lib.hid hN
    rw [hN] at hnt HC
    obtain ⟨L, hL⟩ : ∃ L, x.last = L := ⟨_, rfl⟩
    have HL := Lib.hid hL
    have hL' : L = x.base + x.l.length := by rw [← hL]; rfl
    rw [hL] at HY HC
    obtain ⟨D, hD⟩ : ∃ D, x.commit N c t = D := ⟨_, rfl⟩
    have HD := Lib.hid hD
    rw [hD] at HC
    obtain ⟨hn1, hn2⟩ := hnt
    obtain ⟨hc1, hc2⟩ := hc
    clear hN hL hD
    go_enter Try.func9, Try.ntmps9
    go_wp2_with (first | (go_at_call 24; go_must (refine (right12_any _ (ltF w) x _ (H.alloc _) hb ht).mono ?_); rintro e w1 ⟨rfl, hb1⟩; rw [HX.out]; have hx1 := (hb1.block w.heap.size (by simp)).trans (heap_new rfl rfl); obtain ⟨c0, c1, c2, hf⟩ := blk3 hx1; have HB1 := bel_then (bel_alloc (Below.refl _ _) (Nat.le_refl _) _) (Nat.le_refl _) hb1; have HS : w.heap.size < w1.heap.size := (by have := hb1.size; simp at this; omega)) | (go_at_call 25; go_must (refine (last12_any _ (ltF w) x _ (H.at_ HB1) hb ht).mono ?_); rintro e w2 ⟨rfl, hb2⟩; rw [HY.out]; have hx2 := (hb2.block w.heap.size HS).trans hx1; have HB2 := bel_then HB1 (Nat.le_refl _) hb2; have HS2 := Nat.lt_of_lt_of_le HS hb2.size) | (go_at_call 26; go_must (refine (nth_any _ (ltF w) ss ms _ _ (H2.at_ HB2) (H3.at_ HB2)).mono ?_); rintro e w3 ⟨rfl, hb3⟩; rw [HN.out]; have hx3 := (hb3.block w.heap.size HS2).trans hx2; have HB3 := bel_then HB2 (Nat.le_refl _) hb3; have HS3 := Nat.lt_of_lt_of_le HS2 hb3.size))
    clear c0 c1 c2 hf hx1 hx2 HB1 HB2 HS HS2 hb1 hb2 hb3
    go_loopw [13] (fun i wr => ∃ I : Int, i = .int .i64 I ∧ I ≤ L ∧ -9223372036854775808 ≤ I ∧ Hid (x.findC (max c x.base) t c (I - max c x.base).toNat = D) ∧ Below w3.heap.size w3 wr) (fun i _ => (intOf i - max c x.base).toNat)
    case atStart => exact ⟨min N L, by rw [hL'], by omega, by omega, HC.out.symm, Below.refl _ _⟩
    case round =>
      obtain ⟨I, rfl, hI1, hI2, HF, HB⟩ := hrel
      obtain ⟨c0, c1, c2, hf⟩ := blk3 ((HB.block w.heap.size HS3).trans hx3)
      have HBW := bel_then HB3 (Nat.le_refl _) HB
      by_cases hlt : max c x.base < I
      · have HT := Lib.hid (View.termOf_in (i := I) HX.out (by omega) (by rw [HL.out]; omega))
        obtain ⟨T, hT⟩ : ∃ T, x.at_ I = T := ⟨_, rfl⟩
        have hTT := Lib.hid hT
        rw [hT] at HT
        clear hT
        go_wp2_with (go_at_call 27; go_must (refine (termof_any _ (ltF w) x _ (H.at_ HBW) hb ht I).mono ?_); rintro e w4 ⟨rfl, hb4⟩; rw [HT.out])
        · have hTt : x.at_ I = t := by rw [hTT.out]; exact eq_of_beq (by assumption)
          have hF := HF.out
          have hk : I = max c x.base + (((I - max c x.base - 1).toNat : Nat) + 1) := by omega
          rw [show (I - max c x.base).toNat = (I - max c x.base - 1).toNat + 1 by omega, View.findC_yes (by rw [← hk]; exact hTt), ← hk] at hF
          go_ret
          exact ⟨congrArg (fun n => Ending.returned (Value.int .i64 n)) (show I = x.commit (nthOf ss ms) c t by rw [HN.out, HD.out]; exact hF), bel_then HBW (Nat.le_refl _) hb4⟩
        · have hTt : ¬ x.at_ I = t := by rw [hTT.out]; exact ne_of_beq_false (by assumption)
          have hF := HF.out
          have hk : I = max c x.base + (((I - max c x.base - 1).toNat : Nat) + 1) := by omega
          rw [show (I - max c x.base).toNat = (I - max c x.base - 1).toNat + 1 by omega, View.findC_no (by rw [← hk]; exact hTt)] at hF
          go_roundw
          case rel => exact ⟨I - 1, rfl, by omega, by omega, by rw [show (I - 1 - max c x.base).toNat = (I - max c x.base - 1).toNat by omega]; exact hF, bel_then HB (Nat.le_refl _) hb4⟩
          case measure => simp [intOf]; omega
      · have hF := HF.out
        rw [show (I - max c x.base).toNat = 0 by omega] at hF
        go_wp2
        go_ret
        exact ⟨congrArg (fun n => Ending.returned (Value.int .i64 n)) (show c = x.commit (nthOf ss ms) c t by rw [HN.out, HD.out]; exact hF), HBW⟩


set_option maxRecDepth 100000 in
set_option maxHeartbeats 4000000 in
theorem view12_any (w : World) (F : FP) (x : View) (v : Value) (h : Rd encEnt w F v x.l) :
    Calls Try.prog 8 #[.agg #[.int .i64 x.base, .int .i64 x.term, v]] w fun e w' => ∃ v', e = .returned (.agg #[.int .i64 x.base, .int .i64 x.term, v']) ∧ Rd encEnt w' (geF w.heap.size) v' x.l ∧ Below w.heap.size w w' := by
  obtain ⟨A, c, rfl, hl, hm⟩ := h.slice
  have H := h.arg
  clear h
  obtain ⟨W, hW⟩ : ∃ W, (w.alloc (.cells #[.int .i64 x.base, .int .i64 x.term, .slice A x.l.length c] 24)).alloc (.cells #[.int .i64 0, .int .i64 0, .slice none 0 0] 26) = W := ⟨_, rfl⟩
  have HB0 : Below w.heap.size w W := hW ▸ bel_alloc (bel_alloc (Below.refl _ _) (Nat.le_refl _) _) (Nat.le_refl _) _
  have g0 : W.drew.heap[w.heap.size]? = some (.cells #[.int .i64 x.base, .int .i64 x.term, .slice A x.l.length c] 24 (0, 0)) := by rw [← hW]; exact Go.HB.heap_drew (heap_old (by simp) (heap_new rfl rfl))
  have g1 : W.drew.heap[w.heap.size + 1]? = some (.cells #[.int .i64 0, .int .i64 0, .slice none 0 0] 26 (0, 0)) := by rw [← hW]; exact Go.HB.heap_drew (heap_new (by simp) rfl)
  have gs : w.heap.size + 1 < W.drew.heap.size := block_lt g1
  go_enter Try.func8, Try.ntmps8
  go_wp2
  obtain ⟨c0, c1, c2, hf⟩ := blk3 g0
  go_region_held3 (fun w' => w'.cell? ⟨w.heap.size, 0, none⟩ = some (.int .i64 x.base) ∧ w'.cell? ⟨w.heap.size, 1, none⟩ = some (.int .i64 x.term) ∧ w'.cell? ⟨w.heap.size, 2, none⟩ = some (.slice A x.l.length c))
    (first
      | go_keep
      | (go_split_ands
         refine ⟨?_, ?_, ?_⟩ <;> assumption))
    (first
      | (go_at_call 23; refine (own12_any _ (ltF w) x.l _ (H.at_ (bel_drew HB0))).mono ?_; rintro e w1 ⟨v1, rfl, hr1, hb1⟩; obtain ⟨A1, k1, rfl, hl1, hm1⟩ := hr1.slice; obtain ⟨d0, d1, d2, hf1⟩ := blk3 ((hb1.block w.heap.size (by omega)).trans g0); have G1 := (hb1.block (w.heap.size + 1) gs).trans g1; obtain ⟨e0, e1, e2, hf2⟩ := blk3 G1; have HS1 := hb1.size))
  go_wp2
  refine ret_cell (w.heap.size + 1) 26 #[.int .i64 x.base, .int .i64 x.term, .slice A1 x.l.length k1] rfl rfl Try.underlying26 rfl (by kernel_rfl) rfl ?hh ?_
  case hh => (repeat (first | with_reducible assumption | (with_reducible refine heap_new ?_ rfl; (simp; done)) | (with_reducible refine heap_old ?_ ?_; · (simp <;> omega)) | with_reducible refine Go.HB.heap_drew ?_ | with_reducible refine heap_drewN ?_ | with_reducible apply heap_set | (with_reducible refine heap_far ?_ ?_; · (simp <;> omega)))) <;> rfl
  have HBf := bel_then (bel_drew HB0) (Nat.le_refl _) hb1
  refine ⟨_, rfl, ?_, ?_⟩
  · refine (hr1.move ?_).mono fun b hb => by simp only [geF] at hb ⊢; omega
    have hne : ∀ i : Nat, ¬ geF W.drew.heap.size (⟨w.heap.size + 1, i, none⟩ : Addr).block := fun i h => by simp only [geF] at h; omega
    exact agree_set (hne 2) (agree_set (hne 1) (agree_set (hne 0) (Agree.refl _ _) _) _) _
  · repeat (first | with_reducible exact Below.refl _ _ | with_reducible assumption | with_reducible refine bel_alloc ?_ (Nat.le_refl _) _ | with_reducible refine bel_drew ?_ | with_reducible refine bel_drewN ?_ _ | (with_reducible refine bel_set ?_ ?_ _; · (simp <;> omega)))

def byteOf (t : Int) : UInt8 := UInt8.ofNat (t % 256).toNat
def mkEnt (term index : Int) : Ent := ⟨term, index, 2, [byteOf term]⟩
set_option maxHeartbeats 1000000 in
theorem entry13_any (w : World) (term index : Int) (ht : In64 term) (hi : In64 index) :
    Calls Try.prog 31 #[.int .i64 term, .int .i64 index] w fun e w' => ∃ v', e = .returned (.agg #[.int .i64 term, .int .i64 index, .int .i64 2, v']) ∧ Rd encU8 w' (geF w.heap.size) v' [byteOf term] ∧ Below w.heap.size w w' := by
  obtain ⟨ht1, ht2⟩ := ht
  obtain ⟨hi1, hi2⟩ := hi
  go_enter Try.func31, Try.ntmps31
  go_wp2
  refine ret_cell w.heap.size 54 #[.int .i64 term, .int .i64 index, .int .i64 2, .slice (some ⟨w.heap.size + 1, 0, none⟩) 1 1] rfl rfl Try.underlying54 rfl (by kernel_rfl) rfl ?hh ?_
  case hh => (repeat (first | with_reducible assumption | (with_reducible refine heap_new ?_ rfl; (simp; done)) | (with_reducible refine heap_old ?_ ?_; · (simp <;> omega)) | with_reducible refine Go.HB.heap_drew ?_ | with_reducible refine heap_drewN ?_ | with_reducible apply heap_set | (with_reducible refine heap_far ?_ ?_; · (simp <;> omega)))) <;> rfl
  refine ⟨_, rfl, ?_, bel_alloc (bel_alloc (Below.refl _ _) (Nat.le_refl _) _) (Nat.le_refl _) _⟩
  refine Rd.one_new encU8 w _ _ _ _ _ _ 1 (heap_new (by simp) rfl) (R_u8.2 ?_) (by simp [geF]) (Nat.le_refl _) (by simp [maxLen]) (by decide)
  have h0 : 0 ≤ term % 256 := Int.emod_nonneg _ (by decide)
  have h1 : term % 256 < 256 := Int.emod_lt_of_pos _ (by decide)
  simp [byteOf]
  omega

def beginOf (last : Int) : Int := max last 0 + 1
set_option maxHeartbeats 1000000 in
theorem begin_any (w : World) (last : Int) (hl : -9223372036854775808 ≤ last) (hl2 : last < 9223372036854775807) :
    Calls Try.prog 15 #[.int .i64 last] w fun e w' => e = .returned (.agg #[.int .i64 (beginOf last), .int .i64 0]) ∧ Below w.heap.size w w' := by
  go_enter Try.func15, Try.ntmps15
  go_wp2
  refine ret_cell w.heap.size 38 #[.int .i64 (beginOf last), .int .i64 0] rfl rfl Try.underlying38 rfl (by kernel_rfl) rfl ?hh ?_
  case hh => (repeat (first | with_reducible assumption | (with_reducible refine heap_new ?_ rfl; (simp; done)) | (with_reducible refine heap_old ?_ ?_; · (simp <;> omega)) | with_reducible refine Go.HB.heap_drew ?_ | with_reducible refine heap_drewN ?_ | with_reducible apply heap_set | (with_reducible refine heap_far ?_ ?_; · (simp <;> omega)))) <;> rfl
  exact ⟨rfl, by repeat (first | with_reducible exact Below.refl _ _ | with_reducible assumption | with_reducible refine bel_alloc ?_ (Nat.le_refl _) _ | with_reducible refine bel_drew ?_ | with_reducible refine bel_drewN ?_ _ | (with_reducible refine bel_set ?_ ?_ _; · (simp <;> omega)))⟩

set_option maxHeartbeats 4000000 in
theorem heard_any (w : World) (n m : Int) (yes : Bool) (at_ last : Int) (hn : 0 ≤ n ∧ n ≤ 4611686018427387904) (hm : 0 ≤ m ∧ m ≤ 4611686018427387904) (ha : In64 at_) (hl : 0 ≤ last ∧ last ≤ 4611686018427387904) :
    Calls Try.prog 16 #[.agg #[.int .i64 n, .int .i64 m], .bool yes, .int .i64 at_, .int .i64 last] w fun e w' => e = .returned (.agg #[.int .i64 (heardOf n m yes at_ last).1, .int .i64 (heardOf n m yes at_ last).2]) ∧ Below w.heap.size w w' := by
  obtain ⟨hn1, hn2⟩ := hn
  obtain ⟨hm1, hm2⟩ := hm
  obtain ⟨ha1, ha2⟩ := ha
  obtain ⟨hl1, hl2⟩ := hl
  go_enter Try.func16, Try.ntmps16
  go_wp2
  all_goals first
    | (have hX : heardOf n m yes at_ last = (n, m) := by (unfold heardOf; cases yes <;> simp at * <;> (try split) <;> (try simp) <;> (try omega)))
    | (have hX : heardOf n m yes at_ last = (max (min n at_) (m + 1), m) := by (unfold heardOf; cases yes <;> simp at * <;> (try split) <;> (try simp) <;> (try omega)))
    | (have hX : heardOf n m yes at_ last = (max n (max m at_ + 1), max m at_) := by (unfold heardOf; cases yes <;> simp at * <;> (try split) <;> (try simp) <;> (try omega)))
    | skip
  all_goals (apply ret_peer (w.heap.size + 1) 38 rfl rfl Try.underlying38 rfl (by kernel_rfl) rfl; focus ((repeat (first | with_reducible assumption | (with_reducible refine heap_new ?_ rfl; (simp; done)) | (with_reducible refine heap_old ?_ ?_; · (simp <;> omega)) | with_reducible refine Go.HB.heap_drew ?_ | with_reducible refine heap_drewN ?_ | with_reducible apply heap_set | (with_reducible refine heap_far ?_ ?_; · (simp <;> omega)))) <;> rfl))
  all_goals (refine ⟨peer_eq (by rw [hX] <;> dsimp only <;> omega) (by rw [hX] <;> dsimp only <;> omega), ?_⟩; repeat (first | with_reducible exact Below.refl _ _ | with_reducible assumption | with_reducible refine bel_alloc ?_ (Nat.le_refl _) _ | with_reducible refine bel_drew ?_ | with_reducible refine bel_drewN ?_ _ | (with_reducible refine bel_set ?_ ?_ _; · (simp <;> omega))))
end Go.Proofs.Ytcmdeaejgldhfaa

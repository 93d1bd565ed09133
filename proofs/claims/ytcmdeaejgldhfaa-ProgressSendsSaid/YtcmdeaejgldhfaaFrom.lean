/-
  entries.From.
-/
import Derived.Test.YtcmdeaejgldhfaaBehind
set_option linter.unusedVariables false
set_option linter.unusedSimpArgs false
namespace Go.HB
open Go.RowKit
def fromOf (l : List Ent) (i : Int) (m : Nat) : List Ent := (l.filter (fun x => decide (i ≤ x.index))).take m
theorem isT_ne {t t' : TypeId} {W : World} {b : Nat} (h : isT t W b) (h' : isT t' W b) : t = t' := by
  obtain ⟨cs, fr, h⟩ := h
  obtain ⟨cs', fr', h'⟩ := h'
  rw [h] at h'
  simp at h'
  exact h'.2.1
/-- What From's loop keeps: what has come lies in a row of its own, in the box Bo. -/
def FromI (E S I n0 Bm Bo m : Nat) (w : World) (pre : List EV) (W : World) : Prop :=
  ∃ (v : Value) (F : FP), W.heap[Bo]? = some (.cells #[v] S (0, 0)) ∧ W.heap[Bm]? = some (.cells #[.int .i64 m] I (0, 0)) ∧ Mine encEnt E W w.heap.size F v (pre.map Prod.fst) ∧ (∀ b, F b → n0 ≤ b) ∧ (∀ b, v.ownBlock = some b → n0 ≤ b) ∧ pre.length ≤ m ∧ Below w.heap.size w W ∧ n0 ≤ W.heap.size
def FromX (E S I n0 Bm Bo m : Nat) (w : World) (c : Code) (ys : List EV) (W : World) : Prop :=
  c = .exit 0 ∧ ∃ pre x, ys = pre ++ [x] ∧ m ≤ pre.length ∧ FromI E S I n0 Bm Bo m w pre W
theorem FromI.ck {E S I n0 Bm Bo m : Nat} {w W W' : World} {pre : List EV} (h : FromI E S I n0 Bm Bo m w pre W) (k : CK n0 W W') (hn : w.heap.size ≤ n0) : FromI E S I n0 Bm Bo m w pre W' := by
  obtain ⟨v, F, h1, h2, h3, h4, h8, h5, h6, h7⟩ := h
  have hA : Agree (Mine.fp F v) W W' := k.agree fun b hb => by
    rcases hb with hb | hb
    · exact (h3.1 b hb).1
    · obtain ⟨⟨cs, fr, h⟩, _⟩ := h3.typed b hb
      exact ⟨cs, _, fr, h⟩
  exact ⟨v, F, k.cell _ _ _ _ h1, k.cell _ _ _ _ h2, h3.move hA, h4, h8, h5, k.below h6 hn (Nat.le_refl _), Nat.le_trans h7 k.size⟩
theorem FromX.ck {E S I n0 Bm Bo m : Nat} {w W W' : World} {c : Code} {ys : List EV} (h : FromX E S I n0 Bm Bo m w c ys W) (k : CK n0 W W') (hn : w.heap.size ≤ n0) : FromX E S I n0 Bm Bo m w c ys W' := by
  obtain ⟨h1, pre, x, h2, h3, h4⟩ := h
  exact ⟨h1, pre, x, h2, h3, h4.ck k hn⟩
theorem ck_alloc (B : Nat) (W : World) (o : Obj) : CK B W (W.alloc o) := CK.of_grownBy (World.grownBy_alloc W o none) (fun r e => by cases e)
/-- What the round's append leaves, and the store into the box behind it. -/
theorem FromI.more {E S I n0 Bm Bo m : Nat} {w W w7 : World} {pre : List EV} {x : EV} {v : Value} {A : Option Addr} {c : Nat} {F' : FP} {o : Obj} (hne : Bm ≠ Bo) (hwo : w.heap.size ≤ Bo) (hlo : Bo < n0) (hlm : Bm < n0)
    (j1 : W.heap[Bo]? = some (.cells #[v] S (0, 0))) (j2 : W.heap[Bm]? = some (.cells #[.int .i64 m] I (0, 0))) (h8 : ∀ b, v.ownBlock = some b → n0 ≤ b) (h7 : n0 ≤ W.heap.size) (hm : pre.length + 1 ≤ m)
    (HO : Mine encEnt E w7 w.heap.size F' (.slice A (pre.length + 1) c) ((pre ++ [x]).map Prod.fst)) (HB : Below w.heap.size w w7) (hg : (W.alloc o).grownBy w7 v.ownBlock) (hF : ∀ b, F' b → n0 ≤ b)
    (hat : (Value.slice A (pre.length + 1) c).ownBlock = v.ownBlock ∨ (Value.slice A (pre.length + 1) c).ownBlock = some (W.alloc o).heap.size) :
    w7.heap[Bo]? = some (.cells #[v] S (0, 0)) ∧ FromI E S I n0 Bm Bo m w (pre ++ [x]) (w7.setCell ⟨Bo, 0, none⟩ (.slice A (pre.length + 1) c)) := by
  have k1 : w7.heap[Bo]? = some (.cells #[v] S (0, 0)) := (hg.block Bo (by simp; have := block_lt j1; omega) (fun e => by have := h8 Bo e.symm; omega)).trans (heap_old (block_lt j1) j1)
  have k2 : w7.heap[Bm]? = some (.cells #[.int .i64 m] I (0, 0)) := (hg.block Bm (by simp; have := block_lt j2; omega) (fun e => by have := h8 Bm e.symm; omega)).trans (heap_old (block_lt j2) j2)
  have hown : ∀ b, (Value.slice A (pre.length + 1) c).ownBlock = some b → n0 ≤ b := fun b hb => by
    rcases hat with h | h
    · exact h8 b (h.symm.trans hb)
    · rw [h] at hb; injection hb with hb; simp at hb; omega
  refine ⟨k1, _, F', heap_set k1 rfl, heap_far hne k2, HO.setCell ?_ _, hF, hown, by simp; omega, bel_set hwo HB _, ?_⟩
  · rintro (hb | hb)
    · have := hF _ hb; simp at this; omega
    · have := hown _ hb; simp at this; omega
  · have h1 := hg.size
    simp at h1
    simp only [World.setCell, Array.size_modify]
    omega
end Go.HB
namespace Go.Proofs.Ytcmdeaejgldhfaa
open Go.RowKit Go.HB Go.Shelf
attribute [local go_sem] Oper.semAt_some

theorem behind_seq (Bs Bi B0 : Nat) (A : Option Addr) (c : Nat) (xs : List Ent) (i : Int) (G : FP) (hGs : G Bs) (hGi : G Bi) (w : World) (hGw : ∀ b, G b → b < w.heap.size) (hB0 : B0 ≤ w.heap.size)
    (hBs : w.cell? ⟨Bs, 0, none⟩ = some (.slice A xs.length c)) (hBi : w.cell? ⟨Bi, 0, none⟩ = some (.int .i64 i)) (hR : Rd encEnt w G (.slice A xs.length c) xs) :
    SeqV Fence.wide 8 Try.prog 51 #[.pointer (some ⟨Bs, 0, none⟩), .pointer (some ⟨Bi, 0, none⟩)] encEV (KpEV 5 G) (VEV 5 B0) (fun ys => ys.map Prod.fst = xs.filter (fun x => decide (i ≤ x.index))) (fun pre => pre.map Prod.fst <+: xs.filter (fun x => decide (i ≤ x.index))) w :=
  fun l J Jx W hW hJ _ hY h0 => by
    have hA : Agree G w W := Agree.of_below hW hGw
    exact behind1_in l Bs Bi B0 A c xs i G hGs hGi J Jx W (fun b hb => Nat.lt_of_lt_of_le (hGw b hb) hW.size) (Nat.le_trans hB0 hW.size) hJ hY ((hA.cell (a := ⟨Bs, 0, none⟩) hGs).trans hBs) ((hA.cell (a := ⟨Bi, 0, none⟩) hGi).trans hBi) (hR.move hA) h0

set_option maxRecDepth 100000 in
set_option maxHeartbeats 2000000 in
theorem from_any (w : World) (F : FP) (x : View) (v : Value) (h : Rd encEnt w F v x.l) (hb : In64 x.base) (ht : In64 x.term) (hx : x.ok = true) (i : Int) (m : Nat) (hm : m ≤ 1000000) :
    Calls Try.prog 34 #[.agg #[.int .i64 x.base, .int .i64 x.term, v], .int .i64 i, .int .i64 m] w fun e w' => ∃ v', e = .returned v' ∧ Rd encEnt w' (fun b => w.heap.size ≤ b) v' (fromOf x.l i m) ∧ Below w.heap.size w w' := by
  obtain ⟨A, c, rfl, hl, hm⟩ := h.slice
  have H := h.arg
  clear h
  have HX := Lib.hid hx
  clear hx
  refine (callsIn_wide (n := 9)).1 ?_
  refine callsIn_of_wp_marks Try.func34 rfl trivial ?_ rfl
  simp only [Try.ntmps34, List.size_toArray, List.length_cons, List.length_nil, Nat.reduceAdd, Nat.reduceSub, Array.replicate_succ, Array.replicate_zero, List.push_toArray, List.append_toArray, List.nil_append, List.cons_append]
  gi_wp2_with (first | (refine ⟨trivial, ?_⟩; gi_at_call 24; refine (callsIn_wide.2 (right12_any _ (ltF w) x _ (((H.alloc _).alloc _).alloc _) hb ht)).mono ?_; rintro e w1 ⟨rfl, hb1⟩; rw [HX.out]; have G0 := (hb1.block w.heap.size (by simp; omega)).trans (heap_old (by simp; omega) (heap_old (by simp) (heap_new rfl rfl))); have G1 := (hb1.block (w.heap.size + 1) (by simp)).trans (heap_old (by simp) (heap_new (by simp) rfl)); have G2 := (hb1.block (w.heap.size + 1 + 1) (by simp)).trans (heap_new (by simp) rfl); have HS := hb1.size; obtain ⟨c0, c1, c2, hf⟩ := blk3 G0) | (refine ⟨trivial, ?_⟩; gi_at_call 43; refine (behind_in Fence.wide 8 trivial rfl _ _ _ _ _).mono ?_; rintro e w2 ⟨rfl, rfl⟩))
  obtain ⟨Wr, hWr⟩ : ∃ Wr, (w1.alloc (.cells #[.slice A x.l.length c] 22)).alloc (.cells #[.int .i64 i] 3) = Wr := ⟨_, rfl⟩
  have HS' : w.heap.size + 3 ≤ w1.heap.size := by simp at HS; omega
  have HB0 : Below w.heap.size w Wr := by
    rw [← hWr]
    exact bel_alloc (bel_alloc (bel_then (bel_alloc (bel_alloc (bel_alloc (Below.refl _ _) (Nat.le_refl _) _) (Nat.le_refl _) _) (Nat.le_refl _) _) (Nat.le_refl _) hb1) (Nat.le_refl _) _) (Nat.le_refl _) _
  have K1 : Wr.heap[w.heap.size + 1]? = some (.cells #[.int .i64 m] 3 (0, 0)) := by rw [← hWr]; exact heap_old (by simp; omega) (heap_old (by omega) G1)
  have K2 : Wr.heap[w.heap.size + 1 + 1]? = some (.cells #[.slice none 0 0] 22 (0, 0)) := by rw [← hWr]; exact heap_old (by simp; omega) (heap_old (by omega) G2)
  have K3 : Wr.heap[w1.heap.size]? = some (.cells #[.slice A x.l.length c] 22 (0, 0)) := by rw [← hWr]; exact heap_old (by simp) (heap_new rfl rfl)
  have K4 : Wr.heap[w1.heap.size + 1]? = some (.cells #[.int .i64 i] 3 (0, 0)) := by rw [← hWr]; exact heap_new (by simp) rfl
  have HSr1 : Wr.heap.size ≤ w1.heap.size + 2 := by rw [← hWr]; simp
  have HSr2 : w1.heap.size + 2 ≤ Wr.heap.size := by rw [← hWr]; simp
  rw [hWr]
  have HR := H.at_ HB0
  clear hWr hb1 HS G0 G1 G2 c0 c1 c2 hf
  have hGw : ∀ b, (fun b => ltF w b ∨ b = w1.heap.size ∨ b = w1.heap.size + 1) b → b < Wr.heap.size := by
    rintro b (hb | rfl | rfl)
    · have := ltF_lt hb; omega
    · omega
    · omega
  have hseq := behind_seq w1.heap.size (w1.heap.size + 1) Wr.heap.size A c x.l i (fun b => ltF w b ∨ b = w1.heap.size ∨ b = w1.heap.size + 1) (.inr (.inl rfl)) (.inr (.inr rfl)) Wr hGw (Nat.le_refl _) (blk1 K3).1 (blk1 K4).1 (HR.mono fun b hb => .inl hb)
  have HSEQ := Lib.hid hseq
  clear hseq
  have hKb : ∀ W W' : World, W.heap.size ≤ W'.heap.size → CK Wr.heap.size W W' → Wr.heap.size ≤ W.heap.size → KpEV 5 (fun b => ltF w b ∨ b = w1.heap.size ∨ b = w1.heap.size + 1) W W' := fun W W' hs hck hW => ⟨fun b hb => hck.low b (hGw b hb) (Nat.lt_of_lt_of_le (hGw b hb) hW), hs, fun b hb => by
    obtain ⟨cs, fr, h⟩ := hb
    rw [h]; exact hck.cell _ _ _ _ h⟩
  apply range_V2 (F := Fence.wide) (n := 9) (gf := 51) (lb := #[.pointer (some ⟨w1.heap.size, 0, none⟩), .pointer (some ⟨w1.heap.size + 1, 0, none⟩)]) rfl (by omega) rfl trivial (enters_of Try.func51 (by kernel_rfl) rfl) HSEQ.out
    KpEV.trans hKb (Below.refl _ _) (fun _ => rfl)
    (FromI 54 22 3 Wr.heap.size (w.heap.size + 1) (w.heap.size + 1 + 1) m w) (FromX 54 22 3 Wr.heap.size (w.heap.size + 1) (w.heap.size + 1 + 1) m w)
    (fun s W W' hs hck => hs.ck hck HB0.size) (fun c s W W' hs hck => hs.ck hck HB0.size) ⟨_, none', K2, K1, Mine.nil_ _ _ _ _, (fun b hb => hb.elim), (fun b hb => by simp [Value.ownBlock] at hb), Nat.zero_le _, HB0, Nat.le_refl _⟩
  · rintro l pre ⟨x, u⟩ W hI hV K hK
    obtain ⟨A5, c5, hu⟩ := hV.form
    dsimp only at hu
    subst hu
    dsimp only [encEV]
    gi_wp2
    have hI7 : Wr.heap.size ≤ W.heap.size := by obtain ⟨_, _, _, _, _, _, _, _, _, h⟩ := hI; exact h
    refine hK _ _ ((KeepsOthers.alloc _ _).from _) (hKb _ _ (by simp) (ck_alloc _ _ _) hI7) ?_
    intro l' W2 hck
    have hck2 := (ck_alloc Wr.heap.size W (.cells #[.int .i64 x.term, .int .i64 x.index, .int .i64 x.kind, .slice A5 x.data.length c5] 54)).trans hck
    obtain ⟨v5, F5, j1, j2, j3, j4, j8, j5, j6, j7⟩ := hI.ck hck2 HB0.size
    have KD : W2.heap[W.heap.size]? = some (.cells #[.int .i64 x.term, .int .i64 x.index, .int .i64 x.kind, .slice A5 x.data.length c5] 54 (0, 0)) := hck.cell _ _ _ _ (heap_new rfl rfl)
    have hV2 : VEV 5 Wr.heap.size (x, .slice A5 x.data.length c5) W2 := hV.kept (fun b hb => by obtain ⟨cs, fr, h⟩ := hb; rw [h]; exact hck2.cell _ _ _ _ h)
    obtain ⟨V1, V2, V3, V4⟩ := hV2
    obtain ⟨A6, c6, rfl, hl6, hm6⟩ := j3.slice
    rw [List.length_map] at j1 j3 j8 hl6
    obtain ⟨c1, f1⟩ := blk1 j1
    obtain ⟨c2, f2⟩ := blk1 j2
    obtain ⟨d0, d1, d2, d3, df⟩ := blk4 KD
    have hDl := block_lt KD
    clear hK hV hI hck hck2
    by_cases hlt : pre.length < m
    · gi_wp2_with (gi_at_builtin; refine own_append_in (w0 := w) encEnt rfl _ _ 22 54 (.agg #[(.int .i64 0), (.int .i64 0), (.int .i64 0), (.slice none 0 0)]) rfl Try.underlying22 info54 rfl F5 (fun b => isT 5 W2 b ∧ Wr.heap.size ≤ b ∨ b = W2.heap.size) (.slice A6 pre.length c6) (.slice (some ⟨_, 0, none⟩) 1 1) (pre.map Prod.fst) [x] ((pre ++ [(x, Value.slice A5 x.data.length c5)]).map Prod.fst) (pre.length + 1) rfl rfl ?c0 ?c1 ?c2 ?c3 ?c4 ?c5 ?c6 ?c7 ?_)
      case c2 => exact j3.alloc _
      case c3 => exact bel_alloc j6 (Nat.le_refl _) _
      case c4 =>
        refine Rd.one_new encEnt W2 _ _ _ _ _ _ 1 (heap_new rfl rfl) (encEnt_R.2 ⟨_, rfl, V1, V2, V3, (V4.alloc _).mono fun b hb => .inl hb⟩) (.inr rfl) (Nat.le_refl _) (by simp [maxLen]) (by decide)
      case c5 =>
        intro b hb
        have h1 := (j3.typed b hb).1
        have h2 := h1.lt
        first
          | exact ⟨fun h => absurd (isT_ne h h1) (by decide), by omega⟩
          | (rintro (⟨h, _⟩ | h)
             · exact absurd (isT_ne h h1) (by decide)
             · omega)
      case c6 => simp [encEnt, encIso]; omega
      case c7 => simp [maxLen]; omega
      intro A7 c7 w7 HO7 HB7 hl7 hm7 hg7 hat7
      obtain ⟨k7, HI⟩ := FromI.more (E := 54) (S := 22) (I := 3) (n0 := Wr.heap.size) (Bm := w.heap.size + 1) (Bo := w.heap.size + 1 + 1) (m := m) (x := (x, .slice A5 x.data.length c5)) (pre := pre) (by omega) (by omega) (by omega) (by omega) j1 j2 j8 j7 hlt (by simpa using HO7) HB7 hg7 (by
        rintro b (hb | ⟨⟨_, hb⟩ | hb, _⟩)
        · exact j4 b hb
        · exact hb
        · omega) (by simpa using hat7)
      obtain ⟨e7, f7⟩ := blk1 k7
      gi_wp2
      have hkeep : ∀ b, b < W2.heap.size → b ≠ w.heap.size + 1 + 1 → some b ≠ (Value.slice A6 pre.length c6).ownBlock → (w7.setCell ⟨w.heap.size + 1 + 1, 0, none⟩ (.slice A7 (pre.length + 1) c7)).heap[b]? = W2.heap[b]? := fun b h1 h2 h3 =>
        (Below.heap_setCell w7 ⟨w.heap.size + 1 + 1, 0, none⟩ _ b h2).trans ((hg7.block b (by simp; omega) h3).trans (Below.heap_alloc _ _ _ h1))
      refine ⟨(((KeepsOthers.alloc _ _).trans (KeepsOthers.of_grownBy hg7 fun j o hj ho => ?_)).trans (KeepsOthers.setCell _ _ _)).from _, ⟨fun b hb => ?_, ?_, fun b hb => ?_⟩, HI⟩
      · obtain ⟨⟨cs, fr, h⟩, _⟩ := (j3.alloc (.cells #[.int .i64 x.term, .int .i64 x.index, .int .i64 x.kind, .slice A5 x.data.length c5] 54)).typed j hj
        rw [h] at ho; injection ho with ho; rw [← ho]; rfl
      · have h1 := hGw b hb
        refine hkeep b (by omega) ?_ (fun e => by have := j8 b e.symm; omega)
        rcases hb with hb | rfl | rfl
        · have := ltF_lt hb; omega
        · omega
        · omega
      · have := hg7.size; simp at this; simp only [World.setCell, Array.size_modify]; omega
      · exact hkeep b hb.lt (fun e => by subst e; exact absurd (isT_ne hb ⟨_, _, j1⟩) (by decide)) (fun e => absurd (isT_ne hb (j3.typed b e.symm).1) (by decide))
    · gi_wp2
      exact ⟨KeepsFrom.refl _ _, rfl, pre, _, rfl, by omega, ⟨_, F5, j1, j2, j3, j4, j8, by omega, j6, j7⟩⟩
  · intro D ys W hD hS hI hd
    obtain ⟨v5, F5, j1, j2, j3, j4, j8, j5, j6, j7⟩ := hI
    obtain ⟨A6, c6, rfl, hl6, hm6⟩ := j3.slice
    obtain ⟨c1, f1⟩ := blk1 j1
    have HS := Lib.hid hS
    clear hS
    gi_wp2
    refine ⟨by simp, .inl ⟨_, _, rfl, run_takeDeferred hd, ?_⟩⟩
    refine ⟨_, results_tmp rfl _ _ _, _, rfl, ?_, ?_⟩
    · have hr := j3.res (fun b hb => Nat.le_trans HB0.size (j4 b hb))
      rw [List.length_map] at hr
      have he : fromOf x.l i m = ys.map Prod.fst := by rw [fromOf, ← HS.out, List.take_of_length_le (by rw [List.length_map]; omega)]
      rw [he]
      exact Rd.turn hr (grownBy_putObj' W D _) (fun r e => by cases e; exact ⟨_, hd, rfl⟩)
    · exact j6.grown (grownBy_putObj' W D _) j6.size (fun k e => by cases e; omega)
  · intro D cc pre W hD hS hI hd
    obtain ⟨rfl, pre', x', rfl, hm', hI⟩ := hI
    obtain ⟨v5, F5, j1, j2, j3, j4, j8, j5, j6, j7⟩ := hI
    obtain ⟨A6, c6, rfl, hl6, hm6⟩ := j3.slice
    obtain ⟨c1, f1⟩ := blk1 j1
    have HS := Lib.hid hS
    clear hS
    gi_wp2
    refine ⟨by simp, .inl ⟨_, _, rfl, run_takeDeferred hd, ?_⟩⟩
    refine ⟨_, results_tmp rfl _ _ _, _, rfl, ?_, ?_⟩
    · have hr := j3.res (fun b hb => Nat.le_trans HB0.size (j4 b hb))
      rw [List.length_map] at hr
      have he : fromOf x.l i m = pre'.map Prod.fst := by
        have h1 : pre'.map Prod.fst <+: x.l.filter (fun x => decide (i ≤ x.index)) := List.IsPrefix.trans (by rw [List.map_append]; exact List.prefix_append _ _) HS.out
        rw [fromOf]
        obtain ⟨r, hr⟩ := h1
        rw [← hr, List.take_append_of_le_length (by rw [List.length_map]; omega), List.take_of_length_le (by rw [List.length_map]; omega)]
      rw [he]
      exact Rd.turn hr (grownBy_putObj' W D _) (fun r e => by cases e; exact ⟨_, hd, rfl⟩)
    · exact j6.grown (grownBy_putObj' W D _) j6.size (fun k e => by cases e; omega)
end Go.Proofs.Ytcmdeaejgldhfaa

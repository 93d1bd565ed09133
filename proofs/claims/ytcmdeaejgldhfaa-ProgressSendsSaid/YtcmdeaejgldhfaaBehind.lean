/-
  entries.own, entries.behind: entries of one's own, one behind the other.
-/
import Derived.Test.YtcmdeaejgldhfaaRangeV
import Derived.Test.YtcmdeaejgldhfaaComm
set_option linter.unusedVariables false
set_option linter.unusedSimpArgs false
namespace Go.HB
open Go.RowKit
/-- The blocks of cells of one type. -/
def isT (t : TypeId) (W : World) : FP := fun b => ∃ cs fr, W.heap[b]? = some (.cells cs t fr)
theorem isT.lt {t : TypeId} {W : World} {b : Nat} (h : isT t W b) : b < W.heap.size := by obtain ⟨cs, fr, h⟩ := h; exact block_lt h
theorem isT.at_ {t : TypeId} {W W' : World} {b : Nat} (h : isT t W b) (hb : W'.heap[b]? = W.heap[b]?) : isT t W' b := by obtain ⟨cs, fr, h⟩ := h; exact ⟨cs, fr, hb.trans h⟩
theorem isT.below {t : TypeId} {W W' : World} {b : Nat} (h : isT t W b) (hb : Below W.heap.size W W') : isT t W' b := h.at_ (hb.block b h.lt)
section
variable {α : Type}
theorem Mine.typed {e : Enc α} {t : TypeId} {w : World} {base : Nat} {F : FP} {v : Value} {xs : List α} (h : Mine e t w base F v xs) (b : Nat) (hb : v.ownBlock = some b) : isT t w b ∧ base ≤ b := by
  obtain ⟨_, _, cells, ho, _⟩ := h
  rcases ho.2 with ⟨rfl, _⟩ | ⟨g, off, cap, cur, rfl, hg, hh, _⟩
  · simp [Value.ownBlock] at hb
  · simp [Value.ownBlock] at hb
    subst hb
    exact ⟨⟨_, _, hh⟩, hg⟩
theorem Rd.typed {e : Enc α} {t : TypeId} {w w' : World} {F : FP} {v : Value} {xs : List α} (h : Rd e w F v xs) (hA : Agree F w w') (hF : ∀ b, F b → isT t w b) : Rd e w' (fun b => isT t w' b ∧ F b) v xs :=
  (h.lt.move (hA.mono fun b hb => hb.1)).mono fun b hb => ⟨(hF b hb.1).at_ (hA b hb.1), hb.1⟩
end
theorem bel_grownBy {w w' : World} (h : Below w.heap.size w w') : w.grownBy w' none := ⟨h.os, h.tape, h.output, h.size, fun k hk _ => h.block k hk⟩
abbrev EV := Ent × Value
def encEV (x : EV) : Array Value := #[.agg #[.int .i64 x.1.term, .int .i64 x.1.index, .int .i64 x.1.kind, x.2]]
def VEV (U : TypeId) (B : Nat) (x : EV) (W : World) : Prop := In64 x.1.term ∧ In64 x.1.index ∧ In64 x.1.kind ∧ Rd encU8 W (fun b => isT U W b ∧ B ≤ b) x.2 x.1.data
def KpEV (U : TypeId) (G : FP) (W W' : World) : Prop := Agree G W W' ∧ W.heap.size ≤ W'.heap.size ∧ ∀ b, isT U W b → W'.heap[b]? = W.heap[b]?
theorem KpEV.trans {U : TypeId} {G : FP} {A B C : World} (h : KpEV U G A B) (k : KpEV U G B C) : KpEV U G A C :=
  ⟨h.1.trans k.1, Nat.le_trans h.2.1 k.2.1, fun b hb => (k.2.2 b (hb.at_ (h.2.2 b hb))).trans (h.2.2 b hb)⟩
theorem KpEV.below {U : TypeId} {G : FP} {A B : World} (hG : ∀ b, G b → b < A.heap.size) (h : Below A.heap.size A B) : KpEV U G A B := ⟨fun b hb => h.block b (hG b hb), h.size, fun b hb => h.block b hb.lt⟩
theorem VEV.kept {U : TypeId} {B : Nat} {x : EV} {W W' : World} (h : VEV U B x W) (k : ∀ b, isT U W b → W'.heap[b]? = W.heap[b]?) : VEV U B x W' :=
  ⟨h.1, h.2.1, h.2.2.1, (h.2.2.2.move fun b hb => k b hb.1).mono fun b hb => ⟨hb.1.at_ (k b hb.1), hb.2⟩⟩
theorem VEV.form {U : TypeId} {B : Nat} {x : EV} {W : World} (h : VEV U B x W) : ∃ A c, x.2 = .slice A x.1.data.length c := by
  obtain ⟨A, c, h, _⟩ := h.2.2.2.slice
  exact ⟨A, c, h⟩
theorem filter_prefix {α : Type} (p : α → Bool) (xs : List α) (k : Nat) : (xs.take k).filter p <+: xs.filter p := ⟨(xs.drop k).filter p, by rw [← List.filter_append, List.take_append_drop]⟩
end Go.HB
namespace Go.Proofs.Ytcmdeaejgldhfaa
open Go.RowKit Go.HB Go.Shelf

set_option maxHeartbeats 400000 in
theorem cloneB_t (w : World) (F : FP) (v : Value) (xs : Bytes) (h : Rd encU8 w F v xs) :
    Calls Try.prog 53 #[v] w fun e w' => ∃ v', e = .returned v' ∧ Rd encU8 w' (fun b => isT 5 w' b ∧ w.heap.size ≤ b) v' xs ∧ Below w.heap.size w w' := by
  obtain ⟨A, c, rfl, hl, hm⟩ := h.slice
  cases A with
  | none =>
    have hx : xs = [] := by
      obtain ⟨A0, c0, hv, _, _, _, hc⟩ := h
      injection hv with e1 e2 e3
      rcases Nat.eq_zero_or_pos xs.length with h0 | h0
      · exact List.eq_nil_of_length_eq_zero h0
      · obtain ⟨ad, hA, _⟩ := hc h0
        rw [← e1] at hA; cases hA
    subst hx
    have hnil : ∀ W, (binOp .eql 52 (.slice none 0 c) (.slice none 0 0)).run Try.prog W = .ok (.bool true) W := fun W => Lib.run_eql_slice_nil (P := Try.prog) W 52 5 none 0 c 0 0 Try.underlying52
    go_enter Try.func53, Try.ntmps53
    go_wp2
    go_ret
    exact ⟨_, rfl, Rd.nil_ _ _ _, Below.refl _ _⟩
  | some ad =>
    have H := h.arg
    have hb := h.bytes_le
    clear h
    have hnil : ∀ W, (binOp .eql 52 (.slice (some ad) xs.length c) (.slice none 0 0)).run Try.prog W = .ok (.bool false) W := fun W => Lib.run_eql_slice_nil (P := Try.prog) W 52 5 (some ad) xs.length c 0 0 Try.underlying52
    go_enter Try.func53, Try.ntmps53
    go_wp2_with (at_builtin; go_must (refine own_append (w0 := w) encU8 rfl _ _ 52 5 (.int .u8 0) rfl Try.underlying52 info5 rfl none' (ltF w) (.slice (some ⟨_, 0, none⟩) 0 0) (.slice _ _ _) [] xs xs xs.length rfl rfl rfl rfl (Mine.lit0 _ _ _ _ _ ?c1 ?c7) ?c0 (H.at_ ?c2) ?c3 ?c4 ?c5 ?_))
    case c1 => simp
    case c7 => simp
    case c0 => repeat (first | with_reducible exact Below.refl _ _ | with_reducible assumption | with_reducible refine bel_alloc ?_ (Nat.le_refl _) _ | with_reducible refine bel_drew ?_ | with_reducible refine bel_drewN ?_ _ | (with_reducible refine bel_set ?_ ?_ _; · (simp <;> omega)))
    case c2 => repeat (first | with_reducible exact Below.refl _ _ | with_reducible assumption | with_reducible refine bel_alloc ?_ (Nat.le_refl _) _ | with_reducible refine bel_drew ?_ | with_reducible refine bel_drewN ?_ _ | (with_reducible refine bel_set ?_ ?_ _; · (simp <;> omega)))
    case c3 => intro b he hb; have := ltF_lt hb; simp [Value.ownBlock] at he; omega
    case c4 => simpa using hb
    case c5 => simpa [maxLen] using (show xs.length ≤ maxLen by omega)
    intro A1 c1 w1 HO HB hl1 hm1 hg hat
    go_wp2
    go_ret
    refine ⟨_, rfl, ?_, HB⟩
    have HO' := HO.flat flat_u8
    refine HO'.rd.mono fun b hb => ?_
    rcases hb with hb | hb
    · exact hb.elim
    · exact HO'.typed b hb

set_option maxRecDepth 100000 in
set_option maxHeartbeats 1000000 in
theorem eown_any (w : World) (F : FP) (x : Ent) (v : Value) (h : Rd encU8 w F v x.data) :
    Calls Try.prog 45 #[.agg #[.int .i64 x.term, .int .i64 x.index, .int .i64 x.kind, v]] w fun e w' => ∃ v', e = .returned (.agg #[.int .i64 x.term, .int .i64 x.index, .int .i64 x.kind, v']) ∧ Rd encU8 w' (fun b => isT 5 w' b ∧ w.heap.size ≤ b) v' x.data ∧ Below w.heap.size w w' := by
  obtain ⟨A, c, rfl, hl, hm⟩ := h.slice
  have H := h.arg
  clear h
  go_enter Try.func45, Try.ntmps45
  go_wp2_with (go_at_call 53; go_must (refine (cloneB_t _ (ltF w) _ x.data ((H.alloc _).alloc _)).mono ?_); rintro e w1 ⟨v1, rfl, hr1, hb1⟩; obtain ⟨A1, k1, rfl, hl1, hm1⟩ := hr1.slice; have G0 := (hb1.block w.heap.size (by simp; omega)).trans (heap_old (by simp) (heap_new rfl rfl)); have G1 := (hb1.block (w.heap.size + 1) (by simp)).trans (heap_new (by simp) rfl); obtain ⟨c0, c1, c2, c3, hf⟩ := blk4 G0; obtain ⟨d0, d1, d2, d3, hf2⟩ := blk4 G1; have HS := hb1.size)
  refine ret_cell (w.heap.size + 1) 54 #[.int .i64 x.term, .int .i64 x.index, .int .i64 x.kind, .slice A1 x.data.length k1] rfl rfl Try.underlying54 rfl (by kernel_rfl) rfl ?hh ?_
  case hh => (repeat (first | with_reducible assumption | (with_reducible refine heap_new ?_ rfl; (simp; done)) | (with_reducible refine heap_old ?_ ?_; · (simp <;> omega)) | with_reducible refine Go.HB.heap_drew ?_ | with_reducible refine heap_drewN ?_ | with_reducible apply heap_set | (with_reducible refine heap_far ?_ ?_; · (simp <;> omega)))) <;> rfl
  have hne0 : ∀ i : Nat, ¬ (fun b => isT 5 w1 b ∧ ((w.alloc (.cells #[.int .i64 x.term, .int .i64 x.index, .int .i64 x.kind, .slice A x.data.length c] 54)).alloc (.cells #[.int .i64 0, .int .i64 0, .int .i64 0, .slice none 0 0] 54)).heap.size ≤ b) (⟨w.heap.size, i, none⟩ : Addr).block := fun i h => by
    have := h.2; simp at this; omega
  have hne1 : ∀ i : Nat, ¬ (fun b => isT 5 w1 b ∧ ((w.alloc (.cells #[.int .i64 x.term, .int .i64 x.index, .int .i64 x.kind, .slice A x.data.length c] 54)).alloc (.cells #[.int .i64 0, .int .i64 0, .int .i64 0, .slice none 0 0] 54)).heap.size ≤ b) (⟨w.heap.size + 1, i, none⟩ : Addr).block := fun i h => by
    have := h.2; simp at this; omega
  have HB : Below w.heap.size w w1 := bel_then (bel_alloc (bel_alloc (Below.refl _ _) (Nat.le_refl _) _) (Nat.le_refl _) _) (Nat.le_refl _) hb1
  refine ⟨_, rfl, (Rd.typed hr1 (agree_set (hne1 3) (agree_set (hne1 2) (agree_set (hne1 1) (agree_set (hne1 0) (agree_set (hne0 3) (Agree.refl _ _) _) _) _) _) _) (fun b hb => hb.1)).mono (fun b hb => ⟨hb.1, by have := hb.2.2; simp at this; omega⟩), ?_⟩
  repeat (first | with_reducible exact Below.refl _ _ | with_reducible assumption | with_reducible refine bel_alloc ?_ (Nat.le_refl _) _ | with_reducible refine bel_drew ?_ | with_reducible refine bel_drewN ?_ _ | (with_reducible refine bel_set ?_ ?_ _; · (simp <;> omega)))

set_option maxHeartbeats 1000000 in
theorem behind_in (F : Fence) (n : Nat) (hf : F.fn 43) (hro : F.round = none) (a : Option Addr) (len cap : Nat) (i : Int) (w : World) :
    CallsIn F n Try.prog 43 #[.slice a len cap, .int .i64 i] w fun e w' => e = .returned (.func (.func 51) #[] #[.pointer (some ⟨w.heap.size, 0, none⟩), .pointer (some ⟨w.heap.size + 1, 0, none⟩)]) ∧ w' = (w.alloc (.cells #[.slice a len cap] 22)).alloc (.cells #[.int .i64 i] 3) := by
  refine callsIn_of_wp Try.func43 rfl hf ?_ hro
  simp only [Try.ntmps43, List.size_toArray, List.length_cons, List.length_nil, Nat.reduceAdd, Nat.reduceSub, Array.replicate_succ, Array.replicate_zero, List.push_toArray, List.append_toArray, List.nil_append, List.cons_append]
  gi_wp2
  go_ret
  exact ⟨rfl, rfl⟩

attribute [local go_sem] Oper.semAt_some
set_option maxRecDepth 100000 in
set_option maxHeartbeats 2000000 in
theorem behind1_in (l Bs Bi B0 : Nat) (A : Option Addr) (c : Nat) (xs : List Ent) (i : Int) (G : FP) (hGs : G Bs) (hGi : G Bi) (J Jx : List EV → World → Prop) (W : World) (hG : ∀ b, G b → b < W.heap.size) (hB0 : B0 ≤ W.heap.size) (hJ : AbidesFrom W.heap.size J)
    (hY : ∀ pre x W1, J pre W1 → VEV 5 B0 x W1 → YieldAt Fence.wide 7 Try.prog l (encEV x) W1 fun e W' => (e = .returned (.bool true) ∧ J (pre ++ [x]) W' ∧ KpEV 5 G W1 W') ∨ (e = .returned (.bool false) ∧ Jx (pre ++ [x]) W'))
    (hBs : W.cell? ⟨Bs, 0, none⟩ = some (.slice A xs.length c)) (hBi : W.cell? ⟨Bi, 0, none⟩ = some (.int .i64 i)) (hR : Rd encEnt W G (.slice A xs.length c) xs) (h0 : J [] W) :
    CallsIn Fence.wide 8 Try.prog 51 #[.func (.yield l) #[] #[], .pointer (some ⟨Bs, 0, none⟩), .pointer (some ⟨Bi, 0, none⟩)] W fun e W' => (∃ v, e = .returned v) ∧
      ((∃ ys, ys.map Prod.fst = xs.filter (fun x => decide (i ≤ x.index)) ∧ J ys W') ∨ (∃ pre, pre.map Prod.fst <+: xs.filter (fun x => decide (i ≤ x.index)) ∧ Jx pre W')) := by
  have hbn : xs.length ≤ 140737488355328 := by have hb := hR.bytes_le; simp only [encEnt, encIso] at hb; omega
  refine callsIn_of_wp Try.func51 rfl trivial ?_ rfl
  simp only [Try.ntmps51, List.size_toArray, List.length_cons, List.length_nil, Nat.reduceAdd, Nat.reduceSub, Array.replicate_succ, Array.replicate_zero, List.push_toArray, List.append_toArray, List.nil_append, List.cons_append]
  gi_wp2
  gi_loopw [8] (fun j wr => ∃ (k : Nat) (pre : List EV), k ≤ xs.length ∧ j = .int .i64 k ∧ pre.map Prod.fst = (xs.take k).filter (fun x => decide (i ≤ x.index)) ∧ J pre wr ∧ Agree G W wr ∧ W.heap.size ≤ wr.heap.size)
    (fun j _ => (xs.length - (intOf j).toNat))
  case atStart => exact ⟨0, [], Nat.zero_le _, rfl, by simp, h0, Agree.refl _ _, Nat.le_refl _⟩
  case round =>
    obtain ⟨k, pre, hk, rfl, hpre, hJs, hnx, hsz⟩ := hrel
    have HP := Lib.hid hpre
    clear hpre
    by_cases hlt : k < xs.length
    · obtain ⟨ad, v, rfl, e0, e1, e2, e3, i0, i1, i2, hd⟩ := ent_at (hR.move hnx) k hlt
      have HT := Lib.hid (List.take_succ_eq_append_getElem hlt)
      have HPX := Lib.hid (filter_prefix (fun x => decide (i ≤ x.index)) xs (k + 1))
      generalize xs[k] = x at *
      obtain ⟨A4, c4, rfl, hl4, hm4⟩ := hd.slice
      have hBi' : wr.cell? ⟨Bi, 0, none⟩ = some (.int .i64 i) := (hnx.cell (a := ⟨Bi, 0, none⟩) hGi).trans hBi
      have hbi : Bi < wr.heap.size := Nat.lt_of_lt_of_le (hG _ hGi) hsz
      by_cases hix : i ≤ x.index
      · have hJ0 : J pre (wr.alloc (.cells #[.int .i64 x.term, .int .i64 x.index, .int .i64 x.kind, .slice A4 x.data.length c4] 54)) := hJ _ _ _ none hJs (World.grownBy_alloc _ _ _) (fun r e => by cases e)
        gi_wp2_with (refine ⟨trivial, ?_⟩; gi_at_call 45; refine (callsIn_wide.2 (eown_any _ G x _ (hd.alloc _))).mono ?_; rintro e w1 ⟨v1, rfl, hr1, hb1⟩; obtain ⟨A1, k1, rfl, hl1, hm1⟩ := hr1.slice)
        have hJ1 : J pre w1 := hJ _ _ _ none hJ0 (bel_grownBy hb1) (fun r e => by cases e)
        have hGw : ∀ b, G b → b < wr.heap.size := fun b hb => Nat.lt_of_lt_of_le (hG b hb) hsz
        have hb1' : Below wr.heap.size wr w1 := bel_then (bel_alloc (Below.refl _ _) (Nat.le_refl _) _) (Nat.le_refl _) hb1
        have hV : VEV 5 B0 (x, .slice A1 x.data.length k1) w1 := ⟨i0, i1, i2, hr1.mono fun b hb => ⟨hb.1, by have := hb.2; simp at this; omega⟩⟩
        obtain ⟨fn, tmps, assign, body, hy, hRd⟩ := hY pre (x, .slice A1 x.data.length k1) w1 hJ1 hV
        dsimp only [encEV] at hy
        clear hr1 hV
        gi_wp2
        rw [hy]
        gi_wp2
        refine hRd.mono ?_
        rintro e W3 (⟨rfl, hJ3, hk3⟩ | ⟨rfl, hJx3⟩)
        · gi_wp2
          go_roundw
          case rel => exact ⟨k + 1, _, by omega, by go_num, by rw [HT.out, List.filter_append, List.map_append, HP.out]; simp [hix], hJ3, (hnx.trans (Agree.of_below hb1' hGw)).trans hk3.1, Nat.le_trans hsz (Nat.le_trans hb1'.size hk3.2.1)⟩
          case measure => simp [intOf]; omega
        · gi_wp2
          refine bodyPost_ret (results_none rfl _ _ _) rfl ⟨⟨_, rfl⟩, .inr ⟨_, ?_, hJx3⟩⟩
          have := HPX.out
          rw [HT.out, List.filter_append] at this
          rw [List.map_append, HP.out]
          simpa [hix] using this
      · gi_wp2
        refine ⟨trivial, ?_⟩
        gi_wp2
        refine ⟨(fun f h => by cases h), ?_⟩
        gi_wp2
        go_roundw
        case rel => exact ⟨k + 1, pre, by omega, by go_num, by rw [HT.out, List.filter_append, HP.out]; simp [hix], hJ _ _ _ none hJs (World.grownBy_alloc _ _ _) (fun r e => by cases e), hnx.trans (Agree.of_below ((Below.refl _ _).alloc (Nat.le_refl _) _) fun b hb => Nat.lt_of_lt_of_le (hG b hb) hsz), by simp; omega⟩
        case measure => simp [intOf]; omega
    · obtain rfl : k = xs.length := by omega
      gi_wp2
      go_end0
      exact ⟨⟨_, rfl⟩, .inl ⟨pre, by rw [HP.out, List.take_length], hJs⟩⟩
end Go.Proofs.Ytcmdeaejgldhfaa

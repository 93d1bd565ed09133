/-
  slices.Backward over bytes: its contract.
-/
import Derived.RangeFuncNested
import Derived.RangeFuncBound
import Derived.RangeFuncCalls
import Derived.RangeFuncLeaves
import Derived.RangeFuncFrom
import Derived.RangeFuncBox
import Derived.OwnWalkIn
import Derived.TacticsInMore
import Derived.LoopNIn
import Derived.LoopIn
import Derived.Shelf.Abstract
import Derived.Shelf.RegionOpen
import Derived.Test.YtcmdeaejgldhfaaWire
set_option linter.unusedVariables false
set_option linter.unusedSimpArgs false
namespace Go.HB
open Go.RowKit
section
variable {α : Type}
theorem Mine.turn {e : Enc α} {t : TypeId} {w w' : World} {base : Nat} {F : FP} {v : Value} {xs : List α} {row : Option Nat} (h : Mine e t w base F v xs) (hg : w.grownBy w' row) (hr : ∀ r, row = some r → ∃ o : Obj, w.heap[r]? = some o ∧ o.isCells = false) : Mine e t w' base F v xs := by
  have key : ∀ b, CellAt w b → w'.heap[b]? = w.heap[b]? := fun b hb => hg.block b hb.lt fun e => by
    obtain ⟨o, ho, hc⟩ := hr b e.symm
    obtain ⟨cs, t, fr, hb⟩ := hb
    rw [ho] at hb; injection hb with hb; subst hb; cases hc
  refine h.move fun b hb => ?_
  rcases hb with hb | hb
  · exact key b (h.1 b hb).1
  · obtain ⟨_, _, cells, ho, _⟩ := h
    rcases ho.2 with ⟨rfl, _⟩ | ⟨g, off, cap, cur, rfl, _, hh, _⟩
    · simp [Value.ownBlock] at hb
    · simp [Value.ownBlock] at hb; subst hb
      exact key _ ⟨_, _, _, hh⟩
theorem Rd.turn {e : Enc α} {w w' : World} {F : FP} {v : Value} {xs : List α} {row : Option Nat} (h : Rd e w F v xs) (hg : w.grownBy w' row) (hr : ∀ r, row = some r → ∃ o : Obj, w.heap[r]? = some o ∧ o.isCells = false) : Rd e w' F v xs := by
  refine (h.lt.move fun b hb => hg.block b hb.2.lt fun e => ?_).mono fun _ h => h.1
  obtain ⟨o, ho, hc⟩ := hr b e.symm
  obtain ⟨cs, t, fr, hb⟩ := hb.2
  rw [ho] at hb; injection hb with hb; subst hb; cases hc
/-- What comes of a slice that is gone through backwards: elements and their places. -/
def back (xs : List α) : List (α × Nat) := xs.zipIdx.reverse
theorem back_length (xs : List α) : (back xs).length = xs.length := by simp [back]
theorem back_get (xs : List α) (k : Nat) (hk : k < xs.length) : (back xs)[k]'(by rw [back_length]; exact hk) = (xs[xs.length - 1 - k], xs.length - 1 - k) := by
  simp [back]
end
theorem cell_new_l (W : World) (v : Value) (t : TypeId) : (W.alloc (.cells #[v] t)).cell? ⟨W.heap.size, 0, none⟩ = some v ∧ (W.alloc (.cells #[v] t)).frozen? ⟨W.heap.size, 0, none⟩ = false := by
  obtain ⟨h, f⟩ := blk1 (W := W.alloc (.cells #[v] t)) (B := W.heap.size) (heap_new rfl rfl)
  exact ⟨h, f 0⟩
theorem cell_alloc_l {W : World} {a : Addr} {v : Value} (o : Obj) (h : W.cell? a = some v) : (W.alloc o).cell? a = some v := cell_kept h (World.grownBy_alloc W o none) (fun r e => by cases e)
theorem frozen_alloc_l {W : World} {a : Addr} {v : Value} (o : Obj) (h : W.cell? a = some v) (hf : W.frozen? a = false) : (W.alloc o).frozen? a = false := (frozen_kept h (World.grownBy_alloc W o none) (fun r e => by cases e)).trans hf
theorem agreeK_t {G : FP} {A B C : World} (h : Agree G A B) (k : Agree G B C) : Agree G A C := h.trans k
theorem agreeK_b {G : FP} {w : World} (hG : ∀ b, G b → b < w.heap.size) (W : World) (l : Nat) (o o' : Obj) (hl : w.heap.size ≤ l) (h : W.heap[l]? = some o) (_ : o.isCells = false) (_ : o.isWalk = false) : Agree G W (W.putObj l o') :=
  fun b hb => (grownBy_putObj' W l o').block b (by have := hG b hb; have := block_lt h; omega) (fun e => by have := hG b hb; cases e; omega)
end Go.HB
namespace Go.Proofs.Ytcmdeaejgldhfaa
open Go.RowKit Go.HB Go.Shelf
attribute [local go_sem] Oper.semAt_some

set_option maxRecDepth 100000 in
set_option maxHeartbeats 1000000 in
theorem backB1_in (F : Fence) (n : Nat) (hf : F.fn 96) (hro : F.round = none) (hn : 1 ≤ n) (l Bs : Nat) (A : Option Addr) (c : Nat) (xs : Bytes) (G : FP) (hG : G Bs) (J Jx : List (UInt8 × Nat) → World → Prop)
    (hY : ∀ pre x W, J pre W → pre.length < xs.length → YieldAt F (n - 1) Try.prog l #[.int .i64 (x.2 : Int), .int .u8 (x.1.toNat : Int)] W fun e W' =>
      (e = .returned (.bool true) ∧ J (pre ++ [x]) W' ∧ Agree G W W') ∨ (e = .returned (.bool false) ∧ Jx (pre ++ [x]) W'))
    (W : World) (hBs : W.cell? ⟨Bs, 0, none⟩ = some (.slice A xs.length c)) (hR : Rd encU8 W G (.slice A xs.length c) xs) (h0 : J [] W) :
    CallsIn F n Try.prog 96 #[.func (.yield l) #[] #[], .pointer (some ⟨Bs, 0, none⟩)] W fun e W' => (∃ v, e = .returned v) ∧
      ((∃ ys, ys = back xs ∧ J ys W') ∨ (∃ pre, pre <+: back xs ∧ Jx pre W')) := by
  have hlen := hR.len_le
  refine callsIn_of_wp Try.func96 rfl hf ?_ hro
  simp only [Try.ntmps96, List.size_toArray, List.length_cons, List.length_nil, Nat.reduceAdd, Nat.reduceSub, Array.replicate_succ, Array.replicate_zero, List.push_toArray, List.append_toArray, List.nil_append, List.cons_append]
  gi_wp2
  gi_loopw [3] (fun i wr => ∃ k : Nat, k ≤ xs.length ∧ i = .int .i64 ((xs.length : Int) - 1 - k) ∧ J ((back xs).take k) wr ∧ Agree G W wr)
    (fun i _ => (intOf i + 1).toNat)
  case atStart => exact ⟨0, Nat.zero_le _, by simp, by simpa using h0, Agree.refl _ _⟩
  case round =>
    obtain ⟨k, hk, rfl, hJs, hnx⟩ := hrel
    have hBs' : wr.cell? ⟨Bs, 0, none⟩ = some (.slice A xs.length c) := (hnx.cell (a := ⟨Bs, 0, none⟩) hG).trans hBs
    by_cases hlt : k < xs.length
    · obtain ⟨j, hj⟩ : ∃ j : Nat, j = xs.length - 1 - k := ⟨_, rfl⟩
      have hjl : j < xs.length := by omega
      have ej : (xs.length : Int) - 1 - k = (j : Int) := by omega
      obtain ⟨ad, rfl, hcx⟩ := (hR.move hnx).byte_at j hjl
      obtain ⟨fn, tmps, assign, body, hy, hRd⟩ := hY _ (xs[j], j) wr hJs (by rw [List.length_take, back_length]; omega)
      dsimp only at hy
      have hnext : (back xs).take k ++ [(xs[j], j)] = (back xs).take (k + 1) := by
        rw [← List.take_append_getElem (by rw [back_length]; exact hlt), back_get xs k hlt]
        subst hj; rfl
      rw [ej]
      clear ej
      have Hj := Lib.hid hj
      clear hj
      have Hn := Lib.hid hnext
      clear hnext
      gi_wp2
      refine hRd.mono ?_
      rintro e W3 (⟨rfl, hJ3, hk3⟩ | ⟨rfl, hJx3⟩)
      · gi_wp2
        go_roundw
        case rel => exact ⟨k + 1, by omega, by have := Hj.out; go_num, by rw [← Hn.out]; exact hJ3, hnx.trans hk3⟩
        case measure => simp [intOf] <;> omega
      · gi_wp2
        refine bodyPost_ret (results_none rfl _ _ _) rfl ?_
        refine ⟨⟨_, rfl⟩, .inr ⟨_, ?_, hJx3⟩⟩
        rw [Hn.out]; exact List.take_prefix _ _
    · obtain rfl : k = xs.length := by omega
      gi_wp2
      go_end0
      exact ⟨⟨_, rfl⟩, .inl ⟨_, rfl, by rwa [← back_length, List.take_length] at hJs⟩⟩

set_option maxHeartbeats 1000000 in
theorem backB_in (F : Fence) (n : Nat) (hf : F.fn 95) (hro : F.round = none) (a : Option Addr) (len cap : Nat) (w : World) :
    CallsIn F n Try.prog 95 #[.slice a len cap] w fun e w' => e = .returned (.func (.func 96) #[] #[.pointer (some ⟨w.heap.size, 0, none⟩)]) ∧ w' = w.alloc (.cells #[.slice a len cap] 52) := by
  refine callsIn_of_wp Try.func95 rfl hf ?_ hro
  simp only [Try.ntmps95, List.size_toArray, List.length_cons, List.length_nil, Nat.reduceAdd, Nat.reduceSub, Array.replicate_succ, Array.replicate_zero, List.push_toArray, List.append_toArray, List.nil_append, List.cons_append]
  gi_wp2
  go_ret
  exact ⟨rfl, rfl⟩

theorem backB_stops (F : Fence) (n : Nat) (hf : F.fn 96) (hro : F.round = none) (hn : 1 ≤ n) (Bs : Nat) (A : Option Addr) (c : Nat) (xs : Bytes) (G : FP) (hG : G Bs) (w : World) (hGw : ∀ b, G b → b < w.heap.size)
    (hBs : w.cell? ⟨Bs, 0, none⟩ = some (.slice A xs.length c)) (hR : Rd encU8 w G (.slice A xs.length c) xs) :
    SeqStopsK F n Try.prog 96 #[.pointer (some ⟨Bs, 0, none⟩)] (fun x : UInt8 × Nat => #[.int .i64 (x.2 : Int), .int .u8 (x.1.toNat : Int)]) (Agree G) (fun ys => ys = back xs) (fun pre => pre <+: back xs) xs.length w := fun l J Jx W hW _ _ hY h0 => by
  have hA : Agree G w W := Agree.of_below hW hGw
  exact backB1_in F n hf hro hn l Bs A c xs G hG J Jx hY W ((hA.cell (a := ⟨Bs, 0, none⟩) hG).trans hBs) (hR.move hA) h0
end Go.Proofs.Ytcmdeaejgldhfaa

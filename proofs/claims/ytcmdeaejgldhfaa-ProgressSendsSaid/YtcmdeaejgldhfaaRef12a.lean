/-
  The document's last and at.
-/
import Derived.Test.YtcmdeaejgldhfaaRef03b
set_option linter.unusedVariables false
set_option linter.unusedSimpArgs false
namespace Go.Proofs.Ytcmdeaejgldhfaa
open Go.RowKit Go.HB Go.Shelf

set_option maxHeartbeats 1000000 in
theorem rlst_any (w : World) (x : View) (A : Option Addr) (c : Nat) (hb : -9223372036854775808 ≤ x.base) (hb2 : x.base ≤ 549755813888) (hn : x.l.length ≤ 4096) :
    Calls Try.prog 32 #[.agg #[.int .i64 x.base, .int .i64 x.term, .slice A x.l.length c]] w fun e w' => e = .returned (.int .i64 x.last) ∧ Below w.heap.size w w' := by
  go_enter Try.func32, Try.ntmps32
  go_wp2
  go_ret
  exact ⟨rfl, bel_alloc (Below.refl _ _) (Nat.le_refl _) _⟩

set_option maxHeartbeats 1000000 in
theorem rat_any (w : World) (F : FP) (x : View) (v : Value) (h : Rd encEnt w F v x.l) (hx : x.ok = true) (i : Int) (hi : x.base ≤ i ∧ i ≤ x.last) :
    Calls Try.prog 33 #[.agg #[.int .i64 x.base, .int .i64 x.term, v], .int .i64 i] w fun e w' => e = .returned (.int .i64 (x.at_ i)) ∧ Below w.heap.size w w' := by
  obtain ⟨A, c, rfl, hl, hm⟩ := h.slice
  have H := h.arg
  clear h
  obtain ⟨r1, r2, r3, r4, r5⟩ := View.ok_range hx
  obtain ⟨i1, i2⟩ := hi
  unfold View.last at i2
  by_cases hbi : i = x.base
  · have HB := Lib.hid (View.at_base hbi)
    go_enter Try.func33, Try.ntmps33
    go_wp2
    all_goals go_ret
    exact ⟨congrArg (fun n => Ending.returned (Value.int .i64 n)) HB.out.symm, bel_alloc (Below.refl _ _) (Nat.le_refl _) _⟩
  · obtain ⟨k, hk⟩ : ∃ k : Nat, i - x.base - 1 = k := ⟨(i - x.base - 1).toNat, by omega⟩
    have hkl : k < x.l.length := by omega
    have HB := Lib.hid (View.at_row k hk hkl)
    obtain ⟨ad, v, rfl, e0, e1, e2, e3, i0, i1, i2, hd⟩ := ent_at (H.alloc (.cells #[.int .i64 x.base, .int .i64 x.term, .slice A x.l.length c] 24)) k hkl
    generalize x.l[k] = y at *
    go_enter Try.func33, Try.ntmps33
    go_wp2
    all_goals go_ret
    exact ⟨congrArg (fun n => Ending.returned (Value.int .i64 n)) HB.out.symm, bel_alloc (Below.refl _ _) (Nat.le_refl _) _⟩

end Go.Proofs.Ytcmdeaejgldhfaa

/-
  THE LAW ProgressSends: for every input it returns true; the input reads as it did.
-/
import Derived.Test.YtcmdeaejgldhfaaRows
import Derived.Test.YtcmdeaejgldhfaaOpen2
import Derived.Test.YtcmdeaejgldhfaaSends
set_option linter.unusedVariables false
set_option linter.unusedSimpArgs false
namespace Go.Proofs.Ytcmdeaejgldhfaa.progressSends
open Go.ChangeShapes Go.WideShapes Go.ChangeAt Go.RowKit Go.HB
theorem own : ownKnob Try.prog.godebug = none := by kernel_rfl
theorem laidOut : laidOutB Try.prog = true := by kernel_rfl
set_option maxRecDepth 100000 in
theorem lifted (os : Os) (started : os.Started) (H : Type) (enc : TypeId × Value → H) :
    ReturnsInHanded {} Try.checked os 6 .any (Rows.progressSendsSpec.pre6 enc Try.prog Try.f6 Rows.progressSendsRow.domain false) (Rows.progressSendsSpec.post enc Try.prog Try.f6 false true false false) := by
  refine returnsInHanded_of_change_sized (C := Try.checked) own started (by kernel_rfl) Try.func6
    (ChangeSpec.witness6 (enc := enc) (C := Try.checked) false ⟨#[], #[.agg #[.int .i64 0, .int .i64 0, .slice none 0 0], .int .i64 0], []⟩ 8 (by kernel_rfl) (by kernel_rfl) (by kernel_rfl) (by kernel_rfl)) ?_
  intro W base args ds gs before hval0 hW hcnd hsz0 _
  have hsz : (DataW.weightsEach Try.prog (Try.f6.params.toList ++ Rows.progressSendsSpec.plain.varTypes Try.prog) (ds ++ gs)).all (· ≤ reachBytes) = true := hsz0
  have hval : ∀ (j : Nat) t v, Try.f6.params[j]? = some t → args[j]? = some v → Value.okWide Try.prog W .any base t v := hval0
  have hW' := hW
  obtain ⟨p, q, hA0, hV, rfl, hfz, hnd⟩ := hW
  have hA : DataW.TrodAll enc Try.prog W 0 (fun _ => true) true Try.f6.params.toList args.toList ds p := hA0
  rw [Try.params6] at hA hval hsz
  obtain ⟨v0, vs0, d0, ds0, p0, q0, hargs, rfl, rfl, h0, r0⟩ := trodAll_cons hA
  obtain ⟨v1, vs1, d1, ds1, p1, q1, rfl, rfl, rfl, h1, r1⟩ := trodAll_cons r0
  obtain ⟨rfl, rfl, rfl⟩ := trodAll_nil r1
  obtain rfl : args = #[v0, v1] := by cases args; simp_all
  obtain ⟨rfl, rfl⟩ := trodVars_none hV
  have lt0 : ∀ x ∈ p0, x.block < W.heap.size := by obtain ⟨m, hm⟩ := h0; exact DataW.trod_lt m _ _ _ hm
  obtain ⟨y0, hy0⟩ := open_arg (j := 0) (opn_view H enc W) h0 hsz rfl rfl
  have hs0 := okWide_struct Try.underlying24 (hval 0 24 v0 rfl rfl)
  have lt1 : ∀ x ∈ p1, x.block < W.heap.size := by obtain ⟨m, hm⟩ := h1; exact DataW.trod_lt m _ _ _ hm
  obtain ⟨y1, hy1⟩ := open_arg (j := 1) (opn_int Try.underlying3) h1 hsz rfl rfl
  have hs1 := okWide_int Try.underlying3 (hval 1 3 v1 rfl rfl)
  obtain ⟨u0, rfl, b0, t0, e0⟩ := val_view hs0 hy0
  obtain ⟨n1, hn1⟩ := hs1
  obtain ⟨rfl, i1⟩ := val_int hn1 hy1
  clear hA0 hval0 hsz0 hsz
  refine (psends_any W (fun _ => True) y0 _ e0 b0 t0 y1 i1).mono fun e W' ⟨he, bel⟩ => ?_
  subst he
  exact ⟨_, rfl, _, _, _, [], _, [], hW', trodAll_mk1 (shut_bool Try.underlying4 _), (trodAll_cons_mk (Below.trod laidOut (by kernel_rfl) (of_decide_eq_true (by kernel_rfl)) h0 bel lt0) (trodAll_cons_mk (Below.trod laidOut (by kernel_rfl) (of_decide_eq_true (by kernel_rfl)) h1 bel lt1) trodAll_mk0)), rfl, bel.frame _, fun h => by cases h⟩
theorem over : Rows.progressSendsRow.holds Try.pinned (OpenSpec.ofChange Rows.progressSendsSpec) :=
  OpenClaim.holds_of_wide 6 Try.f6 rfl rfl rfl rfl rfl rfl rfl ⟨rfl, rfl, rfl, rfl, rfl⟩ rfl rfl rfl rfl rfl (by kernel_rfl) Try.func6 (by kernel_rfl)
    (of_decide_eq_true (by kernel_rfl)) (by unfold Func.isWrapper; first | (rw [if_pos (by decide +kernel)]; kernel_rfl) | (rw [if_neg (by decide +kernel)]; exact ⟨rfl, rfl⟩))
    (fun os started H enc _ => lifted os started H enc)
theorem proved : Rows.ProgressSendsSaid := over
end Go.Proofs.Ytcmdeaejgldhfaa.progressSends
namespace Go.Proofs.Ytcmdeaejgldhfaa
theorem progressSends_holds : Rows.ProgressSendsSaid := progressSends.proved
end Go.Proofs.Ytcmdeaejgldhfaa
#print axioms Go.Proofs.Ytcmdeaejgldhfaa.progressSends_holds

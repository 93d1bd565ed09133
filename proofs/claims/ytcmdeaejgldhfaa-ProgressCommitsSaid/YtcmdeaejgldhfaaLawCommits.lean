/-
  THE LAW ProgressCommits: for every input it returns true; the input reads as it did.
-/
import Derived.Test.YtcmdeaejgldhfaaRows
import Derived.Test.YtcmdeaejgldhfaaOpen2
import Derived.Test.YtcmdeaejgldhfaaCommits
set_option linter.unusedVariables false
set_option linter.unusedSimpArgs false
namespace Go.Proofs.Ytcmdeaejgldhfaa.progressCommits
open Go.ChangeShapes Go.WideShapes Go.ChangeAt Go.RowKit Go.HB
theorem own : ownKnob Try.prog.godebug = none := by kernel_rfl
theorem laidOut : laidOutB Try.prog = true := by kernel_rfl
set_option maxRecDepth 100000 in
theorem lifted (os : Os) (started : os.Started) (H : Type) (enc : TypeId × Value → H) :
    ReturnsInHanded {} Try.checked os 3 .any (Rows.progressCommitsSpec.pre6 enc Try.prog Try.f3 Rows.progressCommitsRow.domain false) (Rows.progressCommitsSpec.post enc Try.prog Try.f3 false true false false) := by
  refine returnsInHanded_of_change_sized (C := Try.checked) own started (by kernel_rfl) Try.func3
    (ChangeSpec.witness6 (enc := enc) (C := Try.checked) false ⟨#[], #[.agg #[.int .i64 0, .int .i64 0, .slice none 0 0], .slice none 0 0, .slice none 0 0, .int .i64 0, .int .i64 0], []⟩ 8 (by kernel_rfl) (by kernel_rfl) (by kernel_rfl) (by kernel_rfl)) ?_
  intro W base args ds gs before hval0 hW hcnd hsz0 _
  have hsz : (DataW.weightsEach Try.prog (Try.f3.params.toList ++ Rows.progressCommitsSpec.plain.varTypes Try.prog) (ds ++ gs)).all (· ≤ reachBytes) = true := hsz0
  have hval : ∀ (j : Nat) t v, Try.f3.params[j]? = some t → args[j]? = some v → Value.okWide Try.prog W .any base t v := hval0
  have hW' := hW
  obtain ⟨p, q, hA0, hV, rfl, hfz, hnd⟩ := hW
  have hA : DataW.TrodAll enc Try.prog W 0 (fun _ => true) true Try.f3.params.toList args.toList ds p := hA0
  rw [Try.params3] at hA hval hsz
  obtain ⟨v0, vs0, d0, ds0, p0, q0, hargs, rfl, rfl, h0, r0⟩ := trodAll_cons hA
  obtain ⟨v1, vs1, d1, ds1, p1, q1, rfl, rfl, rfl, h1, r1⟩ := trodAll_cons r0
  obtain ⟨v2, vs2, d2, ds2, p2, q2, rfl, rfl, rfl, h2, r2⟩ := trodAll_cons r1
  obtain ⟨v3, vs3, d3, ds3, p3, q3, rfl, rfl, rfl, h3, r3⟩ := trodAll_cons r2
  obtain ⟨v4, vs4, d4, ds4, p4, q4, rfl, rfl, rfl, h4, r4⟩ := trodAll_cons r3
  obtain ⟨rfl, rfl, rfl⟩ := trodAll_nil r4
  obtain rfl : args = #[v0, v1, v2, v3, v4] := by cases args; simp_all
  obtain ⟨rfl, rfl⟩ := trodVars_none hV
  have lt0 : ∀ x ∈ p0, x.block < W.heap.size := by obtain ⟨m, hm⟩ := h0; exact DataW.trod_lt m _ _ _ hm
  obtain ⟨y0, hy0⟩ := open_arg (j := 0) (opn_view H enc W) h0 hsz rfl rfl
  have hs0 := okWide_struct Try.underlying24 (hval 0 24 v0 rfl rfl)
  have lt1 : ∀ x ∈ p1, x.block < W.heap.size := by obtain ⟨m, hm⟩ := h1; exact DataW.trod_lt m _ _ _ hm
  obtain ⟨y1, hy1⟩ := open_arg (j := 1) (opn_ints H enc W) h1 hsz rfl rfl
  have hs1 := okWide_slice Try.underlying25 (hval 1 25 v1 rfl rfl)
  have lt2 : ∀ x ∈ p2, x.block < W.heap.size := by obtain ⟨m, hm⟩ := h2; exact DataW.trod_lt m _ _ _ hm
  obtain ⟨y2, hy2⟩ := open_arg (j := 2) (opn_ints H enc W) h2 hsz rfl rfl
  have hs2 := okWide_slice Try.underlying25 (hval 2 25 v2 rfl rfl)
  have lt3 : ∀ x ∈ p3, x.block < W.heap.size := by obtain ⟨m, hm⟩ := h3; exact DataW.trod_lt m _ _ _ hm
  obtain ⟨y3, hy3⟩ := open_arg (j := 3) (opn_int Try.underlying3) h3 hsz rfl rfl
  have hs3 := okWide_int Try.underlying3 (hval 3 3 v3 rfl rfl)
  have lt4 : ∀ x ∈ p4, x.block < W.heap.size := by obtain ⟨m, hm⟩ := h4; exact DataW.trod_lt m _ _ _ hm
  obtain ⟨y4, hy4⟩ := open_arg (j := 4) (opn_int Try.underlying3) h4 hsz rfl rfl
  have hs4 := okWide_int Try.underlying3 (hval 4 3 v4 rfl rfl)
  obtain ⟨u0, rfl, b0, t0, e0⟩ := val_view hs0 hy0
  have e1 := val_slice hs1 hy1
  have e2 := val_slice hs2 hy2
  obtain ⟨n3, hn3⟩ := hs3
  obtain ⟨rfl, i3⟩ := val_int hn3 hy3
  obtain ⟨n4, hn4⟩ := hs4
  obtain ⟨rfl, i4⟩ := val_int hn4 hy4
  clear hA0 hval0 hsz0 hsz
  refine (pcommits_any W (fun _ => True) y0 _ _ _ y1 y2 e0 b0 t0 e1 e2 y3 y4 i3).mono fun e W' ⟨he, bel⟩ => ?_
  subst he
  exact ⟨_, rfl, _, _, _, [], _, [], hW', trodAll_mk1 (shut_bool Try.underlying4 _), (trodAll_cons_mk (Below.trod laidOut (by kernel_rfl) (of_decide_eq_true (by kernel_rfl)) h0 bel lt0) (trodAll_cons_mk (Below.trod laidOut (by kernel_rfl) (of_decide_eq_true (by kernel_rfl)) h1 bel lt1) (trodAll_cons_mk (Below.trod laidOut (by kernel_rfl) (of_decide_eq_true (by kernel_rfl)) h2 bel lt2) (trodAll_cons_mk (Below.trod laidOut (by kernel_rfl) (of_decide_eq_true (by kernel_rfl)) h3 bel lt3) (trodAll_cons_mk (Below.trod laidOut (by kernel_rfl) (of_decide_eq_true (by kernel_rfl)) h4 bel lt4) trodAll_mk0))))), rfl, bel.frame _, fun h => by cases h⟩
theorem over : Rows.progressCommitsRow.holds Try.pinned (OpenSpec.ofChange Rows.progressCommitsSpec) :=
  OpenClaim.holds_of_wide 3 Try.f3 rfl rfl rfl rfl rfl rfl rfl ⟨rfl, rfl, rfl, rfl, rfl⟩ rfl rfl rfl rfl rfl (by kernel_rfl) Try.func3 (by kernel_rfl)
    (of_decide_eq_true (by kernel_rfl)) (by unfold Func.isWrapper; first | (rw [if_pos (by decide +kernel)]; kernel_rfl) | (rw [if_neg (by decide +kernel)]; exact ⟨rfl, rfl⟩))
    (fun os started H enc _ => lifted os started H enc)
theorem proved : Rows.ProgressCommitsSaid := over
end Go.Proofs.Ytcmdeaejgldhfaa.progressCommits
namespace Go.Proofs.Ytcmdeaejgldhfaa
theorem progressCommits_holds : Rows.ProgressCommitsSaid := progressCommits.proved
end Go.Proofs.Ytcmdeaejgldhfaa
#print axioms Go.Proofs.Ytcmdeaejgldhfaa.progressCommits_holds

/-
  THE LAW ProgressForward: for every input it returns true; the input reads as it did.
-/
import Derived.Test.YtcmdeaejgldhfaaRows
import Derived.Test.YtcmdeaejgldhfaaOpen
set_option linter.unusedVariables false
set_option linter.unusedSimpArgs false
namespace Go.Proofs.Ytcmdeaejgldhfaa.progressForward
open Go.ChangeShapes Go.WideShapes Go.ChangeAt Go.RowKit Go.HB
theorem own : ownKnob Try.prog.godebug = none := by kernel_rfl
theorem laidOut : laidOutB Try.prog = true := by kernel_rfl
set_option maxRecDepth 100000 in
theorem opn (H : Type) (enc : TypeId × Value → H) (W : World) : Opn enc Try.prog W (encSlice encWord) 36 :=
  opn_slice Try.underlying36 (by kernel_rfl) (by decide) (by kernel_rfl)
    (opn_iso (g := fun p => ⟨p.1, p.2⟩) (fun _ => rfl) (opn_two Try.underlying42 (by kernel_rfl) rfl rfl (by kernel_rfl) (by kernel_rfl) (opn_bool Try.underlying4) (opn_int Try.underlying3)))
set_option maxRecDepth 100000 in
theorem lifted (os : Os) (started : os.Started) (H : Type) (enc : TypeId × Value → H) :
    ReturnsInHanded {} Try.checked os 5 .any (Rows.progressForwardSpec.pre6 enc Try.prog Try.f5 Rows.progressForwardRow.domain false) (Rows.progressForwardSpec.post enc Try.prog Try.f5 false true false false) := by
  refine returnsInHanded_of_change_sized (C := Try.checked) own started (by kernel_rfl) Try.func5
    (ChangeSpec.witness6 (enc := enc) (C := Try.checked) false ⟨#[], #[.int .i64 0, .slice none 0 0], []⟩ 8 (by kernel_rfl) (by kernel_rfl) (by kernel_rfl) (by kernel_rfl)) ?_
  intro W base args ds gs before hval0 hW hcnd hsz0 _
  have hsz : (DataW.weightsEach Try.prog (Try.f5.params.toList ++ Rows.progressForwardSpec.plain.varTypes Try.prog) (ds ++ gs)).all (· ≤ reachBytes) = true := hsz0
  have hval : ∀ (j : Nat) t v, Try.f5.params[j]? = some t → args[j]? = some v → Value.okWide Try.prog W .any base t v := hval0
  have hW' := hW
  obtain ⟨p, q, hA0, hV, rfl, hfz, hnd⟩ := hW
  have hA : DataW.TrodAll enc Try.prog W 0 (fun _ => true) true Try.f5.params.toList args.toList ds p := hA0
  rw [Try.params5] at hA hval hsz
  obtain ⟨v0, vs0, d0, ds0, p0, q0, hargs, rfl, rfl, h0, r0⟩ := trodAll_cons hA
  obtain ⟨v1, vs1, d1, ds1, p1, q1, rfl, rfl, rfl, h1, r1⟩ := trodAll_cons r0
  obtain ⟨rfl, rfl, rfl⟩ := trodAll_nil r1
  obtain rfl : args = #[v0, v1] := by cases args; simp_all
  obtain ⟨rfl, rfl⟩ := trodVars_none hV
  obtain ⟨a0, rfl, rfl, rfl, w0⟩ := open_int Try.underlying3 (hval 0 3 v0 rfl rfl) h0
  obtain ⟨a1, len1, cap1, rfl⟩ := okWide_slice Try.underlying36 (hval 1 36 v1 rfl rfl)
  have k1 := h1
  have lt1 : ∀ x ∈ p1, x.block < W.heap.size := by obtain ⟨m, hm⟩ := k1; exact DataW.trod_lt m _ _ _ hm
  obtain ⟨xs, hR⟩ : ∃ xs, Rd encWord W (fun _ => True) (.slice a1 len1 cap1) xs := by
    obtain ⟨n, hn⟩ := h1
    have hw : (DataW.weights Try.prog 36 d1).all (· ≤ reachBytes) = true := List.all_eq_true.2 fun q hq => List.all_eq_true.1 hsz q (DataW.weights_mem_each (j := 1) (t := 36) rfl rfl q hq)
    obtain ⟨y, v, hv, hy⟩ := opn H enc W n _ _ _ hn hw
    obtain rfl : Value.slice a1 len1 cap1 = v := by simpa [Value.cells] using hv
    exact ⟨y, hy⟩
  have hl : In64 a0 := by
    simp only [Lit.wf, Bool.and_eq_true, decide_eq_true_eq] at w0
    rw [show IntKind.i64.min = -9223372036854775808 from by decide, show IntKind.i64.max = 9223372036854775807 from by decide] at w0
    exact w0
  clear hA0 hval0 hsz0 hsz
  refine (pforward_any W (fun _ => True) a0 _ xs hR hl).mono fun e W' ⟨he, bel⟩ => ?_
  subst he
  exact ⟨_, rfl, _, _, _, [], _, [], hW', trodAll_mk1 (shut_bool Try.underlying4 _), (trodAll_cons_mk (shut_int Try.underlying3 w0) (trodAll_cons_mk (Below.trod laidOut (by kernel_rfl) (of_decide_eq_true (by kernel_rfl)) k1 bel lt1) trodAll_mk0)), rfl, bel.frame _, fun h => by cases h⟩
theorem over : Rows.progressForwardRow.holds Try.pinned (OpenSpec.ofChange Rows.progressForwardSpec) :=
  OpenClaim.holds_of_wide 5 Try.f5 rfl rfl rfl rfl rfl rfl rfl ⟨rfl, rfl, rfl, rfl, rfl⟩ rfl rfl rfl rfl rfl (by kernel_rfl) Try.func5 (by kernel_rfl)
    (of_decide_eq_true (by kernel_rfl)) (by unfold Func.isWrapper; first | (rw [if_pos (by decide +kernel)]; kernel_rfl) | (rw [if_neg (by decide +kernel)]; exact ⟨rfl, rfl⟩))
    (fun os started H enc _ => lifted os started H enc)
theorem proved : Rows.ProgressForwardSaid := over
end Go.Proofs.Ytcmdeaejgldhfaa.progressForward
namespace Go.Proofs.Ytcmdeaejgldhfaa
theorem progressForward_holds : Rows.ProgressForwardSaid := progressForward.proved
end Go.Proofs.Ytcmdeaejgldhfaa
#print axioms Go.Proofs.Ytcmdeaejgldhfaa.progressForward_holds

/-
  No cell of these rows narrows 'for every input' (looked for: loops, veiled, ifaces, maps, wideKeys, modest, calm, conditions, laid).
  DERIVED. THE GIVEN ROWS OF THIS SEAT. 5 by the template 'for every input the law returns true; each argument reads behind the call as it read before'; 0 by the template 'total and deterministic' (their statements: YtcmdeaejgldhfaaTotals.lean).
  GIVEN WITH THE SEED: the statements are not yours to turn. If you find one false, say at which input.
  Laid BY PROGRAM, IN A SANDBOX (cutbox-rows.mjs): the forced cells as the released guide's own fill.sh prints them over the translation 2565ad5acc78d591… (all of the seat's roots in one cut). By AI agents, Wed Nov 11 2026. No macro, syntax, notation, axiom, sorry.
-/
import Derived.Test.YtcmdeaejgldhfaaChecked
import GoSem.Claim
import GoSem.ClaimJoined
import GoSem.ClaimMapViews
import Derived.JoinedTies
import Derived.KernelRfl
namespace Go.Proofs.Ytcmdeaejgldhfaa
/- THE CELL 'sum', in the pinned program and in every row, IS THE sha256 OF THE DUMP (.gsa) THAT YtcmdeaejgldhfaaProg.lean LOADS. Nothing in Lean hashes anything: it is a label: what it is worth is what the hold of that sum in a sandbox is worth. -/
noncomputable def Try.pinned : Pinned := { name := "ytcmdeaejgldhfaa", sum := "2565ad5acc78d5919ec903a728760b3f6a37e11482edf55c95362e3a82c58cd9", checked := Try.checked }
namespace Rows
def none {H : Type} : Left H := { results := [], args := [] }

/-- 'hustingslaw13.ProgressCommits': WHATEVER THE INPUT: true; the input reads as it did. -/
def progressCommitsSpec : ChangeSpec := { name := "progressCommits", fn := fun _ => fun
  | [d1, d2, d3, d4, d5] => { results := [.lit (.bool true)], args := [d1, d2, d3, d4, d5] }
  | _ => none }
def progressCommitsRow : OpenClaim := { program := "ytcmdeaejgldhfaa", sum := "2565ad5acc78d5919ec903a728760b3f6a37e11482edf55c95362e3a82c58cd9", func := "hustings/hustingslaw13.ProgressCommits", spec := "progressCommits", unfollowed := true, recurses := true, apart := false }
def ProgressCommitsSaid : Prop := progressCommitsRow.holds Try.pinned (OpenSpec.ofChange progressCommitsSpec)

/-- ITS FALSE NEIGHBOUR: 'it returns false'. Refute it at one input. -/
def progressCommitsWrong : ChangeSpec := { name := "progressCommits", fn := fun _ => fun
  | [d1, d2, d3, d4, d5] => { results := [.lit (.bool false)], args := [d1, d2, d3, d4, d5] }
  | _ => none }
def ProgressCommitsWrongFalsely : Prop := progressCommitsRow.holds Try.pinned (OpenSpec.ofChange progressCommitsWrong)

/-- 'hustingslaw13.ProgressSure': WHATEVER THE INPUT: true; the input reads as it did. -/
def progressSureSpec : ChangeSpec := { name := "progressSure", fn := fun _ => fun
  | [d1, d2, d3, d4, d5] => { results := [.lit (.bool true)], args := [d1, d2, d3, d4, d5] }
  | _ => none }
def progressSureRow : OpenClaim := { program := "ytcmdeaejgldhfaa", sum := "2565ad5acc78d5919ec903a728760b3f6a37e11482edf55c95362e3a82c58cd9", func := "hustings/hustingslaw13.ProgressSure", spec := "progressSure", unfollowed := true, recurses := true, apart := false }
def ProgressSureSaid : Prop := progressSureRow.holds Try.pinned (OpenSpec.ofChange progressSureSpec)

/-- ITS FALSE NEIGHBOUR: 'it returns false'. Refute it at one input. -/
def progressSureWrong : ChangeSpec := { name := "progressSure", fn := fun _ => fun
  | [d1, d2, d3, d4, d5] => { results := [.lit (.bool false)], args := [d1, d2, d3, d4, d5] }
  | _ => none }
def ProgressSureWrongFalsely : Prop := progressSureRow.holds Try.pinned (OpenSpec.ofChange progressSureWrong)

/-- 'hustingslaw13.ProgressForward': WHATEVER THE INPUT: true; the input reads as it did. -/
def progressForwardSpec : ChangeSpec := { name := "progressForward", fn := fun _ => fun
  | [d1, d2] => { results := [.lit (.bool true)], args := [d1, d2] }
  | _ => none }
def progressForwardRow : OpenClaim := { program := "ytcmdeaejgldhfaa", sum := "2565ad5acc78d5919ec903a728760b3f6a37e11482edf55c95362e3a82c58cd9", func := "hustings/hustingslaw13.ProgressForward", spec := "progressForward", unfollowed := true, recurses := true, apart := false }
def ProgressForwardSaid : Prop := progressForwardRow.holds Try.pinned (OpenSpec.ofChange progressForwardSpec)

/-- ITS FALSE NEIGHBOUR: 'it returns false'. Refute it at one input. -/
def progressForwardWrong : ChangeSpec := { name := "progressForward", fn := fun _ => fun
  | [d1, d2] => { results := [.lit (.bool false)], args := [d1, d2] }
  | _ => none }
def ProgressForwardWrongFalsely : Prop := progressForwardRow.holds Try.pinned (OpenSpec.ofChange progressForwardWrong)

/-- 'hustingslaw13.ProgressSends': WHATEVER THE INPUT: true; the input reads as it did. -/
def progressSendsSpec : ChangeSpec := { name := "progressSends", fn := fun _ => fun
  | [d1, d2] => { results := [.lit (.bool true)], args := [d1, d2] }
  | _ => none }
def progressSendsRow : OpenClaim := { program := "ytcmdeaejgldhfaa", sum := "2565ad5acc78d5919ec903a728760b3f6a37e11482edf55c95362e3a82c58cd9", func := "hustings/hustingslaw13.ProgressSends", spec := "progressSends", unfollowed := true, recurses := true, apart := false }
def ProgressSendsSaid : Prop := progressSendsRow.holds Try.pinned (OpenSpec.ofChange progressSendsSpec)

/-- ITS FALSE NEIGHBOUR: 'it returns false'. Refute it at one input. -/
def progressSendsWrong : ChangeSpec := { name := "progressSends", fn := fun _ => fun
  | [d1, d2] => { results := [.lit (.bool false)], args := [d1, d2] }
  | _ => none }
def ProgressSendsWrongFalsely : Prop := progressSendsRow.holds Try.pinned (OpenSpec.ofChange progressSendsWrong)

/-- 'hustingslaw13.ProgressMeets': WHATEVER THE INPUT: true; the input reads as it did. -/
def progressMeetsSpec : ChangeSpec := { name := "progressMeets", fn := fun _ => fun
  | [d1, d2, d3, d4] => { results := [.lit (.bool true)], args := [d1, d2, d3, d4] }
  | _ => none }
def progressMeetsRow : OpenClaim := { program := "ytcmdeaejgldhfaa", sum := "2565ad5acc78d5919ec903a728760b3f6a37e11482edf55c95362e3a82c58cd9", func := "hustings/hustingslaw13.ProgressMeets", spec := "progressMeets", unfollowed := true, recurses := true, apart := false }
def ProgressMeetsSaid : Prop := progressMeetsRow.holds Try.pinned (OpenSpec.ofChange progressMeetsSpec)

/-- ITS FALSE NEIGHBOUR: 'it returns false'. Refute it at one input. -/
def progressMeetsWrong : ChangeSpec := { name := "progressMeets", fn := fun _ => fun
  | [d1, d2, d3, d4] => { results := [.lit (.bool false)], args := [d1, d2, d3, d4] }
  | _ => none }
def ProgressMeetsWrongFalsely : Prop := progressMeetsRow.holds Try.pinned (OpenSpec.ofChange progressMeetsWrong)

/- THE SECOND FORM. 'bulk': how many values and letters a reading holds, each counted each time it is reached (what is shared counts as often as it is met; a slice's spare places count too). A statement '..UptoSaid' is the law's where the arguments, and the package variables that the reading takes, are together of bulk at most 1048576: NARROWER than '..Said'. Prove '..Said' where nothing that the law and all that it calls make is longer than what came in: it says more and counts as full. Else prove '..UptoSaid'. A law counts once. -/
mutual
def uptoBulk {H : Type} : DataW H → Nat
  | .lit (.string bytes) => bytes.length + 1
  | .lit _ => 1
  | .nil => 1
  | .ptr d => uptoBulk d + 1
  | .slice elems spare => uptoBulkAll elems + uptoBulkAll spare + 1
  | .agg parts => uptoBulkAll parts + 1
  | .iface _ d => uptoBulk d + 1
  | .map entries => uptoBulkEntries entries + 1
  | .held _ => 1
def uptoBulkAll {H : Type} : List (DataW H) → Nat
  | [] => 0
  | d :: r => uptoBulk d + uptoBulkAll r
def uptoBulkEntries {H : Type} : List (Lit × DataW H) → Nat
  | [] => 0
  | x :: r => uptoBulkEntry x + uptoBulkEntries r
def uptoBulkEntry {H : Type} : Lit × DataW H → Nat
  | (.string bytes, d) => bytes.length + uptoBulk d + 1
  | (_, d) => uptoBulk d + 1
 end
def uptoSmall : (H : Type) → List (DataW H) → Bool := fun _ ds => decide (uptoBulkAll ds ≤ 1048576)
def OpenSpec.upto (s : _root_.Go.ChangeSpec) : _root_.Go.OpenSpec := { _root_.Go.OpenSpec.ofChange s with cond := some uptoSmall }

/-- 'hustingslaw13.ProgressCommits', WHERE WHAT IT READS IS OF BULK AT MOST 1048576: true; the input reads as it did. -/
def progressCommitsUptoRow : OpenClaim := { program := "ytcmdeaejgldhfaa", sum := "2565ad5acc78d5919ec903a728760b3f6a37e11482edf55c95362e3a82c58cd9", func := "hustings/hustingslaw13.ProgressCommits", spec := "progressCommits", unfollowed := true, recurses := true, apart := false, narrowed := true }
def ProgressCommitsUptoSaid : Prop := progressCommitsUptoRow.holds Try.pinned (OpenSpec.upto progressCommitsSpec)

/-- 'hustingslaw13.ProgressSure', WHERE WHAT IT READS IS OF BULK AT MOST 1048576: true; the input reads as it did. -/
def progressSureUptoRow : OpenClaim := { program := "ytcmdeaejgldhfaa", sum := "2565ad5acc78d5919ec903a728760b3f6a37e11482edf55c95362e3a82c58cd9", func := "hustings/hustingslaw13.ProgressSure", spec := "progressSure", unfollowed := true, recurses := true, apart := false, narrowed := true }
def ProgressSureUptoSaid : Prop := progressSureUptoRow.holds Try.pinned (OpenSpec.upto progressSureSpec)

/-- 'hustingslaw13.ProgressForward', WHERE WHAT IT READS IS OF BULK AT MOST 1048576: true; the input reads as it did. -/
def progressForwardUptoRow : OpenClaim := { program := "ytcmdeaejgldhfaa", sum := "2565ad5acc78d5919ec903a728760b3f6a37e11482edf55c95362e3a82c58cd9", func := "hustings/hustingslaw13.ProgressForward", spec := "progressForward", unfollowed := true, recurses := true, apart := false, narrowed := true }
def ProgressForwardUptoSaid : Prop := progressForwardUptoRow.holds Try.pinned (OpenSpec.upto progressForwardSpec)

/-- 'hustingslaw13.ProgressSends', WHERE WHAT IT READS IS OF BULK AT MOST 1048576: true; the input reads as it did. -/
def progressSendsUptoRow : OpenClaim := { program := "ytcmdeaejgldhfaa", sum := "2565ad5acc78d5919ec903a728760b3f6a37e11482edf55c95362e3a82c58cd9", func := "hustings/hustingslaw13.ProgressSends", spec := "progressSends", unfollowed := true, recurses := true, apart := false, narrowed := true }
def ProgressSendsUptoSaid : Prop := progressSendsUptoRow.holds Try.pinned (OpenSpec.upto progressSendsSpec)

/-- 'hustingslaw13.ProgressMeets', WHERE WHAT IT READS IS OF BULK AT MOST 1048576: true; the input reads as it did. -/
def progressMeetsUptoRow : OpenClaim := { program := "ytcmdeaejgldhfaa", sum := "2565ad5acc78d5919ec903a728760b3f6a37e11482edf55c95362e3a82c58cd9", func := "hustings/hustingslaw13.ProgressMeets", spec := "progressMeets", unfollowed := true, recurses := true, apart := false, narrowed := true }
def ProgressMeetsUptoSaid : Prop := progressMeetsUptoRow.holds Try.pinned (OpenSpec.upto progressMeetsSpec)

end Rows
end Go.Proofs.Ytcmdeaejgldhfaa

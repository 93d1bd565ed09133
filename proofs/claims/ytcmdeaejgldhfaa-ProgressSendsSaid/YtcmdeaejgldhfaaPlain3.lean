/-
  Plain facts: which entries may be; rows of entries; views. No program stands here.
-/
import Derived.Test.YtcmdeaejgldhfaaPlain2
set_option linter.unusedVariables false
set_option linter.unusedSimpArgs false
namespace Go.HB
def entRange (x : Ent) : Prop := 1 ≤ x.term ∧ x.term < 1099511627776 ∧ 1 ≤ x.index ∧ x.index < 1099511627776
theorem rightEnt_false {x : Ent} (h : ¬ (1 ≤ x.term ∧ x.term < 1099511627776 ∧ 1 ≤ x.index ∧ x.index < 1099511627776)) : rightEnt x = false := by
  cases hr : rightEnt x with
  | false => rfl
  | true =>
    simp only [rightEnt, Bool.and_eq_true, decide_eq_true_eq] at hr
    exact absurd ⟨hr.1.1.1.1, hr.1.1.1.2, hr.1.1.2, hr.1.2⟩ h
theorem rightEnt_in {x : Ent} (h : 1 ≤ x.term ∧ x.term < 1099511627776 ∧ 1 ≤ x.index ∧ x.index < 1099511627776) :
    rightEnt x = if x.kind = 1 then decide (x.data.length = 0) else if x.kind = 2 then decide (x.data.length ≤ 4096) else if x.kind = 3 then srvOk x.data else false := by
  simp [rightEnt, h.1, h.2.1, h.2.2.1, h.2.2.2]
theorem rightEnt_k1 {x : Ent} (h : 1 ≤ x.term ∧ x.term < 1099511627776 ∧ 1 ≤ x.index ∧ x.index < 1099511627776) (hk : (x.kind == 1) = true) : rightEnt x = ((x.data.length : Int) == 0) := by
  rw [rightEnt_in h, if_pos (by simpa using hk), Bool.eq_iff_iff]; simp
theorem rightEnt_k2 {x : Ent} (h : 1 ≤ x.term ∧ x.term < 1099511627776 ∧ 1 ≤ x.index ∧ x.index < 1099511627776) (h1 : (x.kind == 1) = false) (hk : (x.kind == 2) = true) : rightEnt x = decide ((x.data.length : Int) ≤ 4096) := by
  rw [rightEnt_in h, if_neg (by simpa using h1), if_pos (by simpa using hk), Bool.eq_iff_iff]; simp; omega
theorem rightEnt_k3 {x : Ent} (h : 1 ≤ x.term ∧ x.term < 1099511627776 ∧ 1 ≤ x.index ∧ x.index < 1099511627776) (h1 : (x.kind == 1) = false) (h2 : (x.kind == 2) = false) (hk : (x.kind == 3) = true) : rightEnt x = srvOk x.data := by
  rw [rightEnt_in h, if_neg (by simpa using h1), if_neg (by simpa using h2), if_pos (by simpa using hk)]
theorem rightEnt_k0 {x : Ent} (h1 : (x.kind == 1) = false) (h2 : (x.kind == 2) = false) (hk : (x.kind == 3) = false) : rightEnt x = false := by
  by_cases h : 1 ≤ x.term ∧ x.term < 1099511627776 ∧ 1 ≤ x.index ∧ x.index < 1099511627776
  · rw [rightEnt_in h, if_neg (by simpa using h1), if_neg (by simpa using h2), if_neg (by simpa using hk)]
  · exact rightEnt_false h
/-- Do entries go on by one from an index, with terms that do not fall? -/
def rowOk (index term : Int) : List Ent → Bool
  | [] => true
  | x :: t => rightEnt x && decide (x.index = index + 1) && decide (term ≤ x.term) && rowOk (index + 1) x.term t
structure View where
  base : Int
  term : Int
  l : List Ent
def View.ok (v : View) : Bool := decide (0 ≤ v.base) && decide (v.base ≤ 549755813888) && decide (0 ≤ v.term) && decide (v.term < 1099511627776) && decide (v.l.length ≤ 4096) && rowOk v.base v.term v.l
end Go.HB

/-
  Plain facts: lists of servers read back. No program stands here.
-/
import Derived.Test.YtcmdeaejgldhfaaPlain
set_option linter.unusedVariables false
set_option linter.unusedSimpArgs false
namespace Go.HB
theorem RS.num_range (s : RS) : 0 ≤ s.num.1 ∧ s.num.1 ≤ 281474976710656 := by
  unfold RS.num
  split
  · cases h : readNum s.b with
    | error c => simp
    | ok p =>
      obtain ⟨x, r⟩ := p
      simp only
      refine ⟨by omega, ?_⟩
      cases hb : s.b with
      | nil => rw [hb] at h; simp [readNum] at h
      | cons n r' =>
        rw [hb] at h
        by_cases h6 : 6 < n.toNat
        · rw [readNum_big h6] at h; cases h
        by_cases h7 : r'.length < n.toNat
        · rw [readNum_short h6 h7] at h; cases h
        by_cases h8 : 0 < n.toNat ∧ r'[n.toNat - 1]? = some 0
        · rw [readNum_form h6 h7 h8] at h; cases h
        rw [readNum_ok h6 h7 h8] at h
        injection h with h
        injection h with h1 h2
        have := leNum_lt (r'.take n.toNat)
        have hp : (256 : Nat) ^ (r'.take n.toNat).length ≤ 256 ^ 6 := Nat.pow_le_pow_right (by decide) (by rw [List.length_take]; omega)
        omega
  · simp
/-- So many numbers, one behind the other. -/
def RS.nums (s : RS) : Nat → List Int × RS
  | 0 => ([], s)
  | k + 1 => ((s.nums k).1 ++ [(s.nums k).2.num.1], (s.nums k).2.num.2)
theorem RS.nums_len (s : RS) (k : Nat) : (s.nums k).1.length = k := by
  induction k with
  | zero => rfl
  | succ k ih => simp [RS.nums, ih]
/-- What GetServers reads; whether it stands. -/
def srvList (b : Bytes) : List Int := ((⟨0, b⟩ : RS).num.2.nums (min (⟨0, b⟩ : RS).num.1 7).toNat).1
def srvOk (b : Bytes) : Bool := rightServers (srvList b) && decide (encServers (srvList b) = b)
end Go.HB
namespace Go.HB
/-! ### Entries -/
structure Ent where
  term : Int
  index : Int
  kind : Int
  data : Bytes
def rightEnt (x : Ent) : Bool :=
  decide (1 ≤ x.term) && decide (x.term < 1099511627776) && decide (1 ≤ x.index) && decide (x.index < 1099511627776) &&
    (if x.kind = 1 then decide (x.data.length = 0) else if x.kind = 2 then decide (x.data.length ≤ 4096) else if x.kind = 3 then srvOk x.data else false)
theorem encServers_len (l : List Int) (h : rightServers l = true) : (encServers l).length ≤ 72 := by
  simp only [rightServers, Bool.and_eq_true, decide_eq_true_eq] at h
  obtain ⟨⟨_, h7⟩, hc⟩ := h
  have key : ∀ (l : List Int) (a : Int), chain a l = true → (l.flatMap numBytes).length ≤ 9 * l.length := by
    intro l
    induction l with
    | nil => intro a _; simp
    | cons x t ih =>
      intro a h
      simp only [chain, Bool.and_eq_true, decide_eq_true_eq] at h
      have h1 := ih x h.2
      have h2 := numBytes_len (n := x) (by omega)
      simp only [List.flatMap_cons, List.length_append, List.length_cons]; omega
  have h1 := key l (-1) hc
  have h2 := numBytes_len (n := (l.length : Int)) (by omega)
  simp only [encServers, List.length_append]; omega
theorem rightEnt_len {x : Ent} (h : rightEnt x = true) : x.data.length ≤ 4096 := by
  simp only [rightEnt, Bool.and_eq_true] at h
  obtain ⟨_, h⟩ := h
  split at h
  · simp at h; simp [h]
  · split at h
    · simpa using h
    · split at h
      · simp only [srvOk, Bool.and_eq_true, decide_eq_true_eq] at h
        have := encServers_len _ h.1
        rw [h.2] at this; omega
      · cases h
end Go.HB

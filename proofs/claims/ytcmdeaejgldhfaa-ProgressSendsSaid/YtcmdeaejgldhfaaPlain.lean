/-
  Plain facts: numbers and servers as bytes. No program stands here.
-/
import Derived.Lib.Hide
set_option linter.unusedVariables false
set_option linter.unusedSimpArgs false
namespace Go.HB
abbrev Bytes := List UInt8

/-- A number's bytes, the least first. -/
def digits (n : Nat) : Bytes := if h : n = 0 then [] else UInt8.ofNat (n % 256) :: digits (n / 256)
  termination_by n
  decreasing_by omega
theorem digits_zero : digits 0 = [] := by rw [digits]; rfl
theorem digits_pos {n : Nat} (h : 0 < n) : digits n = UInt8.ofNat (n % 256) :: digits (n / 256) := by rw [digits, dif_neg (by omega)]
theorem digits_len (d : Nat) : ∀ n : Nat, n < 256 ^ d → (digits n).length ≤ d := by
  induction d with
  | zero => intro n h; obtain rfl : n = 0 := by (simp at h; omega)
            simp [digits_zero]
  | succ d ih =>
    intro n h
    rcases Nat.eq_zero_or_pos n with rfl | h0
    · rw [digits_zero]; simp
    · rw [digits_pos h0, List.length_cons]
      have := ih (n / 256) (by rw [Nat.pow_succ] at h; exact Nat.div_lt_of_lt_mul (by rw [Nat.mul_comm]; exact h))
      omega
theorem digits_len8 {n : Nat} (h : n ≤ 9223372036854775807) : (digits n).length ≤ 8 := digits_len 8 n (by omega)
def numBytes (n : Int) : Bytes := UInt8.ofNat (digits n.toNat).length :: digits n.toNat
theorem numBytes_len {n : Int} (h : n ≤ 9223372036854775807) : (numBytes n).length ≤ 9 := by
  have := digits_len8 (n := n.toNat) (by omega)
  simp [numBytes]; omega
end Go.HB
namespace Go.HB
/-! ### Numbers read back -/
def leNum : Bytes → Nat
  | [] => 0
  | c :: t => c.toNat + 256 * leNum t
theorem leNum_lt (l : Bytes) : leNum l < 256 ^ l.length := by
  induction l with
  | nil => simp [leNum]
  | cons c t ih =>
    have := c.toNat_lt
    simp only [leNum, List.length_cons, Nat.pow_succ]
    omega
/-- One number off the bytes: what it is and what is left, or the error. -/
def readNum : Bytes → Except Int (Nat × Bytes)
  | [] => .error 20
  | n :: r => if 6 < n.toNat then .error 21 else if r.length < n.toNat then .error 20 else if 0 < n.toNat ∧ r[n.toNat - 1]? = some 0 then .error 21 else .ok (leNum (r.take n.toNat), r.drop n.toNat)
/-- A reader: its first error, the bytes that are left. -/
structure RS where
  e : Int
  b : Bytes
def RS.num (s : RS) : Int × RS :=
  if s.e = 0 then match readNum s.b with
    | .error c => (0, ⟨c, s.b⟩)
    | .ok (x, r) => ((x : Int), ⟨0, r⟩)
  else (0, s)
theorem RS.num_err {s : RS} {c : Int} (he : s.e = 0) (h : readNum s.b = .error c) : s.num = (0, ⟨c, s.b⟩) := by simp [RS.num, he, h]
theorem RS.num_ok {s : RS} {x : Nat} {r : Bytes} (he : s.e = 0) (h : readNum s.b = .ok (x, r)) : s.num = ((x : Int), ⟨0, r⟩) := by simp [RS.num, he, h]
theorem readNum_big {n : UInt8} {r : Bytes} (h : 6 < n.toNat) : readNum (n :: r) = .error 21 := by simp [readNum, h]
theorem readNum_short {n : UInt8} {r : Bytes} (h : ¬ 6 < n.toNat) (h' : r.length < n.toNat) : readNum (n :: r) = .error 20 := by simp [readNum, h, h']
theorem readNum_form {n : UInt8} {r : Bytes} (h : ¬ 6 < n.toNat) (h' : ¬ r.length < n.toNat) (h'' : 0 < n.toNat ∧ r[n.toNat - 1]? = some 0) : readNum (n :: r) = .error 21 := by
  simp only [readNum, h, h', if_false, if_pos h'']
theorem readNum_ok {n : UInt8} {r : Bytes} (h : ¬ 6 < n.toNat) (h' : ¬ r.length < n.toNat) (h'' : ¬ (0 < n.toNat ∧ r[n.toNat - 1]? = some 0)) : readNum (n :: r) = .ok (leNum (r.take n.toNat), r.drop n.toNat) := by
  simp only [readNum, h, h', if_false, if_neg h'']
/-- The bytes that have come, the last first. -/
def accB (pre : List (UInt8 × Nat)) : Nat := pre.foldl (fun a x => a * 256 + x.1.toNat) 0
theorem accB_snoc (pre : List (UInt8 × Nat)) (x : UInt8 × Nat) : accB (pre ++ [x]) = accB pre * 256 + x.1.toNat := by simp [accB]
theorem accB_lt (pre : List (UInt8 × Nat)) : accB pre < 256 ^ pre.length := by
  have key : ∀ (l : List (UInt8 × Nat)) (a k : Nat), a < 256 ^ k → l.foldl (fun a x => a * 256 + x.1.toNat) a < 256 ^ (k + l.length) := by
    intro l
    induction l with
    | nil => intro a k h; simpa using h
    | cons x l ih =>
      intro a k h
      have hx := x.1.toNat_lt
      have := ih (a * 256 + x.1.toNat) (k + 1) (by rw [Nat.pow_succ]; omega)
      simpa [Nat.add_assoc, Nat.add_comm 1] using this
  simpa [accB] using key pre 0 0 (by simp)
theorem accB_rev (l : Bytes) (j : Nat) : accB (l.zipIdx j).reverse = leNum l := by
  induction l generalizing j with
  | nil => simp [accB, leNum]
  | cons c t ih =>
    rw [List.zipIdx_cons, List.reverse_cons, accB_snoc, ih, leNum]
    simp; omega
end Go.HB

namespace Go.HB
/-! ### Servers -/
def chain (last : Int) : List Int → Bool
  | [] => true
  | x :: t => decide (last < x) && decide (x < 16) && chain x t
def rightServers (l : List Int) : Bool := decide (1 ≤ l.length) && decide (l.length ≤ 7) && chain (-1) l
def encServers (l : List Int) : Bytes := numBytes l.length ++ l.flatMap numBytes
end Go.HB

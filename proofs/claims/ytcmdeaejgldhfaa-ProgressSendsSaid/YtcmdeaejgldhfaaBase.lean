/-
  HUSTINGS BASE: what lies in memory, said by footprints: an encoding of data as cells ('Enc'), a slice that reads as a list ('Rd'), a row of the call's own ('Mine'). No program is named here.
-/
import Derived.WalkKit
import Derived.WalkSpells
import Derived.WalkLawsBesides
import Derived.Deep.QuietTactic
import Derived.BigQuiet
import Derived.Lib.ConvBytes
import Derived.Maps.AppendAt
import Derived.Lib.Hide
import Derived.Lib.AppendZerosOnto
import Derived.Deep.RegionHeld3
set_option linter.unusedVariables false
set_option linter.unusedSimpArgs false
namespace Go.HB
open Go.RowKit

/-! ### 1. Footprints -/
abbrev FP := Nat → Prop
def Agree (F : FP) (w w' : World) : Prop := ∀ b, F b → w'.heap[b]? = w.heap[b]?
theorem Agree.refl (F : FP) (w : World) : Agree F w w := fun _ _ => rfl
theorem Agree.trans {F : FP} {w w1 w2 : World} (h : Agree F w w1) (k : Agree F w1 w2) : Agree F w w2 := fun b hb => (k b hb).trans (h b hb)
theorem Agree.mono {F F' : FP} {w w' : World} (h : Agree F w w') (hF : ∀ b, F' b → F b) : Agree F' w w' := fun b hb => h b (hF b hb)
theorem Agree.of_below {B : Nat} {F : FP} {w w' : World} (h : Below B w w') (hF : ∀ b, F b → b < B) : Agree F w w' := fun b hb => h.block b (hF b hb)
theorem Agree.of_grown {F : FP} {w w' : World} {row : Option Nat} (h : w.grownBy w' row) (hF : ∀ b, F b → b < w.heap.size ∧ some b ≠ row) : Agree F w w' := fun b hb => h.block b (hF b hb).1 (hF b hb).2
theorem Agree.cell {F : FP} {w w' : World} (h : Agree F w w') {a : Addr} (ha : F a.block) : w'.cell? a = w.cell? a := World.cell?_of_block (h _ ha)
theorem block_lt {w : World} {b : Nat} {o : Obj} (h : w.heap[b]? = some o) : b < w.heap.size := (Array.getElem?_eq_some_iff.1 h).1
theorem Agree.lt {F : FP} {w w' : World} (h : Agree F w w') {b : Nat} (hb : F b) (hl : b < w.heap.size) : b < w'.heap.size := by
  have := h b hb
  rw [Array.getElem?_eq_getElem hl] at this
  exact block_lt this
/-- A block of cells stands there. -/
def CellAt (w : World) (b : Nat) : Prop := ∃ cs t fr, w.heap[b]? = some (.cells cs t fr)
theorem CellAt.lt {w : World} {b : Nat} (h : CellAt w b) : b < w.heap.size := by
  obtain ⟨cs, t, fr, h⟩ := h
  exact block_lt h
theorem Agree.at_ {F : FP} {w w' : World} (h : Agree F w w') {b : Nat} (hb : F b) (hl : CellAt w b) : CellAt w' b := by
  obtain ⟨cs, t, fr, h'⟩ := hl
  exact ⟨cs, t, fr, (h b hb).trans h'⟩
theorem add_block (a : Addr) (n : Nat) : (a.add n).block = a.block := by unfold Addr.add; split <;> rfl

/-! ### 2. Encodings -/
structure Enc (α : Type) where
  k : Nat
  bytes : Nat
  R : World → FP → α → List Value → Prop
  len : ∀ {w F x cs}, R w F x cs → cs.length = k
  one : ∀ {w F x cs}, R w F x cs → ∀ u ∈ cs, u.oneCell' = true
  move : ∀ {w w' : World} {F : FP} {x cs}, Agree F w w' → R w F x cs → R w' F x cs
  mono : ∀ {w} {F F' : FP} {x cs}, (∀ b, F b → F' b) → R w F x cs → R w F' x cs
  lt : ∀ {w : World} {F : FP} {x cs}, R w F x cs → R w (fun b => F b ∧ CellAt w b) x cs

section
variable {α β : Type}

def encOf (bytes : Nat) (P : α → Prop) (f : α → Value) (h1 : ∀ x, (f x).oneCell' = true) : Enc α where
  k := 1
  bytes := bytes
  R := fun _ _ x cs => P x ∧ cs = [f x]
  len := fun h => by rw [h.2]; rfl
  one := fun h u hu => by
    rw [h.2, List.mem_singleton] at hu
    rw [hu]; exact h1 _
  move := fun _ h => h
  mono := fun _ h => h
  lt := fun h => h

def In64 (x : Int) : Prop := -9223372036854775808 ≤ x ∧ x ≤ 9223372036854775807
def encInt : Enc Int := encOf 8 In64 (fun x => .int .i64 x) (fun _ => rfl)
def encBool : Enc Bool := encOf 1 (fun _ => True) (fun x => .bool x) (fun _ => rfl)
def encU8 : Enc UInt8 := encOf 1 (fun _ => True) (fun x => .int .u8 (x.toNat : Int)) (fun _ => rfl)

/-! ### 3. A slice that reads as a list -/
def RdAt (e : Enc α) (w : World) (F : FP) (ad : Addr) (xs : List α) : Prop :=
  ∀ j x, xs[j]? = some x → ∃ cs, e.R w F x cs ∧ ∀ i u, cs[i]? = some u → w.cell? (ad.add (j * e.k + i)) = some u

def Rd (e : Enc α) (w : World) (F : FP) (v : Value) (xs : List α) : Prop :=
  ∃ A c, v = .slice A xs.length c ∧ xs.length ≤ c ∧ c ≤ maxLen ∧ xs.length * e.bytes ≤ 140737488355328 ∧
    (0 < xs.length → ∃ ad, A = some ad ∧ F ad.block ∧ CellAt w ad.block ∧ RdAt e w F ad xs)

theorem RdAt.move {e : Enc α} {w w' : World} {F : FP} {ad : Addr} {xs : List α} (hF : Agree F w w') (ha : F ad.block) (h : RdAt e w F ad xs) : RdAt e w' F ad xs := by
  intro j x hx
  obtain ⟨cs, hr, hc⟩ := h j x hx
  refine ⟨cs, e.move hF hr, fun i u hu => ?_⟩
  rw [hF.cell (a := ad.add (j * e.k + i)) (by rw [add_block]; exact ha)]
  exact hc i u hu
theorem RdAt.mono {e : Enc α} {w : World} {F F' : FP} {ad : Addr} {xs : List α} (hF : ∀ b, F b → F' b) (h : RdAt e w F ad xs) : RdAt e w F' ad xs := by
  intro j x hx
  obtain ⟨cs, hr, hc⟩ := h j x hx
  exact ⟨cs, e.mono hF hr, hc⟩

theorem Rd.move {e : Enc α} {w w' : World} {F : FP} {v : Value} {xs : List α} (h : Rd e w F v xs) (hF : Agree F w w') : Rd e w' F v xs := by
  obtain ⟨A, c, hv, hl, hm, hb, hc⟩ := h
  refine ⟨A, c, hv, hl, hm, hb, fun h0 => ?_⟩
  obtain ⟨ad, hA, ha, hs, hr⟩ := hc h0
  exact ⟨ad, hA, ha, hF.at_ ha hs, hr.move hF ha⟩
theorem Rd.mono {e : Enc α} {w : World} {F F' : FP} {v : Value} {xs : List α} (h : Rd e w F v xs) (hF : ∀ b, F b → F' b) : Rd e w F' v xs := by
  obtain ⟨A, c, hv, hl, hm, hb, hc⟩ := h
  refine ⟨A, c, hv, hl, hm, hb, fun h0 => ?_⟩
  obtain ⟨ad, hA, ha, hs, hr⟩ := hc h0
  exact ⟨ad, hA, hF _ ha, hs, hr.mono hF⟩
theorem Rd.lt {e : Enc α} {w : World} {F : FP} {v : Value} {xs : List α} (h : Rd e w F v xs) : Rd e w (fun b => F b ∧ CellAt w b) v xs := by
  obtain ⟨A, c, hv, hl, hm, hb, hc⟩ := h
  refine ⟨A, c, hv, hl, hm, hb, fun h0 => ?_⟩
  obtain ⟨ad, hA, ha, hs, hr⟩ := hc h0
  refine ⟨ad, hA, ⟨ha, hs⟩, hs, fun j x hx => ?_⟩
  obtain ⟨cs, hr1, hc1⟩ := hr j x hx
  exact ⟨cs, e.lt hr1, hc1⟩
/-- What lay in a world lies so behind a call that turned nothing. -/
theorem Rd.below {e : Enc α} {w w' : World} {F : FP} {v : Value} {xs : List α} (h : Rd e w F v xs) (hb : Below w.heap.size w w') : Rd e w' F v xs :=
  (h.lt.move (Agree.of_below hb fun _ h => h.2.lt)).mono fun _ h => h.1
theorem Rd.below' {e : Enc α} {w w' : World} {F : FP} {B : Nat} {v : Value} {xs : List α} (h : Rd e w F v xs) (hb : Below B w w') (hF : ∀ b, F b → b < B) : Rd e w' F v xs :=
  h.move (Agree.of_below hb hF)
theorem Rd.nil_ (e : Enc α) (w : World) (F : FP) : Rd e w F (.slice none 0 0) ([] : List α) := ⟨none, 0, rfl, Nat.le_refl _, by simp [maxLen], by simp, fun h => by simp at h⟩
theorem Rd.slice {e : Enc α} {w : World} {F : FP} {v : Value} {xs : List α} (h : Rd e w F v xs) : ∃ A c, v = .slice A xs.length c ∧ xs.length ≤ c ∧ c ≤ maxLen := by
  obtain ⟨A, c, hv, hl, hm, _⟩ := h
  exact ⟨A, c, hv, hl, hm⟩
theorem Rd.len_le {e : Enc α} {w : World} {F : FP} {v : Value} {xs : List α} (h : Rd e w F v xs) : xs.length ≤ 9223372036854775807 := by
  obtain ⟨A, c, hv, hl, hm, _⟩ := h
  simp only [maxLen] at hm; omega
theorem Rd.bytes_le {e : Enc α} {w : World} {F : FP} {v : Value} {xs : List α} (h : Rd e w F v xs) : xs.length * e.bytes ≤ 140737488355328 := by
  obtain ⟨A, c, hv, hl, hm, hb, _⟩ := h
  exact hb
/-- The cells of one element. -/
theorem Rd.get {e : Enc α} {w : World} {F : FP} {A : Option Addr} {n c : Nat} {xs : List α} (h : Rd e w F (.slice A n c) xs) (j : Nat) (x : α) (hx : xs[j]? = some x) :
    ∃ ad cs, A = some ad ∧ F ad.block ∧ CellAt w ad.block ∧ e.R w F x cs ∧ ∀ i u, cs[i]? = some u → w.cell? (ad.add (j * e.k + i)) = some u := by
  obtain ⟨A', c', hv, hl, hm, hb, hc⟩ := h
  cases hv
  obtain ⟨ad, hA, ha, hs, hr⟩ := hc (by have := (List.getElem?_eq_some_iff.1 hx).1; omega)
  obtain ⟨cs, h1, h2⟩ := hr j x hx
  exact ⟨ad, cs, hA, ha, hs, h1, h2⟩

def encSlice (e : Enc α) : Enc (List α) where
  k := 1
  bytes := 24
  R := fun w F xs cs => ∃ v, cs = [v] ∧ Rd e w F v xs
  len := by rintro w F x cs ⟨v, rfl, _⟩; rfl
  one := by
    rintro w F x cs ⟨v, rfl, h⟩ u hu
    obtain ⟨A, c, hv, _⟩ := h
    rw [List.mem_singleton.1 hu, hv]; rfl
  move := by rintro w w' F x cs hF ⟨v, rfl, h⟩; exact ⟨v, rfl, h.move hF⟩
  mono := by rintro w F F' x cs hF ⟨v, rfl, h⟩; exact ⟨v, rfl, h.mono hF⟩
  lt := by rintro w F x cs ⟨v, rfl, h⟩; exact ⟨v, rfl, h.lt⟩

/-! ### 4. A row of the call's own, wherever it begins in its block -/
def OwnRow (w : World) (base : Nat) (t : TypeId) (k : Nat) (v : Value) (n : Nat) (cells : List Value) : Prop :=
  cells.length = n * k ∧ ((v = .slice none 0 0 ∧ n = 0) ∨
    ∃ g off cap cur, v = .slice (some ⟨g, off, none⟩) n cap ∧ base ≤ g ∧ w.heap[g]? = some (.cells cur t (0, 0)) ∧ n ≤ cap ∧ cap ≤ maxLen ∧ off + cap * k ≤ cur.size ∧ (cur.toList.drop off).take (n * k) = cells)

theorem OwnRow.move {w w' : World} {base : Nat} {t : TypeId} {k : Nat} {v : Value} {n : Nat} {cells : List Value} (h : OwnRow w base t k v n cells) (hg : ∀ g, v.ownBlock = some g → w'.heap[g]? = w.heap[g]?) : OwnRow w' base t k v n cells := by
  refine ⟨h.1, ?_⟩
  rcases h.2 with h | ⟨g, off, cap, cur, hv, hb, hh, r⟩
  · exact .inl h
  · exact .inr ⟨g, off, cap, cur, hv, hb, (hg g (by rw [hv]; rfl)).trans hh, r⟩
theorem OwnRow.lt {w : World} {base : Nat} {t : TypeId} {k : Nat} {v : Value} {n : Nat} {cells : List Value} (h : OwnRow w base t k v n cells) (g : Nat) (hg : v.ownBlock = some g) : base ≤ g ∧ g < w.heap.size := by
  rcases h.2 with ⟨rfl, _⟩ | ⟨g', off, cap, cur, rfl, hb, hh, _⟩
  · simp [Value.ownBlock] at hg
  · simp [Value.ownBlock] at hg
    subst hg
    exact ⟨hb, block_lt hh⟩
theorem OwnRow.lower {w : World} {base base' : Nat} {t : TypeId} {k : Nat} {v : Value} {n : Nat} {cells : List Value} (h : OwnRow w base t k v n cells) (hb : base' ≤ base) : OwnRow w base' t k v n cells := by
  refine ⟨h.1, ?_⟩
  rcases h.2 with h | ⟨g, off, cap, cur, hv, hb', r⟩
  · exact .inl h
  · exact .inr ⟨g, off, cap, cur, hv, by omega, r⟩
theorem add_at (g off j : Nat) : (⟨g, off, none⟩ : Addr).add j = ⟨g, off + j, none⟩ := by unfold Addr.add; split <;> simp_all
theorem OwnRow.cells {w : World} {base : Nat} {t : TypeId} {k : Nat} {n : Nat} {g off cap : Nat} {cells : List Value} (h : OwnRow w base t k (.slice (some ⟨g, off, none⟩) n cap) n cells) (j : Nat) (u : Value) (hu : cells[j]? = some u) :
    w.cell? ((⟨g, off, none⟩ : Addr).add j) = some u := by
  rcases h.2 with ⟨h, _⟩ | ⟨g', off', cap', cur, hv, hb, hh, _, _, hs, ht⟩
  · cases h
  · cases hv
    rw [add_at, cell_of_row w g _ cur t (0, 0) hh]
    rw [← ht, List.getElem?_take] at hu
    split at hu
    · rw [List.getElem?_drop] at hu
      simpa using hu
    · cases hu

section
variable {P : Program} (w : World)
theorem run_append_row (base : Nat) (t ty e : TypeId) (i : TypeInfo) (z : Value) (size bytes : Nat) (ht : P.underlying t = some (.slice e)) (hi : P.info? e = some i) (hz : i.zero = some z)
    (hsize : i.size = size) (hby : i.bytes = bytes) (hzs : z.cells.size = size)
    (v : Value) (n : Nat) (xs : List Value) (hown : OwnRow w base e size v n xs)
    (A : Option Addr) (m c : Nat) (news : List Value) (hl : news.length = m * size) (hA : 0 < m → ∃ a, A = some a ∧ ∀ j u, news[j]? = some u → w.cell? (a.add j) = some u) (h1 : ∀ u ∈ news, u.oneCell' = true)
    (hbytes : (n + m) * bytes ≤ 140737488355328) (h63 : n + m ≤ maxLen) (hbase : base ≤ w.heap.size) :
    ∃ v' w', (Builtin.append_ #[t, t] ty #[v, .slice A m c]).run P w = .ok v' w' ∧ OwnRow w' base e size v' (n + m) (xs ++ news) ∧ w.grownBy w' v.ownBlock ∧
      (v'.ownBlock = v.ownBlock ∨ v'.ownBlock = some w.heap.size) := by
  subst hsize
  subst hby
  have hsmall : n + m ≤ 9223372036854775807 := by simp only [maxLen] at h63; omega
  have hlen : (xs ++ news).length = (n + m) * i.size := by rw [List.length_append, hown.1, hl, Nat.add_mul]
  have grown : ∀ (old : Nat), old < n + m → ∀ (row : Option Nat),
      OwnRow (w.drew.alloc (.cells (xs.toArray ++ news.toArray ++ Builtin.zeroCells z.cells (grownCap w (n + m) old e - (n + m))) e)) base e i.size
        (.slice (some ⟨w.heap.size, 0, none⟩) (n + m) (grownCap w (n + m) old e)) (n + m) (xs ++ news) ∧
      w.grownBy (w.drew.alloc (.cells (xs.toArray ++ news.toArray ++ Builtin.zeroCells z.cells (grownCap w (n + m) old e - (n + m))) e)) row := by
    intro old ho row
    have hge := grownCap_ge w (n + m) old e
    have hcm : grownCap w (n + m) old e ≤ maxLen := grownCap_le_maxLen w (n + m) old e h63
    refine ⟨⟨hlen, .inr ⟨w.heap.size, 0, _, _, rfl, hbase, heap_alloc_new w.drew _, hge, hcm, ?_, ?_⟩⟩, ⟨rfl, rfl, rfl, by simp, fun k hk _ => Below.heap_alloc w.drew _ k hk⟩⟩
    · simp only [Array.size_append, List.size_toArray, size_zeroCells, hzs, hown.1, hl, ← Nat.add_mul]
      rw [Nat.zero_add]
      refine Nat.le_of_eq ?_
      congr 1
      omega
    · simp only [Array.toList_append, List.append_assoc, List.drop_zero]
      rw [← List.append_assoc, ← hlen]
      exact List.take_left
  rcases Nat.eq_zero_or_pos m with rfl | hm
  · obtain rfl : news = [] := List.eq_nil_of_length_eq_zero (by simpa using hl)
    refine ⟨v, w, ?_, by simpa using hown, World.grownBy.refl w _, .inl rfl⟩
    rcases hown.2 with ⟨rfl, hn⟩ | ⟨g, off, cap, cur, rfl, _, _, hnc, _⟩
    · cases A <;> simp [Builtin.append_, run_underlying ht, sizeOf, typeInfo, hi, Builtin.lenOf, Builtin.firstCells, loadCells, loadCellsFrom]
    · cases A <;> simp [Builtin.append_, run_underlying ht, sizeOf, typeInfo, hi, Builtin.lenOf, Builtin.firstCells, loadCells, loadCellsFrom, hnc, storeCells]
  obtain ⟨a, rfl, hnews⟩ := hA hm
  rcases hown.2 with ⟨rfl, rfl⟩ | ⟨g, off, cap, cur, rfl, hbg, hg, hnc, hcm, hcs, htake⟩
  · have hx : xs = [] := List.eq_nil_of_length_eq_zero (by simpa using hown.1)
    subst hx
    have hr := run_append_nil (P := P) w t ty e i z ht hi hz a m c news hl hnews (by omega) (by omega) (by have hb := hbytes; simp only [Nat.zero_add] at hb; omega)
    have hgr := grown 0 (by omega) (Value.ownBlock (.slice none 0 0))
    simp only [Nat.zero_add, List.nil_append, Array.empty_append] at hgr ⊢
    exact ⟨_, _, hr, hgr.1, hgr.2, Or.inr rfl⟩
  · by_cases hroom : n + m ≤ cap
    · have hmul : (n + m) * i.size ≤ cap * i.size := Nat.mul_le_mul_right _ hroom
      rw [Nat.add_mul] at hmul
      have hf := run_firstCells_some (P := P) w i.size m a m c news hl hnews
      have hst := run_storeCells_at P g (off + n * i.size) e news 0 cur w hg (by rw [hl]; omega) h1
      simp only [Nat.add_zero] at hst
      have hadd : (⟨g, off, none⟩ : Addr).add (n * i.size) = ⟨g, off + n * i.size, none⟩ := add_at _ _ _
      have hr : (Builtin.append_ #[t, t] ty #[.slice (some ⟨g, off, none⟩) n cap, .slice (some a) m c]).run P w = .ok (.slice (some ⟨g, off, none⟩) (n + m) cap)
          (w.setRow g (cur.toList.take (off + n * i.size) ++ news ++ cur.toList.drop (off + n * i.size + news.length)).toArray) := by
        simp [Builtin.append_, run_underlying ht, sizeOf, typeInfo, hi, Builtin.lenOf, hroom, hf, hadd, hst]
      refine ⟨_, _, hr, ⟨hlen, .inr ⟨g, off, cap, _, rfl, hbg, setRow_heap w g cur _ e _ hg, hroom, hcm, ?_, ?_⟩⟩, ⟨rfl, rfl, rfl, by simp, fun k _ hk => setRow_other w g k _ (fun e => hk (by simp [Value.ownBlock, e]))⟩, Or.inl rfl⟩
      · simp only [List.size_toArray, List.length_append, List.length_take, List.length_drop, Array.length_toList]
        omega
      · simp only [List.append_assoc]
        rw [List.drop_append_of_le_length (by rw [List.length_take, Array.length_toList]; omega), List.drop_take, Nat.add_sub_cancel_left, htake, ← List.append_assoc, ← hlen]
        exact List.take_left
    · have hr := run_append_grow (P := P) w t ty e i z ht hi hz ⟨g, off, none⟩ n cap xs hown.1 hown.cells a m c news hl hnews (by omega) (by omega) (growslice_fits (by omega) hbytes)
      have hgr := grown cap (by omega) (Value.ownBlock (.slice (some ⟨g, off, none⟩) n cap))
      exact ⟨_, _, hr, hgr.1, hgr.2, Or.inr rfl⟩
end

/-- A row of elements of the call's own: the elements' own memory is F, which is not the row. -/
def Mine (e : Enc α) (t : TypeId) (w : World) (base : Nat) (F : FP) (v : Value) (xs : List α) : Prop :=
  (∀ b, F b → CellAt w b ∧ some b ≠ v.ownBlock) ∧ xs.length * e.bytes ≤ 140737488355328 ∧
    ∃ cells, OwnRow w base t e.k v xs.length cells ∧ ∀ j x, xs[j]? = some x → e.R w F x ((cells.drop (j * e.k)).take e.k)

def none' : FP := fun _ => False
theorem Mine.nil_ (e : Enc α) (t : TypeId) (w : World) (base : Nat) : Mine e t w base none' (.slice none 0 0) ([] : List α) :=
  ⟨fun b h => h.elim, by simp, [], ⟨by simp, .inl ⟨rfl, rfl⟩⟩, fun j x h => by simp at h⟩
theorem Mine.slice {e : Enc α} {t : TypeId} {w : World} {base : Nat} {F : FP} {v : Value} {xs : List α} (h : Mine e t w base F v xs) : ∃ A c, v = .slice A xs.length c ∧ xs.length ≤ c ∧ c ≤ maxLen := by
  obtain ⟨_, _, cells, ho, _⟩ := h
  rcases ho.2 with ⟨rfl, hn⟩ | ⟨g, off, cap, cur, rfl, _, _, hn, hm, _⟩
  · exact ⟨none, 0, by rw [hn], by omega, by simp [maxLen]⟩
  · exact ⟨_, _, rfl, hn, hm⟩
theorem Mine.lt {e : Enc α} {t : TypeId} {w : World} {base : Nat} {F : FP} {v : Value} {xs : List α} (h : Mine e t w base F v xs) (g : Nat) (hg : v.ownBlock = some g) : base ≤ g ∧ g < w.heap.size := by
  obtain ⟨_, _, cells, ho, _⟩ := h
  exact ho.lt g hg
theorem Mine.lower {e : Enc α} {t : TypeId} {w : World} {base base' : Nat} {F : FP} {v : Value} {xs : List α} (h : Mine e t w base F v xs) (hb : base' ≤ base) : Mine e t w base' F v xs := by
  obtain ⟨h1, h2, cells, ho, h3⟩ := h
  exact ⟨h1, h2, cells, ho.lower hb, h3⟩
/-- The row's own block and what its elements hold. -/
def Mine.fp (F : FP) (v : Value) : FP := fun b => F b ∨ v.ownBlock = some b
theorem Mine.move {e : Enc α} {t : TypeId} {w w' : World} {base : Nat} {F : FP} {v : Value} {xs : List α} (h : Mine e t w base F v xs) (hF : Agree (Mine.fp F v) w w') : Mine e t w' base F v xs := by
  obtain ⟨h1, h2, cells, ho, h3⟩ := h
  refine ⟨fun b hb => ⟨hF.at_ (.inl hb) (h1 b hb).1, (h1 b hb).2⟩, h2, cells, ho.move fun g hg => hF g (.inr hg), fun j x hx => e.move (hF.mono fun b hb => .inl hb) (h3 j x hx)⟩
theorem Mine.below {e : Enc α} {t : TypeId} {w w' : World} {base : Nat} {F : FP} {v : Value} {xs : List α} (h : Mine e t w base F v xs) (hb : Below w.heap.size w w') : Mine e t w' base F v xs :=
  h.move (Agree.of_below hb fun b hb => by
    rcases hb with hb | hb
    · exact (h.1 b hb).1.lt
    · exact (h.lt b hb).2)
theorem Mine.alloc {e : Enc α} {t : TypeId} {w : World} {base : Nat} {F : FP} {v : Value} {xs : List α} (h : Mine e t w base F v xs) (o : Obj) : Mine e t (w.alloc o) base F v xs :=
  h.below ((Below.refl _ _).alloc (Nat.le_refl _) o)
theorem Mine.drew {e : Enc α} {t : TypeId} {w : World} {base : Nat} {F : FP} {v : Value} {xs : List α} (h : Mine e t w base F v xs) : Mine e t w.drew base F v xs :=
  h.below (Below.refl _ _).drew
theorem Mine.setCell {e : Enc α} {t : TypeId} {w : World} {base : Nat} {F : FP} {v : Value} {xs : List α} (h : Mine e t w base F v xs) {p : Addr} (hp : ¬ Mine.fp F v p.block) (u : Value) : Mine e t (w.setCell p u) base F v xs :=
  h.move fun b hb => Below.heap_setCell _ _ _ _ (fun e => hp (e ▸ hb))
theorem Mine.rd {e : Enc α} {t : TypeId} {w : World} {base : Nat} {F : FP} {v : Value} {xs : List α} (h : Mine e t w base F v xs) : Rd e w (Mine.fp F v) v xs := by
  obtain ⟨h1, h2, cells, ho, h3⟩ := h
  have ho' := ho
  rcases ho.2 with ⟨rfl, hn⟩ | ⟨g, off, cap, cur, rfl, hb, hh, hn, hm, _⟩
  · exact ⟨none, 0, by rw [hn], by omega, by simp [maxLen], h2, fun h => by omega⟩
  · refine ⟨_, _, rfl, hn, hm, h2, fun _ => ⟨_, rfl, .inr rfl, ⟨_, _, _, hh⟩, fun j x hx => ⟨_, e.mono (fun b hb => .inl hb) (h3 j x hx), fun i u hu => ?_⟩⟩⟩
    refine ho'.cells _ u ?_
    rw [List.getElem?_take] at hu
    split at hu
    · rw [List.getElem?_drop] at hu; exact hu
    · cases hu

theorem Mine.form {e : Enc α} {t : TypeId} {W : World} {base : Nat} {F : FP} {A : Option Addr} {n c : Nat} {xs : List α} (h : Mine e t W base F (.slice A n c) xs) (hn : 0 < n) :
    ∃ g off, A = some ⟨g, off, none⟩ ∧ base ≤ g ∧ g < W.heap.size ∧ ∀ i, W.frozen? ⟨g, i, none⟩ = false := by
  obtain ⟨_, _, cells, ho, _⟩ := h
  rcases ho.2 with ⟨h, h0⟩ | ⟨g, off, cap, cur, h, hb, hh, _⟩
  · injection h; omega
  · injection h with h1 h2 h3
    exact ⟨g, off, h1, hb, block_lt hh, fun i => by simp [World.frozen?, hh]⟩
theorem Mine.cell1 {e : Enc α} {t : TypeId} {W : World} {base : Nat} {F : FP} {g off n c : Nat} {xs : List α} (h : Mine e t W base F (.slice (some ⟨g, off, none⟩) n c) xs) (hk : e.k = 1) (j : Nat) (hj : j < xs.length) : ∃ u, e.R W F xs[j] [u] ∧ W.cell? ⟨g, off + j, none⟩ = some u := by
  obtain ⟨h1, h2, cells, ho, h3⟩ := h
  have hl : cells.length = xs.length := by rw [ho.1, hk, Nat.mul_one]
  have hr := h3 j _ (List.getElem?_eq_getElem hj)
  rw [hk, Nat.mul_one, List.drop_eq_getElem_cons (by omega), List.take_succ_cons, List.take_zero] at hr
  refine ⟨_, hr, ?_⟩
  rcases ho.2 with ⟨h, _⟩ | ⟨g', off', cap, cur, h, _⟩
  · cases h
  · have ho' := ho
    injection h with e1 e2 e3
    rw [e2] at ho'
    have := ho'.cells j cells[j] (by rw [List.getElem?_eq_getElem (by omega)])
    rwa [add_at] at this
/-- One element of one cell is written. -/
theorem Mine.store1 {e : Enc α} {t : TypeId} {W : World} {base : Nat} {F : FP} {g off n c : Nat} {xs : List α} (h : Mine e t W base F (.slice (some ⟨g, off, none⟩) n c) xs) (hk : e.k = 1) (j : Nat) (x : α) (u : Value) (hx : e.R W F x [u]) :
    Mine e t (W.setCell ⟨g, off + j, none⟩ u) base F (.slice (some ⟨g, off, none⟩) n c) (xs.set j x) := by
  obtain ⟨h1, h2, cells, ho, h3⟩ := h
  have hA : Agree F W (W.setCell ⟨g, off + j, none⟩ u) := fun b hb => Below.heap_setCell _ _ _ _ (fun e => (h1 b hb).2 (by subst e; rfl))
  have hl : cells.length = xs.length := by rw [ho.1, hk, Nat.mul_one]
  refine ⟨fun b hb => ⟨hA.at_ hb (h1 b hb).1, (h1 b hb).2⟩, by rw [List.length_set]; exact h2, cells.set j u, ?_, ?_⟩
  · refine ⟨by rw [List.length_set, List.length_set]; exact ho.1, ?_⟩
    rcases ho.2 with ⟨h, _⟩ | ⟨g', off', cap, cur, h, hb, hh, hn, hm, hs, ht⟩
    · cases h
    · injection h with e1 e2 e3
      injection e1 with e1
      injection e1 with e1 e4
      subst e1; subst e4
      refine .inr ⟨g, off, cap, cur.setIfInBounds (off + j) u, by rw [List.length_set, e2, e3], hb, ?_, by rw [List.length_set]; exact hn, hm, by simpa using hs, ?_⟩
      · have hlt := block_lt hh
        have hv := (Array.getElem?_eq_some_iff.1 hh).2
        simp only [World.setCell]
        rw [Array.getElem?_eq_getElem (by simpa using hlt), Array.getElem_modify]
        simp [hv]
      · have hle : xs.length * e.k ≤ cap * e.k := Nat.mul_le_mul_right _ hn
        rw [List.length_set, ← ht]
        simp only [Array.toList_setIfInBounds]
        rw [List.drop_set, if_neg (by omega), Nat.add_sub_cancel_left]
        apply List.ext_getElem?
        intro i
        simp only [List.getElem?_take, List.getElem?_set, List.length_take, List.length_drop, Array.length_toList]
        by_cases hi : i < xs.length * e.k
        · simp only [hi, if_true]
          by_cases hj : j = i
          · subst hj; simp; rw [if_pos (by omega), if_pos (by omega)]
          · simp [hj]
        · simp only [hi, if_false]
          by_cases hj : j = i
          · subst hj; simp; omega
          · simp [hj]
  · intro i y hy
    rw [hk, Nat.mul_one] at *
    rw [List.getElem?_set] at hy
    by_cases hj : j = i
    · subst hj
      simp only [if_true] at hy
      split at hy
      · rename_i hlt
        cases hy
        have : (cells.set j u).drop j = u :: (cells.drop (j + 1)) := by
          rw [List.drop_eq_getElem_cons (by simp; omega), List.getElem_set_self, List.drop_set, if_pos (by omega)]
        rw [this]
        exact e.move hA hx
      · cases hy
    · rw [if_neg hj] at hy
      have h4 := h3 i y hy
      rw [Nat.mul_one] at h4
      have hlt : i < cells.length := by have := (List.getElem?_eq_some_iff.1 hy).1; omega
      have e1 : (cells.set j u).drop i = cells[i] :: (cells.set j u).drop (i + 1) := by
        rw [List.drop_eq_getElem_cons (by simpa using hlt), List.getElem_set_ne hj]
      have e2 : cells.drop i = cells[i] :: cells.drop (i + 1) := List.drop_eq_getElem_cons hlt
      rw [e2] at h4
      rw [e1]
      exact e.move hA h4

/-- append(v, ys...), ys a slice that is read. -/
theorem own_append_run {P : Program} {W : World} (enc : Enc α) (t ty e : TypeId) (z : Value)
    (ht : P.underlying t = some (.slice e)) (hinfo : (P.info? e).map (fun i => (i.zero, i.size, i.bytes)) = some (some z, enc.k, enc.bytes)) (hz : z.cells.size = enc.k)
    (base : Nat) (F Fy : FP) (v vy : Value) (xs ys : List α)
    (HO : Mine enc e W base F v xs) (HY : Rd enc W Fy vy ys) (hF : ∀ b, Fy b → v.ownBlock ≠ some b) (hbase : base ≤ W.heap.size) (hl : (xs.length + ys.length) * enc.bytes ≤ 140737488355328)
    (hn : xs.length + ys.length ≤ maxLen) :
    ∃ v1 w1, (Builtin.append_ #[t, t] ty #[v, vy]).run P W = .ok v1 w1 ∧ Mine enc e w1 base (fun b => F b ∨ Fy b ∧ CellAt W b) v1 (xs ++ ys) ∧ W.grownBy w1 v.ownBlock ∧ (v1.ownBlock = v.ownBlock ∨ v1.ownBlock = some W.heap.size) := by
  obtain ⟨i0, hi, hzz⟩ := Option.map_eq_some_iff.1 hinfo
  simp only [Prod.mk.injEq] at hzz
  obtain ⟨hz0, hz1, hz2⟩ := hzz
  obtain ⟨A, c, rfl, _, _, _, hc⟩ := HY
  obtain ⟨h1, h2, cells, hown, h3⟩ := HO
  -- the cells of what is appended
  have hcells : ∃ news : List Value, news.length = ys.length * enc.k ∧ (∀ u ∈ news, u.oneCell' = true) ∧ (∀ j y, ys[j]? = some y → enc.R W (fun b => Fy b ∧ CellAt W b) y ((news.drop (j * enc.k)).take enc.k)) ∧
      (0 < ys.length → ∃ ad, A = some ad ∧ ∀ j u, news[j]? = some u → W.cell? (ad.add j) = some u) := by
    rcases Nat.eq_zero_or_pos ys.length with h0 | h0
    · exact ⟨[], by simp [h0], by simp, fun j y hy => by rw [List.eq_nil_of_length_eq_zero h0] at hy; simp at hy, fun h => by omega⟩
    · obtain ⟨ad, hA, _, _, hr⟩ := hc h0
      have key : ∀ n, n ≤ ys.length → ∃ news : List Value, news.length = n * enc.k ∧ (∀ u ∈ news, u.oneCell' = true) ∧ (∀ j y, j < n → ys[j]? = some y → enc.R W (fun b => Fy b ∧ CellAt W b) y ((news.drop (j * enc.k)).take enc.k)) ∧
          ∀ j u, news[j]? = some u → W.cell? (ad.add j) = some u := by
        intro n
        induction n with
        | zero => intro _; exact ⟨[], by simp, by simp, fun j y hj => by omega, fun j u hu => by simp at hu⟩
        | succ n ih =>
          intro hn'
          obtain ⟨news, e1, e2, e3, e4⟩ := ih (by omega)
          obtain ⟨cs, c1, c2⟩ := hr n _ (List.getElem?_eq_getElem (show n < ys.length by omega))
          have hcl := enc.len c1
          refine ⟨news ++ cs, by rw [List.length_append, e1, hcl, Nat.succ_mul], ?_, ?_, ?_⟩
          · intro u hu
            rcases List.mem_append.1 hu with hu | hu
            · exact e2 u hu
            · exact enc.one c1 u hu
          · intro j y hj hy
            rcases Nat.lt_or_ge j n with hjn | hjn
            · have hle : j * enc.k + enc.k ≤ news.length := by rw [e1, ← Nat.succ_mul]; exact Nat.mul_le_mul_right _ hjn
              rw [List.drop_append_of_le_length (by omega), List.take_append_of_le_length (by rw [List.length_drop]; omega)]
              exact e3 j y hjn hy
            · obtain rfl : j = n := by omega
              rw [List.getElem?_eq_getElem (show j < ys.length by omega)] at hy
              cases hy
              rw [← e1, List.drop_left, ← hcl, List.take_length]
              exact enc.lt c1
          · intro j u hu
            rcases Nat.lt_or_ge j news.length with hj | hj
            · rw [List.getElem?_append_left hj] at hu
              exact e4 j u hu
            · rw [List.getElem?_append_right hj] at hu
              have := c2 _ u hu
              rwa [← e1, Nat.add_sub_cancel' hj] at this
      obtain ⟨news, e1, e2, e3, e4⟩ := key ys.length (Nat.le_refl _)
      exact ⟨news, e1, e2, fun j y hy => e3 j y (List.getElem?_eq_some_iff.1 hy).1 hy, fun _ => ⟨ad, hA, e4⟩⟩
  obtain ⟨news, e1, e2, e3, e4⟩ := hcells
  obtain ⟨v1, w1, hr, hown1, hg, hat⟩ := run_append_row (P := P) W base t ty e i0 z enc.k enc.bytes ht hi hz0 hz1 hz2 hz v xs.length cells hown A ys.length c news e1 e4 e2 hl hn hbase
  have hcl : cells.length = xs.length * enc.k := hown.1
  have hA1 : Agree F W w1 := fun b hb => hg.block b (h1 b hb).1.lt (h1 b hb).2
  have hA2 : Agree (fun b => Fy b ∧ CellAt W b) W w1 := fun b hb => hg.block b hb.2.lt (fun e => hF b hb.1 e.symm)
  refine ⟨v1, w1, hr, ⟨?_, by rw [List.length_append]; exact hl, cells ++ news, by rw [List.length_append]; exact hown1, ?_⟩, hg, hat⟩
  · rintro b (hb | hb)
    · refine ⟨hA1.at_ hb (h1 b hb).1, fun e => ?_⟩
      rcases hat with hat | hat
      · exact (h1 b hb).2 (e.trans hat)
      · have := (h1 b hb).1.lt; rw [hat] at e; injection e with e; omega
    · refine ⟨hA2.at_ hb hb.2, fun e => ?_⟩
      rcases hat with hat | hat
      · exact hF b hb.1 (e.trans hat).symm
      · have := hb.2.lt; rw [hat] at e; injection e with e; omega
  · intro j y hy
    rcases Nat.lt_or_ge j xs.length with hj | hj
    · rw [List.getElem?_append_left hj] at hy
      have hle : j * enc.k + enc.k ≤ cells.length := by rw [hcl, ← Nat.succ_mul]; exact Nat.mul_le_mul_right _ hj
      rw [List.drop_append_of_le_length (by omega), List.take_append_of_le_length (by rw [List.length_drop]; omega)]
      exact enc.mono (fun b hb => .inl hb) (enc.move hA1 (h3 j y hy))
    · rw [List.getElem?_append_right hj] at hy
      have := e3 _ y hy
      have hj2 : j * enc.k = cells.length + (j - xs.length) * enc.k := by rw [hcl, ← Nat.add_mul, Nat.add_sub_cancel' hj]
      rw [hj2, List.drop_append, List.drop_of_length_le (by omega), List.nil_append, Nat.add_sub_cancel_left]
      exact enc.mono (fun b hb => .inr hb) (enc.move hA2 this)

theorem own_append_wp {P : Program} {o : Oper} {a : Act} {K : Act → World → Prop} {Q : Exit → Act → World → Prop} {W : World} (enc : Enc α) (s x : Operand) (t e : TypeId) (z : Value)
    (ho : o.op = .call { callee := .builtin .append, args := #[s, x], argTypes := #[t, t] })
    (ht : P.underlying t = some (.slice e)) (hinfo : (P.info? e).map (fun i => (i.zero, i.size, i.bytes)) = some (some z, enc.k, enc.bytes)) (hz : z.cells.size = enc.k)
    (base : Nat) (F Fy : FP) (v vy : Value) (xs ys : List α) (hs : a.eval s = v) (hx : a.eval x = vy)
    (HO : Mine enc e W base F v xs) (HY : Rd enc W Fy vy ys) (hF : ∀ b, Fy b → v.ownBlock ≠ some b) (hbase : base ≤ W.heap.size) (hl : (xs.length + ys.length) * enc.bytes ≤ 140737488355328)
    (hn : xs.length + ys.length ≤ maxLen)
    (h : ∀ v1 w1, Mine enc e w1 base (fun b => F b ∨ Fy b ∧ CellAt W b) v1 (xs ++ ys) → W.grownBy w1 v.ownBlock → (v1.ownBlock = v.ownBlock ∨ v1.ownBlock = some W.heap.size) → K (a.put o.dst v1) w1) :
    Oper.wp P o a W K Q := by
  obtain ⟨v1, w1, hr, h1, h2, h3⟩ := own_append_run (P := P) enc t o.type e z ht hinfo hz base F Fy v vy xs ys HO HY hF hbase hl hn
  unfold Oper.wp execOp
  simp only [ho, resolve, invoke, builtin, Sem.run_bind, Sem.run_pure, Result.andThen_ok, List.map_toArray, List.map_cons, List.map_nil, hs, hx, hr]
  exact h v1 w1 h1 h2 h3
theorem own_append0 {P : Program} {ops : Array Oper} {rest : List Oper} {o : Oper} {a : Act} {Q : Exit → Act → World → Prop} {W : World} (enc : Enc α) (hgd : o.guard = none) (s x : Operand) (t e : TypeId) (z : Value)
    (ho : o.op = .call { callee := .builtin .append, args := #[s, x], argTypes := #[t, t] })
    (ht : P.underlying t = some (.slice e)) (hinfo : (P.info? e).map (fun i => (i.zero, i.size, i.bytes)) = some (some z, enc.k, enc.bytes)) (hz : z.cells.size = enc.k)
    (base : Nat) (F Fy : FP) (v vy : Value) (xs ys : List α) (hs : a.eval s = v) (hx : a.eval x = vy)
    (HO : Mine enc e W base F v xs) (HY : Rd enc W Fy vy ys) (hF : ∀ b, Fy b → v.ownBlock ≠ some b) (hbase : base ≤ W.heap.size) (hl : (xs.length + ys.length) * enc.bytes ≤ 140737488355328)
    (hn : xs.length + ys.length ≤ maxLen)
    (h : ∀ v1 w1, Mine enc e w1 base (fun b => F b ∨ Fy b ∧ CellAt W b) v1 (xs ++ ys) → W.grownBy w1 v.ownBlock → (v1.ownBlock = v.ownBlock ∨ v1.ownBlock = some W.heap.size) → wpList P ops Q rest (a.put o.dst v1) w1) :
    wpList P ops Q (o :: rest) a W :=
  wpList_plain hgd fun _ hK => own_append_wp enc s x t e z ho ht hinfo hz base F Fy v vy xs ys hs hx HO HY hF hbase hl hn fun v1 w1 h1 h2 h3 => hK _ _ (h v1 w1 h1 h2 h3)

/-- The same, for the walk: the new slice written out; what lay below the call's own lies there still. -/
theorem own_append {P : Program} {ops : Array Oper} {rest : List Oper} {o : Oper} {a : Act} {Q : Exit → Act → World → Prop} {w0 W : World} (enc : Enc α) (hgd : o.guard = none) (s x : Operand) (t e : TypeId) (z : Value)
    (ho : o.op = .call { callee := .builtin .append, args := #[s, x], argTypes := #[t, t] })
    (ht : P.underlying t = some (.slice e)) (hinfo : (P.info? e).map (fun i => (i.zero, i.size, i.bytes)) = some (some z, enc.k, enc.bytes)) (hz : z.cells.size = enc.k)
    (F Fy : FP) (v vy : Value) (xs ys zs : List α) (n : Nat) (hs : a.eval s = v) (hx : a.eval x = vy) (hzs : xs ++ ys = zs) (hzn : zs.length = n)
    (HO : Mine enc e W w0.heap.size F v xs) (HB : Below w0.heap.size w0 W) (HY : Rd enc W Fy vy ys) (hF : ∀ b, v.ownBlock = some b → ¬ Fy b) (hl : n * enc.bytes ≤ 140737488355328)
    (hn : n ≤ maxLen)
    (h : ∀ A1 c1 w1, Mine enc e w1 w0.heap.size (fun b => F b ∨ Fy b ∧ CellAt W b) (.slice A1 n c1) zs → Below w0.heap.size w0 w1 → n ≤ c1 → c1 ≤ maxLen → W.grownBy w1 v.ownBlock → ((Value.slice A1 n c1).ownBlock = v.ownBlock ∨ (Value.slice A1 n c1).ownBlock = some W.heap.size) →
      wpList P ops Q rest (a.put o.dst (.slice A1 n c1)) w1) :
    wpList P ops Q (o :: rest) a W := by
  subst hzn
  subst hzs
  rw [List.length_append] at hl hn
  refine own_append0 enc hgd s x t e z ho ht hinfo hz w0.heap.size F Fy v vy xs ys hs hx HO HY (fun b hb he => hF b he hb) HB.size hl hn ?_
  intro v1 w1 HO1 hg hat
  obtain ⟨A1, c1, rfl, h1, h2⟩ := HO1.slice
  exact h A1 c1 w1 HO1 (HB.grown hg HB.size fun k hk => (HO.lt k hk).1) h1 h2 hg hat

/-- The same at a step of a region that draws its order. -/
theorem own_step {P : Program} {ops : Array Oper} {o : Oper} {a : Act} {K : Act → World → Prop} {Q : Exit → Act → World → Prop} {E : Prop} {w0 W : World} (enc : Enc α) (hgd : o.guard = none) (s x : Operand) (t e : TypeId) (z : Value)
    (ho : o.op = .call { callee := .builtin .append, args := #[s, x], argTypes := #[t, t] })
    (ht : P.underlying t = some (.slice e)) (hinfo : (P.info? e).map (fun i => (i.zero, i.size, i.bytes)) = some (some z, enc.k, enc.bytes)) (hz : z.cells.size = enc.k)
    (F Fy : FP) (v vy : Value) (xs ys zs : List α) (n : Nat) (hs : a.eval s = v) (hx : a.eval x = vy) (hzs : xs ++ ys = zs) (hzn : zs.length = n)
    (HO : Mine enc e W w0.heap.size F v xs) (HB : Below w0.heap.size w0 W) (HY : Rd enc W Fy vy ys) (hF : ∀ b, v.ownBlock = some b → ¬ Fy b) (hl : n * enc.bytes ≤ 140737488355328)
    (hn : n ≤ maxLen)
    (h : ∀ A1 c1 w1, Mine enc e w1 w0.heap.size (fun b => F b ∨ Fy b ∧ CellAt W b) (.slice A1 n c1) zs → Below w0.heap.size w0 w1 → n ≤ c1 → c1 ≤ maxLen → W.grownBy w1 v.ownBlock → ((Value.slice A1 n c1).ownBlock = v.ownBlock ∨ (Value.slice A1 n c1).ownBlock = some W.heap.size) →
      K (a.put o.dst (.slice A1 n c1)) w1) :
    if Region.wanted o (yielded ops a.tmps) = true then Oper.wp P o a W K Q else E := by
  subst hzn
  subst hzs
  rw [List.length_append] at hl hn
  rw [if_pos (show Region.wanted o (yielded ops a.tmps) = true by simp [Region.wanted, hgd])]
  refine own_append_wp enc s x t e z ho ht hinfo hz w0.heap.size F Fy v vy xs ys hs hx HO HY (fun b hb he => hF b he hb) HB.size hl hn ?_
  intro v1 w1 HO1 hg hat
  obtain ⟨A1, c1, rfl, h1, h2⟩ := HO1.slice
  exact h A1 c1 w1 HO1 (HB.grown hg HB.size fun k hk => (HO.lt k hk).1) h1 h2 hg hat

/-- A block that was just laid reads as one element. -/
theorem Rd.one_new (e : Enc α) (w W : World) (F : FP) (b : Nat) (cs : Array Value) (t : TypeId) (x : α) (c : Nat) (hb : W.heap[b]? = some (.cells cs t (0, 0))) (h : e.R W F x cs.toList) (hF : F b) (hc : 1 ≤ c) (hm : c ≤ maxLen) (hby : e.bytes ≤ 140737488355328) :
    Rd e W F (.slice (some ⟨b, 0, none⟩) 1 c) [x] := by
  refine ⟨_, c, rfl, hc, hm, by simpa using hby, fun _ => ⟨_, rfl, hF, ⟨_, _, _, hb⟩, fun j y hy => ?_⟩⟩
  obtain ⟨rfl, rfl⟩ : j = 0 ∧ y = x := by
    cases j with
    | zero => simpa using hy.symm
    | succ j => simp at hy
  refine ⟨_, h, fun i u hu => ?_⟩
  rw [Nat.zero_mul, Nat.zero_add, add_at, Nat.zero_add, cell_of_row W b i cs t (0, 0) hb]
  simpa using hu
end
/-! ### 5. Small movers for the walk -/
def ltF (w : World) : FP := fun b => CellAt w b
theorem ltF_lt {w : World} {b : Nat} (h : ltF w b) : b < w.heap.size := CellAt.lt h
def geF (n : Nat) : FP := fun b => n ≤ b
theorem bel_alloc {B : Nat} {w W : World} (h : Below B w W) (hB : B ≤ w.heap.size) (o : Obj) : Below B w (W.alloc o) := h.alloc (Nat.le_trans hB h.size) o
theorem bel_drew {B : Nat} {w W : World} (h : Below B w W) : Below B w W.drew := h.drew
theorem bel_drewN {B : Nat} {w W : World} (h : Below B w W) (n : Nat) : Below B w (W.drewN n) := ⟨h.os, h.tape, h.output, h.size, h.block⟩
theorem bel_set {B : Nat} {w W : World} {p : Addr} (hp : B ≤ p.block) (h : Below B w W) (u : Value) : Below B w (W.setCell p u) := h.setCell hp u
theorem bel_then {B : Nat} {w W W' : World} (h : Below B w W) (hB : B ≤ w.heap.size) (k : Below W.heap.size W W') : Below B w W' := h.trans (k.mono (Nat.le_trans hB h.size))
theorem bel_grown {B : Nat} {w W W' : World} {row : Option Nat} (h : Below B w W) (hB : B ≤ w.heap.size) (hg : W.grownBy W' row) (hr : ∀ k, row = some k → B ≤ k) : Below B w W' := h.grown hg (Nat.le_trans hB h.size) hr
theorem far_cell {W w1 : World} {row : Option Nat} (hg : W.grownBy w1 row) (b : Nat) (hl : b < W.heap.size) (hn : some b ≠ row) : ∀ i, w1.cell? ⟨b, i, none⟩ = W.cell? ⟨b, i, none⟩ := fun _ => World.cell?_of_block (hg.block b hl hn)
theorem far_frozen {W w1 : World} {row : Option Nat} (hg : W.grownBy w1 row) (b : Nat) (hl : b < W.heap.size) (hn : some b ≠ row) : ∀ i, w1.frozen? ⟨b, i, none⟩ = W.frozen? ⟨b, i, none⟩ := fun _ => World.frozen?_of_block (hg.block b hl hn)
theorem bel_cell {W w1 : World} {B : Nat} (h : Below B W w1) (b : Nat) (hl : b < B) : ∀ i, w1.cell? ⟨b, i, none⟩ = W.cell? ⟨b, i, none⟩ := fun _ => World.cell?_of_block (h.block b hl)
theorem bel_frozen {W w1 : World} {B : Nat} (h : Below B W w1) (b : Nat) (hl : b < B) : ∀ i, w1.frozen? ⟨b, i, none⟩ = W.frozen? ⟨b, i, none⟩ := fun _ => World.frozen?_of_block (h.block b hl)
theorem heap_new {W : World} {o o' : Obj} {b : Nat} (h : W.heap.size = b) (ho : o = o') : (W.alloc o).heap[b]? = some o' := by subst h; subst ho; exact heap_alloc_new W o
theorem heap_old {W : World} {o : Obj} {b : Nat} {x : Option Obj} (h : b < W.heap.size) (k : W.heap[b]? = x) : (W.alloc o).heap[b]? = x := (Below.heap_alloc W o b h).trans k
theorem heap_drew {W : World} {b : Nat} {x : Option Obj} (k : W.heap[b]? = x) : W.drew.heap[b]? = x := k
theorem heap_drewN {W : World} {b n : Nat} {x : Option Obj} (k : W.heap[b]? = x) : (W.drewN n).heap[b]? = x := k
theorem heap_far {W : World} {b : Nat} {p : Addr} {u : Value} {x : Option Obj} (h : b ≠ p.block) (k : W.heap[b]? = x) : (W.setCell p u).heap[b]? = x := (Below.heap_setCell W p u b h).trans k
theorem heap_set {W : World} {b i : Nat} {u : Value} {cs cs' : Array Value} {t : TypeId} (k : W.heap[b]? = some (.cells cs t (0, 0))) (hc : cs.setIfInBounds i u = cs') : (W.setCell ⟨b, i, none⟩ u).heap[b]? = some (.cells cs' t (0, 0)) := by
  subst hc
  have hl := block_lt k
  have hv := (Array.getElem?_eq_some_iff.1 k).2
  simp only [World.setCell]
  rw [Array.getElem?_eq_getElem (by simpa using hl), Array.getElem_modify]
  simp [hv]
theorem ret_cell {P : Program} {fn : Func} {R : Ending → World → Prop} {a : Act} {w : World} {p : Tmp} {ty : TypeId} {d : TypeDesc} (g : Nat) (t : TypeId) (cs : Array Value) (h : fn.results = #[.cell p ty]) (hp : a.tmps.getD p undef = .pointer (some ⟨g, 0, none⟩))
    (hu : P.underlying ty = some d) (hd : (match d with | .struct _ | .array _ _ => true | _ => false) = true) (hi : (P.info? ty).map (·.size) = some cs.size) (h0 : a.defers = [])
    (hg : w.heap[g]? = some (.cells cs t (0, 0))) (hR : R (.returned (.agg cs)) w) : bodyPost P fn R .ret a w :=
  bodyPost_ret (results_cell_row h _ _ g t cs (0, 0) d hp hg hu hd hi) h0 hR
/-- A world behind stores into blocks that lie outside of F. -/
theorem agree_set {F : FP} {w W : World} {p : Addr} (hp : ¬ F p.block) (h : Agree F w W) (u : Value) : Agree F w (W.setCell p u) := fun b hb => (Below.heap_setCell W p u b (fun e => hp (e ▸ hb))).trans (h b hb)
theorem agree_drew {F : FP} {w W : World} (h : Agree F w W) : Agree F w W.drew := h
theorem agree_drewN {F : FP} {w W : World} (h : Agree F w W) (n : Nat) : Agree F w (W.drewN n) := h
theorem agree_alloc {F : FP} {w W : World} (hF : ∀ b, F b → b < W.heap.size) (h : Agree F w W) (o : Obj) : Agree F w (W.alloc o) := fun b hb => (Below.heap_alloc W o b (hF b hb)).trans (h b hb)
theorem add_field (a : Addr) (n i : Nat) (hi : 0 < i) : a.add (n + i) = ⟨(a.add n).block, (a.add n).off + i, none⟩ := by
  unfold Addr.add
  by_cases h : n = 0
  · subst h; simp; omega
  · simp [h]; omega
theorem blk1 {W : World} {B : Nat} {t : TypeId} {v0 : Value} (h : W.heap[B]? = some (.cells #[v0] t (0, 0))) : W.cell? ⟨B, 0, none⟩ = some v0 ∧ ∀ i, W.frozen? ⟨B, i, none⟩ = false :=
  ⟨(cell_of_row W B 0 _ t (0, 0) h).trans rfl, fun i => by simp [World.frozen?, h]⟩
theorem blk2 {W : World} {B : Nat} {t : TypeId} {v0 v1 : Value} (h : W.heap[B]? = some (.cells #[v0, v1] t (0, 0))) : W.cell? ⟨B, 0, none⟩ = some v0 ∧ W.cell? ⟨B, 1, none⟩ = some v1 ∧ ∀ i, W.frozen? ⟨B, i, none⟩ = false :=
  ⟨(cell_of_row W B 0 _ t (0, 0) h).trans rfl, (cell_of_row W B 1 _ t (0, 0) h).trans rfl, fun i => by simp [World.frozen?, h]⟩
theorem blk3 {W : World} {B : Nat} {t : TypeId} {v0 v1 v2 : Value} (h : W.heap[B]? = some (.cells #[v0, v1, v2] t (0, 0))) : W.cell? ⟨B, 0, none⟩ = some v0 ∧ W.cell? ⟨B, 1, none⟩ = some v1 ∧ W.cell? ⟨B, 2, none⟩ = some v2 ∧ ∀ i, W.frozen? ⟨B, i, none⟩ = false :=
  ⟨(cell_of_row W B 0 _ t (0, 0) h).trans rfl, (cell_of_row W B 1 _ t (0, 0) h).trans rfl, (cell_of_row W B 2 _ t (0, 0) h).trans rfl, fun i => by simp [World.frozen?, h]⟩
theorem blk4 {W : World} {B : Nat} {t : TypeId} {v0 v1 v2 v3 : Value} (h : W.heap[B]? = some (.cells #[v0, v1, v2, v3] t (0, 0))) : W.cell? ⟨B, 0, none⟩ = some v0 ∧ W.cell? ⟨B, 1, none⟩ = some v1 ∧ W.cell? ⟨B, 2, none⟩ = some v2 ∧ W.cell? ⟨B, 3, none⟩ = some v3 ∧ ∀ i, W.frozen? ⟨B, i, none⟩ = false :=
  ⟨(cell_of_row W B 0 _ t (0, 0) h).trans rfl, (cell_of_row W B 1 _ t (0, 0) h).trans rfl, (cell_of_row W B 2 _ t (0, 0) h).trans rfl, (cell_of_row W B 3 _ t (0, 0) h).trans rfl, fun i => by simp [World.frozen?, h]⟩
theorem blk5 {W : World} {B : Nat} {t : TypeId} {v0 v1 v2 v3 v4 : Value} (h : W.heap[B]? = some (.cells #[v0, v1, v2, v3, v4] t (0, 0))) : W.cell? ⟨B, 0, none⟩ = some v0 ∧ W.cell? ⟨B, 1, none⟩ = some v1 ∧ W.cell? ⟨B, 2, none⟩ = some v2 ∧ W.cell? ⟨B, 3, none⟩ = some v3 ∧ W.cell? ⟨B, 4, none⟩ = some v4 ∧ ∀ i, W.frozen? ⟨B, i, none⟩ = false :=
  ⟨(cell_of_row W B 0 _ t (0, 0) h).trans rfl, (cell_of_row W B 1 _ t (0, 0) h).trans rfl, (cell_of_row W B 2 _ t (0, 0) h).trans rfl, (cell_of_row W B 3 _ t (0, 0) h).trans rfl, (cell_of_row W B 4 _ t (0, 0) h).trans rfl, fun i => by simp [World.frozen?, h]⟩
theorem blk6 {W : World} {B : Nat} {t : TypeId} {v0 v1 v2 v3 v4 v5 : Value} (h : W.heap[B]? = some (.cells #[v0, v1, v2, v3, v4, v5] t (0, 0))) : W.cell? ⟨B, 0, none⟩ = some v0 ∧ W.cell? ⟨B, 1, none⟩ = some v1 ∧ W.cell? ⟨B, 2, none⟩ = some v2 ∧ W.cell? ⟨B, 3, none⟩ = some v3 ∧ W.cell? ⟨B, 4, none⟩ = some v4 ∧ W.cell? ⟨B, 5, none⟩ = some v5 ∧ ∀ i, W.frozen? ⟨B, i, none⟩ = false :=
  ⟨(cell_of_row W B 0 _ t (0, 0) h).trans rfl, (cell_of_row W B 1 _ t (0, 0) h).trans rfl, (cell_of_row W B 2 _ t (0, 0) h).trans rfl, (cell_of_row W B 3 _ t (0, 0) h).trans rfl, (cell_of_row W B 4 _ t (0, 0) h).trans rfl, (cell_of_row W B 5 _ t (0, 0) h).trans rfl, fun i => by simp [World.frozen?, h]⟩
theorem blk7 {W : World} {B : Nat} {t : TypeId} {v0 v1 v2 v3 v4 v5 v6 : Value} (h : W.heap[B]? = some (.cells #[v0, v1, v2, v3, v4, v5, v6] t (0, 0))) : W.cell? ⟨B, 0, none⟩ = some v0 ∧ W.cell? ⟨B, 1, none⟩ = some v1 ∧ W.cell? ⟨B, 2, none⟩ = some v2 ∧ W.cell? ⟨B, 3, none⟩ = some v3 ∧ W.cell? ⟨B, 4, none⟩ = some v4 ∧ W.cell? ⟨B, 5, none⟩ = some v5 ∧ W.cell? ⟨B, 6, none⟩ = some v6 ∧ ∀ i, W.frozen? ⟨B, i, none⟩ = false :=
  ⟨(cell_of_row W B 0 _ t (0, 0) h).trans rfl, (cell_of_row W B 1 _ t (0, 0) h).trans rfl, (cell_of_row W B 2 _ t (0, 0) h).trans rfl, (cell_of_row W B 3 _ t (0, 0) h).trans rfl, (cell_of_row W B 4 _ t (0, 0) h).trans rfl, (cell_of_row W B 5 _ t (0, 0) h).trans rfl, (cell_of_row W B 6 _ t (0, 0) h).trans rfl, fun i => by simp [World.frozen?, h]⟩
theorem blk8 {W : World} {B : Nat} {t : TypeId} {v0 v1 v2 v3 v4 v5 v6 v7 : Value} (h : W.heap[B]? = some (.cells #[v0, v1, v2, v3, v4, v5, v6, v7] t (0, 0))) : W.cell? ⟨B, 0, none⟩ = some v0 ∧ W.cell? ⟨B, 1, none⟩ = some v1 ∧ W.cell? ⟨B, 2, none⟩ = some v2 ∧ W.cell? ⟨B, 3, none⟩ = some v3 ∧ W.cell? ⟨B, 4, none⟩ = some v4 ∧ W.cell? ⟨B, 5, none⟩ = some v5 ∧ W.cell? ⟨B, 6, none⟩ = some v6 ∧ W.cell? ⟨B, 7, none⟩ = some v7 ∧ ∀ i, W.frozen? ⟨B, i, none⟩ = false :=
  ⟨(cell_of_row W B 0 _ t (0, 0) h).trans rfl, (cell_of_row W B 1 _ t (0, 0) h).trans rfl, (cell_of_row W B 2 _ t (0, 0) h).trans rfl, (cell_of_row W B 3 _ t (0, 0) h).trans rfl, (cell_of_row W B 4 _ t (0, 0) h).trans rfl, (cell_of_row W B 5 _ t (0, 0) h).trans rfl, (cell_of_row W B 6 _ t (0, 0) h).trans rfl, (cell_of_row W B 7 _ t (0, 0) h).trans rfl, fun i => by simp [World.frozen?, h]⟩
theorem blk9 {W : World} {B : Nat} {t : TypeId} {v0 v1 v2 v3 v4 v5 v6 v7 v8 : Value} (h : W.heap[B]? = some (.cells #[v0, v1, v2, v3, v4, v5, v6, v7, v8] t (0, 0))) : W.cell? ⟨B, 0, none⟩ = some v0 ∧ W.cell? ⟨B, 1, none⟩ = some v1 ∧ W.cell? ⟨B, 2, none⟩ = some v2 ∧ W.cell? ⟨B, 3, none⟩ = some v3 ∧ W.cell? ⟨B, 4, none⟩ = some v4 ∧ W.cell? ⟨B, 5, none⟩ = some v5 ∧ W.cell? ⟨B, 6, none⟩ = some v6 ∧ W.cell? ⟨B, 7, none⟩ = some v7 ∧ W.cell? ⟨B, 8, none⟩ = some v8 ∧ ∀ i, W.frozen? ⟨B, i, none⟩ = false :=
  ⟨(cell_of_row W B 0 _ t (0, 0) h).trans rfl, (cell_of_row W B 1 _ t (0, 0) h).trans rfl, (cell_of_row W B 2 _ t (0, 0) h).trans rfl, (cell_of_row W B 3 _ t (0, 0) h).trans rfl, (cell_of_row W B 4 _ t (0, 0) h).trans rfl, (cell_of_row W B 5 _ t (0, 0) h).trans rfl, (cell_of_row W B 6 _ t (0, 0) h).trans rfl, (cell_of_row W B 7 _ t (0, 0) h).trans rfl, (cell_of_row W B 8 _ t (0, 0) h).trans rfl, fun i => by simp [World.frozen?, h]⟩
theorem blk10 {W : World} {B : Nat} {t : TypeId} {v0 v1 v2 v3 v4 v5 v6 v7 v8 v9 : Value} (h : W.heap[B]? = some (.cells #[v0, v1, v2, v3, v4, v5, v6, v7, v8, v9] t (0, 0))) : W.cell? ⟨B, 0, none⟩ = some v0 ∧ W.cell? ⟨B, 1, none⟩ = some v1 ∧ W.cell? ⟨B, 2, none⟩ = some v2 ∧ W.cell? ⟨B, 3, none⟩ = some v3 ∧ W.cell? ⟨B, 4, none⟩ = some v4 ∧ W.cell? ⟨B, 5, none⟩ = some v5 ∧ W.cell? ⟨B, 6, none⟩ = some v6 ∧ W.cell? ⟨B, 7, none⟩ = some v7 ∧ W.cell? ⟨B, 8, none⟩ = some v8 ∧ W.cell? ⟨B, 9, none⟩ = some v9 ∧ ∀ i, W.frozen? ⟨B, i, none⟩ = false :=
  ⟨(cell_of_row W B 0 _ t (0, 0) h).trans rfl, (cell_of_row W B 1 _ t (0, 0) h).trans rfl, (cell_of_row W B 2 _ t (0, 0) h).trans rfl, (cell_of_row W B 3 _ t (0, 0) h).trans rfl, (cell_of_row W B 4 _ t (0, 0) h).trans rfl, (cell_of_row W B 5 _ t (0, 0) h).trans rfl, (cell_of_row W B 6 _ t (0, 0) h).trans rfl, (cell_of_row W B 7 _ t (0, 0) h).trans rfl, (cell_of_row W B 8 _ t (0, 0) h).trans rfl, (cell_of_row W B 9 _ t (0, 0) h).trans rfl, fun i => by simp [World.frozen?, h]⟩
theorem blk11 {W : World} {B : Nat} {t : TypeId} {v0 v1 v2 v3 v4 v5 v6 v7 v8 v9 v10 : Value} (h : W.heap[B]? = some (.cells #[v0, v1, v2, v3, v4, v5, v6, v7, v8, v9, v10] t (0, 0))) : W.cell? ⟨B, 0, none⟩ = some v0 ∧ W.cell? ⟨B, 1, none⟩ = some v1 ∧ W.cell? ⟨B, 2, none⟩ = some v2 ∧ W.cell? ⟨B, 3, none⟩ = some v3 ∧ W.cell? ⟨B, 4, none⟩ = some v4 ∧ W.cell? ⟨B, 5, none⟩ = some v5 ∧ W.cell? ⟨B, 6, none⟩ = some v6 ∧ W.cell? ⟨B, 7, none⟩ = some v7 ∧ W.cell? ⟨B, 8, none⟩ = some v8 ∧ W.cell? ⟨B, 9, none⟩ = some v9 ∧ W.cell? ⟨B, 10, none⟩ = some v10 ∧ ∀ i, W.frozen? ⟨B, i, none⟩ = false :=
  ⟨(cell_of_row W B 0 _ t (0, 0) h).trans rfl, (cell_of_row W B 1 _ t (0, 0) h).trans rfl, (cell_of_row W B 2 _ t (0, 0) h).trans rfl, (cell_of_row W B 3 _ t (0, 0) h).trans rfl, (cell_of_row W B 4 _ t (0, 0) h).trans rfl, (cell_of_row W B 5 _ t (0, 0) h).trans rfl, (cell_of_row W B 6 _ t (0, 0) h).trans rfl, (cell_of_row W B 7 _ t (0, 0) h).trans rfl, (cell_of_row W B 8 _ t (0, 0) h).trans rfl, (cell_of_row W B 9 _ t (0, 0) h).trans rfl, (cell_of_row W B 10 _ t (0, 0) h).trans rfl, fun i => by simp [World.frozen?, h]⟩
theorem blk12 {W : World} {B : Nat} {t : TypeId} {v0 v1 v2 v3 v4 v5 v6 v7 v8 v9 v10 v11 : Value} (h : W.heap[B]? = some (.cells #[v0, v1, v2, v3, v4, v5, v6, v7, v8, v9, v10, v11] t (0, 0))) : W.cell? ⟨B, 0, none⟩ = some v0 ∧ W.cell? ⟨B, 1, none⟩ = some v1 ∧ W.cell? ⟨B, 2, none⟩ = some v2 ∧ W.cell? ⟨B, 3, none⟩ = some v3 ∧ W.cell? ⟨B, 4, none⟩ = some v4 ∧ W.cell? ⟨B, 5, none⟩ = some v5 ∧ W.cell? ⟨B, 6, none⟩ = some v6 ∧ W.cell? ⟨B, 7, none⟩ = some v7 ∧ W.cell? ⟨B, 8, none⟩ = some v8 ∧ W.cell? ⟨B, 9, none⟩ = some v9 ∧ W.cell? ⟨B, 10, none⟩ = some v10 ∧ W.cell? ⟨B, 11, none⟩ = some v11 ∧ ∀ i, W.frozen? ⟨B, i, none⟩ = false :=
  ⟨(cell_of_row W B 0 _ t (0, 0) h).trans rfl, (cell_of_row W B 1 _ t (0, 0) h).trans rfl, (cell_of_row W B 2 _ t (0, 0) h).trans rfl, (cell_of_row W B 3 _ t (0, 0) h).trans rfl, (cell_of_row W B 4 _ t (0, 0) h).trans rfl, (cell_of_row W B 5 _ t (0, 0) h).trans rfl, (cell_of_row W B 6 _ t (0, 0) h).trans rfl, (cell_of_row W B 7 _ t (0, 0) h).trans rfl, (cell_of_row W B 8 _ t (0, 0) h).trans rfl, (cell_of_row W B 9 _ t (0, 0) h).trans rfl, (cell_of_row W B 10 _ t (0, 0) h).trans rfl, (cell_of_row W B 11 _ t (0, 0) h).trans rfl, fun i => by simp [World.frozen?, h]⟩
theorem blk13 {W : World} {B : Nat} {t : TypeId} {v0 v1 v2 v3 v4 v5 v6 v7 v8 v9 v10 v11 v12 : Value} (h : W.heap[B]? = some (.cells #[v0, v1, v2, v3, v4, v5, v6, v7, v8, v9, v10, v11, v12] t (0, 0))) : W.cell? ⟨B, 0, none⟩ = some v0 ∧ W.cell? ⟨B, 1, none⟩ = some v1 ∧ W.cell? ⟨B, 2, none⟩ = some v2 ∧ W.cell? ⟨B, 3, none⟩ = some v3 ∧ W.cell? ⟨B, 4, none⟩ = some v4 ∧ W.cell? ⟨B, 5, none⟩ = some v5 ∧ W.cell? ⟨B, 6, none⟩ = some v6 ∧ W.cell? ⟨B, 7, none⟩ = some v7 ∧ W.cell? ⟨B, 8, none⟩ = some v8 ∧ W.cell? ⟨B, 9, none⟩ = some v9 ∧ W.cell? ⟨B, 10, none⟩ = some v10 ∧ W.cell? ⟨B, 11, none⟩ = some v11 ∧ W.cell? ⟨B, 12, none⟩ = some v12 ∧ ∀ i, W.frozen? ⟨B, i, none⟩ = false :=
  ⟨(cell_of_row W B 0 _ t (0, 0) h).trans rfl, (cell_of_row W B 1 _ t (0, 0) h).trans rfl, (cell_of_row W B 2 _ t (0, 0) h).trans rfl, (cell_of_row W B 3 _ t (0, 0) h).trans rfl, (cell_of_row W B 4 _ t (0, 0) h).trans rfl, (cell_of_row W B 5 _ t (0, 0) h).trans rfl, (cell_of_row W B 6 _ t (0, 0) h).trans rfl, (cell_of_row W B 7 _ t (0, 0) h).trans rfl, (cell_of_row W B 8 _ t (0, 0) h).trans rfl, (cell_of_row W B 9 _ t (0, 0) h).trans rfl, (cell_of_row W B 10 _ t (0, 0) h).trans rfl, (cell_of_row W B 11 _ t (0, 0) h).trans rfl, (cell_of_row W B 12 _ t (0, 0) h).trans rfl, fun i => by simp [World.frozen?, h]⟩
theorem blk14 {W : World} {B : Nat} {t : TypeId} {v0 v1 v2 v3 v4 v5 v6 v7 v8 v9 v10 v11 v12 v13 : Value} (h : W.heap[B]? = some (.cells #[v0, v1, v2, v3, v4, v5, v6, v7, v8, v9, v10, v11, v12, v13] t (0, 0))) : W.cell? ⟨B, 0, none⟩ = some v0 ∧ W.cell? ⟨B, 1, none⟩ = some v1 ∧ W.cell? ⟨B, 2, none⟩ = some v2 ∧ W.cell? ⟨B, 3, none⟩ = some v3 ∧ W.cell? ⟨B, 4, none⟩ = some v4 ∧ W.cell? ⟨B, 5, none⟩ = some v5 ∧ W.cell? ⟨B, 6, none⟩ = some v6 ∧ W.cell? ⟨B, 7, none⟩ = some v7 ∧ W.cell? ⟨B, 8, none⟩ = some v8 ∧ W.cell? ⟨B, 9, none⟩ = some v9 ∧ W.cell? ⟨B, 10, none⟩ = some v10 ∧ W.cell? ⟨B, 11, none⟩ = some v11 ∧ W.cell? ⟨B, 12, none⟩ = some v12 ∧ W.cell? ⟨B, 13, none⟩ = some v13 ∧ ∀ i, W.frozen? ⟨B, i, none⟩ = false :=
  ⟨(cell_of_row W B 0 _ t (0, 0) h).trans rfl, (cell_of_row W B 1 _ t (0, 0) h).trans rfl, (cell_of_row W B 2 _ t (0, 0) h).trans rfl, (cell_of_row W B 3 _ t (0, 0) h).trans rfl, (cell_of_row W B 4 _ t (0, 0) h).trans rfl, (cell_of_row W B 5 _ t (0, 0) h).trans rfl, (cell_of_row W B 6 _ t (0, 0) h).trans rfl, (cell_of_row W B 7 _ t (0, 0) h).trans rfl, (cell_of_row W B 8 _ t (0, 0) h).trans rfl, (cell_of_row W B 9 _ t (0, 0) h).trans rfl, (cell_of_row W B 10 _ t (0, 0) h).trans rfl, (cell_of_row W B 11 _ t (0, 0) h).trans rfl, (cell_of_row W B 12 _ t (0, 0) h).trans rfl, (cell_of_row W B 13 _ t (0, 0) h).trans rfl, fun i => by simp [World.frozen?, h]⟩
section
variable {α : Type}
/-- 'xs[lo:hi]' and 'xs[lo:]' of a slice that is read: the address is a letter. -/
theorem Rd.cut {P : Program} (t e : TypeId) (enc : Enc α) (i : TypeInfo) (ht : P.underlying t = some (.slice e)) (hi : P.info? e = some i) (hsz : i.size = enc.k) {w : World} {F : FP} {A : Option Addr} {n c : Nat} {xs : List α} (h : Rd enc w F (.slice A n c) xs) (lo hi' : Nat) (h1 : lo ≤ hi') (h2 : hi' ≤ n) :
    ∃ A', (∀ W kl kh, (Instr.slice t (.slice A n c) (some (.int kl (lo : Int))) (some (.int kh (hi' : Int))) none).run P W = .ok (.slice A' (hi' - lo) (c - lo)) W) ∧
      (hi' = n → ∀ W kl, (Instr.slice t (.slice A n c) (some (.int kl (lo : Int))) none none).run P W = .ok (.slice A' (n - lo) (c - lo)) W) ∧ Rd enc w F (.slice A' (hi' - lo) (c - lo)) ((xs.drop lo).take (hi' - lo)) := by
  have hel : P.elem t = e := by simp [Program.elem, ht]
  have hu : P.underlying t = some (.slice (P.elem t)) := by rw [hel]; exact ht
  obtain ⟨A0, c0, hv, hl, hm, hb, hc⟩ := h
  injection hv with e1 e2 e3
  subst e1; subst e2; subst e3
  refine ⟨if c = lo then A else A.map (·.add (lo * enc.k)), fun W kl kh => ?_, fun hn W kl => ?_, ?_⟩
  · rw [run_slice_lh W t A _ c hu kl kh (lo : Int) (hi' : Int) (Int.natCast_nonneg _) (by omega) (by omega), hel]
    simp [sizeOf, typeInfo, hi, hsz, sliced, Result.andThen]
  · rw [run_slice_l W t A _ c hu kl (lo : Int) (Int.natCast_nonneg _) (by omega), hel]
    simp [sizeOf, typeInfo, hi, hsz, sliced, Result.andThen]
  · have hlen : ((xs.drop lo).take (hi' - lo)).length = hi' - lo := by rw [List.length_take, List.length_drop]; omega
    refine ⟨_, _, by rw [hlen], by rw [hlen]; omega, by omega, ?_, fun h0 => ?_⟩
    · rw [hlen]
      exact Nat.le_trans (Nat.mul_le_mul_right _ (by omega)) hb
    · rw [hlen] at h0
      obtain ⟨ad, rfl, ha, hs, hr⟩ := hc (by omega)
      rw [if_neg (by omega)]
      refine ⟨ad.add (lo * enc.k), rfl, by rw [add_block]; exact ha, by rw [add_block]; exact hs, fun j x hx => ?_⟩
      rw [List.getElem?_take] at hx
      split at hx
      · rw [List.getElem?_drop] at hx
        obtain ⟨cs, hR, hcell⟩ := hr (lo + j) x hx
        refine ⟨cs, hR, fun i u hu => ?_⟩
        have := hcell i u hu
        have ha : (ad.add (lo * enc.k)).add (j * enc.k + i) = ad.add ((lo + j) * enc.k + i) := by
          rw [Nat.add_mul]
          unfold Addr.add
          by_cases h1 : lo * enc.k = 0 <;> by_cases h2 : j * enc.k + i = 0 <;> simp [h1, h2, Nat.add_assoc] <;> omega
        rw [ha]; exact this
      · cases hx
/-- One element of a slice of slices, as the walk reads it. -/
theorem Rd.row_at {e : Enc α} {w : World} {F : FP} {A : Option Addr} {n c : Nat} {xs : List (List α)} (h : Rd (encSlice e) w F (.slice A n c) xs) (k : Nat) (hk : k < xs.length) :
    ∃ ad A1 c1, A = some ad ∧ w.cell? (ad.add k) = some (.slice A1 xs[k].length c1) ∧ xs[k].length ≤ c1 ∧ c1 ≤ maxLen ∧ Rd e w F (.slice A1 xs[k].length c1) xs[k] := by
  obtain ⟨ad, cs, hA, _, _, ⟨v, rfl, hR⟩, hc⟩ := h.get k xs[k] (List.getElem?_eq_getElem hk)
  obtain ⟨A1, c1, rfl, h1, h2⟩ := hR.slice
  have := hc 0 _ rfl
  simp only [encSlice, Nat.mul_one, Nat.add_zero] at this
  exact ⟨ad, A1, c1, hA, this, h1, h2, hR⟩
theorem Rd.byte_at {w : World} {F : FP} {A : Option Addr} {n c : Nat} {xs : List UInt8} (h : Rd encU8 w F (.slice A n c) xs) (k : Nat) (hk : k < xs.length) : ∃ ad, A = some ad ∧ w.cell? (ad.add k) = some (.int .u8 (xs[k].toNat : Int)) := by
  obtain ⟨ad, cs, hA, _, _, ⟨_, rfl⟩, hc⟩ := h.get k xs[k] (List.getElem?_eq_getElem hk)
  have := hc 0 _ rfl
  simp only [encU8, encOf, Nat.mul_one, Nat.add_zero] at this
  exact ⟨ad, hA, this⟩
theorem Rd.int_at {w : World} {F : FP} {A : Option Addr} {n c : Nat} {xs : List Int} (h : Rd encInt w F (.slice A n c) xs) (k : Nat) (hk : k < xs.length) : ∃ ad, A = some ad ∧ w.cell? (ad.add k) = some (.int .i64 xs[k]) ∧ In64 xs[k] := by
  obtain ⟨ad, cs, hA, _, _, ⟨hi, rfl⟩, hc⟩ := h.get k xs[k] (List.getElem?_eq_getElem hk)
  have := hc 0 _ rfl
  simp only [encInt, encOf, Nat.mul_one, Nat.add_zero] at this
  exact ⟨ad, hA, this, hi⟩
/-- A row that was just made, none of it used. -/
theorem Mine.room {e : Enc α} {t : TypeId} {W : World} {base g cap : Nat} {cur : Array Value} (h : W.heap[g]? = some (.cells cur t (0, 0))) (hb : base ≤ g) (hc : cap * e.k ≤ cur.size) (hm : cap ≤ maxLen) : Mine e t W base none' (.slice (some ⟨g, 0, none⟩) 0 cap) ([] : List α) :=
  ⟨fun b h => h.elim, by simp, [], ⟨by simp, .inr ⟨g, 0, cap, cur, rfl, hb, h, Nat.zero_le _, hm, by omega, by simp⟩⟩, fun j x h => by simp at h⟩
theorem Rd.drew {e : Enc α} {w : World} {F : FP} {v : Value} {xs : List α} (h : Rd e w F v xs) : Rd e w.drew F v xs := h.move (fun _ _ => rfl)
theorem Rd.set {e : Enc α} {w : World} {F : FP} {v : Value} {xs : List α} {p : Addr} (hp : ¬ F p.block) (h : Rd e w F v xs) (u : Value) : Rd e (w.setCell p u) F v xs := h.move (agree_set hp (Agree.refl _ _) u)
theorem Rd.alloc {e : Enc α} {w : World} {F : FP} {v : Value} {xs : List α} (h : Rd e w F v xs) (o : Obj) : Rd e (w.alloc o) F v xs := h.below ((Below.refl _ _).alloc (Nat.le_refl _) o)
theorem Rd.arg {e : Enc α} {w : World} {F : FP} {v : Value} {xs : List α} (h : Rd e w F v xs) : Rd e w (ltF w) v xs := h.lt.mono fun _ h => h.2
theorem Rd.at_ {e : Enc α} {w W : World} {v : Value} {xs : List α} (h : Rd e w (ltF w) v xs) (hb : Below w.heap.size w W) : Rd e W (ltF w) v xs := h.below' hb fun _ h => ltF_lt h
def Flat (e : Enc α) : Prop := ∀ {w w' : World} {F F' : FP} {x : α} {cs : List Value}, e.R w F x cs → e.R w' F' x cs
theorem flat_int : Flat encInt := fun h => h
theorem flat_u8 : Flat encU8 := fun h => h
theorem flat_bool : Flat encBool := fun h => h
theorem Mine.flat {e : Enc α} (he : Flat e) {t : TypeId} {w : World} {base : Nat} {F : FP} {v : Value} {xs : List α} (h : Mine e t w base F v xs) : Mine e t w base none' v xs := by
  obtain ⟨h1, h2, cells, ho, h3⟩ := h
  exact ⟨fun b hb => hb.elim, h2, cells, ho, fun j x hx => he (h3 j x hx)⟩
/-- All that is the call's own. -/
theorem Mine.res {e : Enc α} {t : TypeId} {w : World} {base : Nat} {F : FP} {v : Value} {xs : List α} (h : Mine e t w base F v xs) (hF : ∀ b, F b → base ≤ b) : Rd e w (geF base) v xs :=
  h.rd.mono fun b hb => by
    rcases hb with hb | hb
    · exact hF b hb
    · exact (h.lt b hb).1
theorem Mine.lit1 (e : Enc α) (t : TypeId) (W : World) (base g : Nat) (x : α) (cs : Array Value) (hk : e.k = cs.size) (hR : ∀ W F, e.R W F x cs.toList) (hby : e.bytes ≤ 140737488355328) (hb : base ≤ W.heap.size) (hg : W.heap.size = g) : Mine e t (W.alloc (.cells cs t)) base none' (.slice (some ⟨g, 0, none⟩) 1 1) [x] := by
  subst hg
  refine ⟨fun b h => h.elim, by simpa using hby, cs.toList, ⟨by simp [hk], .inr ⟨W.heap.size, 0, 1, cs, rfl, hb, heap_alloc_new W _, by simp, by simp [maxLen], by simp [hk], by simp only [List.drop_zero, Nat.one_mul, hk, List.length_singleton]; rw [← Array.length_toList, List.take_length]⟩⟩, fun j y hy => ?_⟩
  obtain ⟨rfl, rfl⟩ : j = 0 ∧ y = x := by
    cases j with
    | zero => simpa using hy.symm
    | succ j => simp at hy
  simp only [Nat.zero_mul, List.drop_zero, hk]
  rw [← Array.length_toList, List.take_length]
  exact hR _ _
theorem Mine.lit0 (e : Enc α) (t : TypeId) (W : World) (base g : Nat) (hb : base ≤ W.heap.size) (hg : W.heap.size = g) : Mine e t (W.alloc (.cells #[] t)) base none' (.slice (some ⟨g, 0, none⟩) 0 0) ([] : List α) := by
  subst hg
  exact ⟨fun b h => h.elim, by simp, [], ⟨by simp, .inr ⟨W.heap.size, 0, 0, #[], rfl, hb, heap_alloc_new W _, Nat.le_refl _, by simp [maxLen], by simp, by simp⟩⟩, fun j x h => by simp at h⟩
end

end Go.HB

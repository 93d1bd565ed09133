/-
  From an argument that can be read as data to 'Rd'. No program stands here.
-/
import Derived.Test.YtcmdeaejgldhfaaForward
import Derived.ProofKit
import Derived.OpenShut
import Derived.ShutString
import Derived.ChangeOld
import Derived.Below
import Derived.SizedLaws
import Derived.Deep.Slices
set_option linter.unusedVariables false
set_option linter.unusedSimpArgs false
namespace Go.HB
open Go.ChangeShapes Go.WideShapes
section
variable {H : Type} {α β γ δ : Type}
def Opn (enc : TypeId × Value → H) (P : Program) (W : World) (e : Enc α) (t : TypeId) : Prop :=
  ∀ n cs d ps, DataW.trod enc P W 0 (fun _ => true) true n t cs = some (d, ps) → (DataW.weights P t d).all (· ≤ reachBytes) = true → ∃ y, e.R W (fun _ => True) y cs
variable {enc : TypeId × Value → H} {P : Program} {W : World}
theorem opn_int {t : TypeId} (ht : P.underlying t = some (.int .i64)) : Opn enc P W encInt t := by
  intro n cs d ps h _
  obtain ⟨x, rfl, _, hw⟩ := DataW.trod_int ht h
  refine ⟨x, ?_, rfl⟩
  simp only [Lit.wf, Bool.and_eq_true, decide_eq_true_eq] at hw
  rw [show IntKind.i64.min = -9223372036854775808 from by decide, show IntKind.i64.max = 9223372036854775807 from by decide] at hw
  exact hw
theorem opn_bool {t : TypeId} (ht : P.underlying t = some .bool) : Opn enc P W encBool t := by
  intro n cs d ps h _
  obtain ⟨x, rfl, _⟩ := DataW.trod_bool ht h
  exact ⟨x, trivial, rfl⟩
theorem opn_u8 {t : TypeId} (ht : P.underlying t = some (.int .u8)) : Opn enc P W encU8 t := by
  intro n cs d ps h _
  obtain ⟨x, rfl, _, hw⟩ := DataW.trod_int ht h
  refine ⟨UInt8.ofNat x.toNat, trivial, ?_⟩
  simp only [Lit.wf, Bool.and_eq_true, decide_eq_true_eq] at hw
  rw [show IntKind.u8.min = 0 from by decide, show IntKind.u8.max = 255 from by decide] at hw
  simp
  omega
theorem opn_iso {e : Enc α} {f : β → α} {g : α → β} {b : Nat} {t : TypeId} (hg : ∀ y, f (g y) = y) (h : Opn enc P W e t) : Opn enc P W (encIso e f b) t := by
  intro n cs d ps htr hw
  obtain ⟨y, hy⟩ := h n cs d ps htr hw
  exact ⟨g y, by show e.R W _ (f (g y)) cs; rw [hg]; exact hy⟩
theorem cellAt_of {a : Addr} {v : Value} (h : W.cell? a = some v) : CellAt W a.block := by
  cases hq : W.heap[a.block]? with
  | none => simp [World.cell?, hq] at h
  | some o =>
    cases o with
    | cells cs t fr => exact ⟨_, _, _, hq⟩
    | _ => simp [World.cell?, hq] at h
theorem weights_all {e : TypeId} : ∀ {l : List (DataW H)}, (DataW.weightsAll P e l).all (· ≤ reachBytes) = true → ∀ d ∈ l, (DataW.weights P e d).all (· ≤ reachBytes) = true
  | [], _, _, hd => by simp at hd
  | x :: r, h, d, hd => by
    simp only [DataW.weightsAll, List.all_append, Bool.and_eq_true] at h
    rcases List.mem_cons.1 hd with rfl | hd
    · exact h.1
    · exact weights_all h.2 d hd
theorem opn_slice {e : Enc α} {t te : TypeId} (ht : P.underlying t = some (.slice te)) (hc : P.cellsOf te = e.k) (hk : 0 < e.k) (hby : P.bytesOf te = e.bytes) (h : Opn enc P W e te) : Opn enc P W (encSlice e) t := by
  intro n cs d ps htr hw
  rcases DataW.trod_slice ht htr with ⟨rfl, _⟩ | ⟨a, len, cap, elems, rest, m, _, rfl, hx, hb, hl, hm, hlen, hel, _, _⟩
  · exact ⟨[], _, rfl, Rd.nil_ _ _ _⟩
  · simp only [Prod.mk.injEq] at hx
    obtain ⟨rfl, rfl⟩ := hx
    simp only [DataW.weights, ht, List.all_cons, List.all_append, Bool.and_eq_true, decide_eq_true_eq, List.length_map] at hw
    obtain ⟨hw0, hw1, _⟩ := hw
    have each : ∀ i : Fin len, ∃ y cs', e.R W (fun _ => True) y cs' ∧ ∀ j u, cs'[j]? = some u → W.cell? (a.add (i.1 * e.k + j)) = some u := by
      rintro ⟨i, hi⟩
      have key := hel i hi
      rw [List.getElem?_eq_getElem (by omega)] at key
      obtain ⟨cs', h1, h2⟩ := Option.bind_eq_some_iff.1 key
      obtain ⟨y, hy⟩ := h m cs' _ _ h2 (weights_all hw1 _ (List.mem_map.2 ⟨_, List.getElem_mem _, rfl⟩))
      obtain ⟨_, hlc, hcell⟩ := World.cells?_some h1
      refine ⟨y, cs', hy, fun j u hu => ?_⟩
      have hj : j < P.cellsOf te := by rw [← hlc]; exact (List.getElem?_eq_some_iff.1 hu).1
      have := hcell j hj
      rw [Go.Deep.add_add, hc] at this
      rw [this, hu]
    refine ⟨List.ofFn fun i => Classical.choose (each i), _, rfl, some a, cap, by rw [List.length_ofFn], by rw [List.length_ofFn]; exact hl, hm, ?_, fun hp => ⟨a, rfl, trivial, ?_, fun j x hx => ?_⟩⟩
    · rw [List.length_ofFn, ← hby, ← hlen]
      have : elems.length * P.bytesOf te ≤ (elems.length + rest.length) * P.bytesOf te := Nat.mul_le_mul_right _ (Nat.le_add_right _ _)
      unfold reachBytes at hw0
      omega
    · rw [List.length_ofFn] at hp
      obtain ⟨cs', hy, hcell⟩ := Classical.choose_spec (each ⟨0, hp⟩)
      have hl' := e.len hy
      have := hcell 0 _ (List.getElem?_eq_getElem (by omega))
      have := cellAt_of this
      rwa [add_block] at this
    · rw [List.getElem?_ofFn] at hx
      split at hx
      · rename_i hj
        simp only [Option.some.injEq] at hx
        subst hx
        obtain ⟨cs', hy, hcell⟩ := Classical.choose_spec (each ⟨j, hj⟩)
        exact ⟨cs', hy, hcell⟩
      · cases hx
theorem opn_two {a : Enc α} {b : Enc β} {t : TypeId} {f0 f1 : Field} (he : P.underlying t = some (.struct #[f0, f1])) (ce : P.cellsOf t = a.k + b.k) (o0 : f0.offset = 0) (o1 : f1.offset = a.k) (c0 : P.cellsOf f0.type = a.k) (c1 : P.cellsOf f1.type = b.k)
    (ha : Opn enc P W a f0.type) (hb : Opn enc P W b f1.type) : Opn enc P W (encPair a b) t := by
  intro n cs d ps htr hw
  obtain ⟨xs, m, _, hx, hl, hxl, hf⟩ := DataW.trod_struct he htr
  simp only [Prod.mk.injEq] at hx
  obtain ⟨rfl, rfl⟩ := hx
  match xs, hxl with
  | [y0, y1], _ =>
    have g0 := hf 0 f0 rfl
    have g1 := hf 1 f1 rfl
    simp only [DataW.weights, he, DataW.weightsEach, List.map_cons, List.map_nil, List.append_nil, List.all_append, Bool.and_eq_true] at hw
    obtain ⟨w0, w1⟩ := hw
    obtain ⟨x0, h0⟩ := ha m _ _ _ g0 w0
    obtain ⟨x1, h1⟩ := hb m _ _ _ g1 w1
    refine ⟨(x0, x1), _, _, ?_, h0, h1⟩
    rw [o0, o1, c0, c1, List.drop_zero, List.take_of_length_le (l := List.drop a.k cs) (by rw [List.length_drop]; omega), List.take_append_drop]
end
end Go.HB

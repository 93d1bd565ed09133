/-
  From an argument that can be read as data to 'Rd': structs of three and four fields; views. No program stands here.
-/
import Derived.Test.YtcmdeaejgldhfaaOpen
set_option linter.unusedVariables false
set_option linter.unusedSimpArgs false
namespace Go.HB
open Go.ChangeShapes Go.WideShapes Go.RowKit
section
variable {H : Type} {α β γ δ : Type} {enc : TypeId × Value → H} {P : Program} {W : World}
theorem cut3 {l : List Value} {a b : Nat} (h : a + b ≤ l.length) : (l.drop 0).take a ++ ((l.drop a).take b ++ l.drop (a + b)) = l := by
  rw [List.drop_zero, ← List.drop_drop, List.take_append_drop, List.take_append_drop]
theorem opn_three {a : Enc α} {b : Enc β} {c : Enc γ} {t : TypeId} {f0 f1 f2 : Field} (he : P.underlying t = some (.struct #[f0, f1, f2])) (ce : P.cellsOf t = a.k + (b.k + c.k)) (o0 : f0.offset = 0) (o1 : f1.offset = a.k) (o2 : f2.offset = a.k + b.k) (c0 : P.cellsOf f0.type = a.k) (c1 : P.cellsOf f1.type = b.k) (c2 : P.cellsOf f2.type = c.k)
    (ha : Opn enc P W a f0.type) (hb : Opn enc P W b f1.type) (hc : Opn enc P W c f2.type) : Opn enc P W (encPair a (encPair b c)) t := by
  intro n cs d ps htr hw
  obtain ⟨xs, m, _, hx, hl, hxl, hf⟩ := DataW.trod_struct he htr
  simp only [Prod.mk.injEq] at hx
  obtain ⟨rfl, rfl⟩ := hx
  match xs, hxl with
  | [y0, y1, y2], _ =>
    have g0 := hf 0 f0 rfl
    have g1 := hf 1 f1 rfl
    have g2 := hf 2 f2 rfl
    simp only [DataW.weights, he, DataW.weightsEach, List.map_cons, List.map_nil, List.append_nil, List.all_append, Bool.and_eq_true] at hw
    obtain ⟨w0, w1, w2⟩ := hw
    obtain ⟨x0, h0⟩ := ha m _ _ _ g0 w0
    obtain ⟨x1, h1⟩ := hb m _ _ _ g1 w1
    obtain ⟨x2, h2⟩ := hc m _ _ _ g2 w2
    refine ⟨(x0, x1, x2), _, _, ?_, h0, _, _, rfl, h1, h2⟩
    rw [o0, o1, o2, c0, c1, c2, List.take_of_length_le (l := List.drop (a.k + b.k) cs) (by rw [List.length_drop]; omega)]
    exact (cut3 (by omega)).symm
theorem cut4 {l : List Value} {a b c : Nat} : (l.drop 0).take a ++ ((l.drop a).take b ++ ((l.drop (a + b)).take c ++ l.drop (a + b + c))) = l := by
  rw [List.drop_zero, show l.drop (a + b + c) = (l.drop (a + b)).drop c by rw [List.drop_drop], List.take_append_drop, show l.drop (a + b) = (l.drop a).drop b by rw [List.drop_drop], List.take_append_drop, List.take_append_drop]
theorem opn_four {a : Enc α} {b : Enc β} {c : Enc γ} {e : Enc δ} {t : TypeId} {f0 f1 f2 f3 : Field} (he : P.underlying t = some (.struct #[f0, f1, f2, f3])) (ce : P.cellsOf t = a.k + (b.k + (c.k + e.k))) (o0 : f0.offset = 0) (o1 : f1.offset = a.k) (o2 : f2.offset = a.k + b.k) (o3 : f3.offset = a.k + b.k + c.k) (c0 : P.cellsOf f0.type = a.k) (c1 : P.cellsOf f1.type = b.k) (c2 : P.cellsOf f2.type = c.k) (c3 : P.cellsOf f3.type = e.k)
    (ha : Opn enc P W a f0.type) (hb : Opn enc P W b f1.type) (hc : Opn enc P W c f2.type) (hd : Opn enc P W e f3.type) : Opn enc P W (encPair a (encPair b (encPair c e))) t := by
  intro n cs d ps htr hw
  obtain ⟨xs, m, _, hx, hl, hxl, hf⟩ := DataW.trod_struct he htr
  simp only [Prod.mk.injEq] at hx
  obtain ⟨rfl, rfl⟩ := hx
  match xs, hxl with
  | [y0, y1, y2, y3], _ =>
    have g0 := hf 0 f0 rfl
    have g1 := hf 1 f1 rfl
    have g2 := hf 2 f2 rfl
    have g3 := hf 3 f3 rfl
    simp only [DataW.weights, he, DataW.weightsEach, List.map_cons, List.map_nil, List.append_nil, List.all_append, Bool.and_eq_true] at hw
    obtain ⟨w0, w1, w2, w3⟩ := hw
    obtain ⟨x0, h0⟩ := ha m _ _ _ g0 w0
    obtain ⟨x1, h1⟩ := hb m _ _ _ g1 w1
    obtain ⟨x2, h2⟩ := hc m _ _ _ g2 w2
    obtain ⟨x3, h3⟩ := hd m _ _ _ g3 w3
    refine ⟨(x0, x1, x2, x3), _, _, ?_, h0, _, _, rfl, h1, _, _, rfl, h2, h3⟩
    rw [o0, o1, o2, o3, c0, c1, c2, c3, List.take_of_length_le (l := List.drop (a.k + b.k + c.k) cs) (by rw [List.length_drop]; omega)]
    exact cut4.symm
end
def encView : Enc View := encIso (encPair encInt (encPair encInt (encSlice encEnt))) (fun x => (x.base, x.term, x.l)) 40
theorem encView_R {w : World} {F : FP} {x : View} {cs : List Value} : encView.R w F x cs ↔ ∃ v, cs = [.int .i64 x.base, .int .i64 x.term, v] ∧ In64 x.base ∧ In64 x.term ∧ Rd encEnt w F v x.l := by
  constructor
  · rintro ⟨_, _, rfl, ⟨h1, rfl⟩, _, _, rfl, ⟨h2, rfl⟩, v, rfl, h4⟩
    exact ⟨v, rfl, h1, h2, h4⟩
  · rintro ⟨v, rfl, h1, h2, h4⟩
    exact ⟨[_], _, rfl, ⟨h1, rfl⟩, [_], _, rfl, ⟨h2, rfl⟩, v, rfl, h4⟩
/-- One argument of several, opened. -/
theorem open_arg {H : Type} {α : Type} {enc : TypeId × Value → H} {P : Program} {W : World} {e : Enc α} {t : TypeId} {v : Value} {d : DataW H} {ps : List MemPlace} {tys : List TypeId} {ds : List (DataW H)} {j : Nat} (ho : Opn enc P W e t) (h : DataW.Trod enc P W 0 (fun _ => true) true t v d ps)
    (hsz : (DataW.weightsEach P tys ds).all (· ≤ reachBytes) = true) (hj : tys[j]? = some t) (hd : ds[j]? = some d) : ∃ y, e.R W (fun _ => True) y v.cells.toList := by
  obtain ⟨n, hn⟩ := h
  exact ho n _ _ _ hn (List.all_eq_true.2 fun q hq => List.all_eq_true.1 hsz q (DataW.weights_mem_each (j := j) (t := t) hj hd q hq))
theorem val_bool {w : World} {x : Bool} {v : Value} {n : Bool} (hv : v = .bool n) (h : encBool.R w (fun _ => True) x v.cells.toList) : v = .bool x := by
  subst hv
  obtain ⟨_, h2⟩ := h
  simpa [Value.cells] using h2
/-! What an argument is, by what its cells read as. -/
theorem val_int {w : World} {x : Int} {v : Value} {n : Int} (hv : v = .int .i64 n) (h : encInt.R w (fun _ => True) x v.cells.toList) : v = .int .i64 x ∧ In64 x := by
  subst hv
  obtain ⟨h1, h2⟩ := h
  exact ⟨by simpa [Value.cells] using h2, h1⟩
theorem val_slice {α : Type} {e : Enc α} {w : World} {xs : List α} {v : Value} (hv : ∃ a l c, v = .slice a l c) (h : (encSlice e).R w (fun _ => True) xs v.cells.toList) : Rd e w (fun _ => True) v xs := by
  obtain ⟨a, l, c, rfl⟩ := hv
  obtain ⟨u, hu, hr⟩ := h
  obtain rfl : Value.slice a l c = u := by simpa [Value.cells] using hu
  exact hr
theorem val_view {w : World} {x : View} {v : Value} {k : Nat} (hv : ∃ cs, v = .agg cs ∧ cs.size = k) (h : encView.R w (fun _ => True) x v.cells.toList) : ∃ u, v = .agg #[.int .i64 x.base, .int .i64 x.term, u] ∧ In64 x.base ∧ In64 x.term ∧ Rd encEnt w (fun _ => True) u x.l := by
  obtain ⟨cs, rfl, _⟩ := hv
  obtain ⟨u, hu, h1, h2, h3⟩ := encView_R.1 h
  refine ⟨u, ?_, h1, h2, h3⟩
  simp only [Value.cells] at hu
  rw [show cs = #[.int .i64 x.base, .int .i64 x.term, u] from Array.toList_inj.1 hu]
end Go.HB
namespace Go.Proofs.Ytcmdeaejgldhfaa
open Go.RowKit Go.HB Go.ChangeShapes Go.WideShapes
set_option maxRecDepth 100000 in
theorem opn_ints (H : Type) (enc : TypeId × Value → H) (W : World) : Opn enc Try.prog W (encSlice encInt) 25 :=
  opn_slice Try.underlying25 (by kernel_rfl) (by decide) (by kernel_rfl) (opn_int Try.underlying3)
set_option maxRecDepth 100000 in
theorem opn_bytes (H : Type) (enc : TypeId × Value → H) (W : World) : Opn enc Try.prog W (encSlice encU8) 52 :=
  opn_slice Try.underlying52 (by kernel_rfl) (by decide) (by kernel_rfl) (opn_u8 Try.underlying5)
set_option maxRecDepth 100000 in
theorem opn_ents (H : Type) (enc : TypeId × Value → H) (W : World) : Opn enc Try.prog W (encSlice encEnt) 22 :=
  opn_slice Try.underlying22 (by kernel_rfl) (by decide) (by kernel_rfl)
    (opn_iso (g := fun p => ⟨p.1, p.2.1, p.2.2.1, p.2.2.2⟩) (fun _ => rfl) (opn_four Try.underlying54 (by kernel_rfl) rfl rfl rfl rfl (by kernel_rfl) (by kernel_rfl) (by kernel_rfl) (by kernel_rfl) (opn_int Try.underlying3) (opn_int Try.underlying3) (opn_int Try.underlying3) (opn_bytes H enc W)))
set_option maxRecDepth 100000 in
theorem opn_view (H : Type) (enc : TypeId × Value → H) (W : World) : Opn enc Try.prog W encView 24 :=
  opn_iso (g := fun p => ⟨p.1, p.2.1, p.2.2⟩) (fun _ => rfl) (opn_three Try.underlying24 (by kernel_rfl) rfl rfl rfl (by kernel_rfl) (by kernel_rfl) (by kernel_rfl) (opn_int Try.underlying3) (opn_int Try.underlying3) (opn_ents H enc W))
end Go.Proofs.Ytcmdeaejgldhfaa

/- Arguments: an array of two or three integers by value. -/
import Derived.Test.YtnhpnipfledihaaDoorPOpen3
namespace Go.Proofs.YtnhpnipfledihaaDoor
open Go.RowKit Go.WideShapes Go.ChangeShapes Go.Deep

section
variable {H : Type} {enc : TypeId × Value → H} {W : World} {base : Nat} {v : Value} {d : DataW H} {p : List MemPlace}

theorem two_ints {m : Nat} {cs : List Value} {x : DataW H × List MemPlace} {b0 : Nat} {sp : Nat → Bool} {hd : Bool} (h : DataW.trod enc Tryd.prog W b0 sp hd m 54 cs = some x) : ∃ f : Nat → Int, cs.length = 2 ∧ ∀ i, i < 2 → InI64 (f i) ∧ cs[i]? = some (.int .i64 (f i)) := by
  obtain ⟨xs, m', hm, hx, hl, hxl, hi⟩ := DataW.trod_array Tryd.underlying54 h
  have hce : Tryd.prog.cellsOf 3 = 1 := by kernel_rfl
  have hct : Tryd.prog.cellsOf 54 = 2 := by kernel_rfl
  rw [hct] at hl
  have key : ∀ i, i < 2 → ∃ z, InI64 z ∧ cs[i]? = some (.int .i64 z) := by
    intro i hi6
    have h1 := hi i hi6
    rw [hce, Nat.mul_one] at h1
    have hxi : xs[i]? = some (xs[i]'(by omega)) := List.getElem?_eq_getElem _
    rw [hxi, List.drop_eq_getElem_cons (by omega)] at h1
    obtain ⟨z, hz, _, hwf⟩ := DataW.trod_int Tryd.underlying3 h1
    rw [List.take_succ_cons, List.take_zero] at hz
    have hz' : cs[i]'(by omega) = .int .i64 z := by simpa using hz
    exact ⟨z, int_range hwf, by rw [List.getElem?_eq_getElem (by omega), hz']⟩
  refine ⟨fun i => if h : i < 2 then (key i h).choose else 0, hl, fun i hi6 => ?_⟩
  simp only [hi6, dif_pos]
  exact (key i hi6).choose_spec

set_option maxRecDepth 100000 in
theorem raw_arr2 (ok : Value.okWide Tryd.prog W .any base 54 v) (h : DataW.Trod enc Tryd.prog W 0 (fun _ => true) true 54 v d p) :
    ∃ x0 x1 : Int, v = .agg #[.int .i64 x0, .int .i64 x1] ∧ InI64 x0 ∧ InI64 x1 := by
  obtain ⟨cs, rfl⟩ := okWide_arr Tryd.underlying54 ok
  obtain ⟨fuel, hf⟩ := h
  obtain ⟨f, hl, hc⟩ := two_ints hf
  obtain ⟨l⟩ := cs
  simp only [Value.cells] at hl hc
  match l, hl with
  | [c0, c1], _ =>
    have g0 := hc 0 (by omega); have g1 := hc 1 (by omega)
    simp at g0 g1
    exact ⟨f 0, f 1, by rw [g0.2, g1.2], g0.1, g1.1⟩

theorem three_ints {m : Nat} {cs : List Value} {x : DataW H × List MemPlace} {b0 : Nat} {sp : Nat → Bool} {hd : Bool} (h : DataW.trod enc Tryd.prog W b0 sp hd m 63 cs = some x) : ∃ f : Nat → Int, cs.length = 3 ∧ ∀ i, i < 3 → InI64 (f i) ∧ cs[i]? = some (.int .i64 (f i)) := by
  obtain ⟨xs, m', hm, hx, hl, hxl, hi⟩ := DataW.trod_array Tryd.underlying63 h
  have hce : Tryd.prog.cellsOf 3 = 1 := by kernel_rfl
  have hct : Tryd.prog.cellsOf 63 = 3 := by kernel_rfl
  rw [hct] at hl
  have key : ∀ i, i < 3 → ∃ z, InI64 z ∧ cs[i]? = some (.int .i64 z) := by
    intro i hi6
    have h1 := hi i hi6
    rw [hce, Nat.mul_one] at h1
    have hxi : xs[i]? = some (xs[i]'(by omega)) := List.getElem?_eq_getElem _
    rw [hxi, List.drop_eq_getElem_cons (by omega)] at h1
    obtain ⟨z, hz, _, hwf⟩ := DataW.trod_int Tryd.underlying3 h1
    rw [List.take_succ_cons, List.take_zero] at hz
    have hz' : cs[i]'(by omega) = .int .i64 z := by simpa using hz
    exact ⟨z, int_range hwf, by rw [List.getElem?_eq_getElem (by omega), hz']⟩
  refine ⟨fun i => if h : i < 3 then (key i h).choose else 0, hl, fun i hi6 => ?_⟩
  simp only [hi6, dif_pos]
  exact (key i hi6).choose_spec

set_option maxRecDepth 100000 in
theorem raw_arr3 (ok : Value.okWide Tryd.prog W .any base 63 v) (h : DataW.Trod enc Tryd.prog W 0 (fun _ => true) true 63 v d p) :
    ∃ x0 x1 x2 : Int, v = .agg #[.int .i64 x0, .int .i64 x1, .int .i64 x2] ∧ InI64 x0 ∧ InI64 x1 ∧ InI64 x2 := by
  obtain ⟨cs, rfl⟩ := okWide_arr Tryd.underlying63 ok
  obtain ⟨fuel, hf⟩ := h
  obtain ⟨f, hl, hc⟩ := three_ints hf
  obtain ⟨l⟩ := cs
  simp only [Value.cells] at hl hc
  match l, hl with
  | [c0, c1, c2], _ =>
    have g0 := hc 0 (by omega); have g1 := hc 1 (by omega); have g2 := hc 2 (by omega)
    simp at g0 g1 g2
    exact ⟨f 0, f 1, f 2, by rw [g0.2, g1.2, g2.2], g0.1, g1.1, g2.1⟩
end
end Go.Proofs.YtnhpnipfledihaaDoor

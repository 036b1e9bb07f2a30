/- Arguments: an array of two, three or six integers by value. -/
import Derived.Test.YtnhpnipfledihaaDoorPOpen2
namespace Go.Proofs.YtnhpnipfledihaaDoor
open Go.RowKit Go.WideShapes Go.ChangeShapes Go.Deep

set_option maxRecDepth 100000 in
theorem okWide_arr {W : World} {r : Reach} {b0 : Nat} {t e : TypeId} {n : Nat} {v : Value} (ht : Tryd.prog.underlying t = some (.array n e)) (h : Value.okWide Tryd.prog W r b0 t v) : ∃ cs : Array Value, v = .agg cs := by
  cases v <;> simp_all [Value.okWide]

section
variable {H : Type} {enc : TypeId × Value → H} {W : World} {base : Nat} {v : Value} {d : DataW H} {p : List MemPlace}
set_option maxRecDepth 100000 in
theorem raw_arr6 (ok : Value.okWide Tryd.prog W .any base 35 v) (h : DataW.Trod enc Tryd.prog W 0 (fun _ => true) true 35 v d p) :
    ∃ x0 x1 x2 x3 x4 x5 : Int, v = .agg #[.int .i64 x0, .int .i64 x1, .int .i64 x2, .int .i64 x3, .int .i64 x4, .int .i64 x5] ∧ InI64 x0 ∧ InI64 x1 ∧ InI64 x2 ∧ InI64 x3 ∧ InI64 x4 ∧ InI64 x5 := by
  obtain ⟨cs, rfl⟩ := okWide_arr Tryd.underlying35 ok
  obtain ⟨fuel, hf⟩ := h
  obtain ⟨f, hl, hc⟩ := six_ints hf
  obtain ⟨l⟩ := cs
  simp only [Value.cells] at hl hc
  match l, hl with
  | [c0, c1, c2, c3, c4, c5], _ =>
    have g0 := hc 0 (by omega); have g1 := hc 1 (by omega); have g2 := hc 2 (by omega); have g3 := hc 3 (by omega); have g4 := hc 4 (by omega); have g5 := hc 5 (by omega)
    simp at g0 g1 g2 g3 g4 g5
    exact ⟨f 0, f 1, f 2, f 3, f 4, f 5, by rw [g0.2, g1.2, g2.2, g3.2, g4.2, g5.2], g0.1, g1.1, g2.1, g3.1, g4.1, g5.1⟩
end
end Go.Proofs.YtnhpnipfledihaaDoor

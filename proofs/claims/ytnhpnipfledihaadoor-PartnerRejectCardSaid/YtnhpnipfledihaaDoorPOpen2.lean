/- Arguments: slices of integers, arrays of two, three, six integers by value. -/
import Derived.Test.YtnhpnipfledihaaDoorPOpen
namespace Go.Proofs.YtnhpnipfledihaaDoor
open Go.RowKit Go.WideShapes Go.ChangeShapes Go.Deep

section
variable {H : Type} {enc : TypeId × Value → H} {W : World} {base : Nat} {v : Value} {d : DataW H} {p : List MemPlace}

set_option maxRecDepth 100000 in
theorem raw_ints (ok : Value.okWide Tryd.prog W .any base 50 v) (h : DataW.Trod enc Tryd.prog W 0 (fun _ => true) true 50 v d p) : ∃ A n c, v = .slice A n c ∧ RawInts W A n c := by
  obtain ⟨A, n, c, rfl⟩ := okWide_slice Tryd.underlying50 ok
  obtain ⟨fuel, hf⟩ := h
  rcases open_ints Tryd.underlying50 Tryd.underlying3 (by kernel_rfl) hf with ⟨hcs, _⟩ | ⟨a, len, cap, zs, hcs, _, hl, hm, hz, _, hcell, hwf⟩
  · cases hcs
    exact ⟨none, 0, 0, rfl, Nat.le_refl _, Nat.zero_le _, fun _ => 0, fun j hj => absurd hj (Nat.not_lt_zero j)⟩
  · cases hcs
    refine ⟨some a, n, c, rfl, hl, by unfold maxLen at hm; omega, fun j => zs.getD j 0, fun j hj => ?_⟩
    have hzl : zs.length = c := by simpa using hz
    obtain ⟨b, off, spot⟩ := a
    have hspot : spot = none := by
      have h0 := hcell 0 (by omega)
      simpa [Addr.add] using World.cell?_spot h0
    subst hspot
    have hc := hcell j (by omega)
    rw [add_off] at hc
    refine ⟨b, off, rfl, int_range (hwf _ ?_), hc⟩
    show zs.getD j 0 ∈ zs
    rw [List.getD_eq_getElem?_getD, List.getElem?_eq_getElem (by omega)]
    exact List.getElem_mem _
end
end Go.Proofs.YtnhpnipfledihaaDoor

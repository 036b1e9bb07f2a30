/- Arguments: strings; slices of strings. -/
import Derived.Test.YtfdholhfdceedaaDoorPLift
import Derived.Test.YtfdholhfdceedaaDoorWireC
import Derived.SliceStrings
import Derived.Deep.Slices
import Derived.ChangeSlices
namespace Go.Proofs.YtfdholhfdceedaaDoor
open Go.RowKit Go.WideShapes Go.ChangeShapes Go.Deep

def InI64 (n : Int) : Prop := -9223372036854775808 ≤ n ∧ n ≤ 9223372036854775807
theorem int_range {n : Int} (h : (Lit.int .i64 n).wf = true) : InI64 n := by
  simpa [InI64, Lit.wf, IntKind.min, IntKind.max, IntKind.signed, IntKind.bits] using h

/-- the cells of a slice of strings -/
def RawStrs (W : World) (A : Option Addr) (n c : Nat) : Prop :=
  n ≤ c ∧ c ≤ 9223372036854775807 ∧ ∃ f : Nat → List UInt8, ∀ j, j < n → ∃ b off, A = some ⟨b, off, none⟩ ∧ (f j).length ≤ 9223372036854775807 ∧ W.cell? ⟨b, off + j, none⟩ = some (.string ⟨(f j).toArray⟩)
/-- the cells of a slice of structs of two integers -/
def RawTwos (W : World) (A : Option Addr) (n c : Nat) : Prop :=
  n ≤ c ∧ c ≤ 9223372036854775807 ∧ ∃ f g : Nat → Int, ∀ j, j < n → ∃ b off, A = some ⟨b, off, none⟩ ∧ InI64 (f j) ∧ InI64 (g j) ∧ W.cell? ⟨b, off + j * 2, none⟩ = some (.int .i64 (f j)) ∧ W.cell? ⟨b, off + (j * 2 + 1), none⟩ = some (.int .i64 (g j))
/-- the cells of a slice of structs of two integers and a string -/
def RawStps (W : World) (A : Option Addr) (n c : Nat) : Prop :=
  n ≤ c ∧ c ≤ 9223372036854775807 ∧ ∃ (f g : Nat → Int) (h : Nat → List UInt8), ∀ j, j < n → ∃ b off, A = some ⟨b, off, none⟩ ∧ InI64 (f j) ∧ InI64 (g j) ∧ (h j).length ≤ 9223372036854775807 ∧ W.cell? ⟨b, off + j * 3, none⟩ = some (.int .i64 (f j)) ∧ W.cell? ⟨b, off + (j * 3 + 1), none⟩ = some (.int .i64 (g j)) ∧ W.cell? ⟨b, off + (j * 3 + 2), none⟩ = some (.string ⟨(h j).toArray⟩)

section
variable {H : Type} {enc : TypeId × Value → H} {W : World} {base : Nat} {v : Value} {d : DataW H} {p : List MemPlace}

theorem add_off (b off k : Nat) : (⟨b, off, none⟩ : Addr).add k = ⟨b, off + k, none⟩ := by unfold Addr.add; split <;> simp_all

set_option maxRecDepth 100000 in
theorem raw_strs (ok : Value.okWide Tryd.prog W .any base 36 v) (h : DataW.Trod enc Tryd.prog W 0 (fun _ => true) true 36 v d p) : ∃ A n c, v = .slice A n c ∧ RawStrs W A n c := by
  obtain ⟨A, n, c, rfl⟩ := okWide_slice Tryd.underlying36 ok
  obtain ⟨fuel, hf⟩ := h
  rcases open_strings Tryd.underlying36 Tryd.underlying9 (by kernel_rfl) hf with ⟨hcs, _⟩ | ⟨a, n', c', ss, hcs, _, hl, hm, hz, _, hcell, hsz⟩
  · cases hcs
    exact ⟨none, 0, 0, rfl, Nat.le_refl _, Nat.zero_le _, fun _ => [], fun j hj => absurd hj (Nat.not_lt_zero j)⟩
  · cases hcs
    have hz' : n ≤ ss.length := by rw [hz]; simp only [if_true]; omega
    refine ⟨some a, n, c, rfl, hl, by unfold maxLen at hm; omega, fun j => (ss.getD j ByteArray.empty).data.toList, fun j hj => ?_⟩
    have hj' : j < ss.length := by omega
    obtain ⟨b, off, spot⟩ := a
    have hspot : spot = none := by
      have h0 := hcell 0 (by omega)
      simpa [Addr.add] using World.cell?_spot h0
    subst hspot
    have hc := hcell j hj'
    rw [add_off] at hc
    have hs : (ss[j]).size ≤ maxLen := hsz _ (List.getElem_mem hj')
    have hgd : ss.getD j ByteArray.empty = ss[j] := by rw [List.getD_eq_getElem?_getD, List.getElem?_eq_getElem hj', Option.getD_some]
    refine ⟨b, off, rfl, ?_, ?_⟩
    · show (ss.getD j ByteArray.empty).data.toList.length ≤ 9223372036854775807
      rw [hgd]
      unfold maxLen at hs
      rw [Array.length_toList]
      have : (ss[j]).data.size = (ss[j]).size := rfl
      omega
    · show W.cell? ⟨b, off + j, none⟩ = some (.string ⟨(ss.getD j ByteArray.empty).data.toList.toArray⟩)
      rw [hc]
end
end Go.Proofs.YtfdholhfdceedaaDoor

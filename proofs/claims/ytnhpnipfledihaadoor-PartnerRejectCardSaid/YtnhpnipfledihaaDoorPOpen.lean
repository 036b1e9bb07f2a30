/- Arguments: integers, arrays of integers, slices of them. -/
import Derived.Test.YtnhpnipfledihaaDoorPLift
import Derived.Deep.Slices
import Derived.ChangeSlices
namespace Go.Proofs.YtnhpnipfledihaaDoor
open Go.RowKit Go.WideShapes Go.ChangeShapes Go.Deep

def InI64 (n : Int) : Prop := -9223372036854775808 ≤ n ∧ n ≤ 9223372036854775807
theorem int_range {n : Int} (h : (Lit.int .i64 n).wf = true) : InI64 n := by
  simpa [InI64, Lit.wf, IntKind.min, IntKind.max, IntKind.signed, IntKind.bits] using h

/-- the cells of a slice of arrays of six integers -/
def RawOps (W : World) (A : Option Addr) (n c : Nat) : Prop :=
  n ≤ c ∧ c ≤ 9223372036854775807 ∧ ∀ j, j < n → ∃ b off, A = some ⟨b, off, none⟩ ∧ ∃ f : Nat → Int, ∀ i, i < 6 → InI64 (f i) ∧ W.cell? ⟨b, off + (j * 6 + i), none⟩ = some (.int .i64 (f i))
/-- the cells of a slice of integers -/
def RawInts (W : World) (A : Option Addr) (n c : Nat) : Prop :=
  n ≤ c ∧ c ≤ 9223372036854775807 ∧ ∃ f : Nat → Int, ∀ j, j < n → ∃ b off, A = some ⟨b, off, none⟩ ∧ InI64 (f j) ∧ W.cell? ⟨b, off + j, none⟩ = some (.int .i64 (f j))

section
variable {H : Type} {enc : TypeId × Value → H} {W : World} {base : Nat} {v : Value} {d : DataW H} {p : List MemPlace}

theorem add_off (b off k : Nat) : (⟨b, off, none⟩ : Addr).add k = ⟨b, off + k, none⟩ := by unfold Addr.add; split <;> simp_all

theorem six_ints {m : Nat} {cs : List Value} {x : DataW H × List MemPlace} {b0 : Nat} {sp : Nat → Bool} {hd : Bool} (h : DataW.trod enc Tryd.prog W b0 sp hd m 35 cs = some x) : ∃ f : Nat → Int, cs.length = 6 ∧ ∀ i, i < 6 → InI64 (f i) ∧ cs[i]? = some (.int .i64 (f i)) := by
  obtain ⟨xs, m', hm, hx, hl, hxl, hi⟩ := DataW.trod_array Tryd.underlying35 h
  have hce : Tryd.prog.cellsOf 3 = 1 := by kernel_rfl
  have hct : Tryd.prog.cellsOf 35 = 6 := by kernel_rfl
  rw [hct] at hl
  have key : ∀ i, i < 6 → ∃ z, InI64 z ∧ cs[i]? = some (.int .i64 z) := by
    intro i hi6
    have h1 := hi i hi6
    rw [hce, Nat.mul_one] at h1
    have hxi : xs[i]? = some (xs[i]'(by omega)) := List.getElem?_eq_getElem _
    rw [hxi, List.drop_eq_getElem_cons (by omega)] at h1
    obtain ⟨z, hz, _, hwf⟩ := DataW.trod_int Tryd.underlying3 h1
    rw [List.take_succ_cons, List.take_zero] at hz
    have hz' : cs[i]'(by omega) = .int .i64 z := by simpa using hz
    exact ⟨z, int_range hwf, by rw [List.getElem?_eq_getElem (by omega), hz']⟩
  refine ⟨fun i => if h : i < 6 then (key i h).choose else 0, hl, fun i hi6 => ?_⟩
  simp only [hi6, dif_pos]
  exact (key i hi6).choose_spec

set_option maxRecDepth 100000 in
theorem raw_ops (ok : Value.okWide Tryd.prog W .any base 22 v) (h : DataW.Trod enc Tryd.prog W 0 (fun _ => true) true 22 v d p) : ∃ A n c, v = .slice A n c ∧ RawOps W A n c := by
  obtain ⟨A, n, c, rfl⟩ := okWide_slice Tryd.underlying22 ok
  obtain ⟨fuel, hf⟩ := h
  have hct : Tryd.prog.cellsOf 35 = 6 := by kernel_rfl
  rcases open_slice Tryd.underlying22 hf with ⟨hcs, _⟩ | ⟨a, len, cap, m, n', D, Pl, hcs, _, hl, hm, hmm, _, hi⟩
  · cases hcs
    exact ⟨none, 0, 0, rfl, Nat.le_refl _, Nat.zero_le _, fun j hj => absurd hj (Nat.not_lt_zero j)⟩
  · cases hcs
    refine ⟨some a, n, c, rfl, hl, by unfold maxLen at hm; omega, fun j hj => ?_⟩
    have hjm : j < m := by rw [hmm]; simp only [if_true]; omega
    obtain ⟨cs', hc, ht⟩ := hi j hjm
    rw [hct] at hc
    obtain ⟨f, _, hf6⟩ := six_ints ht
    obtain ⟨_, hcl, hat⟩ := World.cells?_some hc
    obtain ⟨b, off, spot⟩ := a
    have hspot : spot = none := by
      have h0m : 0 < m := by omega
      obtain ⟨cs0, hc0, ht0⟩ := hi 0 h0m
      rw [hct] at hc0
      obtain ⟨f0, _, hf0⟩ := six_ints ht0
      obtain ⟨_, _, hat0⟩ := World.cells?_some hc0
      have hx := (hat0 0 (by omega)).trans (hf0 0 (by omega)).2
      simpa [Addr.add] using World.cell?_spot hx
    subst hspot
    refine ⟨b, off, rfl, f, fun i hi6 => ⟨(hf6 i hi6).1, ?_⟩⟩
    have := (hat i (by omega)).trans (hf6 i hi6).2
    rw [add_off, add_off, Nat.add_assoc] at this
    exact this
end
end Go.Proofs.YtnhpnipfledihaaDoor

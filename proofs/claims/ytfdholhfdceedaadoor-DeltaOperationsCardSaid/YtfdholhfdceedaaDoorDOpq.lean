/- Arguments: slices of structs. -/
import Derived.Test.YtfdholhfdceedaaDoorDOpn
import Derived.Deep.Fields
import Derived.ChangeSame
namespace Go.Proofs.YtfdholhfdceedaaDoor
open Go.RowKit Go.WideShapes Go.ChangeShapes Go.Deep

section
variable {H : Type} {enc : TypeId × Value → H} {W : World} {base : Nat} {v : Value} {d : DataW H} {p : List MemPlace}

theorem one_drop {cs : List Value} {i : Nat} {v : Value} (h : cs[i]? = some v) : (cs.drop i).take 1 = [v] := by
  obtain ⟨hi, rfl⟩ := List.getElem?_eq_some_iff.1 h
  rw [List.drop_eq_getElem_cons hi]; rfl

set_option maxRecDepth 100000 in
theorem raw_pieces (ok : Value.okWide Tryd.prog W .any base 39 v) (h : DataW.Trod enc Tryd.prog W 0 (fun _ => true) true 39 v d p) : ∃ A n c, v = .slice A n c ∧ RawTwos W A n c := by
  obtain ⟨A, n, c, rfl⟩ := okWide_slice Tryd.underlying39 ok
  obtain ⟨fuel, hf⟩ := h
  have hct : Tryd.prog.cellsOf 42 = 2 := by kernel_rfl
  have hci : Tryd.prog.cellsOf 3 = 1 := by kernel_rfl
  rcases open_slice Tryd.underlying39 hf with ⟨hcs, _⟩ | ⟨a, len, cap, m, n', D, Pl, hcs, _, hl, hm, hmm, _, hi⟩
  · cases hcs
    exact ⟨none, 0, 0, rfl, Nat.le_refl _, Nat.zero_le _, fun _ => 0, fun _ => 0, fun j hj => absurd hj (Nat.not_lt_zero j)⟩
  · cases hcs
    have key : ∀ j, j < n → ∃ x y : Int, InI64 x ∧ InI64 y ∧ W.cell? ((a.add (j * 2)).add 0) = some (.int .i64 x) ∧ W.cell? ((a.add (j * 2)).add 1) = some (.int .i64 y) := by
      intro j hj
      have hjm : j < m := by rw [hmm]; simp only [if_true]; omega
      obtain ⟨cs', hc, ht⟩ := hi j hjm
      rw [hct] at hc
      obtain ⟨_, hcl, hat⟩ := World.cells?_some hc
      obtain ⟨ys, n2, _, _, _, hyl, hfl⟩ := DataW.trod_struct Tryd.underlying42 ht
      have hyl2 : ys.length = 2 := hyl
      have g0 := hfl 0 _ rfl
      have g1 := hfl 1 _ rfl
      replace g0 : DataW.trod enc Tryd.prog W 0 (fun _ => true) true n2 3 ((cs'.drop 0).take (Tryd.prog.cellsOf 3)) = _ := g0
      replace g1 : DataW.trod enc Tryd.prog W 0 (fun _ => true) true n2 3 ((cs'.drop 1).take (Tryd.prog.cellsOf 3)) = _ := g1
      rw [hci] at g0 g1
      rw [List.getElem?_eq_getElem (by omega)] at g0 g1
      have e0 : cs'[0]? = some cs'[0] := List.getElem?_eq_getElem (by omega)
      have e1 : cs'[1]? = some cs'[1] := List.getElem?_eq_getElem (by omega)
      rw [one_drop e0] at g0
      rw [one_drop e1] at g1
      obtain ⟨x, hx, _, hwx⟩ := DataW.trod_int Tryd.underlying3 g0
      obtain ⟨y, hy, _, hwy⟩ := DataW.trod_int Tryd.underlying3 g1
      refine ⟨x, y, int_range hwx, int_range hwy, ?_, ?_⟩
      · rw [hat 0 (by omega), e0]; simpa using hx
      · rw [hat 1 (by omega), e1]; simpa using hy
    refine ⟨some a, n, c, rfl, hl, by unfold maxLen at hm; omega, fun j => if h : j < n then (key j h).choose else 0, fun j => if h : j < n then (key j h).choose_spec.choose else 0, fun j hj => ?_⟩
    obtain ⟨b, off, spot⟩ := a
    have hspot : spot = none := by
      obtain ⟨x0, y0, _, _, h0, _⟩ := key 0 (by omega)
      simpa [Addr.add] using World.cell?_spot h0
    subst hspot
    refine ⟨b, off, rfl, ?_⟩
    simp only [hj, dif_pos]
    have := (key j hj).choose_spec.choose_spec
    refine ⟨this.1, this.2.1, ?_, ?_⟩
    · have h3 := this.2.2.1
      exact (congrArg W.cell? (show (⟨b, off + j * 2, none⟩ : Addr) = ((⟨b, off, none⟩ : Addr).add (j * 2)).add 0 by rw [add_off, add_off]; rfl)).trans h3
    · have h3 := this.2.2.2
      exact (congrArg W.cell? (show (⟨b, off + (j * 2 + 1), none⟩ : Addr) = ((⟨b, off, none⟩ : Addr).add (j * 2)).add 1 by rw [add_off, add_off, Nat.add_assoc])).trans h3
set_option maxRecDepth 100000 in
theorem raw_steps (ok : Value.okWide Tryd.prog W .any base 26 v) (h : DataW.Trod enc Tryd.prog W 0 (fun _ => true) true 26 v d p) : ∃ A n c, v = .slice A n c ∧ RawStps W A n c := by
  obtain ⟨A, n, c, rfl⟩ := okWide_slice Tryd.underlying26 ok
  obtain ⟨fuel, hf⟩ := h
  have hct : Tryd.prog.cellsOf 28 = 3 := by kernel_rfl
  have hcs3 : Tryd.prog.cellsOf 9 = 1 := by kernel_rfl
  have hci : Tryd.prog.cellsOf 3 = 1 := by kernel_rfl
  rcases open_slice Tryd.underlying26 hf with ⟨hcs, _⟩ | ⟨a, len, cap, m, n', D, Pl, hcs, _, hl, hm, hmm, _, hi⟩
  · cases hcs
    exact ⟨none, 0, 0, rfl, Nat.le_refl _, Nat.zero_le _, fun _ => 0, fun _ => 0, fun _ => [], fun j hj => absurd hj (Nat.not_lt_zero j)⟩
  · cases hcs
    have key : ∀ j, j < n → ∃ (x y : Int) (z : ByteArray), InI64 x ∧ InI64 y ∧ z.size ≤ maxLen ∧ W.cell? ((a.add (j * 3)).add 0) = some (.int .i64 x) ∧ W.cell? ((a.add (j * 3)).add 1) = some (.int .i64 y) ∧ W.cell? ((a.add (j * 3)).add 2) = some (.string z) := by
      intro j hj
      have hjm : j < m := by rw [hmm]; simp only [if_true]; omega
      obtain ⟨cs', hc, ht⟩ := hi j hjm
      rw [hct] at hc
      obtain ⟨_, hcl, hat⟩ := World.cells?_some hc
      obtain ⟨ys, n2, _, _, _, hyl, hfl⟩ := DataW.trod_struct Tryd.underlying28 ht
      have hyl2 : ys.length = 3 := hyl
      have g0 := hfl 0 _ rfl
      have g1 := hfl 1 _ rfl
      have g2 := hfl 2 _ rfl
      replace g0 : DataW.trod enc Tryd.prog W 0 (fun _ => true) true n2 3 ((cs'.drop 0).take (Tryd.prog.cellsOf 3)) = _ := g0
      replace g1 : DataW.trod enc Tryd.prog W 0 (fun _ => true) true n2 3 ((cs'.drop 1).take (Tryd.prog.cellsOf 3)) = _ := g1
      replace g2 : DataW.trod enc Tryd.prog W 0 (fun _ => true) true n2 9 ((cs'.drop 2).take (Tryd.prog.cellsOf 9)) = _ := g2
      rw [hci] at g0 g1
      rw [hcs3] at g2
      rw [List.getElem?_eq_getElem (by omega)] at g0 g1 g2
      have e0 : cs'[0]? = some cs'[0] := List.getElem?_eq_getElem (by omega)
      have e1 : cs'[1]? = some cs'[1] := List.getElem?_eq_getElem (by omega)
      have e2 : cs'[2]? = some cs'[2] := List.getElem?_eq_getElem (by omega)
      rw [one_drop e2] at g2
      rw [one_drop e0] at g0
      rw [one_drop e1] at g1
      obtain ⟨x, hx, _, hwx⟩ := DataW.trod_int Tryd.underlying3 g0
      obtain ⟨y, hy, _, hwy⟩ := DataW.trod_int Tryd.underlying3 g1
      obtain ⟨z, hz, _, hwz⟩ := DataW.trod_string Tryd.underlying9 g2
      refine ⟨x, y, z, int_range hwx, int_range hwy, hwz, ?_, ?_, ?_⟩
      · rw [hat 0 (by omega), e0]; simpa using hx
      · rw [hat 1 (by omega), e1]; simpa using hy
      · rw [hat 2 (by omega), e2]; simpa using hz
    refine ⟨some a, n, c, rfl, hl, by unfold maxLen at hm; omega, fun j => if h : j < n then (key j h).choose else 0, fun j => if h : j < n then (key j h).choose_spec.choose else 0, fun j => if h : j < n then (key j h).choose_spec.choose_spec.choose.data.toList else [], fun j hj => ?_⟩
    obtain ⟨b, off, spot⟩ := a
    have hspot : spot = none := by
      obtain ⟨x0, y0, _, _, _, _, h0, _⟩ := key 0 (by omega)
      simpa [Addr.add] using World.cell?_spot h0
    subst hspot
    refine ⟨b, off, rfl, ?_⟩
    simp only [hj, dif_pos]
    have := (key j hj).choose_spec.choose_spec.choose_spec
    refine ⟨this.1, this.2.1, ?_, ?_, ?_, ?_⟩
    · have h2 := this.2.2.1
      rw [Array.length_toList]
      unfold maxLen at h2
      exact h2
    · have h3 := this.2.2.2.1
      exact (congrArg W.cell? (show (⟨b, off + j * 3, none⟩ : Addr) = ((⟨b, off, none⟩ : Addr).add (j * 3)).add 0 by rw [add_off, add_off]; rfl)).trans h3
    · have h3 := this.2.2.2.2.1
      exact (congrArg W.cell? (show (⟨b, off + (j * 3 + 1), none⟩ : Addr) = ((⟨b, off, none⟩ : Addr).add (j * 3)).add 1 by rw [add_off, add_off, Nat.add_assoc])).trans h3
    · have h3 := this.2.2.2.2.2
      exact (congrArg W.cell? (show (⟨b, off + (j * 3 + 2), none⟩ : Addr) = ((⟨b, off, none⟩ : Addr).add (j * 3)).add 2 by rw [add_off, add_off, Nat.add_assoc])).trans h3
end
end Go.Proofs.YtfdholhfdceedaaDoor

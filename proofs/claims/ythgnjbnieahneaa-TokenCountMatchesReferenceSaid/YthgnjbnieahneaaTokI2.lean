import Derived.Test.YthgnjbnieahneaaTokI4
import Derived.Test.YthgnjbnieahneaaLift
import Derived.SliceStrings
namespace Go.Proofs.Ythgnjbnieahneaa
open Go.RowKit

/-- a slice of strings that came in, however long -/
def RawStrs (W : World) (A : Option Addr) (n c : Nat) (xs : List (List UInt8)) : Prop :=
  n = xs.length ∧ n ≤ c ∧ c ≤ maxLen ∧ ∀ j (h : j < xs.length), ∃ b off, A = some ⟨b, off, none⟩ ∧ W.cell? ⟨b, off + j, none⟩ = some (encW xs[j])

theorem RawStrs.take {W : World} {A : Option Addr} {n c : Nat} {xs : List (List UInt8)} (h : RawStrs W A n c xs) (m : Nat) (hm : m ≤ n) (hb : m ≤ 1099511627776) : StrsAt W (.slice A m c) (xs.take m) := by
  obtain ⟨h0, h1, h2, h3⟩ := h
  have hl : (xs.take m).length = m := by simp; omega
  refine ⟨A, c, by rw [hl], by omega, by omega, fun j hj => ?_⟩
  obtain ⟨b, off, ha, hcell⟩ := h3 j (by omega)
  exact ⟨b, off, ha, by rw [hcell]; simp⟩

open Go.WideShapes Go.ChangeShapes Go.WideMaps in
theorem raw_of_arg {H : Type} {enc : TypeId × Value → H} {W : World} {base : Nat} {v : Value} {d : DataW H} {p : List MemPlace} (ok : Value.okWide Try.prog W .any base 25 v)
    (h : DataW.Trod enc Try.prog W 0 (fun _ => true) true 25 v d p) : ∃ A n c xs, v = .slice A n c ∧ RawStrs W A n c xs := by
  obtain ⟨A, n, c, rfl⟩ := okWide_slice Try.underlying25 ok
  obtain ⟨fuel, hf⟩ := h
  rcases open_strings Try.underlying25 Try.underlying9 (by kernel_rfl) hf with ⟨hcs, hx⟩ | ⟨a, n', c', ss, hcs, _, hl, hm, hz, hx, hcell, _⟩
  · cases hcs
    exact ⟨none, 0, 0, [], rfl, rfl, Nat.le_refl _, by decide, fun j hj => by simp at hj⟩
  · cases hcs
    refine ⟨some a, n, c, (ss.take n).map (·.data.toList), rfl, ?_, hl, hm, fun j hj => ?_⟩
    · simp at hz ⊢; omega
    · have hj' : j < ss.length := by simp at hj; omega
      have hc := hcell j hj'
      obtain ⟨b, off, spot⟩ := a
      have hspot : spot = none := by
        have h0 := hcell 0 (by omega)
        simpa [Addr.add] using World.cell?_spot h0
      subst hspot
      refine ⟨b, off, rfl, ?_⟩
      rw [← Go.WideShapes.add_plain, hc]
      simp [encW, List.getElem?_eq_getElem hj']

set_option maxHeartbeats 400000 in
theorem law2_any (A : Option Addr) (n c : Nat) (xs : List (List UInt8)) (t : ByteArray) (w : World) (h : RawStrs w A n c xs) :
    Calls Try.prog 4 #[.slice A n c, .string t] w fun e w' => e = .returned (.bool true) ∧ Below w.heap.size w w' := by
  have hm : c ≤ 9223372036854775807 := by have := h.2.2.1; unfold maxLen at this; omega
  have hnc := h.2.1
  by_cases hn : n ≤ 50
  · have hS := h.take n (Nat.le_refl _) (by omega)
    have HS := Lib.hid hS
    clear hS h
    go_enter Try.func4, Try.ntmps4
    go_wp2_with fail
    refine (sane_any _).mono ?_
    rintro e w1 ⟨rfl, hb1⟩
    go_wp2_with fail
    refine (Count_any _ _ t.data.toList _ (HS.out.below hb1)).mono ?_
    rintro e w2 ⟨rfl, hb2⟩
    have hB := below_then hb1 hb2
    go_wp2_with fail
    refine (refCount_any _ _ t.data.toList _ (HS.out.below hB)).mono ?_
    rintro e w3 ⟨rfl, rfl⟩
    go_wp2
    go_ret
    exact ⟨rfl, hB⟩
  · have hS := h.take 50 (by omega) (by omega)
    have HS := Lib.hid hS
    obtain ⟨b, off, rfl, hz⟩ := h.2.2.2 0 (by have := h.1; omega)
    clear hz hS h
    go_enter Try.func4, Try.ntmps4
    go_wp2_with fail
    refine (sane_any _).mono ?_
    rintro e w1 ⟨rfl, hb1⟩
    go_wp2_with fail
    refine (Count_any _ _ t.data.toList _ (HS.out.below hb1)).mono ?_
    rintro e w2 ⟨rfl, hb2⟩
    have hB := below_then hb1 hb2
    go_wp2_with fail
    refine (refCount_any _ _ t.data.toList _ (HS.out.below hB)).mono ?_
    rintro e w3 ⟨rfl, rfl⟩
    go_wp2
    go_ret
    exact ⟨rfl, hB⟩
end Go.Proofs.Ythgnjbnieahneaa

import Derived.Test.YtmfnhfkgkdibfaaGreatTokA
import Derived.Test.YtmfnhfkgkdibfaaGreatTokL
import Derived.Deep.QuietTactic
import Derived.BigQuiet
import Derived.Lib.Hide
namespace Go.Proofs.YtmfnhfkgkdibfaaGreat
open Go.RowKit

def encW (x : List UInt8) : Value := .string ⟨x.toArray⟩

/-- v is a slice of strings, xs. -/
def StrsAt (W : World) (v : Value) (xs : List (List UInt8)) : Prop :=
  ∃ a c, v = .slice a xs.length c ∧ xs.length ≤ c ∧ xs.length ≤ 1099511627776 ∧ ∀ j (h : j < xs.length), ∃ b off, a = some ⟨b, off, none⟩ ∧ W.cell? ⟨b, off + j, none⟩ = some (encW xs[j])

theorem StrsAt.below {W W' : World} {v : Value} {xs : List (List UInt8)} (h : StrsAt W v xs) (hb : Below W.heap.size W W') : StrsAt W' v xs := by
  obtain ⟨a, c, hv, hle, hl, hc⟩ := h
  refine ⟨a, c, hv, hle, hl, fun j hj => ?_⟩
  obtain ⟨b, off, ha, hcell⟩ := hc j hj
  exact ⟨b, off, ha, (hb.cell (World.block_lt_of_cell? W _ hcell)).trans hcell⟩

def beqB (x y : List UInt8) : Bool := decide (x = y)
def sameB (xs ys : List (List UInt8)) : Bool := decide (xs = ys)

theorem toList_mk (x : List UInt8) : (⟨x.toArray⟩ : ByteArray).toList = x := by
  rw [ByteArray.toList_eq]

theorem take_snoc_eq {α : Type} {xs ys : List α} {k : Nat} (h : xs.take k = ys.take k) (h1 : k < xs.length) (h2 : k < ys.length) (he : xs[k] = ys[k]) : xs.take (k + 1) = ys.take (k + 1) := by
  rw [List.take_succ_eq_append_getElem h1, List.take_succ_eq_append_getElem h2, h, he]

/-- A new block of strings. -/
theorem strsAt_new (w : World) (xs : List (List UInt8)) (hl : xs.length ≤ 1099511627776) : StrsAt (w.alloc (.cells (xs.map encW).toArray 9)) (.slice (some ⟨w.heap.size, 0, none⟩) xs.length xs.length) xs := by
  refine ⟨_, _, rfl, Nat.le_refl _, hl, fun j hj => ⟨_, _, rfl, ?_⟩⟩
  rw [Nat.zero_add, World.cell?_alloc_new]
  simp [List.getElem?_eq_getElem hj]

/-- A slice of strings that the call owns is a slice of strings. -/
theorem strsAt_of_owns {W : World} {base : Nat} {v : Value} {xs : List (List UInt8)} (h : W.ownsRow base 9 1 v xs.length (xs.map encW)) (hl : xs.length ≤ 1099511627776) : StrsAt W v xs := by
  have hcells : ∀ g, v.ownBlock = some g → ∀ j u, (xs.map encW)[j]? = some u → W.cell? ((⟨g, 0, none⟩ : Addr).add j) = some u := fun g hg => h.cells hg
  rcases h.2 with ⟨rfl, h0⟩ | ⟨g, cap, cur, rfl, _, _, hc, _⟩
  · exact ⟨none, 0, by rw [h0], by omega, hl, fun j hj => by omega⟩
  · refine ⟨some ⟨g, 0, none⟩, cap, rfl, hc, hl, fun j hj => ⟨g, 0, rfl, ?_⟩⟩
    have := hcells g rfl j (encW xs[j]) (by rw [List.getElem?_map, List.getElem?_eq_getElem hj]; rfl)
    rw [Nat.zero_add]
    have e : (⟨g, 0, none⟩ : Addr).add j = ⟨g, j, none⟩ := by unfold Addr.add; split <;> simp_all
    rwa [e] at this

end Go.Proofs.YtmfnhfkgkdibfaaGreat

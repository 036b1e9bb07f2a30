import Derived.Test.YthgnjbnieahneaaTokA
import Derived.Test.YthgnjbnieahneaaTokL
import Derived.Deep.QuietTactic
import Derived.BigQuiet
import Derived.Lib.Hide
namespace Go.Proofs.Ythgnjbnieahneaa
open Go.RowKit

def encW (x : List UInt8) : Value := .string ⟨x.toArray⟩

/-- v is a slice of strings, xs. -/
def StrsAt (W : World) (v : Value) (xs : List (List UInt8)) : Prop :=
  ∃ a c, v = .slice a xs.length c ∧ xs.length ≤ c ∧ xs.length ≤ 1099511627776 ∧ ∀ j (h : j < xs.length), ∃ b off, a = some ⟨b, off, none⟩ ∧ W.cell? ⟨b, off + j, none⟩ = some (encW xs[j])

theorem StrsAt.below {W W' : World} {v : Value} {xs : List (List UInt8)} (h : StrsAt W v xs) (hb : Below W.heap.size W W') : StrsAt W' v xs := by
  obtain ⟨a, c, hv, hle, hl, hc⟩ := h
  refine ⟨a, c, hv, hle, hl, fun j hj => ?_⟩
  obtain ⟨b, off, ha, hcell⟩ := hc j hj
  exact ⟨b, off, ha, (hb.cell (World.block_lt_of_cell? W _ hcell)).trans hcell⟩

def beqB (x y : List UInt8) : Bool := decide (x = y)
def sameB (xs ys : List (List UInt8)) : Bool := decide (xs = ys)

theorem toList_mk (x : List UInt8) : (⟨x.toArray⟩ : ByteArray).toList = x := by
  rw [ByteArray.toList_eq]

theorem take_snoc_eq {α : Type} {xs ys : List α} {k : Nat} (h : xs.take k = ys.take k) (h1 : k < xs.length) (h2 : k < ys.length) (he : xs[k] = ys[k]) : xs.take (k + 1) = ys.take (k + 1) := by
  rw [List.take_succ_eq_append_getElem h1, List.take_succ_eq_append_getElem h2, h, he]

set_option maxHeartbeats 400000 in
theorem same_any (v1 v2 : Value) (xs ys : List (List UInt8)) (w : World) (h1 : StrsAt w v1 xs) (h2 : StrsAt w v2 ys) :
    Calls Try.prog 13 #[v1, v2] w fun e w' => e = .returned (.bool (sameB xs ys)) ∧ Below w.heap.size w w' := by
  obtain ⟨a1, c1, rfl, _, hl1, hc1⟩ := h1
  obtain ⟨a2, c2, rfl, _, hl2, hc2⟩ := h2
  by_cases hlen : xs.length = ys.length
  · have HL := Lib.hid hlen
    have hb : ((xs.length : Int) != (ys.length : Int)) = false := by simp [hlen]
    clear hlen
    have H1 := Lib.hid hc1
    have H2 := Lib.hid hc2
    clear hc1 hc2
    go_enter Try.func13, Try.ntmps13
    go_wp2
    go_loopw [5] (fun p wr => ∃ (k : Nat), p = .int .i64 k ∧ k ≤ xs.length ∧ Hid (xs.take k = ys.take k) ∧ Below w.heap.size w wr) (fun p _ => xs.length - (intOf p).toNat)
    case atStart => exact ⟨0, rfl, by omega, Lib.hid rfl, Below.refl _ _⟩
    case round =>
      obtain ⟨k, rfl, hk, hpre, hB⟩ := hrel
      by_cases hlt : k < xs.length
      · obtain ⟨b1, o1, rfl, hx⟩ := H1.out k hlt
        obtain ⟨b2, o2, rfl, hy⟩ := H2.out k (by rw [← HL.out]; exact hlt)
        have hlt2 : k < ys.length := by rw [← HL.out]; exact hlt
        have hx' := (hB.cell (World.block_lt_of_cell? w _ hx)).trans hx
        have hy' := (hB.cell (World.block_lt_of_cell? w _ hy)).trans hy
        unfold encW at hx' hy'
        clear hx hy
        go_wp2
        go_quiet (fail)
        go_wp2
        · have hn : (!xs[k] == ys[k]) = true := by assumption
          go_ret
          refine ⟨bool1 ?_, hB.drewN _⟩
          unfold sameB; symm; rw [decide_eq_false_iff_not]; intro h; subst h; simp at hn
        · have hn : (!xs[k] == ys[k]) = false := by assumption
          have he : xs[k] = ys[k] := by simpa using hn
          go_roundw
          case rel => exact ⟨k + 1, by go_num, by omega, Lib.hid (take_snoc_eq hpre.out hlt hlt2 he), hB.drewN _⟩
          case measure => simp [intOf]; omega
      · have hf : true = sameB xs ys := by
          unfold sameB; symm; rw [decide_eq_true_iff]
          have := hpre.out
          rwa [List.take_of_length_le (by omega), List.take_of_length_le (by rw [← HL.out]; omega)] at this
        have HF := Lib.hid hf; clear hf
        go_wp2
        go_ret
        exact ⟨bool1 HF.out, hB⟩
  · have hb : ((xs.length : Int) != (ys.length : Int)) = true := by rw [bne_iff_ne]; omega
    have hf : false = sameB xs ys := by
      unfold sameB; symm; rw [decide_eq_false_iff_not]; intro h; subst h; exact hlen rfl
    have HF := Lib.hid hf
    clear hf hlen
    go_enter Try.func13, Try.ntmps13
    go_wp2
    go_ret
    exact ⟨bool1 HF.out, Below.refl _ _⟩

/-- A new block of strings. -/
theorem strsAt_new (w : World) (xs : List (List UInt8)) (hl : xs.length ≤ 1099511627776) : StrsAt (w.alloc (.cells (xs.map encW).toArray 9)) (.slice (some ⟨w.heap.size, 0, none⟩) xs.length xs.length) xs := by
  refine ⟨_, _, rfl, Nat.le_refl _, hl, fun j hj => ⟨_, _, rfl, ?_⟩⟩
  rw [Nat.zero_add, World.cell?_alloc_new]
  simp [List.getElem?_eq_getElem hj]

/-- A slice of strings that the call owns is a slice of strings. -/
theorem strsAt_of_owns {W : World} {base : Nat} {v : Value} {xs : List (List UInt8)} (h : W.ownsRow base 9 1 v xs.length (xs.map encW)) (hl : xs.length ≤ 1099511627776) : StrsAt W v xs := by
  have hcells : ∀ g, v.ownBlock = some g → ∀ j u, (xs.map encW)[j]? = some u → W.cell? ((⟨g, 0, none⟩ : Addr).add j) = some u := fun g hg => h.cells hg
  rcases h.2 with ⟨rfl, h0⟩ | ⟨g, cap, cur, rfl, _, _, hc, _⟩
  · exact ⟨none, 0, by rw [h0], by omega, hl, fun j hj => by omega⟩
  · refine ⟨some ⟨g, 0, none⟩, cap, rfl, hc, hl, fun j hj => ⟨g, 0, rfl, ?_⟩⟩
    have := hcells g rfl j (encW xs[j]) (by rw [List.getElem?_map, List.getElem?_eq_getElem hj]; rfl)
    rw [Nat.zero_add]
    have e : (⟨g, 0, none⟩ : Addr).add j = ⟨g, j, none⟩ := by unfold Addr.add; split <;> simp_all
    rwa [e] at this

end Go.Proofs.Ythgnjbnieahneaa

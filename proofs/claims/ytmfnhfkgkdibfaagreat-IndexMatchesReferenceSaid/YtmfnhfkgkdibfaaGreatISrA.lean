/- Rows of the call's own that are sorted: between the two vocabularies; the orders of the four sorts. -/
import Derived.Test.YtmfnhfkgkdibfaaGreatICmp
import Derived.Test.YtmfnhfkgkdibfaaGreatIxM
import Derived.Lib.OwnBridge
import Derived.Shelf.GgSortFunc.RowK
import Derived.Shelf.SlSortCmp.Insertion
namespace Go.Proofs.YtmfnhfkgkdibfaaGreat
open Go.RowKit Go.Sort Go.Proofs

theorem raw_of_ownsRow {w : World} {base : Nat} {e : TypeId} {size : Nat} {v : Value} {n : Nat} {xs : List Value} (h : w.ownsRow base e size v n xs) (hv : v ≠ .slice none 0 0) :
    ∃ g cap, v = .slice (some ⟨g, 0, none⟩) n cap ∧ base ≤ g ∧ g < w.heap.size ∧ n ≤ cap ∧ Holds id w g 0 xs.toArray := by
  rcases h.2 with ⟨e0, _⟩ | ⟨g, cap, cur, rfl, hb, hg, hn, hm, hs, ht⟩
  · exact absurd e0 hv
  · have hlt : g < w.heap.size := by
      rcases Nat.lt_or_ge g w.heap.size with h' | h'
      · exact h'
      · rw [Array.getElem?_eq_none h'] at hg; cases hg
    refine ⟨g, cap, rfl, hb, hlt, hn, fun j hj => ?_⟩
    have hl := h.1
    have hj' : j < n * size := by simpa [hl] using hj
    refine ⟨?_, by simp [World.frozen?, hg]⟩
    have e1 : (cur.toList.take (n * size))[j]? = xs[j]? := by rw [ht]
    rw [List.getElem?_take, if_pos (by omega), Array.getElem?_toList, List.getElem?_eq_getElem (by omega)] at e1
    simp only [World.cell?, hg, Nat.zero_add]
    simp only [Option.isSome_none, Bool.false_eq_true, if_false]
    rw [e1]
    simp [getElem!_pos, show j < xs.length by omega]

theorem ownsRow_put {w : World} {base : Nat} {e : TypeId} {size g n cap q : Nat} {xs ys : List Value} {os : Array Obj} (h : w.ownsRow base e size (.slice (some ⟨g, 0, none⟩) n cap) n xs) (hy : ys.length = n * size) :
    (grow (putRow id (Sort.ahead w q) g 0 ys.toArray) os).ownsRow base e size (.slice (some ⟨g, 0, none⟩) n cap) n ys := by
  rcases h.2 with ⟨e0, _⟩ | ⟨g', cap', cur, e0, hb, hg, hn, hm, hs, ht⟩
  · cases e0
  · injection e0 with e1 _ e3
    injection e1 with e1
    injection e1 with e1
    subst e1; subst e3
    have hlt : g < w.heap.size := (Array.getElem?_eq_some_iff.1 hg).1
    refine ⟨hy, .inr ⟨g, cap, putCells id 0 ys.toArray cur, rfl, hb, ?_, hn, hm, by simpa [putCells] using hs, ?_⟩⟩
    · have : (putRow id (Sort.ahead w q) g 0 ys.toArray).heap[g]? = some (.cells (putCells id 0 ys.toArray cur) e (0, 0)) := by
        simp [putRow, mapBlock, Sort.ahead, Array.getElem?_modify, hg, onCells]
      have hl2 : g < (putRow id (Sort.ahead w q) g 0 ys.toArray).heap.size := (Array.getElem?_eq_some_iff.1 this).1
      simp only [grow]
      rw [Array.getElem?_append_left hl2]
      exact this
    · apply List.ext_getElem?
      intro j
      have hle : n * size ≤ cap * size := Nat.mul_le_mul_right _ hn
      rw [List.getElem?_take, Array.getElem?_toList]
      by_cases hj : j < n * size
      · have hjc : j < cur.size := by omega
        simp only [if_pos hj, putCells, Array.getElem?_mapIdx, Array.getElem?_eq_getElem hjc, Option.map_some]
        rw [if_pos (by simp; omega), List.getElem?_eq_getElem (by omega)]
        simp [getElem!_pos, show j < ys.length by omega]
      · simp only [if_neg hj]
        rw [List.getElem?_eq_none (by omega)]

theorem below_put {α : Type} [Inhabited α] {enc : α → Value} {B : Nat} {w : World} {g q : Nat} {d : Array α} {os : Array Obj} (hg : B ≤ g) (hl : g < w.heap.size) : Below B w (grow (putRow enc (Sort.ahead w q) g 0 d) os) :=
  ⟨rfl, rfl, rfl, by simp [grow, putRow, mapBlock, Sort.ahead], fun k hk => by
    have hk2 : k < (putRow enc (Sort.ahead w q) g 0 d).heap.size := by simp [putRow, mapBlock, Sort.ahead]; omega
    simp only [grow]
    rw [Array.getElem?_append_left hk2]
    simp [putRow, mapBlock, Sort.ahead, Array.getElem?_modify, show g ≠ k by omega]⟩

theorem flatMap_at {α : Type} (enc : α → List Value) (k : Nat) (hk0 : 0 < k) (hk : ∀ x, (enc x).length = k) : ∀ (l : List α) (t : Nat), (l.flatMap enc)[t]? = l[t / k]?.bind fun x => (enc x)[t % k]?
  | [], t => by simp
  | x :: l, t => by
    rw [List.flatMap_cons]
    by_cases ht : t < k
    · rw [List.getElem?_append_left (by rw [hk]; exact ht), Nat.div_eq_of_lt ht, Nat.mod_eq_of_lt ht]; rfl
    · rw [List.getElem?_append_right (by rw [hk]; omega), hk, flatMap_at enc k hk0 hk l (t - k)]
      obtain ⟨u, rfl⟩ : ∃ u, t = u + k := ⟨t - k, by omega⟩
      rw [Nat.add_sub_cancel, Nat.add_div_right _ hk0, Nat.add_mod_right]; rfl
theorem flatK_flatMap {α : Type} [Inhabited α] (enc : α → List Value) (k : Nat) (hk0 : 0 < k) (hk : ∀ x, (enc x).length = k) (l : List α) : flatK enc k l.toArray = (l.flatMap enc).toArray := by
  refine Array.ext_getElem? fun t => ?_
  rw [show ((l.flatMap enc).toArray)[t]? = (l.flatMap enc)[t]? from by simp, flatMap_at enc k hk0 hk]
  by_cases ht : t < l.length * k
  · have hd : t / k < l.length := (Nat.div_lt_iff_lt_mul hk0).2 ht
    have hm := Nat.mod_lt t hk0
    have h1 := get_flatK enc k l.toArray t (by simpa using ht)
    rw [getElem!_pos (flatK enc k l.toArray) t (by simpa using ht)] at h1
    rw [Array.getElem?_eq_getElem (by simpa using ht), h1, List.getElem?_eq_getElem hd]
    simp only [Option.bind_some]
    rw [getElem!_pos l.toArray (t / k) (by simpa using hd), List.getElem_toArray, getElem!_pos _ _ (by rw [hk]; exact hm), List.getElem?_eq_getElem (by rw [hk]; exact hm)]
  · have hd : l.length ≤ t / k := (Nat.le_div_iff_mul_le hk0).2 (by omega)
    rw [List.getElem?_eq_none hd, Array.getElem?_eq_none (by simp; omega)]; rfl

theorem sorted_list {α : Type} [Inhabited α] {lt : α → α → Bool} {d d' : Array α} (hp : PermIn 0 d.size d d') (hs : SortedIn lt 0 d.size d') : d'.toList.Perm d.toList ∧ d'.toList.Pairwise (fun a b => lt b a = false) ∧ d'.size = d.size := by
  obtain ⟨h1, h2, h3⟩ := hp
  refine ⟨by
    have h4 : (d'.extract 0 d.size) = d' := by rw [← h1]; simp
    rw [h4] at h3
    simpa using h3, ?_, h1⟩
  rw [List.pairwise_iff_getElem]
  intro i j hi hj hij
  have := hs i j (Nat.zero_le _) hij (by simpa [h1] using hj)
  simpa [getElem!_pos, show i < d'.size by simpa using hi, show j < d'.size by simpa using hj] using this

def hitC (x : Int × Nat) : List Value := [.int .i64 x.1, .int .i64 x.2]
def termC (x : Wd × Nat) : List Value := [.string ⟨x.1.toArray⟩, .int .i64 x.2]

theorem ltI (x y : Int) : ltOf Lib.compareInt x y = decide (x < y) := by
  unfold ltOf Lib.compareInt
  by_cases h1 : x < y
  · simp [h1]
  · by_cases h2 : y < x <;> simp [h1, h2]
theorem swoI : SWO (ltOf Lib.compareInt) where
  irrefl x := by rw [ltI]; simp
  trans x y z h1 h2 := by rw [ltI] at *; simp at *; omega
  ntrans x y z h1 h2 := by rw [ltI] at *; simp at *; omega
theorem ltH (x y : Int × Nat) : ltOf (fun x y : Int × Nat => Lib.compareInt x.1 y.1) x y = decide (x.1 < y.1) := ltI x.1 y.1
theorem swoH : SWO (ltOf fun x y : Int × Nat => Lib.compareInt x.1 y.1) where
  irrefl x := by rw [ltH]; simp
  trans x y z h1 h2 := by rw [ltH] at *; simp at *; omega
  ntrans x y z h1 h2 := by rw [ltH] at *; simp at *; omega
theorem ltS (x y : Wd) : ltOf cmpS x y = decide (x < y) := by
  unfold ltOf cmpS
  by_cases h1 : x < y
  · simp [h1]
  · by_cases h2 : y < x <;> simp [h1, h2]
theorem swoS : SWO (ltOf cmpS) where
  irrefl x := by rw [ltS]; simp [str_lt_irrefl]
  trans x y z h1 h2 := by rw [ltS] at *; simp only [decide_eq_true_eq] at *; exact List.lt_trans h1 h2
  ntrans x y z h1 h2 := by
    rw [ltS] at *
    simp only [decide_eq_false_iff_not, List.not_lt] at *
    exact List.le_trans h2 h1
theorem ltT (x y : Wd × Nat) : ltOf cmpT x y = decide (TLt x y) := by
  unfold ltOf cmpT orI Lib.compareInt cmpS TLt
  by_cases h1 : y.2 < x.2
  · simp [h1]
  · by_cases h2 : x.2 < y.2
    · simp [h1, h2]; omega
    · have h3 : x.2 = y.2 := by omega
      simp only [h3, Int.lt_irrefl, gt_iff_lt, ↓reduceIte, Nat.lt_irrefl, true_and, false_or]
      by_cases h4 : x.1 < y.1
      · simp [h4]
      · by_cases h5 : y.1 < x.1 <;> simp [h4, h5]
theorem swoT : SWO (ltOf cmpT) where
  irrefl x := by rw [ltT]; simpa using tlt_irrefl x
  trans x y z h1 h2 := by rw [ltT] at *; simp only [decide_eq_true_eq] at *; exact tlt_trans _ _ _ h1 h2
  ntrans x y z h1 h2 := by
    rw [ltT] at *
    simp only [decide_eq_false_iff_not] at *
    exact tle_trans _ _ _ h2 h1
end Go.Proofs.YtmfnhfkgkdibfaaGreat

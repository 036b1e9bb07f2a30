/- The program's longest and its operations, against the reference's: plain lists, no program in sight. -/
import Derived.Test.YtfdholhfdceedaaDoorDifM
namespace Go.Proofs.YtfdholhfdceedaaDoor
open Go.RowKit

/-- the offsets below k at which x lies in o -/
def placesTo (o x : List UInt8) (k : Nat) : List Nat := (List.range k).filter fun j => decide ((o.drop j).take 8 = x)
theorem placesTo_succ (o x : List UInt8) (k : Nat) : placesTo o x (k + 1) = placesTo o x k ++ (if (o.drop k).take 8 = x then [k] else []) := by
  unfold placesTo
  rw [List.range_succ, List.filter_append]
  by_cases h : (o.drop k).take 8 = x <;> simp [h]
theorem placesTo_asc (o x : List UInt8) (k : Nat) : (placesTo o x k).Pairwise (· < ·) := by
  unfold placesTo
  exact List.Pairwise.filter _ (List.pairwise_lt_range)
theorem placesTo_lt {o x : List UInt8} {k j : Nat} (h : j ∈ placesTo o x k) : j < k := by
  unfold placesTo at h
  simpa using (List.mem_filter.1 h).1
theorem placesTo_len (o x : List UInt8) (k : Nat) : (placesTo o x k).length ≤ k := by
  unfold placesTo
  have := List.length_filter_le (fun j => decide ((o.drop j).take 8 = x)) (List.range k)
  simpa using this

def lstep (o s : List UInt8) (b : Nat × Nat) (k : Nat) : Nat × Nat := if b.1 < comm (o.drop k) s then (comm (o.drop k) s, k) else b
/-- what longest does with the places -/
def lgo (o s : List UInt8) : List Nat → Nat × Nat → Nat × Nat
  | [], b => b
  | k :: l, b => if o.length - k ≤ b.1 then b else lgo o s l (lstep o s b k)
theorem lstep_idle {o s : List UInt8} {b : Nat × Nat} {k : Nat} (h : o.length - k ≤ b.1) : lstep o s b k = b := by
  unfold lstep
  have := (comm_le (o.drop k) s).1
  rw [List.length_drop] at this
  rw [if_neg (by omega)]
theorem fold_idle {o s : List UInt8} {b : Nat × Nat} : ∀ {l : List Nat}, (∀ k ∈ l, o.length - k ≤ b.1) → l.foldl (lstep o s) b = b
  | [], _ => rfl
  | k :: l, h => by
    rw [List.foldl_cons, lstep_idle (h k (by simp))]
    exact fold_idle fun j hj => h j (by simp [hj])
theorem lgo_fold {o s : List UInt8} : ∀ {l : List Nat} {b : Nat × Nat}, l.Pairwise (· < ·) → lgo o s l b = l.foldl (lstep o s) b
  | [], _, _ => rfl
  | k :: l, b, h => by
    rw [List.pairwise_cons] at h
    unfold lgo
    split
    · rename_i hk
      exact (fold_idle fun j hj => by
        rcases List.mem_cons.1 hj with rfl | hj
        · exact hk
        · have := h.1 j hj; omega).symm
    · rw [lgo_fold h.2, List.foldl_cons]
theorem longAt_fold (o s : List UInt8) (k : Nat) : longAt o s k = (List.range k).foldl (lstep o s) (0, 0) := by
  induction k with
  | zero => rfl
  | succ k ih => rw [List.range_succ, List.foldl_append, ← ih]; rfl

/-- where eight bytes agree -/
theorem comm_eight {x y : List UInt8} (hy : 8 ≤ y.length) : 8 ≤ comm x y ↔ x.take 8 = y.take 8 := by
  constructor
  · intro h
    have h1 := comm_take x y
    have := congrArg (List.take 8) h1
    rwa [List.take_take, List.take_take, Nat.min_eq_left h] at this
  · intro h
    have hl : 8 ≤ x.length := by
      have := congrArg List.length h
      simp at this; omega
    rcases Nat.lt_or_ge (comm x y) 8 with hlt | hge
    · have h1 : comm x y < x.length := by omega
      have h2 : comm x y < y.length := by omega
      have he : x[comm x y] = y[comm x y] := by
        have e1 : (x.take 8)[comm x y]? = (y.take 8)[comm x y]? := by rw [h]
        rw [List.getElem?_take, List.getElem?_take, if_pos hlt, if_pos hlt, List.getElem?_eq_getElem h1, List.getElem?_eq_getElem h2] at e1
        exact Option.some.inj e1
      have := comm_more x y (comm x y) h1 h2 (Nat.le_refl _) he
      omega
    · exact hge

theorem places_best (o s : List UInt8) (hs : 8 ≤ s.length) (k : Nat) :
    ((placesTo o (s.take 8) k).foldl (lstep o s) (0, 0) = (0, 0) ∧ (longAt o s k).1 < 8) ∨ ((placesTo o (s.take 8) k).foldl (lstep o s) (0, 0) = longAt o s k ∧ 8 ≤ (longAt o s k).1) := by
  induction k with
  | zero => exact .inl ⟨rfl, by show (0 : Nat) < 8; decide⟩
  | succ k ih =>
    rw [placesTo_succ, List.foldl_append]
    have hl : longAt o s (k + 1) = lstep o s (longAt o s k) k := rfl
    rw [hl]
    have h8 := comm_eight (x := o.drop k) hs
    by_cases hp : (o.drop k).take 8 = s.take 8
    · rw [if_pos hp]
      have hc := h8.2 hp
      rcases ih with ⟨e, h⟩ | ⟨e, h⟩
      · right
        have hb : lstep o s (longAt o s k) k = (comm (o.drop k) s, k) := by unfold lstep; rw [if_pos (by omega)]
        rw [e, hb]
        refine ⟨?_, hc⟩
        show lstep o s (0, 0) k = _
        unfold lstep; rw [if_pos (by show 0 < comm (o.drop k) s; omega)]
      · right
        rw [e]
        refine ⟨rfl, ?_⟩
        unfold lstep
        split
        · exact hc
        · exact h
    · rw [if_neg hp]
      have hc : comm (o.drop k) s < 8 := by
        rcases Nat.lt_or_ge (comm (o.drop k) s) 8 with h | h
        · exact h
        · exact absurd (h8.1 h) hp
      show (((placesTo o (s.take 8) k).foldl (lstep o s) (0, 0)) = _ ∧ _) ∨ _
      rcases ih with ⟨e, h⟩ | ⟨e, h⟩
      · left
        refine ⟨e, ?_⟩
        unfold lstep
        split
        · exact hc
        · exact h
      · right
        have hb : lstep o s (longAt o s k) k = longAt o s k := by unfold lstep; rw [if_neg (by omega)]
        rw [hb]
        exact ⟨e, h⟩

/-- the places that the program keeps: those at which eight bytes fit -/
def placesP (o x : List UInt8) : List Nat := placesTo o x (o.length - 7)
theorem placesP_all {o x : List UInt8} (hx : x.length = 8) : placesTo o x o.length = placesP o x := by
  unfold placesP
  rcases Nat.lt_or_ge o.length 8 with h | h
  · have : ∀ k, placesTo o x k = [] ∨ 8 ≤ o.length := by
      intro k
      induction k with
      | zero => exact .inl rfl
      | succ k ih =>
        rcases ih with ih | ih
        · rw [placesTo_succ, ih]
          by_cases e : (o.drop k).take 8 = x
          · right
            have := congrArg List.length e
            simp at this; omega
          · left; simp [e]
        · exact .inr ih
    rcases this o.length with h1 | h1
    · rcases this (o.length - 7) with h2 | h2
      · rw [h1, h2]
      · omega
    · omega
  · have key : ∀ j, placesTo o x (o.length - 7 + j) = placesTo o x (o.length - 7) ∨ o.length < o.length - 7 + j := by
      intro j
      induction j with
      | zero => exact .inl rfl
      | succ j ih =>
        rcases ih with ih | ih
        · by_cases hb : o.length < o.length - 7 + (j + 1)
          · exact .inr hb
          · left
            rw [← Nat.add_assoc, placesTo_succ, ih]
            have hn : ¬ (o.drop (o.length - 7 + j)).take 8 = x := fun e => by
              have := congrArg List.length e
              simp at this; omega
            rw [if_neg hn, List.append_nil]
        · exact .inr (by omega)
    have := key 7
    rw [show o.length - 7 + 7 = o.length by omega] at this
    rcases this with h1 | h1
    · exact h1
    · omega

/-- what the program finds is what the reference finds, from eight bytes on -/
theorem longP_eq (o s : List UInt8) (hs : 8 ≤ s.length) :
    (8 ≤ (lgo o s (placesP o (s.take 8)) (0, 0)).1 ↔ 8 ≤ (longD o s).1) ∧ (8 ≤ (longD o s).1 → lgo o s (placesP o (s.take 8)) (0, 0) = longD o s) := by
  have hx : (s.take 8).length = 8 := by simp; omega
  have hf : lgo o s (placesP o (s.take 8)) (0, 0) = (placesTo o (s.take 8) o.length).foldl (lstep o s) (0, 0) := by
    rw [placesP_all hx]; exact lgo_fold (placesTo_asc _ _ _)
  rw [hf]
  unfold longD
  rcases places_best o s hs o.length with ⟨e, h⟩ | ⟨e, h⟩
  · rw [e]
    exact ⟨⟨fun h' => by simp at h', fun h' => by omega⟩, fun h' => by omega⟩
  · rw [e]; exact ⟨Iff.rfl, fun _ => rfl⟩

/-- an operation of a delta: a copy of n bytes from off, or, if n is 0, an insertion -/
structure DOp where
  n : Nat
  off : Nat
  text : List UInt8

def DOp.bytes (x : DOp) : List UInt8 := if 0 < x.n then putInt x.n ++ putInt x.off else putInt 0 ++ putStr x.text

def insL (x : List UInt8) : List DOp := if x = [] then [] else [⟨0, 0, x⟩]
/-- the operations, one by one -/
def opsL (o : List UInt8) : Nat → List UInt8 → List UInt8 → List DOp
  | 0, _, _ => []
  | f + 1, rest, fresh =>
    match rest with
    | [] => insL fresh
    | c :: t =>
      if 8 ≤ (longD o (c :: t)).1 then insL fresh ++ ⟨(longD o (c :: t)).1, (longD o (c :: t)).2, []⟩ :: opsL o f ((c :: t).drop (longD o (c :: t)).1) []
      else opsL o f t (fresh ++ [c])

theorem insL_bytes (x : List UInt8) : (insL x).flatMap DOp.bytes = insD x := by
  unfold insL insD
  by_cases h : x = []
  · rw [if_pos h, if_pos h]; rfl
  · rw [if_neg h, if_neg h]; simp [DOp.bytes]
theorem opsL_bytes (o : List UInt8) : ∀ (f : Nat) (rest fresh : List UInt8), (opsL o f rest fresh).flatMap DOp.bytes = opsD o f rest fresh
  | 0, _, _ => rfl
  | f + 1, [], fresh => by unfold opsL opsD; exact insL_bytes fresh
  | f + 1, c :: t, fresh => by
    unfold opsL opsD
    simp only []
    split
    · rename_i h
      rw [List.flatMap_append, List.flatMap_cons, insL_bytes, opsL_bytes o f]
      have : 0 < (longD o (c :: t)).1 := by omega
      simp [DOp.bytes, this]
    · exact opsL_bytes o f t _
theorem longD_le (o s : List UInt8) : (longD o s).1 ≤ s.length := (longAt_ok o s o.length (Nat.le_refl _)).1
/-- fuel beyond the rest's length makes no difference -/
theorem opsL_fuel (o : List UInt8) : ∀ (f g : Nat) (rest fresh : List UInt8), rest.length < f → rest.length < g → opsL o f rest fresh = opsL o g rest fresh
  | 0, _, _, _, h, _ => by omega
  | _ + 1, 0, _, _, _, h => by omega
  | f + 1, g + 1, [], fresh, _, _ => by unfold opsL; rfl
  | f + 1, g + 1, c :: t, fresh, hf, hg => by
    unfold opsL
    simp only []
    simp only [List.length_cons] at hf hg
    split
    · rename_i h
      have hl : ((c :: t).drop (longD o (c :: t)).1).length < f := by simp; omega
      have hl' : ((c :: t).drop (longD o (c :: t)).1).length < g := by simp; omega
      rw [opsL_fuel o f g _ _ hl hl']
    · rw [opsL_fuel o f g t _ (by omega) (by omega)]
/-- all operations from a rest on -/
def opsR (o rest fresh : List UInt8) : List DOp := opsL o (rest.length + 1) rest fresh
theorem opsR_nil (o fresh : List UInt8) : opsR o [] fresh = insL fresh := rfl
theorem opsR_hit {o rest fresh : List UInt8} (h : 8 ≤ (longD o rest).1) : opsR o rest fresh = insL fresh ++ ⟨(longD o rest).1, (longD o rest).2, []⟩ :: opsR o (rest.drop (longD o rest).1) [] := by
  cases rest with
  | nil => have := longD_le o []; simp at this; omega
  | cons c t =>
    have hl : ((c :: t).drop (longD o (c :: t)).1).length < (c :: t).length := by simp; omega
    unfold opsR
    rw [opsL]
    rw [if_pos h, opsL_fuel o _ (((c :: t).drop (longD o (c :: t)).1).length + 1) _ _ hl (Nat.lt_succ_self _)]
theorem opsR_miss {o t fresh : List UInt8} {c : UInt8} (h : ¬ 8 ≤ (longD o (c :: t)).1) : opsR o (c :: t) fresh = opsR o t (fresh ++ [c]) := by
  unfold opsR
  rw [opsL]
  rw [if_neg h]
  rfl
/-- a rest of less than eight bytes is inserted whole -/
theorem opsR_short (o : List UInt8) : ∀ (rest fresh : List UInt8), rest.length < 8 → opsR o rest fresh = insL (fresh ++ rest)
  | [], fresh, _ => by rw [opsR_nil, List.append_nil]
  | c :: t, fresh, h => by
    have := longD_le o (c :: t)
    rw [opsR_miss (by omega), opsR_short o t _ (by simp at h; omega)]
    simp
theorem diffD_ops {o n : List UInt8} (ho : o.length ≤ 8192) (hn : n.length ≤ 8192) : diffD o n = putInt (crcOf o) ++ putInt (crcOf n) ++ (opsR o n []).flatMap DOp.bytes := by
  unfold diffD
  rw [if_neg (by omega)]
  unfold opsR
  rw [opsL_bytes]
end Go.Proofs.YtfdholhfdceedaaDoor

/- Facts and contracts for the laws of the sender, part 6. Conditions: those that each theorem names. -/
import Derived.Test.YtefloieanpgnmaaDoorK02
import Derived.Test.YtefloieanpgnmaaDoorProg
import Derived.Shelf.Strings.Builder1
import Derived.WalkKit
import Derived.WalkSpells
import Derived.WalkLawsBesides
import Derived.Lib.Hide
import Derived.RangeFuncWrites
import Derived.Maps.OwnRows
import Derived.Maps.Views
import Derived.RangeFuncBox
import Derived.StringKeys
import Derived.Deep.QuietTactic
import Derived.BigQuiet
/- The program's longest and its operations, against the reference's: plain lists, no program in sight. -/
namespace Go.Proofs.YtefloieanpgnmaaDoor
open Go.RowKit

/-- the offsets below k at which x lies in o -/
def placesTo (o x : List UInt8) (k : Nat) : List Nat := (List.range k).filter fun j => decide ((o.drop j).take 8 = x)
theorem placesTo_succ (o x : List UInt8) (k : Nat) : placesTo o x (k + 1) = placesTo o x k ++ (if (o.drop k).take 8 = x then [k] else []) := by
  unfold placesTo
  rw [List.range_succ, List.filter_append]
  by_cases h : (o.drop k).take 8 = x <;> simp [h]
theorem placesTo_asc (o x : List UInt8) (k : Nat) : (placesTo o x k).Pairwise (· < ·) := by
  unfold placesTo
  exact List.Pairwise.filter _ (List.pairwise_lt_range)
theorem placesTo_lt {o x : List UInt8} {k j : Nat} (h : j ∈ placesTo o x k) : j < k := by
  unfold placesTo at h
  simpa using (List.mem_filter.1 h).1
theorem placesTo_len (o x : List UInt8) (k : Nat) : (placesTo o x k).length ≤ k := by
  unfold placesTo
  have := List.length_filter_le (fun j => decide ((o.drop j).take 8 = x)) (List.range k)
  simpa using this

def lstep (o s : List UInt8) (b : Nat × Nat) (k : Nat) : Nat × Nat := if b.1 < comm (o.drop k) s then (comm (o.drop k) s, k) else b
/-- what longest does with the places -/
def lgo (o s : List UInt8) : List Nat → Nat × Nat → Nat × Nat
  | [], b => b
  | k :: l, b => if o.length - k ≤ b.1 then b else lgo o s l (lstep o s b k)
theorem lstep_idle {o s : List UInt8} {b : Nat × Nat} {k : Nat} (h : o.length - k ≤ b.1) : lstep o s b k = b := by
  unfold lstep
  have := (comm_le (o.drop k) s).1
  rw [List.length_drop] at this
  rw [if_neg (by omega)]
theorem fold_idle {o s : List UInt8} {b : Nat × Nat} : ∀ {l : List Nat}, (∀ k ∈ l, o.length - k ≤ b.1) → l.foldl (lstep o s) b = b
  | [], _ => rfl
  | k :: l, h => by
    rw [List.foldl_cons, lstep_idle (h k (by simp))]
    exact fold_idle fun j hj => h j (by simp [hj])
theorem lgo_fold {o s : List UInt8} : ∀ {l : List Nat} {b : Nat × Nat}, l.Pairwise (· < ·) → lgo o s l b = l.foldl (lstep o s) b
  | [], _, _ => rfl
  | k :: l, b, h => by
    rw [List.pairwise_cons] at h
    unfold lgo
    split
    · rename_i hk
      exact (fold_idle fun j hj => by
        rcases List.mem_cons.1 hj with rfl | hj
        · exact hk
        · have := h.1 j hj; omega).symm
    · rw [lgo_fold h.2, List.foldl_cons]
theorem longAt_fold (o s : List UInt8) (k : Nat) : longAt o s k = (List.range k).foldl (lstep o s) (0, 0) := by
  induction k with
  | zero => rfl
  | succ k ih => rw [List.range_succ, List.foldl_append, ← ih]; rfl

/-- where eight bytes agree -/
theorem comm_eight {x y : List UInt8} (hy : 8 ≤ y.length) : 8 ≤ comm x y ↔ x.take 8 = y.take 8 := by
  constructor
  · intro h
    have h1 := comm_take x y
    have := congrArg (List.take 8) h1
    rwa [List.take_take, List.take_take, Nat.min_eq_left h] at this
  · intro h
    have hl : 8 ≤ x.length := by
      have := congrArg List.length h
      simp at this; omega
    rcases Nat.lt_or_ge (comm x y) 8 with hlt | hge
    · have h1 : comm x y < x.length := by omega
      have h2 : comm x y < y.length := by omega
      have he : x[comm x y] = y[comm x y] := by
        have e1 : (x.take 8)[comm x y]? = (y.take 8)[comm x y]? := by rw [h]
        rw [List.getElem?_take, List.getElem?_take, if_pos hlt, if_pos hlt, List.getElem?_eq_getElem h1, List.getElem?_eq_getElem h2] at e1
        exact Option.some.inj e1
      have := comm_more x y (comm x y) h1 h2 (Nat.le_refl _) he
      omega
    · exact hge

theorem places_best (o s : List UInt8) (hs : 8 ≤ s.length) (k : Nat) :
    ((placesTo o (s.take 8) k).foldl (lstep o s) (0, 0) = (0, 0) ∧ (longAt o s k).1 < 8) ∨ ((placesTo o (s.take 8) k).foldl (lstep o s) (0, 0) = longAt o s k ∧ 8 ≤ (longAt o s k).1) := by
  induction k with
  | zero => exact .inl ⟨rfl, by show (0 : Nat) < 8; decide⟩
  | succ k ih =>
    rw [placesTo_succ, List.foldl_append]
    have hl : longAt o s (k + 1) = lstep o s (longAt o s k) k := rfl
    rw [hl]
    have h8 := comm_eight (x := o.drop k) hs
    by_cases hp : (o.drop k).take 8 = s.take 8
    · rw [if_pos hp]
      have hc := h8.2 hp
      rcases ih with ⟨e, h⟩ | ⟨e, h⟩
      · right
        have hb : lstep o s (longAt o s k) k = (comm (o.drop k) s, k) := by unfold lstep; rw [if_pos (by omega)]
        rw [e, hb]
        refine ⟨?_, hc⟩
        show lstep o s (0, 0) k = _
        unfold lstep; rw [if_pos (by show 0 < comm (o.drop k) s; omega)]
      · right
        rw [e]
        refine ⟨rfl, ?_⟩
        unfold lstep
        split
        · exact hc
        · exact h
    · rw [if_neg hp]
      have hc : comm (o.drop k) s < 8 := by
        rcases Nat.lt_or_ge (comm (o.drop k) s) 8 with h | h
        · exact h
        · exact absurd (h8.1 h) hp
      show (((placesTo o (s.take 8) k).foldl (lstep o s) (0, 0)) = _ ∧ _) ∨ _
      rcases ih with ⟨e, h⟩ | ⟨e, h⟩
      · left
        refine ⟨e, ?_⟩
        unfold lstep
        split
        · exact hc
        · exact h
      · right
        have hb : lstep o s (longAt o s k) k = longAt o s k := by unfold lstep; rw [if_neg (by omega)]
        rw [hb]
        exact ⟨e, h⟩

/-- the places that the program keeps: those at which eight bytes fit -/
def placesP (o x : List UInt8) : List Nat := placesTo o x (o.length - 7)
theorem placesP_all {o x : List UInt8} (hx : x.length = 8) : placesTo o x o.length = placesP o x := by
  unfold placesP
  rcases Nat.lt_or_ge o.length 8 with h | h
  · have : ∀ k, placesTo o x k = [] ∨ 8 ≤ o.length := by
      intro k
      induction k with
      | zero => exact .inl rfl
      | succ k ih =>
        rcases ih with ih | ih
        · rw [placesTo_succ, ih]
          by_cases e : (o.drop k).take 8 = x
          · right
            have := congrArg List.length e
            simp at this; omega
          · left; simp [e]
        · exact .inr ih
    rcases this o.length with h1 | h1
    · rcases this (o.length - 7) with h2 | h2
      · rw [h1, h2]
      · omega
    · omega
  · have key : ∀ j, placesTo o x (o.length - 7 + j) = placesTo o x (o.length - 7) ∨ o.length < o.length - 7 + j := by
      intro j
      induction j with
      | zero => exact .inl rfl
      | succ j ih =>
        rcases ih with ih | ih
        · by_cases hb : o.length < o.length - 7 + (j + 1)
          · exact .inr hb
          · left
            rw [← Nat.add_assoc, placesTo_succ, ih]
            have hn : ¬ (o.drop (o.length - 7 + j)).take 8 = x := fun e => by
              have := congrArg List.length e
              simp at this; omega
            rw [if_neg hn, List.append_nil]
        · exact .inr (by omega)
    have := key 7
    rw [show o.length - 7 + 7 = o.length by omega] at this
    rcases this with h1 | h1
    · exact h1
    · omega

/-- what the program finds is what the reference finds, from eight bytes on -/
theorem longP_eq (o s : List UInt8) (hs : 8 ≤ s.length) :
    (8 ≤ (lgo o s (placesP o (s.take 8)) (0, 0)).1 ↔ 8 ≤ (longD o s).1) ∧ (8 ≤ (longD o s).1 → lgo o s (placesP o (s.take 8)) (0, 0) = longD o s) := by
  have hx : (s.take 8).length = 8 := by simp; omega
  have hf : lgo o s (placesP o (s.take 8)) (0, 0) = (placesTo o (s.take 8) o.length).foldl (lstep o s) (0, 0) := by
    rw [placesP_all hx]; exact lgo_fold (placesTo_asc _ _ _)
  rw [hf]
  unfold longD
  rcases places_best o s hs o.length with ⟨e, h⟩ | ⟨e, h⟩
  · rw [e]
    exact ⟨⟨fun h' => by simp at h', fun h' => by omega⟩, fun h' => by omega⟩
  · rw [e]; exact ⟨Iff.rfl, fun _ => rfl⟩

/-- an operation of a delta: a copy of n bytes from off, or, if n is 0, an insertion -/
structure DOp where
  n : Nat
  off : Nat
  text : List UInt8

def DOp.bytes (x : DOp) : List UInt8 := if 0 < x.n then putInt x.n ++ putInt x.off else putInt 0 ++ putStr x.text

def insL (x : List UInt8) : List DOp := if x = [] then [] else [⟨0, 0, x⟩]
/-- the operations, one by one -/
def opsL (o : List UInt8) : Nat → List UInt8 → List UInt8 → List DOp
  | 0, _, _ => []
  | f + 1, rest, fresh =>
    match rest with
    | [] => insL fresh
    | c :: t =>
      if 8 ≤ (longD o (c :: t)).1 then insL fresh ++ ⟨(longD o (c :: t)).1, (longD o (c :: t)).2, []⟩ :: opsL o f ((c :: t).drop (longD o (c :: t)).1) []
      else opsL o f t (fresh ++ [c])

theorem insL_bytes (x : List UInt8) : (insL x).flatMap DOp.bytes = insD x := by
  unfold insL insD
  by_cases h : x = []
  · rw [if_pos h, if_pos h]; rfl
  · rw [if_neg h, if_neg h]; simp [DOp.bytes]
theorem opsL_bytes (o : List UInt8) : ∀ (f : Nat) (rest fresh : List UInt8), (opsL o f rest fresh).flatMap DOp.bytes = opsD o f rest fresh
  | 0, _, _ => rfl
  | f + 1, [], fresh => by unfold opsL opsD; exact insL_bytes fresh
  | f + 1, c :: t, fresh => by
    unfold opsL opsD
    simp only []
    split
    · rename_i h
      rw [List.flatMap_append, List.flatMap_cons, insL_bytes, opsL_bytes o f]
      have : 0 < (longD o (c :: t)).1 := by omega
      simp [DOp.bytes, this]
    · exact opsL_bytes o f t _
theorem longD_le (o s : List UInt8) : (longD o s).1 ≤ s.length := (longAt_ok o s o.length (Nat.le_refl _)).1
/-- fuel beyond the rest's length makes no difference -/
theorem opsL_fuel (o : List UInt8) : ∀ (f g : Nat) (rest fresh : List UInt8), rest.length < f → rest.length < g → opsL o f rest fresh = opsL o g rest fresh
  | 0, _, _, _, h, _ => by omega
  | _ + 1, 0, _, _, _, h => by omega
  | f + 1, g + 1, [], fresh, _, _ => by unfold opsL; rfl
  | f + 1, g + 1, c :: t, fresh, hf, hg => by
    unfold opsL
    simp only []
    simp only [List.length_cons] at hf hg
    split
    · rename_i h
      have hl : ((c :: t).drop (longD o (c :: t)).1).length < f := by simp; omega
      have hl' : ((c :: t).drop (longD o (c :: t)).1).length < g := by simp; omega
      rw [opsL_fuel o f g _ _ hl hl']
    · rw [opsL_fuel o f g t _ (by omega) (by omega)]
/-- all operations from a rest on -/
def opsR (o rest fresh : List UInt8) : List DOp := opsL o (rest.length + 1) rest fresh
theorem opsR_nil (o fresh : List UInt8) : opsR o [] fresh = insL fresh := rfl
theorem opsR_hit {o rest fresh : List UInt8} (h : 8 ≤ (longD o rest).1) : opsR o rest fresh = insL fresh ++ ⟨(longD o rest).1, (longD o rest).2, []⟩ :: opsR o (rest.drop (longD o rest).1) [] := by
  cases rest with
  | nil => have := longD_le o []; simp at this; omega
  | cons c t =>
    have hl : ((c :: t).drop (longD o (c :: t)).1).length < (c :: t).length := by simp; omega
    unfold opsR
    rw [opsL]
    rw [if_pos h, opsL_fuel o _ (((c :: t).drop (longD o (c :: t)).1).length + 1) _ _ hl (Nat.lt_succ_self _)]
theorem opsR_miss {o t fresh : List UInt8} {c : UInt8} (h : ¬ 8 ≤ (longD o (c :: t)).1) : opsR o (c :: t) fresh = opsR o t (fresh ++ [c]) := by
  unfold opsR
  rw [opsL]
  rw [if_neg h]
  rfl
/-- a rest of less than eight bytes is inserted whole -/
theorem opsR_short (o : List UInt8) : ∀ (rest fresh : List UInt8), rest.length < 8 → opsR o rest fresh = insL (fresh ++ rest)
  | [], fresh, _ => by rw [opsR_nil, List.append_nil]
  | c :: t, fresh, h => by
    have := longD_le o (c :: t)
    rw [opsR_miss (by omega), opsR_short o t _ (by simp at h; omega)]
    simp
theorem diffD_ops {o n : List UInt8} (ho : o.length ≤ 8192) (hn : n.length ≤ 8192) : diffD o n = putInt (crcOf o) ++ putInt (crcOf n) ++ (opsR o n []).flatMap DOp.bytes := by
  unfold diffD
  rw [if_neg (by omega)]
  unfold opsR
  rw [opsL_bytes]
end Go.Proofs.YtefloieanpgnmaaDoor
/- A strings.Builder that lies in a writer of package delta (its first field): Len, WriteString, String. -/
namespace Go.Proofs.YtefloieanpgnmaaDoor
open Go.RowKit Go.Lib

theorem bldSize : (Tryd.prog.info? 113).map (·.size) = some 2 := by kernel_rfl
theorem bldLies : liesAt Tryd.prog Tryd.prog.depth 115 (2 / Tryd.prog.cellsOf 115) 0 113 1 = true := by kernel_rfl
theorem infoU8b : (Tryd.prog.info? 5).map (fun i => (i.zero, i.size, i.bytes)) = some (some (.int .u8 0), 1, 1) := by kernel_rfl
theorem cellsU8b : Tryd.prog.cellsOf 5 = 1 := by kernel_rfl

abbrev IsB := Lib.IsBuilder 115 5
abbrev BAt (B b : Nat) := Lib.BuilderAt 115 5 B b (.pointer (some ⟨b, 0, none⟩))

set_option maxHeartbeats 1000000 in
set_option maxRecDepth 100000 in
theorem bld_check_used (b : Nat) (w : World) (h0 : w.cell? ⟨b, 0, none⟩ = some (.pointer (some ⟨b, 0, none⟩))) :
    Calls Tryd.prog 61 #[.pointer (some ⟨b, 0, none⟩)] w fun e w' => e = .returned (.tuple #[]) ∧ w' = w := by
  obtain ⟨j, hj, _⟩ := Option.map_eq_some_iff.1 bldSize
  have hq := fun w : World => Lib.run_neq_ptr_same w ⟨b, 0, none⟩ Tryd.underlying111 hj
  go_enter Tryd.func61, Tryd.ntmps61
  go_wp2
  go_end0
  exact ⟨rfl, rfl⟩

set_option maxHeartbeats 1000000 in
set_option maxRecDepth 100000 in
theorem bld_check_fresh (b : Nat) (w : World) (h0 : w.cell? ⟨b, 0, none⟩ = some (.pointer none)) (hsh : w.shape? b = some (115, 2)) (hfz : w.frozen? ⟨b, 0, none⟩ = false) :
    Calls Tryd.prog 61 #[.pointer (some ⟨b, 0, none⟩)] w fun e w' => e = .returned (.tuple #[]) ∧ w' = w.setCell ⟨b, 0, none⟩ (.pointer (some ⟨b, 0, none⟩)) := by
  obtain ⟨j, hj, hjs⟩ := Option.map_eq_some_iff.1 bldSize
  go_enter Tryd.func61, Tryd.ntmps61
  go_wp2
  rw [Lib.run_to_unsafe w ⟨b, 0, none⟩ Tryd.underlying111 Tryd.underlying159 hj (by rw [hjs]; decide) hsh (Nat.zero_lt_succ 1)]
  simp only [Result.andThen]
  rw [Oper.upon_value]
  go_wp2
  rw [run_callFunc_extern Tryd.func76 (by kernel_rfl) (by kernel_rfl) (by kernel_rfl) (e := Extern.AbiNoEscape.same) (by kernel_rfl)]
  rw [Lib.run_noEscape]
  simp only [Result.andThen]
  rw [Oper.upon_value]
  go_wp2
  rw [Lib.run_from_unsafe w ⟨b, 0, none⟩ Tryd.underlying159 Tryd.underlying111 hj hsh bldLies]
  simp only [Result.andThen]
  rw [Oper.upon_value]
  go_wp2
  go_end0
  exact ⟨rfl, rfl⟩

theorem bld_check (B b : Nat) (bs : List Value) (w : World) (h : IsB B b bs w) :
    Calls Tryd.prog 61 #[.pointer (some ⟨b, 0, none⟩)] w fun e w' => e = .returned (.tuple #[]) ∧ BAt B b bs w' ∧ Below B w w' := by
  rcases h with h | h
  · refine (bld_check_fresh b w h.cell0 h.shape h.frozen0).mono ?_
    rintro e w' ⟨rfl, rfl⟩
    exact ⟨rfl, h.used _, (Below.refl B w).setCell (p := ⟨b, 0, none⟩) h.1 _⟩
  · refine (bld_check_used b w h.cell0).mono ?_
    rintro e w' ⟨rfl, rfl⟩
    exact ⟨rfl, h, Below.refl B _⟩

set_option maxHeartbeats 1000000 in
set_option maxRecDepth 100000 in
theorem bld_len (B b : Nat) (bs : List Value) (w : World) (h : IsB B b bs w) :
    Calls Tryd.prog 50 #[.pointer (some ⟨b, 0, none⟩)] w fun e w' => e = .returned (.int .i64 bs.length) ∧ w = w' := by
  obtain ⟨p, hB, v, hbk, hown, hne⟩ : ∃ p, Lib.BuilderAt 115 5 B b p bs w := by
    rcases h with h | h
    · exact ⟨_, h⟩
    · exact ⟨_, h⟩
  obtain ⟨ao, cap, rfl⟩ : ∃ ao cap, v = .slice ao bs.length cap := by
    rcases hown.2 with ⟨rfl, hl⟩ | ⟨g, cap, cur, hv, _⟩
    · exact ⟨none, 0, by rw [hl]⟩
    · exact ⟨_, _, hv⟩
  have c1 : w.cell? ⟨b, 1, none⟩ = some (.slice ao bs.length cap) := by rw [Lib.cell_of_heap hbk]; rfl
  clear hown
  go_enter Tryd.func50, Tryd.ntmps50
  go_wp2
  go_ret
  exact ⟨rfl, rfl⟩

set_option maxHeartbeats 2000000 in
set_option maxRecDepth 100000 in
theorem bld_write (B b : Nat) (bs : List Value) (s : ByteArray) (w : World) (h : IsB B b bs w) (hlen : bs.length + s.size ≤ 140737488355328) (hBw : B ≤ w.heap.size) :
    Calls Tryd.prog 51 #[.pointer (some ⟨b, 0, none⟩), .string s] w fun e w' => e = .returned (.tuple #[.int .i64 s.size, .nilIface]) ∧ BAt B b (bs ++ Lib.strCells s) w' ∧ Below B w w' := by
  obtain ⟨i0, hi, hz0, hz1, hz2⟩ := info_parts infoU8b
  go_enter Tryd.func51, Tryd.ntmps51
  go_wp2_with fail
  refine (bld_check B b bs _ h).mono ?_
  rintro e w1 ⟨rfl, h1, hb1⟩
  obtain ⟨hB, v, hbk, hown, hne⟩ := h1
  have c0 : w1.cell? ⟨b, 0, none⟩ = some (.pointer (some ⟨b, 0, none⟩)) := by rw [Lib.cell_of_heap hbk]; rfl
  have c1 : w1.cell? ⟨b, 1, none⟩ = some v := by rw [Lib.cell_of_heap hbk]; rfl
  go_wp2_with (at_builtin; refine Lib.wpList_append_own_string _ rfl _ _ 71 9 rfl B 5 i0 Tryd.underlying71 Tryd.underlying9 hi hz0 hz1 hz2 _ _ _ rfl hown s rfl ?c3 ?c4 ?c5 ?_)
  case c3 => unfold maxLen; omega
  case c4 => omega
  case c5 => have := hb1.size; omega
  intro v' w2 hown' hgrow _
  have hlt : b < w1.heap.size := by
    rcases Nat.lt_or_ge b w1.heap.size with h' | h'
    · exact h'
    · simp [Array.getElem?_eq_none h'] at hbk
  have hb2 : w2.heap[b]? = some (.cells #[.pointer (some ⟨b, 0, none⟩), v] 115 (0, 0)) := by
    rw [hgrow.block b hlt (fun e => hne e.symm)]
    exact hbk
  have d0 : w2.cell? ⟨b, 0, none⟩ = some (.pointer (some ⟨b, 0, none⟩)) := by rw [Lib.cell_of_heap hb2]; rfl
  have d1 : w2.cell? ⟨b, 1, none⟩ = some v := by rw [Lib.cell_of_heap hb2]; rfl
  have f1 : w2.frozen? ⟨b, 1, none⟩ = false := Lib.frozen_of_heap hb2 1
  obtain ⟨ao, n', cap, rfl⟩ : ∃ ao n' cap, v' = .slice ao n' cap := by
    rcases hown'.2 with ⟨hv, _⟩ | ⟨g, cap, cur, hv, _⟩
    · exact ⟨_, _, _, hv⟩
    · exact ⟨_, _, _, hv⟩
  go_wp2
  go_ret2
  refine ⟨rfl, ?_, ?_⟩
  · exact Lib.BuilderAt.put (T := 115) (e := 5) hB hb2 (bs' := bs ++ Lib.strCells s) (by simpa [Lib.strCells_length] using hown') (by decide)
  · exact (hb1.grown hgrow (by have := hb1.size; omega) (fun k hk => (hown.lt k hk).1)).setCell (p := ⟨b, 1, none⟩) hB _

end Go.Proofs.YtefloieanpgnmaaDoor
/- What a writer of package delta leaves alone: all blocks but its own and its bytes. -/
namespace Go.Proofs.YtefloieanpgnmaaDoor
open Go.RowKit Go.Lib

/-- no bytes, no writer -/
def Stab (o : Obj) : Prop := ∀ cs t fr, o = .cells cs t fr → t ≠ 5 ∧ t ≠ 115
/-- all such blocks lie as they lay -/
structure KStab (W W' : World) : Prop where
  size : W.heap.size ≤ W'.heap.size
  same : ∀ (k : Nat) (o : Obj), W.heap[k]? = some o → Stab o → W'.heap[k]? = some o

theorem KStab.refl (W : World) : KStab W W := ⟨Nat.le_refl _, fun _ _ h _ => h⟩
theorem KStab.trans {A B C : World} (h : KStab A B) (k : KStab B C) : KStab A C := ⟨Nat.le_trans h.size k.size, fun i o hi ho => k.same i o (h.same i o hi ho) ho⟩
theorem KStab.grown {W W' : World} {row : Option Nat} (hg : W.grownBy W' row) (hr : ∀ j, row = some j → ∃ o, W.heap[j]? = some o ∧ ¬ Stab o) : KStab W W' :=
  ⟨hg.size, fun k o hk ho => (hg.block k (Array.getElem?_eq_some_iff.1 hk).1 (fun e => by
    obtain ⟨o', h1, h2⟩ := hr k e.symm
    rw [hk] at h1; cases h1; exact h2 ho)).trans hk⟩
theorem KStab.setCell {W : World} {b j : Nat} {cs : Array Value} {fr : Nat × Nat} (h : W.heap[b]? = some (.cells cs 115 fr)) (u : Value) : KStab W (W.setCell ⟨b, j, none⟩ u) :=
  ⟨by simp [World.setCell], fun k o hk ho => (Below.heap_setCell _ _ _ _ (fun e => by
    subst e; rw [h] at hk; cases hk; exact (ho _ _ _ rfl).2 rfl)).trans hk⟩
theorem KStab.alloc (W : World) (o : Obj) : KStab W (W.alloc o) := ⟨by simp, fun k _ hk _ => (Below.heap_alloc _ _ _ (Array.getElem?_eq_some_iff.1 hk).1).trans hk⟩
theorem KStab.below {W W' : World} (hb : Below W.heap.size W W') : KStab W W' := ⟨hb.size, fun k _ hk _ => (hb.block k (Array.getElem?_eq_some_iff.1 hk).1).trans hk⟩
theorem stab_off {o : Obj} (h : o.isCells = false) : Stab o := fun cs t fr e => by subst e; cases h
theorem KStab.from {W W' : World} (h : KStab W W') (B : Nat) : KeepsFrom B W W' := ⟨h.size, fun k o _ hk ho => h.same k o hk (stab_off ho)⟩
theorem row_unstab {W : World} {B n : Nat} {v : Value} {xs : List Value} (h : W.ownsRow B 5 1 v n xs) : ∀ j, v.ownBlock = some j → ∃ o, W.heap[j]? = some o ∧ ¬ Stab o := by
  intro j hj
  rcases h.2 with ⟨rfl, _⟩ | ⟨g, cap, cur, rfl, _, hg, _⟩
  · cases hj
  · simp [Value.ownBlock] at hj
    subst hj
    exact ⟨_, hg, fun hs => (hs _ _ _ rfl).1 rfl⟩

theorem bld_checkK (B b : Nat) (bs : List Value) (w : World) (h : IsB B b bs w) :
    Calls Tryd.prog 61 #[.pointer (some ⟨b, 0, none⟩)] w fun e w' => e = .returned (.tuple #[]) ∧ BAt B b bs w' ∧ Below B w w' ∧ KStab w w' := by
  rcases h with h | h
  · have hbk := h.2.choose_spec.1
    refine (bld_check_fresh b w h.cell0 h.shape h.frozen0).mono ?_
    rintro e w' ⟨rfl, rfl⟩
    exact ⟨rfl, h.used _, (Below.refl B w).setCell (p := ⟨b, 0, none⟩) h.1 _, KStab.setCell hbk _⟩
  · refine (bld_check_used b w h.cell0).mono ?_
    rintro e w' ⟨rfl, rfl⟩
    exact ⟨rfl, h, Below.refl B _, KStab.refl _⟩

set_option maxHeartbeats 2000000 in
set_option maxRecDepth 100000 in
theorem bld_writeK (B b : Nat) (bs : List Value) (s : ByteArray) (w : World) (h : IsB B b bs w) (hlen : bs.length + s.size ≤ 140737488355328) (hBw : B ≤ w.heap.size) :
    Calls Tryd.prog 51 #[.pointer (some ⟨b, 0, none⟩), .string s] w fun e w' => e = .returned (.tuple #[.int .i64 s.size, .nilIface]) ∧ BAt B b (bs ++ Lib.strCells s) w' ∧ Below B w w' ∧ KStab w w' := by
  obtain ⟨i0, hi, hz0, hz1, hz2⟩ := info_parts infoU8b
  go_enter Tryd.func51, Tryd.ntmps51
  go_wp2_with fail
  refine (bld_checkK B b bs _ h).mono ?_
  rintro e w1 ⟨rfl, h1, hb1, hk1⟩
  have HK1 := Lib.hid hk1; clear hk1
  obtain ⟨hB, v, hbk, hown, hne⟩ := h1
  have c0 : w1.cell? ⟨b, 0, none⟩ = some (.pointer (some ⟨b, 0, none⟩)) := by rw [Lib.cell_of_heap hbk]; rfl
  have c1 : w1.cell? ⟨b, 1, none⟩ = some v := by rw [Lib.cell_of_heap hbk]; rfl
  go_wp2_with (at_builtin; refine Lib.wpList_append_own_string _ rfl _ _ 71 9 rfl B 5 i0 Tryd.underlying71 Tryd.underlying9 hi hz0 hz1 hz2 _ _ _ rfl hown s rfl ?c3 ?c4 ?c5 ?_)
  case c3 => unfold maxLen; omega
  case c4 => omega
  case c5 => have := hb1.size; omega
  intro v' w2 hown' hgrow _
  have HK2 := Lib.hid (HK1.out.trans (KStab.grown hgrow (row_unstab hown)))
  have hlt : b < w1.heap.size := by
    rcases Nat.lt_or_ge b w1.heap.size with h' | h'
    · exact h'
    · simp [Array.getElem?_eq_none h'] at hbk
  have hb2 : w2.heap[b]? = some (.cells #[.pointer (some ⟨b, 0, none⟩), v] 115 (0, 0)) := by
    rw [hgrow.block b hlt (fun e => hne e.symm)]
    exact hbk
  have d0 : w2.cell? ⟨b, 0, none⟩ = some (.pointer (some ⟨b, 0, none⟩)) := by rw [Lib.cell_of_heap hb2]; rfl
  have d1 : w2.cell? ⟨b, 1, none⟩ = some v := by rw [Lib.cell_of_heap hb2]; rfl
  have f1 : w2.frozen? ⟨b, 1, none⟩ = false := Lib.frozen_of_heap hb2 1
  obtain ⟨ao, n', cap, rfl⟩ : ∃ ao n' cap, v' = .slice ao n' cap := by
    rcases hown'.2 with ⟨hv, _⟩ | ⟨g, cap, cur, hv, _⟩
    · exact ⟨_, _, _, hv⟩
    · exact ⟨_, _, _, hv⟩
  go_wp2
  go_ret2
  refine ⟨rfl, ?_, ?_, HK2.out.trans (KStab.setCell hb2 _)⟩
  · exact Lib.BuilderAt.put (T := 115) (e := 5) hB hb2 (bs' := bs ++ Lib.strCells s) (by simpa [Lib.strCells_length] using hown') (by decide)
  · exact (hb1.grown hgrow (by have := hb1.size; omega) (fun k hk => (hown.lt k hk).1)).setCell (p := ⟨b, 1, none⟩) hB _
end Go.Proofs.YtefloieanpgnmaaDoor
/- A map from strings to slices of integers, as a function. -/
namespace Go.Proofs.YtefloieanpgnmaaDoor
open Go.RowKit Go.Maps Go.ChangeMaps Go.ChangeShapes Go.MapKept Go.WideMaps
open Go.WideElems (Fit rd rg pl rd_val rd_key rg_of elemAt)

/-- what an iterator of the package wants kept: maps, and all cells but bytes and writers -/
def Keep (o : Obj) : Prop := o.isWalk = true ∨ ∃ cs t fr, o = .cells cs t fr ∧ t ≠ 5 ∧ t ≠ 115
structure KOps (W W' : World) : Prop where
  size : W.heap.size ≤ W'.heap.size
  same : ∀ (k : Nat) (o : Obj), W.heap[k]? = some o → Keep o → W'.heap[k]? = some o
theorem KOps.refl (W : World) : KOps W W := ⟨Nat.le_refl _, fun _ _ h _ => h⟩
theorem KOps.trans {A B C : World} (h : KOps A B) (k : KOps B C) : KOps A C := ⟨Nat.le_trans h.size k.size, fun i o hi ho => k.same i o (h.same i o hi ho) ho⟩
theorem KStab.ops {W W' : World} (h : KStab W W') : KOps W W' := ⟨h.size, fun k o hk ho => h.same k o hk (by
  rcases ho with ho | ⟨cs, t, fr, rfl, h1, h2⟩
  · intro cs t fr e; subst e; cases ho
  · intro cs' t' fr' e; cases e; exact ⟨h1, h2⟩)⟩
theorem KOps.putObj {w : World} (W : World) (l : Nat) (o o' : Obj) (_ : w.heap.size ≤ l) (h : W.heap[l]? = some o) (hc : o.isCells = false) (hw : o.isWalk = false) : KOps W (W.putObj l o') :=
  ⟨by simp, fun k x hk hx => by
    have hne : l ≠ k := fun e => by
      subst e
      rw [h] at hk; cases hk
      rcases hx with hx | ⟨cs, t, fr, rfl, _⟩
      · rw [hw] at hx; cases hx
      · cases hc
    exact (World.putObj_heap_other (by omega)).trans hk⟩
theorem KOps.below {W W' : World} (hb : Below W.heap.size W W') : KOps W W' := (KStab.below hb).ops

theorem boxed_ops {W W' : World} {B : Nat} {v : Value} (h : Boxed W B 9 v) (hk : KOps W W') : Boxed W' B 9 v := hk.same _ _ h (.inr ⟨_, _, _, rfl, by decide, by decide⟩)

theorem ints_ops {W W' : World} {base : Nat} {v : Value} {zs : List Int} (h : W.ownsInts base 3 .i64 v zs) (hk : KOps W W') : W'.ownsInts base 3 .i64 v zs := by
  obtain ⟨⟨h1, h2⟩, h3⟩ := h
  refine ⟨⟨h1, ?_⟩, h3⟩
  rcases h2 with h2 | ⟨g, cap, cur, hv, hg, hh, r⟩
  · exact .inl h2
  · exact .inr ⟨g, cap, cur, hv, hg, hk.same _ _ hh (.inr ⟨_, _, _, rfl, by decide, by decide⟩), r⟩

set_option maxRecDepth 100000 in
theorem groups_ops {H : Type} {W W' : World} {base b n : Nat} {D : DataW H} (h : W.ownsGroups Tryd.prog 9 base 3 .i64 b n D) (hk : KOps W W') : W'.ownsGroups Tryd.prog 9 base 3 .i64 b n D := by
  obtain ⟨es, clock, hb, F, hs, rfl, hbb, hlen, hap⟩ := h
  have hst : ∀ x ∈ es.toList, ∀ z, rowElem (H := H) W base 3 .i64 x.val = some z → rowElem W' base 3 .i64 x.val = some z := fun x _ z hz => by
    obtain ⟨zs, ho, rfl⟩ := rowElem_inv hz
    exact rowElem_mk (ints_ops ho hk)
  obtain ⟨F1, hmap, _⟩ := F.stay hst
  refine ⟨es, clock, hk.same _ _ hb (.inl rfl), F1, hs, by rw [hmap], hbb, fun x hx zs ho => ?_, hap⟩
  obtain ⟨y, hy⟩ := F.reads x hx
  obtain ⟨z, hz, _⟩ := rd_val hy
  obtain ⟨zs0, ho0, _⟩ := rowElem_inv hz
  rw [ho.unique (ints_ops ho0 hk)]
  exact hlen x hx zs0 ho0

theorem groups_isMap {H : Type} {W : World} {base b n : Nat} {D : DataW H} (h : W.ownsGroups Tryd.prog 9 base 3 .i64 b n D) : IsMap D := by
  obtain ⟨_, _, _, _, _, rfl, _⟩ := h; exact ⟨_, rfl⟩

def natsI (zs : List Nat) : List Int := zs.map Int.ofNat
def gdat (zs : List Nat) : DataW Unit := if zs = [] then .nil else .slice (lits .i64 (natsI zs)) []
/-- block b is such a map that holds f -/
def GMap (base b n : Nat) (f : List UInt8 → List Nat) (w : World) : Prop :=
  ∃ D : DataW Unit, w.ownsGroups Tryd.prog 9 base 3 .i64 b n D ∧ ∀ x, D.atKey (.string x) .nil = gdat (f x)

theorem GMap.ops {base b n : Nat} {f : List UInt8 → List Nat} {w w' : World} (h : GMap base b n f w) (hk : KOps w w') : GMap base b n f w' := by
  obtain ⟨D, h1, h2⟩ := h
  exact ⟨D, groups_ops h1 hk, h2⟩
theorem GMap.new (w : World) : GMap (w.heap.size + 1) w.heap.size 0 (fun _ => []) (w.alloc (.map #[] 0)) := ⟨.map [], World.ownsGroups_made _ _ _ _ _, fun _ => rfl⟩

theorem strKeys : Keyed Tryd.prog 9 := string_keyed Tryd.underlying9
theorem strKey {x : List UInt8} (h : x.length ≤ 8192) : keyOf Tryd.prog 9 (.string ⟨x.toArray⟩) = some (.string x) := by
  have := keyOf_string_mk (P := Tryd.prog) (k := 9) Tryd.underlying9 (s := ⟨x.toArray⟩) (by unfold maxLen; simp [ByteArray.size]; omega)
  simpa using this

theorem lits_inj {a b : List Int} (h : (lits .i64 a : List (DataW Unit)) = lits .i64 b) : a = b := by
  unfold lits at h
  exact (List.map_inj_right (fun x y hxy => by injection hxy with h1; injection h1)).1 h

/-- what is at a key; and the way back -/
def GBack (base b n : Nat) (f : List UInt8 → List Nat) (w : World) (x : List UInt8) (v : Value) : Prop :=
  ∀ (w1 : World) (v' : Value) (zs' : List Nat), zs' ≠ [] → w.grownBy w1 v.ownBlock → w1.ownsInts base 3 .i64 v' (natsI zs') → zs'.length ≤ n + 1 → (v'.ownBlock = v.ownBlock ∨ ∃ g, v'.ownBlock = some g ∧ w.heap.size ≤ g) →
    ∃ w2, (Instr.mapUpdate 164 (.map (some b)) (.string ⟨x.toArray⟩) v').run Tryd.prog w1 = .ok () w2 ∧ GMap base b (n + 1) (fun y => if y = x then zs' else f y) w2 ∧ w1.grownBy w2 (some b)

set_option maxRecDepth 100000 in
theorem GMap.get {base b n : Nat} {f : List UInt8 → List Nat} {w : World} (h : GMap base b n f w) (hn : n ≤ 10000) {x : List UInt8} (hx : x.length ≤ 8192) :
    ∃ v, (Instr.lookup 164 (.map (some b)) (.string ⟨x.toArray⟩) false).run Tryd.prog w = .ok v w ∧ w.ownsInts base 3 .i64 v (natsI (f x)) ∧ (f x).length ≤ n ∧ GBack base b n f w x v := by
  obtain ⟨D, hD, hf⟩ := h
  obtain ⟨v, zs, hrun, hat, hoi, hzl, hback⟩ := hD.at strKeys Tryd.underlying164 (Tryd.zeroValue29 w) (by unfold maxLen; omega) (strKey hx)
  have hzs : zs = natsI (f x) := by
    rw [hf x] at hat
    unfold gdat at hat
    by_cases h0 : f x = []
    · rw [if_pos h0] at hat
      rcases hoi.datum (H := Unit) with ⟨_, h2⟩ | h2
      · rw [h2, h0]; rfl
      · rw [h2] at hat; cases hat
    · rw [if_neg h0] at hat
      rcases hoi.datum (H := Unit) with ⟨h2, _⟩ | h2
      · rw [h2] at hat; cases hat
      · rw [h2] at hat
        injection hat with h3
        exact (lits_inj h3).symm
  subst hzs
  refine ⟨v, hrun, hoi, by simpa [natsI] using hzl, ?_⟩
  intro w1 v' zs' hne hg ho hl hloc
  obtain ⟨w2, hr2, ho2, hg2⟩ := hback w1 v' (natsI zs') hg ho (by simpa [natsI] using hl) hloc
  refine ⟨w2, hr2, ⟨_, ho2, fun y => ?_⟩, hg2⟩
  have hne' : natsI zs' ≠ [] := by simpa [natsI] using hne
  by_cases hy : y = x
  · subst hy
    simp only [↓reduceIte]
    rw [atKey_put_same (groups_isMap hD) (strKeys.key (strKey hx)), ho.datum_pos hne']
    unfold gdat; rw [if_neg hne]
  · simp only [if_neg hy]
    rw [atKey_put_other (by simpa using hy)]
    exact hf y
/-- one entry a key -/
theorem fit_one {P : Program} {k : TypeId} {R : Value → Option (DataW Unit × List MemPlace)} {es : Array MapEntry} {clock : Nat} (K : Keyed P k) (F : Fit P k R es clock) {x x' : MapEntry} (hx : x ∈ es.toList) (hx' : x' ∈ es.toList) (h : x.key = x'.key) : x = x' := by
  have e : (rg P k R x).1 = (rg P k R x').1 := by
    obtain ⟨y, hy⟩ := F.reads x hx
    obtain ⟨y', hy'⟩ := F.reads x' hx'
    have m1 := rd_key hy
    have m2 := rd_key hy'
    rw [rg_of hy, rg_of hy']
    rw [h, m2] at m1
    exact (Option.some.inj m1).symm
  have ha := fit_apart K F
  rw [List.pairwise_map, List.pairwise_iff_getElem] at ha
  obtain ⟨i, hi, rfl⟩ := List.getElem_of_mem hx
  obtain ⟨j, hj, rfl⟩ := List.getElem_of_mem hx'
  rcases Nat.lt_trichotomy i j with h1 | h1 | h1
  · exact absurd e (ha i j hi hj h1)
  · subst h1; rfl
  · exact absurd e.symm (ha j i hj hi h1)

set_option maxRecDepth 100000 in
/-- what is at a key, however often was drawn -/
theorem GMap.look {base b n : Nat} {f : List UInt8 → List Nat} {w : World} (h : GMap base b n f w) (hn : n ≤ 10000) {x : List UInt8} (hx : x.length ≤ 8192) :
    ∃ v, (∀ q, (Instr.lookup 164 (.map (some b)) (.string ⟨x.toArray⟩) false).run Tryd.prog (w.drewN q) = .ok v (w.drewN q)) ∧ w.ownsInts base 3 .i64 v (natsI (f x)) := by
  obtain ⟨v, hrun, hoi, _, _⟩ := h.get hn hx
  refine ⟨v, fun q => ?_, hoi⟩
  obtain ⟨D, ⟨es, clock, hb, F, _⟩, _⟩ := h
  have hbq : (w.drewN q).heap[b]? = some (.map es clock) := hb
  rcases fit_look false strKeys Tryd.underlying164 (Tryd.zeroValue29 w) hb F (strKey hx) with ⟨r1, n1, _⟩ | ⟨e0, y, m0, k0, r1, _⟩
  · rcases fit_look false strKeys Tryd.underlying164 (Tryd.zeroValue29 (w.drewN q)) hbq F (strKey hx) with ⟨r2, _, _⟩ | ⟨e1, y1, m1, k1, _⟩
    · rw [hrun] at r1
      injection r1 with r3
      subst r3
      exact r2
    · exact absurd k1 (n1 e1 m1)
  · rcases fit_look false strKeys Tryd.underlying164 (Tryd.zeroValue29 (w.drewN q)) hbq F (strKey hx) with ⟨_, n2, _⟩ | ⟨e1, y1, m1, k1, r2, _⟩
    · exact absurd k0 (n2 e0 m0)
    · obtain rfl := fit_one strKeys F m0 m1 (k0.trans k1.symm)
      rw [hrun] at r1
      injection r1 with r3
      subst r3
      exact r2
end Go.Proofs.YtefloieanpgnmaaDoor
/- delta's longest. -/
namespace Go.Proofs.YtefloieanpgnmaaDoor
open Go.RowKit

/-- integers that lie in memory -/
def NatsAt (w : World) (v : Value) (zs : List Nat) : Prop :=
  ∃ A cap, v = .slice A zs.length cap ∧ zs.length ≤ cap ∧ cap ≤ maxLen ∧ ∀ k (hk : k < zs.length), ∃ g, A = some ⟨g, 0, none⟩ ∧ w.cell? ⟨g, k, none⟩ = some (.int .i64 (zs[k] : Int))
theorem nats_of {w : World} {base : Nat} {v : Value} {zs : List Nat} (h : w.ownsInts base 3 .i64 v (natsI zs)) : NatsAt w v zs := by
  have h1 := h.1
  have hl : (natsI zs).length = zs.length := by simp [natsI]
  rw [hl] at h1
  rcases h1.2 with ⟨hv, h0⟩ | ⟨g, cap, cur, hv, hg, hh, hn, hcap, _, _⟩
  · refine ⟨none, 0, by rw [hv, h0], by omega, by decide, fun k hk => by omega⟩
  · refine ⟨some ⟨g, 0, none⟩, cap, hv, hn, hcap, fun k hk => ⟨g, rfl, ?_⟩⟩
    subst hv
    have := h1.cellAt k (by omega)
    rw [this]
    simp [natsI, hk]

set_option maxRecDepth 100000 in
set_option maxHeartbeats 4000000 in
theorem longP_any (o s : List UInt8) (v : Value) (zs : List Nat) (w : World) (ho : o.length ≤ 8192) (hs : s.length ≤ 8192) (hz : ∀ z ∈ zs, z < o.length) (hv : NatsAt w v zs) :
    Calls Tryd.prog 79 #[.string ⟨o.toArray⟩, .string ⟨s.toArray⟩, v] w fun e w' => e = .returned (.tuple #[.int .i64 ((lgo o s zs (0, 0)).1 : Int), .int .i64 ((lgo o s zs (0, 0)).2 : Int)]) ∧ ∃ k, w' = w.drewN k := by
  obtain ⟨A, cap, rfl, hcl, hcm, hcell⟩ := hv
  unfold maxLen at hcm
  obtain ⟨O, hO⟩ : ∃ O : ByteArray, ⟨o.toArray⟩ = O := ⟨_, rfl⟩
  obtain ⟨S, hS⟩ : ∃ S : ByteArray, ⟨s.toArray⟩ = S := ⟨_, rfl⟩
  have zO : O.size = o.length := by rw [← hO, mk_size]
  have zS : S.size = s.length := by rw [← hS, mk_size]
  have bO : ∀ i (h : i < o.length) (h' : i < O.size), O[i] = o[i] := fun i h h' => by subst hO; rfl
  have bS : ∀ i (h : i < s.length) (h' : i < S.size), S[i] = s[i] := fun i h h' => by subst hS; rfl
  obtain ⟨R, hR⟩ : ∃ R, lgo o s zs (0, 0) = R := ⟨_, rfl⟩
  rw [hO, hS, hR]
  obtain ⟨R1, R2⟩ := R
  have HR := Lib.hid hR
  have HZ := Lib.hid hz; have HCE := Lib.hid hcell
  clear hO hS hR hz hcell
  have HBO := Lib.hid bO; have HBS := Lib.hid bS
  clear bO bS
  go_enter Tryd.func79, Tryd.ntmps79
  go_wp2
  go_loopw [8, 9, 15] (fun b a i wr => ∃ k best off q : Nat, i = .int .i64 k ∧ b = .int .i64 best ∧ a = .int .i64 off ∧ k ≤ zs.length ∧ best ≤ s.length ∧ Hid (lgo o s (zs.drop k) (best, off) = (R1, R2)) ∧ wr = w.drewN q) (fun _ _ i _ => zs.length - (intOf i).toNat)
  case atStart => exact ⟨0, 0, 0, 0, rfl, rfl, rfl, Nat.zero_le _, Nat.zero_le _, Lib.hid HR.out, rfl⟩
  case round =>
    obtain ⟨k, best, off, q, rfl, rfl, rfl, hk, hbs, HL, rfl⟩ := hrel
    by_cases hlt : k < zs.length
    · obtain ⟨g, rfl, hc0⟩ := HCE.out k hlt
      have hzo := HZ.out zs[k] (List.getElem_mem hlt)
      have hdr : zs.drop k = zs[k] :: zs.drop (k + 1) := List.drop_eq_getElem_cons hlt
      have hst := HL.out
      rw [hdr, lgo] at hst
      generalize zs[k] = t at *
      have hcq : (w.drewN q).cell? ⟨g, k, none⟩ = some (.int .i64 (t : Int)) := hc0
      have k0 : (0 : Int) ≤ (k : Int) := by omega
      have k1 : (k : Int) < (zs.length : Int) := by omega
      by_cases hbk : o.length - t ≤ best
      · rw [if_pos hbk] at hst
        have hbb : decide ((o.length : Int) - (t : Int) ≤ (best : Int)) = true := by rw [decide_eq_true_eq]; omega
        cases hst
        clear hdr hc0
        go_wp2
        go_ret2
        exact ⟨rfl, _, rfl⟩
      · rw [if_neg hbk] at hst
        have hbb : decide ((o.length : Int) - (t : Int) ≤ (best : Int)) = false := by rw [decide_eq_false_iff_not]; omega
        obtain ⟨c, hc⟩ : ∃ c, comm (o.drop t) s = c := ⟨_, rfl⟩
        have hcl2 : c ≤ o.length - t ∧ c ≤ s.length := by rw [← hc]; have := comm_le (o.drop t) s; simpa using this
        have hmore : ∀ j (h1 : t + j < o.length) (h2 : j < s.length), j ≤ c → s[j] = o[t + j] → j + 1 ≤ c := by
          intro j h1 h2 hj he
          rw [← hc] at hj ⊢
          exact comm_more _ _ j (by simp; omega) h2 hj (by simpa using he.symm)
        have hstop : ∀ j (h1 : t + j < o.length) (h2 : j < s.length), j < c → s[j] = o[t + j] := by
          intro j h1 h2 hj
          rw [← hc] at hj
          have := comm_eq _ _ j (by simp; omega) h2 hj
          simpa using this.symm
        unfold lstep at hst
        rw [hc] at hst
        have HC := Lib.hid hc; have HM := Lib.hid hmore; have HSt := Lib.hid hstop; have HN := Lib.hid hst
        clear hc hmore hstop hst hdr hc0 hbk HL
        go_wp2
        go_loopw [12] (fun n wr2 => ∃ j q2 : Nat, n = .int .i64 j ∧ j ≤ c ∧ wr2 = w.drewN q2) (fun n _ => c - (intOf n).toNat)
        case atStart => exact ⟨0, q, rfl, Nat.zero_le _, rfl⟩
        case round =>
          obtain ⟨j, q2, rfl, hj, rfl⟩ := hrel
          have hwk : IntKind.i64.wrap ((t : Int) + (j : Int)) = (t : Int) + (j : Int) := wrap_small _ (by omega) (by omega)
          by_cases h2 : j < s.length
          · have g2 : decide ((j : Int) < (s.length : Int)) = true := by rw [decide_eq_true_eq]; omega
            by_cases h1 : t + j < o.length
            · have g1 : decide ((t : Int) + (j : Int) < (o.length : Int)) = true := by rw [decide_eq_true_eq]; omega
              have x1 : 0 ≤ (t : Int) + (j : Int) ∧ (t : Int) + (j : Int) < (o.length : Int) := by omega
              have x2 : 0 ≤ (j : Int) ∧ (j : Int) < (s.length : Int) := by omega
              have e1 : O[t + j]'(by omega) = o[t + j] := HBO.out _ _ _
              have e2 : S[j]'(by omega) = s[j] := HBS.out _ _ _
              by_cases h3 : s[j] = o[t + j]
              · have hjc := HM.out j h1 h2 hj h3
                go_wp2
                go_quiet (fail)
                go_wp2
                exact ⟨⟨j + 1, _, by go_num, hjc, rfl⟩, by simp [intOf]; omega⟩
              · have HJ : Hid (j = c) := Lib.hid (by
                  rcases Nat.lt_or_ge j c with h | h
                  · exact absurd (HSt.out j h1 h2 h) h3
                  · exact Nat.le_antisymm hj h)
                have g3 : (((s[j].toNat : Nat) : Int) == ((o[t + j].toNat : Nat) : Int)) = false := by
                  rw [beq_eq_false_iff_ne]
                  intro h
                  exact h3 (UInt8.toNat_inj.1 (by omega))
                go_wp2
                go_quiet (fail)
                go_wp2
                all_goals obtain rfl := HJ.out
                all_goals first
                  | exact ⟨⟨k + 1, j, t, _, by go_num, rfl, rfl, by omega, by omega, Lib.hid (by have := HN.out; rwa [if_pos (by assumption)] at this), rfl⟩, by simp [intOf]; omega⟩
                  | exact ⟨⟨k + 1, best, off, _, by go_num, rfl, rfl, by omega, by omega, Lib.hid (by have := HN.out; rwa [if_neg (by assumption)] at this), rfl⟩, by simp [intOf]; omega⟩
            · have HJ : Hid (j = c) := Lib.hid (by omega)
              have g1 : decide ((t : Int) + (j : Int) < (o.length : Int)) = false := by rw [decide_eq_false_iff_not]; omega
              go_wp2
              go_quiet (fail)
              go_wp2
              all_goals obtain rfl := HJ.out
              all_goals first
                | exact ⟨⟨k + 1, j, t, _, by go_num, rfl, rfl, by omega, by omega, Lib.hid (by have := HN.out; rwa [if_pos (by assumption)] at this), rfl⟩, by simp [intOf]; omega⟩
                | exact ⟨⟨k + 1, best, off, _, by go_num, rfl, rfl, by omega, by omega, Lib.hid (by have := HN.out; rwa [if_neg (by assumption)] at this), rfl⟩, by simp [intOf]; omega⟩
          · have HJ : Hid (j = c) := Lib.hid (by omega)
            have g2 : decide ((j : Int) < (s.length : Int)) = false := by rw [decide_eq_false_iff_not]; omega
            go_wp2
            go_quiet (fail)
            go_wp2
            all_goals obtain rfl := HJ.out
            all_goals first
              | exact ⟨⟨k + 1, j, t, _, by go_num, rfl, rfl, by omega, by omega, Lib.hid (by have := HN.out; rwa [if_pos (by assumption)] at this), rfl⟩, by simp [intOf]; omega⟩
              | exact ⟨⟨k + 1, best, off, _, by go_num, rfl, rfl, by omega, by omega, Lib.hid (by have := HN.out; rwa [if_neg (by assumption)] at this), rfl⟩, by simp [intOf]; omega⟩
    · have hst := HL.out
      rw [List.drop_eq_nil_of_le (by omega), lgo] at hst
      cases hst
      go_wp2
      go_ret2
      exact ⟨rfl, _, rfl⟩
end Go.Proofs.YtefloieanpgnmaaDoor

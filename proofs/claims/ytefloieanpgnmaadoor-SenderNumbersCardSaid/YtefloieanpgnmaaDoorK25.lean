/- Facts and contracts for the laws of the sender, part 25. Conditions: those that each theorem names. -/
import Derived.Test.YtefloieanpgnmaaDoorK16
import Derived.Test.YtefloieanpgnmaaDoorK17
import Derived.Test.YtefloieanpgnmaaDoorK24
import Derived.Deep.Upon
import Derived.ArgAppend
import Derived.Maps.AppendAt
import Derived.BigRegion
import Derived.BigQuiet
import Derived.Deep.RegionHeld3
import Derived.StillTailTactics
/- The law's world and its lists in memory. -/
namespace Go.Proofs.YtefloieanpgnmaaDoor
open Go.RowKit

/-- a list of messages that U owns; it may begin within its block -/
def RowO (U : Nat → Prop) (q : Nat) (w : World) (v : Value) (l : List Msg) : Prop :=
  (v = .slice none 0 0 ∧ l = []) ∨ ∃ g off cap cur, v = .slice (some ⟨g, off * 7, none⟩) l.length cap ∧ U g ∧ g ≠ q ∧ w.heap[g]? = some (.cells cur 33 (0, 0)) ∧ l.length ≤ cap ∧ off + cap ≤ maxLen ∧ cur.size = (off + cap) * 7 ∧ (cur.toList.drop (off * 7)).take (l.length * 7) = l.flatMap msgC
theorem RowO.kept {U : Nat → Prop} {q : Nat} {w w' : World} {v : Value} {l : List Msg} (h : RowO U q w v l) (hk : ∀ k, U k → w'.heap[k]? = w.heap[k]?) : RowO U q w' v l := by
  rcases h with h | ⟨g, off, cap, cur, h1, h2, h3, h4, h5⟩
  · exact .inl h
  · exact .inr ⟨g, off, cap, cur, h1, h2, h3, (hk g h2).trans h4, h5⟩
theorem RowO.far {U : Nat → Prop} {q : Nat} {w w' : World} {v : Value} {l : List Msg} (h : RowO U q w v l) (hk : ∀ k, U k → k ≠ q → w'.heap[k]? = w.heap[k]?) : RowO U q w' v l := by
  rcases h with h | ⟨g, off, cap, cur, h1, h2, h3, h4, h5⟩
  · exact .inl h
  · exact .inr ⟨g, off, cap, cur, h1, h2, h3, (hk g h2 h3).trans h4, h5⟩
theorem RowO.more {U U' : Nat → Prop} {q : Nat} {w : World} {v : Value} {l : List Msg} (h : RowO U q w v l) (hU : ∀ k, U k → U' k) : RowO U' q w v l := by
  rcases h with h | ⟨g, off, cap, cur, h1, h2, h3⟩
  · exact .inl h
  · exact .inr ⟨g, off, cap, cur, h1, hU g h2, h3⟩
theorem RowO.of_own {U : Nat → Prop} {q base : Nat} {w : World} {v : Value} {l : List Msg} (h : w.ownsRow base 33 7 v l.length (l.flatMap msgC)) (hU : ∀ j, v.ownBlock = some j → U j ∧ j ≠ q) : RowO U q w v l := by
  rcases h.2 with ⟨h1, h2⟩ | ⟨g, cap, cur, rfl, h2, h3, h4, h5, h6, h7⟩
  · exact .inl ⟨h1, List.length_eq_zero_iff.1 h2⟩
  · exact .inr ⟨g, 0, cap, cur, by rw [Nat.zero_mul], (hU g rfl).1, (hU g rfl).2, h3, h4, by omega, by rw [h6, Nat.zero_add], by simpa using h7⟩
theorem RowO.read {U : Nat → Prop} {q : Nat} {w : World} {v : Value} {l : List Msg} (h : RowO U q w v l) : MsgsL w v l := by
  rcases h with ⟨rfl, rfl⟩ | ⟨g, off, cap, cur, rfl, h2, h3, h4, h5, h6, h7, h8⟩
  · exact ⟨none, 0, rfl, Nat.le_refl _, by omega, fun h => absurd rfl h⟩
  · refine ⟨_, cap, rfl, h5, by unfold maxLen at h6; omega, fun _ => ⟨g, off * 7, rfl, fun j u hj => ?_⟩⟩
    rw [Lib.cell_of_heap h4]
    rw [← h8] at hj
    have hj2 := (List.getElem?_eq_some_iff.1 hj).1
    rw [List.length_take] at hj2
    rw [List.getElem?_take_of_lt (by omega), List.getElem?_drop] at hj
    rw [← hj]; simp
/-- a list of messages that U owns from its block's beginning on -/
structure OwnM (U : Nat → Prop) (q : Nat) (w : World) (v : Value) (l : List Msg) : Prop where
  row : w.ownsRow 0 33 7 v l.length (l.flatMap msgC)
  own : ∀ j, v.ownBlock = some j → U j ∧ j ≠ q
theorem own_base {w : World} {base n : Nat} {v : Value} {xs : List Value} {e : TypeId} {size : Nat} (h : w.ownsRow base e size v n xs) : w.ownsRow 0 e size v n xs := by
  refine ⟨h.1, ?_⟩
  rcases h.2 with h1 | ⟨g, cap, cur, h1, -, h3⟩
  · exact .inl h1
  · exact .inr ⟨g, cap, cur, h1, Nat.zero_le _, h3⟩
theorem own_keep {w w' : World} {base n : Nat} {v : Value} {xs : List Value} {e : TypeId} {size : Nat} (h : w.ownsRow base e size v n xs) (hk : ∀ j, v.ownBlock = some j → w'.heap[j]? = w.heap[j]?) : w'.ownsRow base e size v n xs := by
  refine ⟨h.1, ?_⟩
  rcases h.2 with h1 | ⟨g, cap, cur, rfl, h2, h3, h4⟩
  · exact .inl h1
  · exact .inr ⟨g, cap, cur, rfl, h2, (hk g rfl).trans h3, h4⟩
theorem OwnM.far {U : Nat → Prop} {q : Nat} {w w' : World} {v : Value} {l : List Msg} (h : OwnM U q w v l) (hk : ∀ k, U k → k ≠ q → w'.heap[k]? = w.heap[k]?) : OwnM U q w' v l := ⟨own_keep h.row fun j hj => hk j (h.own j hj).1 (h.own j hj).2, h.own⟩
theorem OwnM.more {U U' : Nat → Prop} {q : Nat} {w : World} {v : Value} {l : List Msg} (h : OwnM U q w v l) (hU : ∀ k, U k → U' k) : OwnM U' q w v l := ⟨h.row, fun j hj => ⟨hU j (h.own j hj).1, (h.own j hj).2⟩⟩
theorem OwnM.read {U : Nat → Prop} {q : Nat} {w : World} {v : Value} {l : List Msg} (h : OwnM U q w v l) : MsgsL w v l := (RowO.of_own h.row h.own).read

/-- the law's world in memory: U: the blocks that it owns -/
structure WAt (U : Nat → Prop) (w : World) (q : Nat) (W : Wld) (vf va : Value) : Prop where
  own : U q
  lt : ∀ k, U k → k < w.heap.size
  cells : SenF 264 w q (wldV W vf va)
  flight : RowO U q w vf W.flight
  answers : OwnM U q w va W.answers
  apart : ∀ j, vf.ownBlock = some j → va.ownBlock ≠ some j
theorem WAt.kept {U : Nat → Prop} {w w' : World} {q : Nat} {W : Wld} {vf va : Value} (h : WAt U w q W vf va) (hs : w.heap.size ≤ w'.heap.size) (hk : ∀ k, U k → w'.heap[k]? = w.heap[k]?) : WAt U w' q W vf va :=
  ⟨h.own, fun k hk => Nat.lt_of_lt_of_le (h.lt k hk) hs, h.cells.kept (hk q h.own), h.flight.kept hk, h.answers.far (fun k h _ => hk k h), h.apart⟩
theorem WAt.below {U : Nat → Prop} {w w' : World} {q : Nat} {W : Wld} {vf va : Value} (h : WAt U w q W vf va) (hb : Below w.heap.size w w') : WAt U w' q W vf va := h.kept hb.size fun k hk => hb.block k (h.lt k hk)
/-- a cell of the world is set -/
theorem WAt.put {U : Nat → Prop} {w : World} {q : Nat} {W W' : Wld} {vf va : Value} (h : WAt U w q W vf va) {o : Nat} (ho : o < 264) {v : Value} (hf : ∀ x, x < 264 → updV (wldV W vf va) o v x = wldV W' vf va x) (h1 : W'.flight = W.flight) (h2 : W'.answers = W.answers) : WAt U (w.setCell ⟨q, o, none⟩ v) q W' vf va := by
  have hfar : ∀ k, U k → k ≠ q → (w.setCell ⟨q, o, none⟩ v).heap[k]? = w.heap[k]? := fun k _ hk => Below.heap_setCell _ ⟨q, _, none⟩ _ k hk
  exact ⟨h.own, fun k hk => by simp; exact h.lt k hk, (h.cells.set ho v).congr hf, by rw [h1]; exact h.flight.far hfar, by rw [h2]; exact h.answers.far hfar, h.apart⟩
theorem WAt.putP {U : Nat → Prop} {w w' : World} {q : Nat} {W : Wld} {vf va : Value} (h : WAt U w q W vf va) {p' : Peer} (hf : SenF 264 w' q (wldV { W with p := p' } vf va)) (hb : But (fun k => k = q) w.heap.size w w') : WAt U w' q { W with p := p' } vf va := by
  have hfar : ∀ k, U k → k ≠ q → w'.heap[k]? = w.heap[k]? := fun k hU hk => hb.block k (h.lt k hU) hk
  exact ⟨h.own, fun k hk => Nat.lt_of_lt_of_le (h.lt k hk) hb.size, hf, h.flight.far hfar, h.answers.far hfar, h.apart⟩
/-- what is on its way is replaced by a new list -/
theorem WAt.putF {U : Nat → Prop} {w : World} {q : Nat} {W : Wld} {vf va v : Value} {l : List Msg} (h : WAt U w q W vf va) (hv : RowO U q w v l) (hap : ∀ j, v.ownBlock = some j → va.ownBlock ≠ some j) : WAt U (w.setCell ⟨q, 67, none⟩ v) q { W with flight := l } v va := by
  have hfar : ∀ k, U k → k ≠ q → (w.setCell ⟨q, 67, none⟩ v).heap[k]? = w.heap[k]? := fun k _ hk => Below.heap_setCell _ ⟨q, _, none⟩ _ k hk
  exact ⟨h.own, fun k hk => by simp; exact h.lt k hk, (h.cells.set (k := 67) (by omega) v).congr (put_flight W vf va l v), hv.far hfar, h.answers.far hfar, hap⟩
theorem WAt.putA {U : Nat → Prop} {w : World} {q : Nat} {W : Wld} {vf va v : Value} {l : List Msg} (h : WAt U w q W vf va) (hv : OwnM U q w v l) (hap : ∀ j, vf.ownBlock = some j → v.ownBlock ≠ some j) : WAt U (w.setCell ⟨q, 68, none⟩ v) q { W with answers := l } vf v := by
  have hfar : ∀ k, U k → k ≠ q → (w.setCell ⟨q, 68, none⟩ v).heap[k]? = w.heap[k]? := fun k _ hk => Below.heap_setCell _ ⟨q, _, none⟩ _ k hk
  exact ⟨h.own, fun k hk => by simp; exact h.lt k hk, (h.cells.set (k := 68) (by omega) v).congr (put_answers W vf va l v), h.flight.far hfar, hv.far hfar, hap⟩
theorem WAt.more {U U' : Nat → Prop} {w : World} {q : Nat} {W : Wld} {vf va : Value} (h : WAt U w q W vf va) (hU : ∀ k, U k → U' k) (hl : ∀ k, U' k → k < w.heap.size) : WAt U' w q W vf va :=
  ⟨hU q h.own, hl, h.cells, h.flight.more hU, h.answers.more hU, h.apart⟩

/-! ### cells stored one by one -/
def storeC (K : Nat) : List Value → Nat → World → World
  | [], _, w => w
  | v :: cs, i, w => storeC K cs (i + 1) (w.setCell ⟨K, i, none⟩ v)
theorem storeC_far (K : Nat) : ∀ (cs : List Value) (i : Nat) (w : World) (k : Nat), k ≠ K → (storeC K cs i w).heap[k]? = w.heap[k]?
  | [], _, _, _, _ => rfl
  | v :: cs, i, w, k, h => (storeC_far K cs (i + 1) _ k h).trans (Below.heap_setCell w ⟨K, i, none⟩ v k h)
theorem storeC_size (K : Nat) : ∀ (cs : List Value) (i : Nat) (w : World), (storeC K cs i w).heap.size = w.heap.size
  | [], _, _ => rfl
  | v :: cs, i, w => (storeC_size K cs (i + 1) _).trans (by simp)
theorem storeC_os (K : Nat) : ∀ (cs : List Value) (i : Nat) (w : World), (storeC K cs i w).os = w.os ∧ (storeC K cs i w).tape = w.tape ∧ (storeC K cs i w).output = w.output
  | [], _, _ => ⟨rfl, rfl, rfl⟩
  | _v :: cs, i, _w => storeC_os K cs (i + 1) _
theorem storeC_low (K : Nat) : ∀ (cs : List Value) (i : Nat) (w : World) (j : Nat), j < i → (storeC K cs i w).cell? ⟨K, j, none⟩ = w.cell? ⟨K, j, none⟩
  | [], _, _, _, _ => rfl
  | v :: cs, i, w, j, h => (storeC_low K cs (i + 1) _ j (by omega)).trans (World.cell?_setCell_other w ⟨K, i, none⟩ ⟨K, j, none⟩ _ (fun e => by injection e with _ e1; omega))
theorem storeC_cell (K : Nat) : ∀ (cs : List Value) (i : Nat) (w : World), (∀ j, j < cs.length → (w.cell? ⟨K, i + j, none⟩).isSome = true) → ∀ j (h : j < cs.length), (storeC K cs i w).cell? ⟨K, i + j, none⟩ = some cs[j]
  | [], _, _, _, _, h => by simp at h
  | v :: cs, i, w, hs, j, h => by
    have h0 := hs 0 (by simp)
    rw [Nat.add_zero] at h0
    show (storeC K cs (i + 1) (w.setCell ⟨K, i, none⟩ v)).cell? ⟨K, i + j, none⟩ = _
    cases j with
    | zero =>
      show (storeC K cs (i + 1) (w.setCell ⟨K, i, none⟩ v)).cell? ⟨K, i, none⟩ = some v
      rw [storeC_low K cs (i + 1) _ i (by omega), World.cell?_setCell_same' _ _ _ h0]
    | succ j =>
      have := storeC_cell K cs (i + 1) (w.setCell ⟨K, i, none⟩ v) (fun j' hj' => by
        rw [World.cell?_setCell_other w ⟨K, i, none⟩ ⟨K, i + 1 + j', none⟩ _ (fun e => by injection e with _ e1; omega)]
        have := hs (j' + 1) (by simpa using hj')
        rwa [show i + (j' + 1) = i + 1 + j' by omega] at this) j (by simpa using h)
      rw [show i + (j + 1) = i + 1 + j by omega]
      exact this
end Go.Proofs.YtefloieanpgnmaaDoor
/- A list is appended to what is on its way. -/
namespace Go.Proofs.YtefloieanpgnmaaDoor
open Go.RowKit

theorem flow_run {U : Nat → Prop} {q : Nat} {w : World} {v x : Value} {l ms : List Msg} (hv : RowO U q w v l) (hx : MsgsL w x ms) (hn : l.length + ms.length ≤ 100000) (hq : q < w.heap.size) (ty : TypeId) :
    ∃ v' w', (Builtin.append_ #[28, 28] ty #[v, x]).run Tryd.prog w = .ok v' w' ∧ RowO (fun k => U k ∨ v'.ownBlock = some k) q w' v' (l ++ ms) ∧ w.grownBy w' v.ownBlock ∧ ∀ k, v'.ownBlock = some k → v.ownBlock = some k ∨ (w.heap.size ≤ k ∧ k < w'.heap.size) := by
  obtain ⟨i0, hinf, hz0, hz1, hz2⟩ := info_parts infoMsg
  obtain ⟨a, c, rfl, hc, hc2, hcel⟩ := hx
  have hml := msgs_len ms
  have hll := msgs_len l
  by_cases h0 : ms = []
  · subst h0
    have hsrc : _root_.Go.Src Tryd.prog i0.size 28 (.slice a ([] : List Msg).length c) 0 [] w := by
      refine ⟨.inl ⟨_, Tryd.underlying28⟩, fun w' => rfl, ?_, ?_, by simp, by simp⟩
      all_goals
        cases a with
        | none => exact run_firstCells_none _ _ _ _ _
        | some a => exact run_firstCells_some _ i0.size 0 a 0 c [] (by simp) (by intro _ _ h'; simp at h')
    have key : ∀ base n cap, v = .slice base n cap → n ≤ cap → ∃ v' w', (Builtin.append_ #[28, 28] ty #[v, .slice a ([] : List Msg).length c]).run Tryd.prog w = .ok v' w' ∧ RowO (fun k => U k ∨ v'.ownBlock = some k) q w' v' (l ++ []) ∧ w.grownBy w' v.ownBlock ∧ ∀ k, v'.ownBlock = some k → v.ownBlock = some k ∨ (w.heap.size ≤ k ∧ k < w'.heap.size) := by
      rintro base n cap rfl hle
      refine ⟨_, _, run_append_nothing (P := Tryd.prog) w 28 28 ty 33 i0 Tryd.underlying28 hinf base n cap hle _ hsrc, ?_, ⟨rfl, rfl, rfl, Nat.le_refl _, fun _ _ _ => rfl⟩, fun k hk => .inl hk⟩
      rw [List.append_nil]
      exact hv.more fun k hk => .inl hk
    rcases hv with ⟨h1, -⟩ | ⟨g, off, cap, cur, h1, -, -, -, h2, -⟩
    · exact key _ _ _ h1 (Nat.le_refl _)
    · exact key _ _ _ h1 h2
  · obtain ⟨b, off2, rfl, hcell⟩ := hcel h0
    have hpos : 0 < ms.length := by
      cases ms with
      | nil => exact absurd rfl h0
      | cons => simp
    have hnews : ∀ j u, (ms.flatMap msgC)[j]? = some u → w.cell? ((⟨b, off2, none⟩ : Addr).add j) = some u := fun j u hj => by rw [Addr.add_lit]; exact hcell j u hj
    have hmax : l.length + ms.length ≤ maxLen := by unfold maxLen; omega
    rcases hv with ⟨rfl, rfl⟩ | ⟨g, off, cap, cur, rfl, hU, hgq, hg, hlc, hcm, hcs, htk⟩
    · obtain ⟨v', w', hr, h2, h3, -, h5⟩ := run_append_own_at (P := Tryd.prog) w 0 28 ty 33 i0 _ 7 64 Tryd.underlying28 hinf hz0 hz1 hz2 rfl (by decide) _ 0 [] (World.ownsRow_nil w 0 _ 7) ⟨b, off2, none⟩ ms.length c (ms.flatMap msgC) hml hnews (msgC_one ms) (by simp only [List.length_nil] at hmax; exact hmax) (by simp only [List.length_nil] at hn; omega) (Nat.zero_le _)
      have hb : ∀ k, v'.ownBlock = some k → w.heap.size ≤ k ∧ k < w'.heap.size := fun k hk => by
        have h6 := (h2.lt k hk).2
        rcases h5 with h5 | h5
        · rw [h5] at hk; cases hk
        · rw [h5] at hk; injection hk with hk; omega
      refine ⟨v', w', hr, ?_, h3, fun k hk => .inr (hb k hk)⟩
      have h7 : w'.ownsRow 0 33 7 v' ms.length (ms.flatMap msgC) := by simpa using h2
      exact RowO.of_own h7 fun j hj => ⟨.inr hj, fun e => by have := (hb j hj).1; omega⟩
    · have holds : ∀ j u, (l.flatMap msgC)[j]? = some u → w.cell? ((⟨g, off * 7, none⟩ : Addr).add j) = some u := fun j u hj => by
        rw [Addr.add_lit, Lib.cell_of_heap hg]
        rw [← htk] at hj
        have hj2 := (List.getElem?_eq_some_iff.1 hj).1
        rw [List.length_take] at hj2
        rw [List.getElem?_take_of_lt (by omega), List.getElem?_drop] at hj
        rw [← hj]; simp
      by_cases hroom : l.length + ms.length ≤ cap
      · have hfit : off * 7 + l.length * 7 + 0 + (ms.flatMap msgC).length ≤ cur.size := by rw [hml, hcs]; omega
        have hst := run_storeCells_at Tryd.prog g (off * 7 + l.length * 7) 33 (ms.flatMap msgC) 0 cur w hg hfit (msgC_one ms)
        have hf := run_firstCells_some (P := Tryd.prog) w 7 ms.length ⟨b, off2, none⟩ ms.length c (ms.flatMap msgC) hml hnews
        simp only [Nat.add_zero] at hst
        have hrun : (Builtin.append_ #[28, 28] ty #[.slice (some ⟨g, off * 7, none⟩) l.length cap, .slice (some ⟨b, off2, none⟩) ms.length c]).run Tryd.prog w = .ok (.slice (some ⟨g, off * 7, none⟩) (l.length + ms.length) cap) (w.setRow g (cur.toList.take (off * 7 + l.length * 7) ++ ms.flatMap msgC ++ cur.toList.drop (off * 7 + l.length * 7 + (ms.flatMap msgC).length)).toArray) := by
          simp [Builtin.append_, run_underlying Tryd.underlying28, sizeOf, typeInfo, hinf, hz1, Builtin.lenOf, hroom, hf, Addr.add_lit, hst]
        have hcl : cur.toList.length = (off + cap) * 7 := by rw [Array.length_toList]; exact hcs
        obtain ⟨new, hnew⟩ : ∃ new : List Value, cur.toList.take (off * 7 + l.length * 7) ++ ms.flatMap msgC ++ cur.toList.drop (off * 7 + l.length * 7 + (ms.flatMap msgC).length) = new := ⟨_, rfl⟩
        rw [hnew] at hrun
        have hset := setRow_heap w g cur new.toArray _ _ hg
        refine ⟨_, _, hrun, .inr ⟨g, off, cap, new.toArray, by rw [List.length_append], .inl hU, hgq, hset, by rw [List.length_append]; exact hroom, hcm, ?_, ?_⟩, ⟨rfl, rfl, rfl, by simp [World.setRow], fun k _ hk => setRow_other w g k _ (fun e => hk (by simp [Value.ownBlock, e]))⟩, fun k hk => .inl hk⟩
        · show new.length = _
          rw [← hnew, List.length_append, List.length_append, List.length_take, List.length_drop, hcl, hml]
          omega
        · have h1 : (cur.toList.take (off * 7 + l.length * 7)).drop (off * 7) = l.flatMap msgC := by rw [List.drop_take, Nat.add_sub_cancel_left]; exact htk
          have h2 : (cur.toList.take (off * 7 + l.length * 7)).length = off * 7 + l.length * 7 := by rw [List.length_take, hcl]; omega
          show (new.drop (off * 7)).take _ = _
          rw [← hnew, List.flatMap_append, List.length_append, List.append_assoc, List.drop_append_of_le_length (by omega), h1, ← List.append_assoc]
          exact List.take_left' (by rw [List.length_append, hll, hml]; omega)
      · obtain ⟨v', w', hr, h2, h3⟩ := run_append_arg_grows (P := Tryd.prog) w 28 ty 33 i0 _ 7 64 Tryd.underlying28 hinf hz0 hz1 hz2 rfl (by decide) ⟨g, off * 7, none⟩ l.length cap (l.flatMap msgC) hll holds ⟨b, off2, none⟩ ms.length c (ms.flatMap msgC) hml hnews (by omega) hmax (by omega)
        have hb : ∀ k, v'.ownBlock = some k → w.heap.size ≤ k ∧ k < w'.heap.size := fun k hk => h2.lt k hk
        have h7 : w'.ownsRow w.heap.size 33 7 v' (l ++ ms).length ((l ++ ms).flatMap msgC) := by rw [List.length_append, List.flatMap_append]; exact h2
        exact ⟨v', w', hr, RowO.of_own h7 fun j hj => ⟨.inr hj, fun e => by have := (hb j hj).1; omega⟩, ⟨h3.os, h3.tape, h3.output, h3.size, fun k hk _ => h3.block k hk (by simp)⟩, fun k hk => .inr (hb k hk)⟩

/-- for the walk -/
theorem wpList_flow {U : Nat → Prop} {q : Nat} (w : World) {l ms : List Msg} {ops : Array Oper} {rest : List Oper} {o : Oper} {a : Act} {Q : Exit → Act → World → Prop}
    (hg : o.guard = none) (s x : Operand) (hop : o.op = Op.call { callee := Callee.builtin Builtin.append, args := #[s, x], argTypes := #[28, 28] })
    {v xv : Value} (hs : a.eval s = v) (hx : a.eval x = xv) (hv : RowO U q w v l) (hxl : MsgsL w xv ms) (hn : l.length + ms.length ≤ 100000) (hq : q < w.heap.size)
    (h : ∀ v' w', RowO (fun k => U k ∨ v'.ownBlock = some k) q w' v' (l ++ ms) → w.grownBy w' v.ownBlock → (∀ k, v'.ownBlock = some k → v.ownBlock = some k ∨ (w.heap.size ≤ k ∧ k < w'.heap.size)) → wpList Tryd.prog ops Q rest (a.put o.dst v') w') :
    wpList Tryd.prog ops Q (o :: rest) a w := by
  refine wpList_plain hg fun K hK' => ?_
  obtain ⟨v', w', hrun, r1, r2, r3⟩ := flow_run hv hxl hn hq o.type
  unfold Oper.wp
  simp [execOp, hop, resolve, invoke, builtin, hs, hx, hrun, Result.andThen]
  exact hK' _ _ (h v' w' r1 r2 r3)
theorem step_flow {U : Nat → Prop} {q : Nat} (w : World) {l ms : List Msg} {ops : Array Oper} {o : Oper} {a : Act} {K : Act → World → Prop} {Q : Exit → Act → World → Prop} {E : Prop}
    (hg : o.guard = none) (s x : Operand) (hop : o.op = Op.call { callee := Callee.builtin Builtin.append, args := #[s, x], argTypes := #[28, 28] })
    {v xv : Value} (hs : a.eval s = v) (hx : a.eval x = xv) (hv : RowO U q w v l) (hxl : MsgsL w xv ms) (hn : l.length + ms.length ≤ 100000) (hq : q < w.heap.size)
    (h : ∀ v' w', RowO (fun k => U k ∨ v'.ownBlock = some k) q w' v' (l ++ ms) → w.grownBy w' v.ownBlock → (∀ k, v'.ownBlock = some k → v.ownBlock = some k ∨ (w.heap.size ≤ k ∧ k < w'.heap.size)) → K (a.put o.dst v') w') :
    if Region.wanted o (yielded ops a.tmps) = true then Oper.wp Tryd.prog o a w K Q else E := by
  have hw : Region.wanted o (yielded ops a.tmps) = true := by simp [Region.wanted, hg]
  rw [if_pos hw]
  obtain ⟨v', w', hrun, r1, r2, r3⟩ := flow_run hv hxl hn hq o.type
  unfold Oper.wp
  simp [execOp, hop, resolve, invoke, builtin, hs, hx, hrun, Result.andThen]
  exact h v' w' r1 r2 r3
end Go.Proofs.YtefloieanpgnmaaDoor
/- The law's steps: what next keeps. -/
namespace Go.Proofs.YtefloieanpgnmaaDoor
open Go.RowKit

/-- the eleven cells of a call -/
def CalAt (K : Nat) (cs : List Value) (w : World) : Prop := w.heap[K]? = some (.cells cs.toArray 35 (0, 0)) ∧ cs.length = 11
/-- next's end -/
def NextEnd (U : Nat → Prop) (w : World) (q : Nat) (c : Cal) (W' : Wld) (e : Ending) (w' : World) : Prop := ∃ (vi vf va : Value) (U' : Nat → Prop), e = .returned (callV c vi) ∧ WAt U' w' q W' vf va ∧ But U w.heap.size w w' ∧ (∀ k, U' k → U k ∨ w.heap.size ≤ k) ∧
  (∀ now l, c = .want now l → ItL w' vi l ∧ ∀ bb off n cc, vi = .slice (some ⟨bb, off, none⟩) n cc → w.heap.size ≤ bb ∧ bb < w'.heap.size ∧ ¬ U' bb)
/-- what next asks of the world -/
structure NextOk (W : Wld) : Prop where
  now : -1000000000 ≤ W.now ∧ W.now ≤ 1000000000
  w100 : W100 W
  text : ∀ j, (W.p.text j).length ≤ 9223372036854775000
  flight : ∀ m ∈ W.flight, 1 ≤ m.story ∧ m.story ≤ 64 ∧ m.data.length ≤ 9223372036854775000
  flen : W.flight.length ≤ 100000
  alen : W.answers.length ≤ 100000
def okO (o : Op3) : Prop := (-9223372036854775808 ≤ o.kind ∧ o.kind ≤ 9223372036854775807) ∧ (-9223372036854775808 ≤ o.story ∧ o.story ≤ 9223372036854775807) ∧ (-9223372036854775808 ≤ o.n ∧ o.n ≤ 9223372036854775807)
def opV (o : Op3) : Value := .agg #[.int .i64 o.kind, .int .i64 o.story, .int .i64 o.n]

theorem next_fin {U U' : Nat → Prop} {w wy : World} {q K : Nat} {W' : Wld} {vf va : Value} (h : WAt U' wy q W' vf va) (hK : ¬ U' K) (hKw : w.heap.size ≤ K) (hb : But U w.heap.size w wy) (cs : List Value) : WAt U' (storeC K cs 0 wy) q W' vf va ∧ But U w.heap.size w (storeC K cs 0 wy) := by
  refine ⟨h.kept (by rw [storeC_size]; exact Nat.le_refl _) fun k hk => storeC_far K cs 0 wy k fun e => hK (by rw [← e]; exact hk), hb.trans ⟨(storeC_os K cs 0 wy).1, (storeC_os K cs 0 wy).2.1, (storeC_os K cs 0 wy).2.2, by rw [storeC_size]; exact Nat.le_refl _, fun k hk _ => storeC_far K cs 0 wy k (by omega)⟩⟩
/-- the op's cells, and the call's -/
structure NextSt (U : Nat → Prop) (w : World) (q : Nat) (W : Wld) (vf va : Value) (K : Nat) (o : Op3) (wx : World) : Prop where
  wat : WAt U wx q W vf va
  op : wx.heap[K]? = some (.cells #[.int .i64 o.kind, .int .i64 o.story, .int .i64 o.n] 38 (0, 0))
  cal : ∃ cs, CalAt (K + 1) cs wx
  but : But U w.heap.size w wx
  hK : w.heap.size = K
  ub : ∀ k, U k → k < K
theorem NextSt.below {U : Nat → Prop} {w : World} {q : Nat} {W : Wld} {vf va : Value} {K : Nat} {o : Op3} {wx wy : World} (h : NextSt U w q W vf va K o wx) (hb : Below wx.heap.size wx wy) : NextSt U w q W vf va K o wy :=
  ⟨h.wat.below hb, (hb.block K (Array.getElem?_eq_some_iff.1 h.op).1).trans h.op, h.cal.elim fun cs hc => ⟨cs, (hb.block (K + 1) (Array.getElem?_eq_some_iff.1 hc.1).1).trans hc.1, hc.2⟩, h.but.trans (But.of_below (hb.mono h.but.size)), h.hK, h.ub⟩
theorem NextSt.put {U : Nat → Prop} {w : World} {q : Nat} {W W' : Wld} {vf va : Value} {K : Nat} {o : Op3} {wx : World} (h : NextSt U w q W vf va K o wx) {i : Nat} (hi : i < 264) {v : Value} (hf : ∀ x, x < 264 → updV (wldV W vf va) i v x = wldV W' vf va x) (h1 : W'.flight = W.flight) (h2 : W'.answers = W.answers) : NextSt U w q W' vf va K o (wx.setCell ⟨q, i, none⟩ v) := by
  have hq := h.ub q h.wat.own
  have hfar : ∀ k, k ≠ q → (wx.setCell ⟨q, i, none⟩ v).heap[k]? = wx.heap[k]? := fun k hk => Below.heap_setCell _ ⟨q, _, none⟩ _ k hk
  exact ⟨h.wat.put hi hf h1 h2, (hfar K (by omega)).trans h.op, h.cal.elim fun cs hc => ⟨cs, (hfar (K + 1) (by omega)).trans hc.1, hc.2⟩, h.but.setCell h.wat.own _, h.hK, h.ub⟩
theorem cal_cells {K : Nat} {cs : List Value} {w : World} (h : CalAt K cs w) : (∀ j, j < 11 → (w.cell? ⟨K, j, none⟩).isSome = true) ∧ ∀ j, w.frozen? ⟨K, j, none⟩ = false := by
  refine ⟨fun j hj => ?_, fun j => Lib.frozen_of_heap h.1 j⟩
  rw [Lib.cell_of_heap h.1]
  simp [h.2, hj]
theorem NextSt.start {U : Nat → Prop} {w : World} {q : Nat} {W : Wld} {vf va : Value} (h : WAt U w q W vf va) (o : Op3) : NextSt U w q W vf va w.heap.size o ((w.alloc (.cells #[.int .i64 o.kind, .int .i64 o.story, .int .i64 o.n] 38)).alloc (.cells #[.int .i64 0, .int .i64 0, .slice none 0 0, .int .i64 0, .int .i64 0, .int .i64 0, .int .i64 0, .int .i64 0, .int .i64 0, .int .i64 0, .string ⟨#[]⟩] 35)) := by
  have hb : Below w.heap.size w ((w.alloc (.cells #[.int .i64 o.kind, .int .i64 o.story, .int .i64 o.n] 38)).alloc (.cells #[.int .i64 0, .int .i64 0, .slice none 0 0, .int .i64 0, .int .i64 0, .int .i64 0, .int .i64 0, .int .i64 0, .int .i64 0, .int .i64 0, .string ⟨#[]⟩] 35)) := ((Below.refl _ w).alloc (Nat.le_refl _) _).alloc (by simp) _
  refine ⟨h.below hb, ?_, ⟨[.int .i64 0, .int .i64 0, .slice none 0 0, .int .i64 0, .int .i64 0, .int .i64 0, .int .i64 0, .int .i64 0, .int .i64 0, .int .i64 0, .string ⟨#[]⟩], ?_, rfl⟩, But.of_below hb, rfl, h.lt⟩
  · rw [heap_alloc_old _ _ (by simp)]
    exact heap_alloc_new w _
  · have := heap_alloc_new (w.alloc (.cells #[.int .i64 o.kind, .int .i64 o.story, .int .i64 o.n] 38)) (.cells #[.int .i64 0, .int .i64 0, .slice none 0 0, .int .i64 0, .int .i64 0, .int .i64 0, .int .i64 0, .int .i64 0, .int .i64 0, .int .i64 0, .string ⟨#[]⟩] 35)
    simpa using this

theorem itl_of {w wi wz : World} {base : Nat} {ia : Option Addr} {ic : Nat} {L : List (Int × List UInt8)} {U : Nat → Prop} {K : Nat} (h : wi.ownsRow base 60 2 (.slice ia L.length ic) L.length (L.flatMap itemC)) (hb : w.heap.size ≤ base) (hU : ∀ k, U k → k < base) (hf : ∀ k, k ≠ K → wz.heap[k]? = wi.heap[k]?) (hK : K < base) :
    ItL wz (.slice ia L.length ic) L ∧ ∀ bb off n cc, (.slice ia L.length ic : Value) = .slice (some ⟨bb, off, none⟩) n cc → w.heap.size ≤ bb ∧ bb < wz.heap.size ∧ ¬ U bb := by
  have hitc : ∀ (l : List (Int × List UInt8)) (k c : Nat) (hk : k < l.length), c < 2 → (l.flatMap itemC)[k * 2 + c]? = (itemC l[k])[c]? := fun l => by
    induction l with
    | nil => intro k c hk; simp at hk
    | cons x l ih =>
      intro k c hk hc
      rw [List.flatMap_cons]
      cases k with
      | zero => rw [Nat.zero_mul, Nat.zero_add, List.getElem?_append_left (by simpa [itemC] using hc)]; rfl
      | succ k =>
        rw [List.getElem?_append_right (by simp [itemC]; omega)]
        have : (k + 1) * 2 + c - (itemC x).length = k * 2 + c := by simp [itemC]; omega
        rw [this, ih k c (by simpa using hk) hc]; rfl
  rcases h.2 with ⟨h1, h2⟩ | ⟨g, cap, cur, h1, h2, h3, h4, h5, h6, h7⟩
  · injection h1 with e1 e2 e3
    subst e1
    subst e3
    refine ⟨⟨none, 0, rfl, by omega, by omega, fun k hk => by omega⟩, fun bb off n cc e => by injection e with e1; cases e1⟩
  · injection h1 with e1 e2 e3
    subst e1
    subst e3
    have hg : g ≠ K := by omega
    have hlt : g < wz.heap.size := by
      have := hf g hg
      rw [h3] at this
      exact (Array.getElem?_eq_some_iff.1 this).1
    refine ⟨⟨some ⟨g, 0, none⟩, _, rfl, h4, by unfold maxLen at h5; omega, fun k hk => ⟨g, 0, rfl, hlt, ?_, ?_⟩⟩, fun bb off n cc e => ?_⟩
    · have hh := h.cells rfl (k * 2 + 0) (.int .i64 L[k].1) (by rw [hitc L k 0 hk (by omega)]; rfl)
      have ha : (⟨g, 0, none⟩ : Addr).add (k * 2 + 0) = ⟨g, 0 + k * 2, none⟩ := by unfold Addr.add; by_cases h0 : k * 2 = 0 <;> simp [h0]
      rw [ha] at hh
      exact cell_same (hf g hg) hh
    · have hh := h.cells rfl (k * 2 + 1) (.string ⟨L[k].2.toArray⟩) (by rw [hitc L k 1 hk (by omega)]; rfl)
      have ha : (⟨g, 0, none⟩ : Addr).add (k * 2 + 1) = ⟨g, 0 + k * 2 + 1, none⟩ := by unfold Addr.add; simp
      rw [ha] at hh
      exact cell_same (hf g hg) hh
    · injection e with e1
      injection e1 with e1
      injection e1 with e1
      subst e1
      exact ⟨by omega, hlt, fun hu => by have := hU _ hu; omega⟩
end Go.Proofs.YtefloieanpgnmaaDoor
/- Plain: a hundred ticks in which everything arrives suffice. -/
namespace Go.Proofs.YtefloieanpgnmaaDoor

attribute [local irreducible] Sen.plan Sen.recv
/-- what a beat makes of the partner and the sender -/
structure Beat0 (Q : Nat → List UInt8 → Prop) (B : Int) (T : Nat → Kn) (now : Int) (p : Peer) (S : Sen) (p' : Peer) (S' : Sen) : Prop where
  pi : PI Q (B + 272) p'
  sp : SP Q (B + 272) p' S'
  same : Same S S'
  suit : Suit T S'
  old : ∀ j o, j < 64 → (S'.st j).out = some o → o.sent = true → (S.st j).out = some o ∧ due now o = false
structure Beat1 (T : Nat → Kn) (p : Peer) (S : Sen) (p' : Peer) (S' : Sen) : Prop where
  good : ∀ j, j < 64 → Good T p S j → Good T p' S' j
  w1 : ∀ j, j < 64 → W1 p S j → W1 p' S' j ∨ Good T p' S' j
  busy : (∀ j o, j < 64 → (S.st j).out = some o → o.sent = false) → (¬ ∀ j, j < 64 → W0 T S j) → S'.audit = S.audit ∧ (∀ j, j < 64 → W0 T S j → W0 T S' j) ∧
    ∃ q : Nat → Bool, (∀ j, j < 64 → q j = true → ¬ W0 T S j ∧ (Good T p' S' j ∨ W1 p' S' j) ∧ (W1 p S j → Good T p' S' j)) ∧ (∀ j, j < 64 → q j = false → W1 p S j → W1 p' S' j) ∧ (16 ≤ (List.range 64).countP q ∨ ∀ j, j < 64 → ¬ W0 T S j → q j = true)
  idle : (∀ j, j < 64 → W0 T S j) → S'.audit = (S.audit + 4) % 64 ∧ (∀ j, j < 64 → W0 T S' j ∨ (W1 p' S' j ∧ j ∈ auds S.audit 4)) ∧ ∀ j, j ∈ auds S.audit 4 → Good T p' S' j ∨ W1 p' S' j
theorem beat_rel {Q : Nat → List UInt8 → Prop} (hQ : QOk Q) {B : Int} (hB : B + 272 < 4611686018427387903) {T : Nat → Kn} {now : Int} (hT : ∀ i, i < 64 → T i ≠ .unk) {p : Peer} {S : Sen} (hP : PI Q B p) (hS : SP Q B p S) (ht : Tgts T now S) :
    Beat0 Q B T now p S ((S.tick now).1.foldl (give1 now) (p, (S.tick now).2)).1 ((S.tick now).1.foldl (give1 now) (p, (S.tick now).2)).2 ∧ (Suit T S → Beat1 T p S ((S.tick now).1.foldl (give1 now) (p, (S.tick now).2)).1 ((S.tick now).1.foldl (give1 now) (p, (S.tick now).2)).2) := by
  rw [tick_eq]
  have hp := plan_rel S now
  have hS1 := hS.plan now
  obtain ⟨S1, hS1e⟩ : ∃ S1, S.plan now = S1 := ⟨_, rfl⟩
  rw [hS1e] at hp hS1 ⊢
  have ht1 : Tgts T now S1 := fun i hi => (hp.same.tgt i now).trans (ht i hi)
  have hs1 := plan_suit hp ht hT
  have hfull : S1.outs < 16 → ∀ i, i < 64 → (S1.st i).out = none → (S1.st i).held.is (T i) = true := fun h i hi ho => by
    rw [← ht i hi]
    exact hp.full h (by have := hS1.cnt; unfold maxI; omega) i hi ho
  obtain ⟨l, S2, hc⟩ := core_rel (B := B + 16) hQ (by omega) (now := now) hT (hP.more (by omega)) hS1 ht1 hs1 hfull
  obtain ⟨p', hp'⟩ : ∃ p', ((tickOf S1 now).1.foldl (give1 now) (p, (tickOf S1 now).2)).1 = p' := ⟨_, rfl⟩
  obtain ⟨S', hS'⟩ : ∃ S', ((tickOf S1 now).1.foldl (give1 now) (p, (tickOf S1 now).2)).2 = S' := ⟨_, rfl⟩
  rw [hp', hS'] at hc ⊢
  obtain ⟨hnd, hlt, hal, hf, hlen, hidle, hbusy, hold⟩ := hc
  have hout0 : ∀ {o j}, (S1.st j).out = some o → j < 64 → S1.outs ≠ 0 := fun {o j} ho hj h => by
    unfold Sen.outs at h
    rw [List.countP_eq_zero] at h
    have := h j (List.mem_range.2 hj)
    rw [ho] at this
    exact this rfl
  refine ⟨⟨hf.pi.more (by omega), hf.sp.more (by omega), hp.same.trans (hal.same.trans hf.same), hf.suit, fun j o hj ho hso => ?_⟩, fun hs => ?_⟩
  · rcases hf.outN j o hj ho with ⟨h1, h2⟩ | h1
    · rcases hold j o h2 with h3 | h3
      · exact absurd h3 h1
      · have h4 := hbusy (hout0 h3 hj)
        refine ⟨?_, ?_⟩
        · rcases hp.new j o hj h3 with ⟨h5, -⟩ | ⟨q, h5, -⟩
          · exact h5
          · rw [h5] at hso; cases hso
        · cases hd : due now o with
          | false => rfl
          | true => exact absurd (by rw [h4.1]; exact mem_sel.2 ⟨hj, o, h3, hd⟩) h1
    · rw [h1] at hso; cases hso
  · have hw := plan_w hp ht hT hs
    have hfr : ∀ j, Fresh p S j → Fresh p S2 j := fun j h => hal.fresh (by obtain ⟨m, h1, h2⟩ := h; exact ⟨m, by rw [hw.acked]; exact h1, h2⟩)
    have hfr' : ∀ j, j < 64 → j ∉ l → Fresh p S2 j → Fresh p' S' j := fun j hj hl h => by
      obtain ⟨m, h1, h2⟩ := h
      have := hf.far j hl hj
      exact ⟨m, by rw [this.2.1]; exact h1, by rw [this.1]; exact h2⟩
    have h02 : ∀ j, j < 64 → (W0 T S j ↔ W0 T S2 j) := fun j hj => (hw.w0 j hj).trans (hal.w0 T j)
    have h12 : ∀ j, j < 64 → W1 p S j → W1 p S2 j := fun j hj h => hal.w1 (hw.w1 p j hj h)
    have hgood : ∀ j, j < 64 → Good T p S j → Good T p' S' j := fun j hj h => by
      have h2 : W0 T S2 j ∧ Fresh p S2 j := ⟨(h02 j hj).1 h.1, hfr j h.2⟩
      by_cases hl : j ∈ l
      · exact hf.prog j hl (.inr h2)
      · exact ⟨(hf.w0 j hj hl).1 h2.1, hfr' j hj hl h2.2⟩
    refine ⟨hgood, fun j hj h => ?_, fun hns hn0 => ?_, fun ha => ?_⟩
    · by_cases hl : j ∈ l
      · exact .inr (hf.prog j hl (.inl (h12 j hj h)))
      · exact .inl (hf.w1 j hj hl (h12 j hj h))
    · have hne : S1.outs ≠ 0 := fun h0 => hn0 fun j hj => by
        rw [hw.w0 j hj]
        have hz : (S1.st j).out = none := by
          cases ho : (S1.st j).out with
          | none => rfl
          | some o => exact absurd h0 (hout0 ho hj)
        exact ⟨hz, hfull (by omega) j hj hz⟩
      obtain ⟨hl, hau⟩ := hbusy hne
      have hmem : ∀ j, j ∈ l ↔ j < 64 ∧ (S1.st j).out.isSome = true := fun j => by
        rw [hl, mem_sel]
        constructor
        · rintro ⟨h1, o, h2, -⟩
          exact ⟨h1, by rw [h2]; rfl⟩
        · rintro ⟨h1, h2⟩
          cases ho : (S1.st j).out with
          | none => rw [ho] at h2; cases h2
          | some o =>
            refine ⟨h1, o, rfl, ?_⟩
            have : o.sent = false := by
              rcases hw.outN j o h1 ho with h3 | h3
              · exact hns j o h1 h3
              · exact h3
            unfold due
            rw [this]; rfl
      refine ⟨by rw [hf.aud, hau, hp.audit], fun j hj h => ?_, fun j => (S1.st j).out.isSome, fun j hj hq => ?_, fun j hj hq h => ?_, ?_⟩
      · have h1 := (hw.w0 j hj).1 h
        have h2 : j ∉ l := fun h3 => by have := ((hmem j).1 h3).2; rw [h1.1] at this; cases this
        exact (hf.w0 j hj h2).1 ((h02 j hj).1 h)
      · have h1 := (hmem j).2 ⟨hj, hq⟩
        refine ⟨fun h => ?_, hf.done j h1, fun h => hf.prog j h1 (.inl (h12 j hj h))⟩
        have h2 := ((hw.w0 j hj).1 h).1
        simp only [h2] at hq
        cases hq
      · have h1 : j ∉ l := fun h2 => by have := ((hmem j).1 h2).2; simp only at hq; rw [this] at hq; cases hq
        exact hf.w1 j hj h1 (h12 j hj h)
      · by_cases h16 : 16 ≤ S1.outs
        · exact .inl h16
        · refine .inr fun j hj h => ?_
          simp only
          cases ho : (S1.st j).out with
          | some o => rfl
          | none => exact absurd ((hw.w0 j hj).2 ⟨ho, hfull (by omega) j hj ho⟩) h
    · have hz : S1.outs = 0 := by
        unfold Sen.outs
        rw [List.countP_eq_zero]
        intro j hj
        rw [((hw.w0 j (List.mem_range.1 hj)).1 (ha j (List.mem_range.1 hj))).1]
        decide
      obtain ⟨hl, hau⟩ := hidle hz
      refine ⟨by rw [hf.aud, hau, hp.audit], fun j hj => ?_, fun j hj => ?_⟩
      · by_cases h1 : j ∈ l
        · rcases hf.done j h1 with h2 | h2
          · exact .inl h2.1
          · exact .inr ⟨h2, by rw [← hp.audit, ← hl]; exact h1⟩
        · exact .inl ((hf.w0 j hj h1).1 ((h02 j hj).1 (ha j hj)))
      · rw [← hp.audit, ← hl] at hj
        exact hf.done j hj

/-! ### sums -/
def sumN (f : Nat → Nat) : Nat → Nat
  | 0 => 0
  | n + 1 => sumN f n + f n
theorem sum_zero {f : Nat → Nat} : ∀ n, sumN f n = 0 → ∀ j, j < n → f j = 0
  | 0, _, _, h => by omega
  | n + 1, h, j, hj => by
    unfold sumN at h
    rcases Nat.lt_or_ge j n with h1 | h1
    · exact sum_zero n (by omega) j h1
    · have : j = n := by omega
      rw [this]; omega
theorem sum_dec {f : Nat → Nat} {q : Nat → Bool} : ∀ n, (∀ j, j < n → q j = true → 1 ≤ f j) → sumN (fun j => if q j then f j - 1 else f j) n + (List.range n).countP q = sumN f n
  | 0, _ => rfl
  | n + 1, h => by
    have ih := sum_dec n (fun j hj => h j (by omega))
    rw [List.range_succ, List.countP_append, sumN, sumN]
    have hn := h n (by omega)
    cases hq : q n with
    | true =>
      have := hn hq
      simp [hq]
      omega
    | false =>
      simp [hq]
      omega
theorem sum_half {f : Nat → Nat} {q : Nat → Bool} : ∀ n, (∀ j, j < n → f j ≤ 2) → 2 * sumN (fun j => if q j then f j - 1 else 0) n ≤ sumN f n
  | 0, _ => by simp [sumN]
  | n + 1, h => by
    have ih := sum_half (q := q) n (fun j hj => h j (by omega))
    have hn := h n (by omega)
    rw [sumN, sumN]
    cases hq : q n with
    | true => simp; omega
    | false => simp; omega
theorem sum_le {f : Nat → Nat} {c : Nat} : ∀ n, (∀ j, j < n → f j ≤ c) → sumN f n ≤ c * n
  | 0, _ => by simp [sumN]
  | n + 1, h => by
    have ih := sum_le n (fun j hj => h j (by omega))
    have hn := h n (by omega)
    rw [sumN, Nat.mul_succ]; omega
/-- f says how many messages each story needs at most -/
def Rk (T : Nat → Kn) (p : Peer) (S : Sen) (f : Nat → Nat) : Prop := ∀ j, j < 64 → f j ≤ 2 ∧ (f j ≤ 1 → W0 T S j ∨ W1 p S j) ∧ (f j = 0 → W0 T S j)
theorem rk_step {T : Nat → Kn} {p p' : Peer} {S S' : Sen} {f : Nat → Nat} (h : Rk T p S f) (hb : Beat1 T p S p' S') (hns : ∀ j o, j < 64 → (S.st j).out = some o → o.sent = false) (hn : ¬ ∀ j, j < 64 → W0 T S j) :
    ∃ f', Rk T p' S' f' ∧ (sumN f' 64 + 16 ≤ sumN f 64 ∨ 2 * sumN f' 64 ≤ sumN f 64) := by
  obtain ⟨-, h0, q, h1, h2, h3⟩ := hb.busy hns hn
  have hge : ∀ j, j < 64 → q j = true → 1 ≤ f j := fun j hj hq => by
    rcases Nat.eq_zero_or_pos (f j) with h4 | h4
    · exact absurd ((h j hj).2.2 h4) (h1 j hj hq).1
    · exact h4
  rcases h3 with h3 | h3
  · refine ⟨fun j => if q j then f j - 1 else f j, fun j hj => ?_, .inl ?_⟩
    · obtain ⟨h4, h5, h6⟩ := h j hj
      cases hq : q j with
      | true =>
        obtain ⟨h7, h8, h9⟩ := h1 j hj hq
        simp only [hq, if_true]
        refine ⟨by omega, fun _ => h8.elim (fun h => .inl h.1) .inr, fun hz => ?_⟩
        have := hge j hj hq
        rcases h5 (by omega) with h10 | h10
        · exact absurd h10 h7
        · exact (h9 h10).1
      | false =>
        simp only [hq, Bool.false_eq_true, if_false]
        exact ⟨h4, fun h => (h5 h).elim (fun h => .inl (h0 j hj h)) fun h => .inr (h2 j hj hq h), fun h => h0 j hj (h6 h)⟩
    · have := sum_dec 64 hge
      omega
  · refine ⟨fun j => if q j then f j - 1 else 0, fun j hj => ?_, .inr (sum_half 64 fun j hj => (h j hj).1)⟩
    obtain ⟨h4, h5, h6⟩ := h j hj
    cases hq : q j with
    | true =>
      obtain ⟨h7, h8, h9⟩ := h1 j hj hq
      simp only [hq, if_true]
      refine ⟨by omega, fun _ => h8.elim (fun h => .inl h.1) .inr, fun hz => ?_⟩
      have := hge j hj hq
      rcases h5 (by omega) with h10 | h10
      · exact absurd h10 h7
      · exact (h9 h10).1
    | false =>
      have hw : W0 T S' j := h0 j hj (Classical.byContradiction fun h => by have := h3 j hj h; rw [hq] at this; cases this)
      simp only [hq, Bool.false_eq_true, if_false]
      exact ⟨by omega, fun _ => .inl hw, fun _ => hw⟩
end Go.Proofs.YtefloieanpgnmaaDoor

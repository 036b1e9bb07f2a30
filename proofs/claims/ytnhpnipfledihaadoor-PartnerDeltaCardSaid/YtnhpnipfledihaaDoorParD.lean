/- The reference's partner: New, Entry, Text. -/
import Derived.Test.YtnhpnipfledihaaDoorParC
import Derived.Deep.QuietTactic
import Derived.BigQuiet
import Derived.BigRegion
import Derived.RegionTactic
import Derived.Deep.RegionHeld3
import Derived.Deep.AppendLies
namespace Go.Proofs.YtnhpnipfledihaaDoor
open Go.RowKit

def Ent.cells (e : Ent) : List Value := [.int .i64 e.story, .int .i64 e.seq, .bool e.has, .string ⟨e.text.toArray⟩]
def Ent.enc (e : Ent) : Value := .agg #[.int .i64 e.story, .int .i64 e.seq, .bool e.has, .string ⟨e.text.toArray⟩]

/-- a partner of the reference in block r: it keeps L, in a slice v -/
structure RAt (r : Nat) (id : Int) (L : List Ent) (v : Value) (w : World) : Prop where
  cells : w.heap[r]? = some (.cells #[.int .i64 id, v] 57 (0, 0))
  row : w.ownsRow (r + 1) 59 4 v L.length (L.flatMap Ent.cells)
  kept : Kept L

theorem flat_len (L : List Ent) : (L.flatMap Ent.cells).length = 4 * L.length := by
  induction L with
  | nil => rfl
  | cons e l ih => rw [List.flatMap_cons, List.length_append, ih]; simp [Ent.cells]; omega
theorem flat_at : ∀ (L : List Ent) (k j : Nat) (h : k < L.length), j < 4 → (L.flatMap Ent.cells)[k * 4 + j]? = (L[k].cells)[j]?
  | [], k, j, h, _ => by simp at h
  | e :: l, 0, j, _, hj => by
    rw [List.flatMap_cons, List.getElem?_append_left (by simp [Ent.cells]; omega)]; simp
  | e :: l, k + 1, j, h, hj => by
    rw [List.flatMap_cons, List.getElem?_append_right (by simp [Ent.cells]; omega)]
    rw [show (k + 1) * 4 + j - e.cells.length = k * 4 + j by simp [Ent.cells]; omega, flat_at l k j (by simpa using h) hj]
    simp

theorem RAt.lt {r : Nat} {id : Int} {L : List Ent} {v : Value} {w : World} (h : RAt r id L v w) : r < w.heap.size := some_lt h.cells
theorem RAt.block {r : Nat} {id : Int} {L : List Ent} {v : Value} {w : World} (h : RAt r id L v w) (g : Nat) (hg : v.ownBlock = some g) : r + 1 ≤ g ∧ g < w.heap.size ∧ ∃ c, w.heap[g]? = some (.cells c 59 (0, 0)) := by
  rcases h.row.2 with ⟨rfl, _⟩ | ⟨g', cap, cur, rfl, h1, h2, _⟩
  · simp [Value.ownBlock] at hg
  · obtain rfl : g' = g := by simpa [Value.ownBlock] using hg
    exact ⟨h1, some_lt h2, cur, h2⟩
theorem RAt.keep {r : Nat} {id : Int} {L : List Ent} {v : Value} {w w' : World} (h : RAt r id L v w) (hr : w'.heap[r]? = w.heap[r]?) (hg : ∀ g, v.ownBlock = some g → w'.heap[g]? = w.heap[g]?) : RAt r id L v w' := by
  refine ⟨hr.trans h.cells, ?_, h.kept⟩
  obtain ⟨h1, h2⟩ := h.row
  refine ⟨h1, ?_⟩
  rcases h2 with h2 | ⟨g, cap, cur, rfl, h3, h4, h5⟩
  · exact .inl h2
  · exact .inr ⟨g, cap, cur, rfl, h3, (hg g rfl).trans h4, h5⟩
theorem RAt.below {r : Nat} {id : Int} {L : List Ent} {v : Value} {w w' : World} (h : RAt r id L v w) (hb : Below w.heap.size w w') : RAt r id L v w' :=
  h.keep (hb.block _ h.lt) fun g hg => hb.block _ (h.block g hg).2.1
theorem RAt.but {r r' : Nat} {id : Int} {L : List Ent} {v : Value} {w w' : World} {c : Array Value} {t : TypeId} {fr : Nat × Nat} (h : RAt r id L v w) (hb : ButAt w.heap.size r' w w') (hr : r ≠ r') (ht : w.heap[r']? = some (.cells c t fr)) (htn : t ≠ 59) : RAt r id L v w' :=
  h.keep (hb.block _ h.lt hr) fun g hg => hb.block _ (h.block g hg).2.1 (by
    rintro rfl
    obtain ⟨c', hc⟩ := (h.block g hg).2.2
    rw [ht] at hc; cases hc; exact htn rfl)
theorem RAt.two {r b1 b2 : Nat} {id : Int} {L : List Ent} {v : Value} {w w' : World} (h : RAt r id L v w) (hb : ButTwo w.heap.size b1 b2 w w') (h1 : ∀ k c t fr, w.heap[k]? = some (.cells c t fr) → k ≠ b1 ∧ k ≠ b2) : RAt r id L v w' :=
  h.keep (hb.block _ h.lt (h1 _ _ _ _ h.cells).1 (h1 _ _ _ _ h.cells).2) fun g hg => by
    obtain ⟨_, hlt, c', hc⟩ := h.block g hg
    exact hb.block _ hlt (h1 _ _ _ _ hc).1 (h1 _ _ _ _ hc).2

/-- the cells of entry k -/
structure ECells (g k : Nat) (e : Ent) (w : World) : Prop where
  c0 : w.cell? ⟨g, k * 4, none⟩ = some (.int .i64 e.story)
  c1 : w.cell? ⟨g, k * 4 + 1, none⟩ = some (.int .i64 e.seq)
  c2 : w.cell? ⟨g, k * 4 + 2, none⟩ = some (.bool e.has)
  c3 : w.cell? ⟨g, k * 4 + 3, none⟩ = some (.string ⟨e.text.toArray⟩)

theorem RAt.slice {r : Nat} {id : Int} {L : List Ent} {v : Value} {w : World} (h : RAt r id L v w) : ∃ A cap, v = .slice A L.length cap ∧ L.length ≤ cap ∧ cap ≤ maxLen ∧ ∀ k (hk : k < L.length), ∃ g, A = some ⟨g, 0, none⟩ ∧ ECells g k L[k] w := by
  rcases h.row.2 with ⟨h1, h2⟩ | ⟨g, cap, cur, h1, h2, h3, h4, h5, h6, h7⟩
  · obtain rfl := List.eq_nil_of_length_eq_zero h2
    exact ⟨none, 0, h1, Nat.le_refl _, by decide, fun k hk => by simp at hk⟩
  · refine ⟨some ⟨g, 0, none⟩, cap, h1, h4, h5, fun k hk => ⟨g, rfl, ?_⟩⟩
    have hc : ∀ j u, (L.flatMap Ent.cells)[j]? = some u → w.cell? ⟨g, j, none⟩ = some u := fun j u hj => by
      have := h.row.cells (g := g) (by rw [h1]; rfl) j u hj
      rwa [addr_add] at this
    refine ⟨hc _ _ ?_, hc _ _ ?_, hc _ _ ?_, hc _ _ ?_⟩
    · have := flat_at L k 0 hk (by omega); simpa [Ent.cells] using this
    · have := flat_at L k 1 hk (by omega); simpa [Ent.cells] using this
    · have := flat_at L k 2 hk (by omega); simpa [Ent.cells] using this
    · have := flat_at L k 3 hk (by omega); simpa [Ent.cells] using this

theorem entOf_step {L : List Ent} {s : Int} {k : Nat} (h : k < L.length) (hs : entOf L s = entOf (L.drop k) s) (hn : L[k].story ≠ s) : entOf L s = entOf (L.drop (k + 1)) s := by
  rw [hs, List.drop_eq_getElem_cons h, entOf, if_neg hn]
theorem entOf_hit {L : List Ent} {s : Int} {k : Nat} (h : k < L.length) (hs : entOf L s = entOf (L.drop k) s) (hn : L[k].story = s) : entOf L s = L[k] := by
  rw [hs, List.drop_eq_getElem_cons h, entOf, if_pos hn]

theorem ret_enc {a b : Ent} (h : a = b) : Ending.returned a.enc = .returned b.enc := by rw [h]

set_option maxRecDepth 100000 in
set_option maxHeartbeats 2000000 in
theorem entry_any (r : Nat) (id : Int) (L : List Ent) (v : Value) (s : Int) (w : World) (hR : RAt r id L v w) :
    Calls Tryd.prog 28 #[.pointer (some ⟨r, 0, none⟩), .int .i64 s] w fun e w' => e = .returned (entOf L s).enc ∧ Below w.heap.size w w' := by
  have hs := hR.slice
  have r1 : w.cell? ⟨r, 1, none⟩ = some v := by rw [Lib.cell_of_heap hR.cells]; rfl
  have hrl := hR.lt
  have HR := Lib.hid hR
  clear hR
  obtain ⟨R, hRR⟩ : ∃ R, entOf L s = R := ⟨_, rfl⟩
  rw [hRR]
  have HRR := Lib.hid hRR; clear hRR
  obtain ⟨A, cap, rfl, hlc, hcm, hce⟩ := hs
  unfold maxLen at hcm
  have HB : Hid (Below w.heap.size w (w.alloc (.cells #[.int .i64 0, .int .i64 0, .bool false, .string ⟨#[]⟩] 59))) := Lib.hid ((Below.refl _ w).alloc (Nat.le_refl _) _)
  have HC := Lib.hid hce
  clear hce
  go_enter Tryd.func28, Tryd.ntmps28
  go_wp2
  go_loop [5] (fun i => ∃ k : Nat, i = .int .i64 k ∧ k ≤ L.length ∧ Hid (entOf L s = entOf (L.drop k) s)) (fun i => L.length - (intOf i).toNat)
  case atStart => exact ⟨0, rfl, Nat.zero_le _, Lib.hid rfl⟩
  case round =>
    obtain ⟨k, rfl, hk, HE⟩ := hrel
    by_cases hlt : k < L.length
    · obtain ⟨g, rfl, e0, e1, e2, e3⟩ := HC.out k hlt
      have hgl := World.block_lt_of_cell? w _ e0
      by_cases hst : L[k].story = s
      · have hsb : ((L[k].story : Int) == s) = true := by rw [hst]; simp
        have HX := Lib.hid (entOf_hit hlt HE.out hst)
        have hx : R = L[k] := by rw [← HRR.out, HX.out]
        generalize L[k] = x at *
        subst hx
        clear hst
        go_wp2
        exact bodyPost_ret (v := R.enc) (by simp [results, Tryd.results28, go_sem, Ent.enc]) rfl ⟨rfl, (Below.refl _ w).alloc (Nat.le_refl _) _⟩
      · have hsb : ((L[k].story : Int) == s) = false := by simpa using hst
        have HE2 := Lib.hid (entOf_step hlt HE.out hst)
        clear hst
        go_wp2
        go_round
        case rel => exact ⟨k + 1, by go_num, by omega, HE2⟩
        case measure => simp [intOf]; omega
    · have hx : R = ⟨s, 0, false, []⟩ := by rw [← HRR.out, HE.out, List.drop_eq_nil_of_le (by omega)]; rfl
      subst hx
      clear HRR
      go_wp2
      exact bodyPost_ret (v := Ent.enc ⟨s, 0, false, []⟩) (by simp [results, Tryd.results28, go_sem, Ent.enc]) rfl ⟨rfl, (Below.refl _ w).alloc (Nat.le_refl _) _⟩

theorem rnew_out (id : Int) (w : World) (h : id < 1 ∨ 8 < id) :
    Calls Tryd.prog 15 #[.int .i64 id] w fun e w' => e = .returned (.tuple #[.pointer none, .int .i64 220]) ∧ w = w' := by
  rcases h with h | h
  · go_enter Tryd.func15, Tryd.ntmps15
    go_wp2
    go_ret2
    exact ⟨rfl, rfl⟩
  · have h' : ¬ id < 1 := by omega
    go_enter Tryd.func15, Tryd.ntmps15
    go_wp2
    go_ret2
    exact ⟨rfl, rfl⟩

theorem rat_new (id : Int) (w : World) : RAt w.heap.size id [] (.slice none 0 0) (w.alloc (.cells #[.int .i64 id, .slice none 0 0] 57)) :=
  ⟨heap_alloc_new _ _, World.ownsRow_nil _ _ _ _, kept_nil⟩

theorem rnew_in (id : Int) (w : World) (h1 : 1 ≤ id) (h2 : id ≤ 8) :
    Calls Tryd.prog 15 #[.int .i64 id] w fun e w' => e = .returned (.tuple #[.pointer (some ⟨w.heap.size, 0, none⟩), .int .i64 0]) ∧ RAt w.heap.size id [] (.slice none 0 0) w' ∧ Below w.heap.size w w' := by
  have HP := Lib.hid (rat_new id w)
  have HB : Hid (∀ x, Below w.heap.size w (w.alloc x)) := Lib.hid (fun x => (Below.refl _ w).alloc (Nat.le_refl _) x)
  go_enter Tryd.func15, Tryd.ntmps15
  go_wp2
  go_ret2
  exact ⟨rfl, HP.out, HB.out _⟩

set_option maxRecDepth 100000 in
theorem rtxt_any (r : Nat) (id : Int) (L : List Ent) (v : Value) (s : Int) (w : World) (hR : RAt r id L v w) :
    Calls Tryd.prog 30 #[.pointer (some ⟨r, 0, none⟩), .int .i64 s] w fun e w' => e = .returned (.tuple #[.string ⟨(entOf L s).text.toArray⟩, .bool (entOf L s).has]) ∧ Below w.heap.size w w' := by
  have HC := Lib.hid (entry_any r id L v s w hR)
  clear hR
  generalize entOf L s = R at *
  go_enter Tryd.func30, Tryd.ntmps30
  go_wp2_with fail
  refine HC.out.mono ?_
  unfold Ent.enc
  rintro e w1 ⟨rfl, hb1⟩
  have HB1 : Hid (∀ n, Below w.heap.size w ((w1.alloc (.cells #[.int .i64 R.story, .int .i64 R.seq, .bool R.has, .string ⟨R.text.toArray⟩] 59)).drewN n)) := Lib.hid (fun n => (hb1.alloc hb1.size _).drewN n)
  clear hb1 HC
  go_wp2_with fail
  go_quiet (fail)
  go_wp2
  go_ret2
  exact ⟨rfl, HB1.out _⟩
end Go.Proofs.YtnhpnipfledihaaDoor

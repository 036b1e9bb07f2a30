/- Facts and contracts for the laws of the sender, part 8. Conditions: those that each theorem names. -/
import Derived.Test.YtefloieanpgnmaaDoorK07
import Derived.Test.YtefloieanpgnmaaDoorK06
import Derived.Test.YtefloieanpgnmaaDoorK02
import Derived.Defers
import Derived.Recover
/- The closure that delta.Apply defers. -/
namespace Go.Proofs.YtefloieanpgnmaaDoor
open Go.RowKit

theorem wp_abs {P : Program} {c : Code} {a : Act} {w : World} {Q : Exit → Act → World → Prop} (h : ∀ Q', Hid (Q' = Q) → c.wp P Q' a w) : c.wp P Q a w := h Q (Lib.hid rfl)

set_option maxRecDepth 100000 in
set_option maxHeartbeats 2000000 in
theorem clo_panic {a0 a1 : Addr} (m : Nat) (s0 : ByteArray) (c0 : Int) (b : Bool) (w : World) (hS : Sents a0 a1 w) (hp : w.heap[m]? = some (.cells #[.string s0] 9 (0, 0))) (hq : w.heap[m + 1]? = some (.cells #[.int .i64 c0] 57 (0, 0)))
    (hap : ∀ k, k = 1 ∨ k = 2 ∨ k = a0.block ∨ k = a1.block → k < m) :
    CallsD Tryd.prog 45 #[.pointer (some ⟨m, 0, none⟩), .pointer (some ⟨m + 1, 0, none⟩)] (.panicking [{ v := .iface 181 (.pointer (some (if b then a0 else a1))), recovered := false }]) w
      fun e u' w' => e = .returned (.tuple #[]) ∧ u' = .panicking [{ v := .iface 181 (.pointer (some (if b then a0 else a1))), recovered := true }] ∧ Below m w w' ∧
        w'.cell? ⟨m, 0, none⟩ = some (.string ⟨#[]⟩) ∧ w'.cell? ⟨m + 1, 0, none⟩ = some (.int .i64 (if b then 10 else 190)) := by
  have hT : ∀ (v : Value) (xT : TypeId) (w : World), (Instr.typeAssert (.iface 181 v) xT 103 true).run Tryd.prog w = .ok (.tuple #[.iface 181 v, .bool true]) w := fun v xT w => run_typeAssert_hasB Tryd.underlying103 (by kernel_rfl) v xT w
  have hm1 : 1 < m := hap _ (.inl rfl)
  obtain ⟨w2, hw2⟩ : ∃ w2, (w.setCell ⟨m, 0, none⟩ (.string ⟨#[]⟩)).setCell ⟨m + 1, 0, none⟩ (.int .i64 190) = w2 := ⟨_, rfl⟩
  have hbw : Below m w w2 := by rw [← hw2]; exact ((Below.refl m w).setCell (p := ⟨m, 0, none⟩) (Nat.le_refl _) _).setCell (p := ⟨m + 1, 0, none⟩) (Nat.le_succ m) _
  have hS2 : Sents a0 a1 w2 := hS.kept fun k hk => hbw.block k (hap k hk)
  have hp2 : w2.heap[m]? = some (.cells #[.string ⟨#[]⟩] 9 (0, 0)) := by rw [← hw2]; simp [World.setCell, Array.getElem?_modify, hp]
  have hq2 : w2.heap[m + 1]? = some (.cells #[.int .i64 190] 57 (0, 0)) := by rw [← hw2]; simp [World.setCell, Array.getElem?_modify, hq]
  have g0 := hS2.g0
  have fq2 : w2.frozen? ⟨m + 1, 0, none⟩ = false := Lib.frozen_of_heap hq2 0
  have cq2 : w2.cell? ⟨m + 1, 0, none⟩ = some (.int .i64 190) := by rw [Lib.cell_of_heap hq2]; rfl
  have HB2 := Lib.hid hbw; have HS2 := Lib.hid hS2; have HP2 := Lib.hid hp2; have HQ2 := Lib.hid hq2
  clear hbw hS2 hp2 hq2
  have cp : w.cell? ⟨m, 0, none⟩ = some (.string s0) := by rw [Lib.cell_of_heap hp]; rfl
  have cq : w.cell? ⟨m + 1, 0, none⟩ = some (.int .i64 c0) := by rw [Lib.cell_of_heap hq]; rfl
  have fp : w.frozen? ⟨m, 0, none⟩ = false := Lib.frozen_of_heap hp 0
  have fq : w.frozen? ⟨m + 1, 0, none⟩ = false := Lib.frozen_of_heap hq 0
  refine callsD_of_wpS Tryd.func45 rfl fun c₀ cs hu => ?_
  apply wpS_seq
  apply wpS_region
  simp [wpOpsS, go_sem, recoverD, hu, Tryd.ntmps45, Exit.thenS]
  obtain ⟨ax, hax⟩ : ∃ ax, (if b = true then a0 else a1) = ax := ⟨_, rfl⟩
  rw [hax]
  have HAX := Lib.hid hax; clear hax
  have HP := Lib.hid hp; have HQ := Lib.hid hq; have HS := Lib.hid hS; have HAP := Lib.hid hap; have HU := Lib.hid hu
  clear hp hq hS hap hu
  have ht : (#[Value.pointer (some { block := m, off := 0 }), Value.pointer (some { block := m + 1, off := 0 })] ++ ((Array.replicate 17 undef).setIfInBounds 3 (Value.iface 181 (Value.pointer (some ax)))).setIfInBounds 0 (Value.iface 181 (Value.pointer (some ax)))) = #[Value.pointer (some { block := m, off := 0 }), Value.pointer (some { block := m + 1, off := 0 }), Value.iface 181 (Value.pointer (some ax)), undef, undef, Value.iface 181 (Value.pointer (some ax)), undef, undef, undef, undef, undef, undef, undef, undef, undef, undef, undef, undef, undef] := rfl
  rw [ht]
  clear ht
  refine wpS_of_wp ?_
  refine wp_abs fun Q HPO => ?_
  go_wp2_with fail
  cases b with
  | true =>
    obtain rfl : a0 = ax := HAX.out
    refine (is_same a0 w2).mono ?_
    rintro e w3 ⟨rfl, rfl⟩
    go_wp2
    rw [HPO.out]
    exact ⟨rfl, _, rfl, _, results_none rfl _ _ _, rfl, rfl, HB2.out.setCell (p := ⟨m + 1, 0, none⟩) (Nat.le_succ m) _, by simp [World.cell?, World.setCell, Array.getElem?_modify, HP2.out], by simp [World.cell?, World.setCell, Array.getElem?_modify, HQ2.out]⟩
  | false =>
    obtain rfl : a1 = ax := HAX.out
    obtain ⟨c1, t1, hr1⟩ := HS2.out.r1
    obtain ⟨c2, t2, hr2⟩ := HS2.out.r0
    refine (is_other a1 a0 c1 c2 t1 t2 w2 (fun h => HS2.out.ne h.symm) hr1 hr2).mono ?_
    rintro e w3 ⟨rfl, rfl⟩
    clear hr1 hr2
    go_wp2
    rw [HPO.out]
    exact ⟨rfl, _, rfl, _, results_none rfl _ _ _, rfl, rfl, HB2.out, by rw [Lib.cell_of_heap HP2.out]; rfl, by rw [Lib.cell_of_heap HQ2.out]; rfl⟩

set_option maxRecDepth 100000 in
set_option maxHeartbeats 2000000 in
theorem clo_idle (p q : Addr) (w : World) :
    CallsD Tryd.prog 45 #[.pointer (some p), .pointer (some q)] .returning w fun e u' w' => e = .returned (.tuple #[]) ∧ u' = .returning ∧ w = w' := by
  refine callsD_of_wpS Tryd.func45 rfl fun c₀ cs hu => ?_
  apply wpS_seq
  apply wpS_region
  simp [wpOpsS, go_sem, recoverD, hu, Tryd.ntmps45, Exit.thenS]
  have ht : (#[Value.pointer (some p), Value.pointer (some q)] ++ ((Array.replicate 17 undef).setIfInBounds 3 Value.nilIface).setIfInBounds 0 Value.nilIface) = #[Value.pointer (some p), Value.pointer (some q), Value.nilIface, undef, undef, Value.nilIface, undef, undef, undef, undef, undef, undef, undef, undef, undef, undef, undef, undef, undef] := rfl
  rw [ht]
  clear ht
  refine wpS_of_wp ?_
  refine wp_abs fun Q HPO => ?_
  go_wp2_with fail
  rw [HPO.out]
  have hc : ({ c₀ with mode := .returning } : Frame) = c₀ := by rw [← hu]
  exact ⟨rfl, .returning, by rw [hc], _, results_none rfl _ _ _, rfl, rfl, rfl⟩
end Go.Proofs.YtefloieanpgnmaaDoor
/- (*strings.Builder).String of a builder in a delta.writer. -/
namespace Go.Proofs.YtefloieanpgnmaaDoor
open Go.RowKit Go.Lib

theorem mixedYes : Tryd.prog.follows Departure.mixedOrders = true := by kernel_rfl

set_option maxHeartbeats 2000000 in
set_option maxRecDepth 100000 in
theorem bld_string_some (B b : Nat) (l : List UInt8) (w : World) (h : IsB B b (Lib.byteCells l) w) (h0 : l ≠ []) :
    Calls Tryd.prog 52 #[.pointer (some ⟨b, 0, none⟩)] w fun e w' => e = .returned (.string ⟨l.toArray⟩) ∧ Below B w w' := by
  obtain ⟨p, hB, v, hbk, hown, hne⟩ : ∃ p, Lib.BuilderAt 115 5 B b p (Lib.byteCells l) w := by
    rcases h with h | h
    · exact ⟨_, h⟩
    · exact ⟨_, h⟩
  have hl0 : l.length ≠ 0 := by simpa using h0
  rw [Lib.byteCells_length] at hown
  obtain ⟨g, cap, cur, rfl, hbg, hg, hnc, hcm, hcs, htake⟩ : ∃ g cap cur, v = .slice (some ⟨g, 0, none⟩) l.length cap ∧ B ≤ g ∧ w.heap[g]? = some (.cells cur 5 (0, 0)) ∧ l.length ≤ cap ∧ cap ≤ maxLen ∧ cur.size = cap * 1 ∧ cur.toList.take (l.length * 1) = Lib.byteCells l := by
    rcases hown.2 with ⟨_, hz⟩ | ⟨g, cap, cur, hv, r⟩
    · exact absurd hz hl0
    · exact ⟨g, cap, cur, hv, r⟩
  have c1 : w.drew.cell? ⟨b, 1, none⟩ = some (.slice (some ⟨g, 0, none⟩) l.length cap) := by
    have : w.drew.heap[b]? = some (.cells #[p, .slice (some ⟨g, 0, none⟩) l.length cap] 115 (0, 0)) := hbk
    rw [Lib.cell_of_heap this]; rfl
  have hSD : (Builtin.unsafeSliceData_ #[71] 129 #[.slice (some ⟨g, 0, none⟩) l.length cap]).run Tryd.prog w.drew = .ok (.pointer (some ⟨g, 0, none⟩)) w.drew :=
    Lib.run_unsafeSliceData_row _ _ _ _ _ _ (by omega)
  have hUS : (Builtin.unsafeString_ #[129, 3] 9 #[.pointer (some ⟨g, 0, none⟩), .int .i64 l.length]).run Tryd.prog w.drew = .ok (.string ⟨l.toArray⟩) (w.drew.freeze ⟨g, 0, none⟩ l.length) := by
    refine Lib.run_unsafeString_row w.drew 129 3 9 5 Tryd.underlying129 cellsU8b g cur.size (by have hg' : w.drew.heap[g]? = some (.cells cur 5 (0, 0)) := hg; simp [World.shape?, hg']) l h0 (by omega) (by unfold maxLen at hcm; omega) ?_
    intro j x hx
    have := hown.cells (g := g) rfl j (.int .u8 x.toNat) (by simp [Lib.byteCells, hx])
    exact this
  have mixed := mixedYes
  go_enter Tryd.func52, Tryd.ntmps52
  go_wp2
  go_region_o
  all_goals (go_wp2; go_ret; exact ⟨rfl, Lib.below_freeze (Below.drew (Below.refl B w)) (p := ⟨g, 0, none⟩) hbg _⟩)

theorem unsafeStringNone (W : World) (q : Option Addr) : (Builtin.unsafeString_ #[129, 3] 9 #[.pointer q, .int .i64 0]).run Tryd.prog W = .ok (.string .empty) W :=
  Lib.run_unsafeString_none W _ _ _ q

set_option maxHeartbeats 2000000 in
set_option maxRecDepth 100000 in
theorem bld_string_nil (B b : Nat) (p : Value) (w : World) (hbk : w.heap[b]? = some (.cells #[p, .slice none 0 0] 115 (0, 0))) :
    Calls Tryd.prog 52 #[.pointer (some ⟨b, 0, none⟩)] w fun e w' => e = .returned (.string ⟨#[]⟩) ∧ Below B w w' := by
  have hUS := unsafeStringNone
  have c1 : w.drew.cell? ⟨b, 1, none⟩ = some (.slice none 0 0) := by
    have : w.drew.heap[b]? = some (.cells #[p, .slice none 0 0] 115 (0, 0)) := hbk
    rw [Lib.cell_of_heap this]; rfl
  have hSD : (Builtin.unsafeSliceData_ #[71] 129 #[.slice none 0 0]).run Tryd.prog w.drew = .ok (.pointer none) w.drew := rfl
  have mixed := mixedYes
  go_enter Tryd.func52, Tryd.ntmps52
  go_wp2
  go_region_o
  all_goals (go_wp2; go_ret; exact ⟨rfl, Below.drew (Below.refl B w)⟩)

set_option maxHeartbeats 2000000 in
set_option maxRecDepth 100000 in
theorem bld_string_noroom (B b g : Nat) (p : Value) (cur : Array Value) (w : World) (hBw : B ≤ w.heap.size) (hbk : w.heap[b]? = some (.cells #[p, .slice (some ⟨g, 0, none⟩) 0 0] 115 (0, 0))) (hg : w.heap[g]? = some (.cells cur 5 (0, 0))) :
    Calls Tryd.prog 52 #[.pointer (some ⟨b, 0, none⟩)] w fun e w' => e = .returned (.string ⟨#[]⟩) ∧ Below B w w' := by
  have hUS := unsafeStringNone
  have hlt : b < w.heap.size := by
    rcases Nat.lt_or_ge b w.heap.size with h' | h'
    · exact h'
    · simp [Array.getElem?_eq_none h'] at hbk
  have c1 : w.drew.cell? ⟨b, 1, none⟩ = some (.slice (some ⟨g, 0, none⟩) 0 0) := by
    have : w.drew.heap[b]? = some (.cells #[p, .slice (some ⟨g, 0, none⟩) 0 0] 115 (0, 0)) := hbk
    rw [Lib.cell_of_heap this]; rfl
  have hSD : (Builtin.unsafeSliceData_ #[71] 129 #[.slice (some ⟨g, 0, none⟩) 0 0]).run Tryd.prog w.drew = .ok (.pointer (some ⟨w.drew.heap.size, 0, none⟩)) (w.drew.alloc (.view ⟨g, 0, none⟩ 5)) :=
    Lib.run_unsafeSliceData_zero w.drew _ _ 5 Tryd.underlying129 ⟨g, 0, none⟩ 0 (5, cur.size) (by have hg' : w.drew.heap[g]? = some (.cells cur 5 (0, 0)) := hg; simp [World.shape?, hg'])
  have c2 : (w.drew.alloc (.view ⟨g, 0, none⟩ 5)).cell? ⟨b, 1, none⟩ = some (.slice (some ⟨g, 0, none⟩) 0 0) := by
    have : (w.drew.alloc (.view ⟨g, 0, none⟩ 5)).heap[b]? = _ := (Lib.alloc_old w.drew _ b hlt).trans hbk
    rw [Lib.cell_of_heap this]; rfl
  have c3 : (w.alloc (.view ⟨g, 0, none⟩ 5)).drew.cell? ⟨b, 1, none⟩ = some (.slice (some ⟨g, 0, none⟩) 0 0) := c2
  have c0 : w.cell? ⟨b, 1, none⟩ = some (.slice (some ⟨g, 0, none⟩) 0 0) := c1
  have mixed := mixedYes
  go_enter Tryd.func52, Tryd.ntmps52
  go_wp2
  go_region_o
  all_goals (go_wp2; go_ret; exact ⟨rfl, (Below.drew (Below.refl B w)).alloc hBw _⟩)

set_option maxHeartbeats 2000000 in
set_option maxRecDepth 100000 in
theorem bld_string_room (B b g cap : Nat) (p : Value) (w : World) (hc0 : cap ≠ 0) (hbk : w.heap[b]? = some (.cells #[p, .slice (some ⟨g, 0, none⟩) 0 cap] 115 (0, 0))) :
    Calls Tryd.prog 52 #[.pointer (some ⟨b, 0, none⟩)] w fun e w' => e = .returned (.string ⟨#[]⟩) ∧ Below B w w' := by
  have hUS := unsafeStringNone
  have c1 : w.drew.cell? ⟨b, 1, none⟩ = some (.slice (some ⟨g, 0, none⟩) 0 cap) := by
    have : w.drew.heap[b]? = some (.cells #[p, .slice (some ⟨g, 0, none⟩) 0 cap] 115 (0, 0)) := hbk
    rw [Lib.cell_of_heap this]; rfl
  have hSD : (Builtin.unsafeSliceData_ #[71] 129 #[.slice (some ⟨g, 0, none⟩) 0 cap]).run Tryd.prog w.drew = .ok (.pointer (some ⟨g, 0, none⟩)) w.drew :=
    Lib.run_unsafeSliceData_row _ _ _ _ _ _ hc0
  clear hc0
  have mixed := mixedYes
  go_enter Tryd.func52, Tryd.ntmps52
  go_wp2
  go_region_o
  all_goals (go_wp2; go_ret; exact ⟨rfl, Below.drew (Below.refl B w)⟩)

theorem bld_string (B b : Nat) (l : List UInt8) (w : World) (h : IsB B b (Lib.byteCells l) w) (hBw : B ≤ w.heap.size) :
    Calls Tryd.prog 52 #[.pointer (some ⟨b, 0, none⟩)] w fun e w' => e = .returned (.string ⟨l.toArray⟩) ∧ Below B w w' := by
  cases l with
  | nil =>
    obtain ⟨p, hB, v, hbk, hown, hne⟩ : ∃ p, Lib.BuilderAt 115 5 B b p [] w := by
      rcases h with h | h
      · exact ⟨_, h⟩
      · exact ⟨_, h⟩
    rcases hown.2 with ⟨rfl, _⟩ | ⟨g, cap, cur, rfl, hbg, hg, _, _, _, _⟩
    · exact bld_string_nil B b p w hbk
    · by_cases hc0 : cap = 0
      · subst hc0
        exact bld_string_noroom B b g p cur w hBw hbk hg
      · exact bld_string_room B b g cap p w hc0 hbk
  | cons x r => exact bld_string_some B b (x :: r) w h (by simp)
end Go.Proofs.YtefloieanpgnmaaDoor
/- delta.Apply of the program. -/
namespace Go.Proofs.YtefloieanpgnmaaDoor
open Go.RowKit

set_option maxRecDepth 100000 in
set_option maxHeartbeats 2000000 in
theorem door_panic {a0 a1 : Addr} (m : Nat) (s0 : ByteArray) (c0 : Int) (b : Bool) (w wx : World) (T : Array Value) (V : Value) (hV : V = .tuple #[.string ⟨#[]⟩, .int .i64 (if b then 10 else 190)]) (hm : m = w.heap.size)
    (hS : Sents a0 a1 wx) (hp : wx.heap[m]? = some (.cells #[.string s0] 9 (0, 0))) (hq : wx.heap[m + 1]? = some (.cells #[.int .i64 c0] 57 (0, 0)))
    (hap : ∀ k, k = 1 ∨ k = 2 ∨ k = a0.block ∨ k = a1.block → k < m) (hb : Below m w wx) (h4 : T[4]? = some (.pointer (some ⟨m, 0, none⟩))) (h5 : T[5]? = some (.pointer (some ⟨m + 1, 0, none⟩))) :
    bodyPostD Tryd.prog Tryd.f35 (fun e w' => e = .returned V ∧ Below w.heap.size w w') (.panic [{ v := .iface 181 (.pointer (some (if b then a0 else a1))), recovered := false }])
      { tmps := T, defers := [{ target := Target.fn (Fn.func 45) #[.pointer (some ⟨m, 0, none⟩), .pointer (some ⟨m + 1, 0, none⟩)], args := #[] }] } wx := by
  refine leaves_cons (f := 45) (args := #[.pointer (some ⟨m, 0, none⟩), .pointer (some ⟨m + 1, 0, none⟩)]) (by simp) (by simp [go_sem]) ?_
  refine (clo_panic m s0 c0 b wx hS hp hq hap).mono ?_
  rintro e u' w' ⟨rfl, rfl, hb', hcp, hcq⟩
  subst hV hm
  have hbb : Below w.heap.size w w' := hb.trans hb'
  simp [Leaves, settle, results, Tryd.results35, go_sem, h4, h5, hcp, hcq, hbb]

set_option maxRecDepth 100000 in
set_option maxHeartbeats 2000000 in
theorem door_ret (m : Nat) (s0 : ByteArray) (w wx : World) (T : Array Value) (V : Value) (hV : V = .tuple #[.string s0, .int .i64 0]) (hm : m = w.heap.size)
    (hcp : wx.cell? ⟨m, 0, none⟩ = some (.string s0)) (hcq : wx.cell? ⟨m + 1, 0, none⟩ = some (.int .i64 0)) (hb : Below m w wx) (h4 : T[4]? = some (.pointer (some ⟨m, 0, none⟩))) (h5 : T[5]? = some (.pointer (some ⟨m + 1, 0, none⟩))) :
    bodyPostD Tryd.prog Tryd.f35 (fun e w' => e = .returned V ∧ Below w.heap.size w w') .ret
      { tmps := T, defers := [{ target := Target.fn (Fn.func 45) #[.pointer (some ⟨m, 0, none⟩), .pointer (some ⟨m + 1, 0, none⟩)], args := #[] }] } wx := by
  refine leaves_cons (f := 45) (args := #[.pointer (some ⟨m, 0, none⟩), .pointer (some ⟨m + 1, 0, none⟩)]) (by simp) (by simp [go_sem]) ?_
  refine (clo_idle _ _ wx).mono ?_
  rintro e u' w' ⟨rfl, rfl, rfl⟩
  subst hV hm
  simp [Leaves, settle, results, Tryd.results35, go_sem, h4, h5, hcp, hcq, hb]

theorem shifts_below {W W' : World} (h : ShiftsAt W) (hb : Below W.heap.size W W') : ShiftsAt W' := fun i hi =>
  (World.cell?_of_block (w := W) (hb.block _ (World.block_lt_of_cell? W _ (h i hi)))).trans (h i hi)

theorem two_cells (w : World) (x y : Obj) : ((w.alloc x).alloc y).heap[w.heap.size]? = some x ∧ ((w.alloc x).alloc y).heap[w.heap.size + 1]? = some y ∧ ((w.alloc x).alloc y).heap.size = w.heap.size + 2 := by
  refine ⟨?_, ?_, by simp⟩
  · rw [Lib.alloc_old _ _ _ (by simp)]; exact heap_alloc_new w x
  · have := heap_alloc_new (w.alloc x) y
    simpa using this

/-- what holds of the world while Apply runs: its results' cells m, m + 1, the reader m + 2 -/
structure Inv (a0 a1 : Addr) (m : Nat) (w wx : World) : Prop where
  hm : w.heap.size = m
  base : Sents a0 a1 w
  shb : ShiftsAt w
  bel : Below m w wx
  hp : wx.heap[m]? = some (.cells #[.string ⟨#[]⟩] 9 (0, 0))
  hq : wx.heap[m + 1]? = some (.cells #[.int .i64 0] 57 (0, 0))
  sz : m + 2 ≤ wx.heap.size

theorem Inv.S {a0 a1 : Addr} {m : Nat} {w wx : World} (h : Inv a0 a1 m w wx) : Sents a0 a1 wx := h.base.below (h.hm ▸ h.bel)
theorem Inv.H {a0 a1 : Addr} {m : Nat} {w wx : World} (h : Inv a0 a1 m w wx) : ShiftsAt wx := shifts_below h.shb (h.hm ▸ h.bel)
theorem Inv.ap {a0 a1 : Addr} {m : Nat} {w wx : World} (h : Inv a0 a1 m w wx) (k : Nat) (hk : k = 1 ∨ k = 2 ∨ k = a0.block ∨ k = a1.block) : k < m := h.hm ▸ h.base.lt k hk
theorem Inv.apart {a0 a1 : Addr} {m : Nat} {w wx : World} (h : Inv a0 a1 m w wx) : Apart a0 a1 (m + 2) := fun k hk => by have := h.ap k hk; omega
theorem Inv.but {a0 a1 : Addr} {m : Nat} {w wx wy : World} (h : Inv a0 a1 m w wx) (hb : ButAt wx.heap.size (m + 2) wx wy) : Inv a0 a1 m w wy :=
  ⟨h.hm, h.base, h.shb, h.bel.trans (hb.below (by have := h.sz; omega) (by omega)), (hb.block _ (by have := h.sz; omega) (by omega)).trans h.hp, (hb.block _ (by have := h.sz; omega) (by omega)).trans h.hq, Nat.le_trans h.sz hb.size⟩
theorem Inv.grow {a0 a1 : Addr} {m n : Nat} {w wx wy : World} (h : Inv a0 a1 m w wx) (hn : m + 2 ≤ n) (hb : Below n wx wy) : Inv a0 a1 m w wy :=
  ⟨h.hm, h.base, h.shb, h.bel.trans (hb.mono (by omega)), (hb.block _ (by omega)).trans h.hp, (hb.block _ (by omega)).trans h.hq, Nat.le_trans h.sz hb.size⟩
theorem Inv.door {a0 a1 : Addr} {m : Nat} {w wx : World} (h : Inv a0 a1 m w wx) (b : Bool) (T : Array Value) (V : Value) (hV : V = .tuple #[.string ⟨#[]⟩, .int .i64 (if b then 10 else 190)])
    (h4 : T[4]? = some (.pointer (some ⟨m, 0, none⟩))) (h5 : T[5]? = some (.pointer (some ⟨m + 1, 0, none⟩))) :
    bodyPostD Tryd.prog Tryd.f35 (fun e w' => e = .returned V ∧ Below w.heap.size w w') (.panic [{ v := .iface 181 (.pointer (some (if b then a0 else a1))), recovered := false }])
      { tmps := T, defers := [{ target := Target.fn (Fn.func 45) #[.pointer (some ⟨m, 0, none⟩), .pointer (some ⟨m + 1, 0, none⟩)], args := #[] }] } wx :=
  door_panic m _ _ b w wx T V hV h.hm.symm h.S h.hp h.hq h.ap h.bel h4 h5

theorem isB_but {B b r : Nat} {bs : List Value} {wx wy : World} (h : IsB B b bs wx) (hb : ButAt wx.heap.size r wx wy) (hbr : b ≠ r) {cs : Array Value} {T : TypeId} {fr : Nat × Nat} (hr : wx.heap[r]? = some (.cells cs T fr)) (hT : T ≠ 5) : IsB B b bs wy := by
  have key : ∀ p, Lib.BuilderAt 115 5 B b p bs wx → Lib.BuilderAt 115 5 B b p bs wy := by
    rintro p ⟨hB, v, hv, hown, hne⟩
    refine ⟨hB, v, (hb.block _ (some_lt hv) hbr).trans hv, hown.kept (row := some r) ⟨hb.os, hb.tape, hb.output, hb.size, fun k hk hkr => hb.block k hk (fun e => hkr (by rw [e]))⟩ (.inr (Lib.ownBlock_ne hown hr hT)), hne⟩
  exact h.imp (key _) (key _)

set_option maxRecDepth 100000 in
set_option maxHeartbeats 4000000 in
theorem apply_any {a0 a1 : Addr} (o d : ByteArray) (w : World) (ho : o.size ≤ 9223372036854775000) (hd : d.size ≤ 9223372036854775000) (hS : Sents a0 a1 w) (hsh : ShiftsAt w) :
    Calls Tryd.prog 35 #[.string o, .string d] w fun e w' => e = .returned (exTup (applyD o.data.toList d.data.toList)) ∧ Below w.heap.size w w' := by
  have hmf : ∀ (fn : Fn) (first cap : Array Value) (w : World), (Instr.makeFunc fn first cap).run Tryd.prog w = .ok (.func fn first cap) w := fun _ _ _ _ => rfl
  obtain ⟨V, hV⟩ : ∃ V, exTup (applyD o.data.toList d.data.toList) = V := ⟨_, rfl⟩
  rw [hV]
  have HV := Lib.hid hV; have HS := Lib.hid hS; have HSH := Lib.hid hsh
  have HAP : Hid (∀ k, k = 1 ∨ k = 2 ∨ k = a0.block ∨ k = a1.block → k < w.heap.size) := Lib.hid (fun k hk => hS.lt k hk)
  clear hV hS hsh
  obtain ⟨m, hm⟩ : ∃ m, w.heap.size = m := ⟨_, rfl⟩
  go_enter_defers Tryd.func35, Tryd.ntmps35
  go_wp2_with fail
  obtain ⟨wA, hwA⟩ : ∃ wA, ((w.alloc (Obj.cells #[Value.string ⟨#[]⟩] 9)).alloc (Obj.cells #[Value.int IntKind.i64 0] 57)) = wA := ⟨_, rfl⟩
  rw [hwA]
  obtain ⟨tc1, tc2, tc3⟩ := two_cells w (Obj.cells #[Value.string ⟨#[]⟩] 9) (Obj.cells #[Value.int IntKind.i64 0] 57)
  have hIA : Inv a0 a1 m w wA := by
    subst hm hwA
    exact ⟨rfl, HS.out, HSH.out, ((Below.refl _ w).alloc (Nat.le_refl _) _).alloc (by simp) _, tc1, tc2, by rw [tc3]; omega⟩
  have hzA : wA.heap.size = m + 2 := by subst hm hwA; exact tc3
  have HIA := Lib.hid hIA; have HZA := Lib.hid hzA
  clear hwA tc1 tc2 tc3 hIA hzA HS HSH HAP
  by_cases ho8 : o.size ≤ 8192
  · refine (demand_yes _ _ HIA.out.S (by simp; omega)).mono ?_
    rintro e w1 ⟨rfl, rfl⟩
    go_wp2_with fail
    obtain ⟨wB, hwB⟩ : ∃ wB, wA.alloc (Obj.cells #[Value.string d, Value.int IntKind.i64 0] 109) = wB := ⟨_, rfl⟩
    rw [hwB, HZA.out]
    have HIB : Hid (Inv a0 a1 m w wB) := Lib.hid (HIA.out.grow (n := m + 2) (Nat.le_refl _) (by rw [← hwB]; exact (Below.refl _ _).alloc (by rw [HZA.out]; exact Nat.le_refl _) _))
    have HRB : Hid (RdAt (m + 2) d 0 wB) := Lib.hid (by rw [← hwB, ← HZA.out]; exact heap_alloc_new _ _)
    clear hwB
    refine (rnum_any (m + 2) d 0 _ hd (Nat.zero_le _) HIB.out.S HRB.out).mono ?_
    intro e w2 hp2
    obtain ⟨R1, hR1⟩ : ∃ R1, intAt d.data.toList 0 = R1 := ⟨_, rfl⟩
    rw [hR1] at hp2
    cases R1 with
    | none =>
      have hx : V = .tuple #[.string ⟨#[]⟩, .int .i64 (if true then 10 else 190)] := by rw [← HV.out, applyD, if_neg (by simp; omega), hR1]; rfl
      obtain ⟨hb1, rfl⟩ := hp2
      exact (HIB.out.but hb1).door true _ V hx rfl rfl
    | some p =>
      obtain ⟨sum, k⟩ := p
      obtain ⟨hb1, rfl, hr1⟩ := hp2
      have hk := intAt_le (Nat.zero_le _) hR1
      have HI2 := Lib.hid (HIB.out.but hb1)
      have HR2 := Lib.hid hr1
      have HV2 : Hid (V = exTup (if sum = (crcOf o.data.toList : Int) then match intAt d.data.toList k with | none => .error 10 | some (want, a2) => applyEnd want (applyGo (d.data.toList.length + 1) o.data.toList d.data.toList a2 []) else .error 190)) :=
        Lib.hid (by
          rw [← HV.out, applyD, if_neg (by simp; omega), hR1]
          simp only []
          by_cases hs : sum = (crcOf o.data.toList : Int)
          · rw [if_pos hs, if_pos hs]
            cases intAt d.data.toList k with
            | none => rfl
            | some q => rfl
          · rw [if_neg hs, if_neg hs])
      clear hb1 hr1 hR1 HV HIA HZA HIB HRB
      go_wp2_with fail
      refine (sum_any o _ (by omega) HI2.out.H).mono ?_
      rintro e w3 ⟨rfl, rfl⟩
      by_cases hsum : sum = (crcOf o.data.toList : Int)
      · have hsb : (sum == (crcOf o.data.toList : Int)) = true := by rw [hsum]; simp
        go_wp2_with fail
        refine (demand_yes _ _ HI2.out.S (by simp)).mono ?_
        rintro e w3 ⟨rfl, rfl⟩
        go_wp2_with fail
        refine (rnum_any (m + 2) d k _ hd (by have := hk.2.1; simpa using this) HI2.out.S HR2.out).mono ?_
        intro e w3 hp3
        obtain ⟨R2, hR2⟩ : ∃ R2, intAt d.data.toList k = R2 := ⟨_, rfl⟩
        rw [hR2] at hp3
        cases R2 with
        | none =>
          obtain ⟨hb3, rfl⟩ := hp3
          exact (HI2.out.but hb3).door true _ V (by rw [HV2.out, if_pos hsum, hR2]; rfl) rfl rfl
        | some q =>
          obtain ⟨want, a2⟩ := q
          obtain ⟨hb3, rfl, hr3⟩ := hp3
          have hj := intAt_le hk.2.1 hR2
          have HI3 := Lib.hid (HI2.out.but hb3)
          have HR3 := Lib.hid hr3
          have HV3 : Hid (V = exTup (applyEnd want (applyGo (d.data.toList.length + 1) o.data.toList d.data.toList a2 []))) := Lib.hid (by rw [HV2.out, if_pos hsum, hR2])
          clear hb3 hr3 hR2 HI2 HR2 HV2 hsb
          go_wp2_with fail
          obtain ⟨b, hb⟩ : ∃ b, w3.heap.size = b := ⟨_, rfl⟩
          obtain ⟨w4, hw4⟩ : ∃ w4, w3.alloc (Obj.cells #[Value.pointer none, Value.slice none 0 0] 115) = w4 := ⟨_, rfl⟩
          rw [hw4, hb]
          have hmb : m + 3 ≤ b := by rw [← hb]; exact some_lt HR3.out
          have hbel4 : Below b w3 w4 := by rw [← hw4, ← hb]; exact (Below.refl _ _).alloc (Nat.le_refl _) _
          have HI4 : Hid (Inv a0 a1 m w w4) := Lib.hid (HI3.out.grow (n := b) (by omega) hbel4)
          have HR4 : Hid (RdAt (m + 2) d a2 w4) := Lib.hid ((hbel4.block _ (by omega)).trans HR3.out)
          have HB4 : Hid (IsB b b (Lib.byteCells []) w4) := Lib.hid (by
            rw [← hw4, ← hb]
            exact .inl ⟨Nat.le_refl _, .slice none 0 0, heap_alloc_new _ _, World.ownsRow_nil _ _ _ _, by simp [Value.ownBlock]⟩)
          have HZ4 : Hid (b ≤ w4.heap.size) := Lib.hid (by have := hbel4.size; omega)
          clear hw4 hbel4 hb HI3 HR3
          go_loopw [9] (fun _ wr => ∃ (k f : Nat) (x : List UInt8), k ≤ d.size ∧ x.length ≤ 8192 ∧ d.size < k + f ∧ Hid (RdAt (m + 2) d k wr) ∧ Hid (IsB b b (Lib.byteCells x) wr) ∧ Hid (V = exTup (applyEnd want (applyGo f o.data.toList d.data.toList k x))) ∧ Hid (Inv a0 a1 m w wr) ∧ Hid (b ≤ wr.heap.size))
            (fun _ wr => d.size - (intOf ((wr.cell? ⟨m + 2, 1, none⟩).getD undef)).toNat)
          case atStart => exact ⟨a2, d.size + 1, [], by have := hj.2.1; simpa using this, by simp, by omega, HR4, HB4, HV3, HI4, HZ4⟩
          case round =>
            obtain ⟨k, f, x, hk1, hx, hf, HR, HB, HV, HI, HZ⟩ := hrel
            obtain ⟨f, rfl⟩ : ∃ g, f = g + 1 := ⟨f - 1, by omega⟩
            have c1 : wr.cell? ⟨m + 2, 1, none⟩ = some (.int .i64 (k : Int)) := by
              have h' := HR.out
              unfold RdAt at h'
              rw [Lib.cell_of_heap h']; rfl
            by_cases hlt : k < d.size
            · go_wp2_with fail
              refine (radd_any (m + 2) o d k _ ho8 hd hk1 HI.out.S HI.out.apart HR.out).mono ?_
              intro e w5 hp5
              obtain ⟨R3, hR3⟩ : ∃ R3, opAt o.data.toList d.data.toList k = R3 := ⟨_, rfl⟩
              rw [hR3] at hp5
              cases R3 with
              | error c =>
                obtain ⟨hb5, rfl⟩ := hp5
                have hc := opAt_err hR3
                have hVc : V = .tuple #[.string ⟨#[]⟩, .int .i64 c] := by rw [HV.out, applyGo, if_neg (by simp; omega), hR3]; rfl
                rcases hc with rfl | rfl
                · exact (HI.out.but hb5).door true _ V hVc rfl rfl
                · exact (HI.out.but hb5).door false _ V hVc rfl rfl
              | ok q =>
                obtain ⟨y, k2⟩ := q
                obtain ⟨hb5, rfl, hr5⟩ := hp5
                have hk5 := opAt_le (by simpa using hk1) hR3
                have hy : y.length ≤ 65536 := by have := hk5.2.2.2; simp at this; omega
                have HI5 := Lib.hid (HI.out.but hb5)
                have HR5 := Lib.hid hr5
                have HB5 : Hid (IsB b b (Lib.byteCells x) w5) := Lib.hid (isB_but HB.out hb5 (by omega) HR.out (by decide))
                have HZ5 : Hid (b ≤ w5.heap.size) := Lib.hid (Nat.le_trans HZ.out hb5.size)
                have HV5 : Hid (V = exTup (applyEnd want (if x.length + y.length ≤ 8192 then applyGo f o.data.toList d.data.toList k2 (x ++ y) else .error 190))) := Lib.hid (by rw [HV.out, applyGo, if_neg (by simp; omega), hR3])
                clear hb5 hr5 hR3
                unfold encB
                go_wp2_with fail
                refine (bld_len b b (Lib.byteCells x) _ HB5.out).mono ?_
                rintro e w6 ⟨rfl, rfl⟩
                have hxl : ((Lib.byteCells x).length : Int) = (x.length : Int) := by rw [Lib.byteCells_length]
                rw [hxl]
                go_wp2_with fail
                by_cases hroom : x.length + y.length ≤ 8192
                · refine (demand_yes _ _ HI5.out.S (by simp <;> omega)).mono ?_
                  rintro e w6 ⟨rfl, rfl⟩
                  go_wp2_with fail
                  refine (bld_write b b (Lib.byteCells x) ⟨y.toArray⟩ _ HB5.out (by rw [mk_size, Lib.byteCells_length]; omega) HZ5.out).mono ?_
                  rintro e w6 ⟨rfl, hba6, hb6⟩
                  have HI6 := Lib.hid (HI5.out.grow (n := b) (by omega) hb6)
                  have HR6 : Hid (RdAt (m + 2) d k2 w6) := Lib.hid ((hb6.block _ (by omega)).trans HR5.out)
                  have HB6 : Hid (IsB b b (Lib.byteCells (x ++ y)) w6) := Lib.hid (by rw [Lib.byteCells_append]; exact .inr hba6)
                  have HZ6 : Hid (b ≤ w6.heap.size) := Lib.hid (Nat.le_trans HZ5.out hb6.size)
                  have HV6 : Hid (V = exTup (applyEnd want (applyGo f o.data.toList d.data.toList k2 (x ++ y)))) := Lib.hid (by rw [HV5.out, if_pos hroom])
                  have hm6 : d.size - (intOf ((w6.cell? ⟨m + 2, 1, none⟩).getD undef)).toNat < d.size - (intOf ((wr.cell? ⟨m + 2, 1, none⟩).getD undef)).toNat := by
                    have h' := HR6.out
                    unfold RdAt at h'
                    rw [Lib.cell_of_heap h', c1]; simp [intOf]; omega
                  have HM6 := Lib.hid hm6
                  clear hba6 hb6 hm6
                  go_wp2
                  go_roundw
                  case rel => exact ⟨k2, f, x ++ y, by have := hk5.2.1; simpa using this, by simp; omega, by omega, HR6, HB6, HV6, HI6, HZ6⟩
                  case measure => exact HM6.out
                · refine (demand_no _ _ HI5.out.S (by simp <;> omega)).mono ?_
                  rintro e w6 ⟨rfl, rfl⟩
                  exact HI5.out.door false _ V (by rw [HV5.out, if_neg hroom]; rfl) rfl rfl
            · go_wp2_with fail
              refine (bld_string b b x _ HB.out HZ.out).mono ?_
              rintro e w5 ⟨rfl, hb5⟩
              have HI5 := Lib.hid (HI.out.grow (n := b) (by omega) hb5)
              have HV5 : Hid (V = exTup (if (crcOf x : Int) = want then .ok x else .error 190)) := Lib.hid (by rw [HV.out, applyGo, if_pos (by simp; omega)]; rfl)
              have fp : w5.frozen? ⟨m, 0, none⟩ = false := Lib.frozen_of_heap HI5.out.hp 0
              have cp : w5.cell? ⟨m, 0, none⟩ = some (.string ⟨#[]⟩) := by rw [Lib.cell_of_heap HI5.out.hp]; rfl
              clear hb5
              go_wp2_with fail
              obtain ⟨w6, hw6⟩ : ∃ w6, w5.setCell ⟨m, 0, none⟩ (.string ⟨x.toArray⟩) = w6 := ⟨_, rfl⟩
              rw [hw6]
              have hbel6 : Below m w w6 := by rw [← hw6]; exact HI5.out.bel.setCell (p := ⟨m, 0, none⟩) (Nat.le_refl _) _
              have hp6 : w6.heap[m]? = some (.cells #[.string ⟨x.toArray⟩] 9 (0, 0)) := by rw [← hw6]; simp [World.setCell, Array.getElem?_modify, HI5.out.hp]
              have hq6 : w6.heap[m + 1]? = some (.cells #[.int .i64 0] 57 (0, 0)) := by rw [← hw6]; simp [World.setCell, Array.getElem?_modify, HI5.out.hq]
              have hS6 : Sents a0 a1 w6 := HI5.out.base.below (by rw [HI5.out.hm]; exact hbel6)
              have hH6 : ShiftsAt w6 := shifts_below HI5.out.shb (by rw [HI5.out.hm]; exact hbel6)
              have HW6 := Lib.hid hbel6; have HP6 := Lib.hid hp6; have HQ6 := Lib.hid hq6; have HS6 := Lib.hid hS6; have HH6 := Lib.hid hH6
              have fp6 : w6.frozen? ⟨m, 0, none⟩ = false := Lib.frozen_of_heap hp6 0
              have cp6 : w6.cell? ⟨m, 0, none⟩ = some (.string ⟨x.toArray⟩) := by rw [Lib.cell_of_heap hp6]; rfl
              have fq6 : w6.frozen? ⟨m + 1, 0, none⟩ = false := Lib.frozen_of_heap hq6 0
              have cq6 : w6.cell? ⟨m + 1, 0, none⟩ = some (.int .i64 0) := by rw [Lib.cell_of_heap hq6]; rfl
              clear hw6 hbel6 hp6 hq6 hS6 hH6
              have hsx := sum_any ⟨x.toArray⟩ w6 (by rw [mk_size]; omega) HH6.out
              rw [mk_data] at hsx
              refine hsx.mono ?_
              rintro e w7 ⟨rfl, rfl⟩
              clear hsx
              go_wp2_with fail
              by_cases hw : (crcOf x : Int) = want
              · refine (demand_yes _ _ HS6.out (by simp [hw])).mono ?_
                rintro e w7 ⟨rfl, rfl⟩
                have hVx : V = .tuple #[.string ⟨x.toArray⟩, .int .i64 0] := by rw [HV5.out, if_pos hw]; rfl
                have HVX := Lib.hid hVx
                clear hw hVx
                go_wp2
                refine door_ret m ⟨x.toArray⟩ w _ _ V HVX.out HI5.out.hm.symm ?_ ?_ ((HW6.out.setCell (p := ⟨m, 0, none⟩) (Nat.le_refl _) _).setCell (p := ⟨m + 1, 0, none⟩) (Nat.le_succ m) _) rfl rfl
                · simp [World.cell?, World.setCell, Array.getElem?_modify, HP6.out]
                · simp [World.cell?, World.setCell, Array.getElem?_modify, HQ6.out]
              · refine (demand_no _ _ HS6.out (by simp [hw])).mono ?_
                rintro e w7 ⟨rfl, rfl⟩
                exact door_panic m _ _ false w _ _ V (by rw [HV5.out, if_neg hw]; rfl) HI5.out.hm.symm HS6.out HP6.out HQ6.out HI5.out.ap HW6.out rfl rfl
      · have hsb : (sum == (crcOf o.data.toList : Int)) = false := by simpa using hsum
        go_wp2_with fail
        refine (demand_no _ _ HI2.out.S (by simp)).mono ?_
        rintro e w3 ⟨rfl, rfl⟩
        exact HI2.out.door false _ V (by rw [HV2.out, if_neg hsum]; rfl) rfl rfl
  · refine (demand_no _ _ HIA.out.S (by simp; omega)).mono ?_
    rintro e w1 ⟨rfl, rfl⟩
    have hx : V = .tuple #[.string ⟨#[]⟩, .int .i64 (if false then 10 else 190)] := by rw [← HV.out, applyD, if_pos (by simp; omega)]; rfl
    exact HIA.out.door false _ V hx rfl rfl
end Go.Proofs.YtefloieanpgnmaaDoor

/- delta's reader and its panics. -/
import Derived.Test.YtfdholhfdceedaaDoorDelM
import Derived.Test.YtfdholhfdceedaaDoorMemL
import Derived.Deep.RegionWith
namespace Go.Proofs.YtfdholhfdceedaaDoor
open Go.RowKit

/-- the two sentinels of package delta -/
structure Sents (a0 a1 : Addr) (W : World) : Prop where
  g0 : W.cell? ⟨1, 0, none⟩ = some (.iface 110 (.pointer (some a0)))
  g1 : W.cell? ⟨2, 0, none⟩ = some (.iface 110 (.pointer (some a1)))
  ne : a0 ≠ a1
  r0 : ∃ c t, W.heap[a0.block]? = some (.cells c t (0, 0))
  r1 : ∃ c t, W.heap[a1.block]? = some (.cells c t (0, 0))

theorem some_lt {w : World} {b : Nat} {o : Obj} (h : w.heap[b]? = some o) : b < w.heap.size := by
  rcases Nat.lt_or_ge b w.heap.size with h' | h'
  · exact h'
  · rw [Array.getElem?_eq_none h'] at h; cases h

theorem Sents.kept {a0 a1 : Addr} {W W' : World} (h : Sents a0 a1 W) (hk : ∀ k, k = 1 ∨ k = 2 ∨ k = a0.block ∨ k = a1.block → W'.heap[k]? = W.heap[k]?) : Sents a0 a1 W' :=
  ⟨(World.cell?_of_block (w := W) (hk _ (.inl rfl))).trans h.g0, (World.cell?_of_block (w := W) (hk _ (.inr (.inl rfl)))).trans h.g1, h.ne,
    by rw [hk _ (.inr (.inr (.inl rfl)))]; exact h.r0, by rw [hk _ (.inr (.inr (.inr rfl)))]; exact h.r1⟩

theorem Sents.lt {a0 a1 : Addr} {W : World} (h : Sents a0 a1 W) (k : Nat) (hk : k = 1 ∨ k = 2 ∨ k = a0.block ∨ k = a1.block) : k < W.heap.size := by
  obtain ⟨_, _, h0⟩ := h.r0
  obtain ⟨_, _, h1⟩ := h.r1
  rcases hk with rfl | rfl | rfl | rfl
  · exact World.block_lt_of_cell? W _ h.g0
  · exact World.block_lt_of_cell? W _ h.g1
  · exact some_lt h0
  · exact some_lt h1

theorem Sents.below {a0 a1 : Addr} {W W' : World} (h : Sents a0 a1 W) (hb : Below W.heap.size W W') : Sents a0 a1 W' :=
  h.kept fun k hk => hb.block k (h.lt k hk)

/-- the panic's value -/
def boom (a : Addr) : Ending := .panicked [{ v := .iface 110 (.pointer (some a)), recovered := false }]

theorem demand_any {a0 a1 : Addr} (c : Bool) (w : World) (hS : Sents a0 a1 w) :
    Calls Tryd.prog 30 #[.bool c] w fun e w' => e = (if c then .returned (.tuple #[]) else boom a1) ∧ w = w' := by
  have h1 := hS.g1
  go_enter Tryd.func30, Tryd.ntmps30
  cases c
  · go_wp2
    exact ⟨rfl, rfl, rfl⟩
  · go_wp2
    go_end0
    exact ⟨rfl, rfl⟩

/-- a reader in block r: the delta d, read up to a -/
def RdAt (r : Nat) (d : ByteArray) (a : Nat) (w : World) : Prop := w.heap[r]? = some (.cells #[.string d, .int .i64 (a : Int)] 77 (0, 0))

theorem RdAt.put {r : Nat} {d : ByteArray} {a k : Nat} {w : World} (h : RdAt r d a w) : RdAt r d k (w.drew.setCell ⟨r, 1, none⟩ (.int .i64 (k : Int))) := by
  unfold RdAt at *
  have h' : w.drew.heap[r]? = _ := h
  simp [World.setCell, Array.getElem?_modify, h']

theorem ButAt.drew_put {r o : Nat} (w : World) (v : Value) : ButAt w.heap.size r w (w.drew.setCell ⟨r, o, none⟩ v) :=
  (ButAt.of_below (n₀ := w.heap.size) (B := r) ((Below.refl _ w).drew)).trans (ButAt.setCell _ _)

/-- what a reading method answers -/
def readEnd {α : Type} (a0 : Addr) (enc : α → Value) (r : Nat) (d : ByteArray) (w : World) (x : Option (α × Nat)) (e : Ending) (w' : World) : Prop :=
  ButAt w.heap.size r w w' ∧ match x with
  | some (n, k) => e = .returned (enc n) ∧ RdAt r d k w'
  | none => e = boom a0

set_option maxRecDepth 100000 in
set_option maxHeartbeats 2000000 in
theorem rnum_any {a0 a1 : Addr} (r : Nat) (d : ByteArray) (a : Nat) (w : World) (hd : d.size ≤ 9223372036854775000) (ha : a ≤ d.size) (hS : Sents a0 a1 w) (hr : RdAt r d a w) :
    Calls Tryd.prog 31 #[.pointer (some ⟨r, 0, none⟩)] w (readEnd a0 (Value.int .i64) r d w (intAt d.data.toList a)) := by
  have g0 : w.drew.cell? ⟨1, 0, none⟩ = _ := hS.g0
  have c0 : w.drew.cell? ⟨r, 0, none⟩ = some (.string d) := by
    have h' : w.drew.heap[r]? = _ := hr
    rw [Lib.cell_of_heap h']; rfl
  have c1 : w.drew.cell? ⟨r, 1, none⟩ = some (.int .i64 (a : Int)) := by
    have h' : w.drew.heap[r]? = _ := hr
    rw [Lib.cell_of_heap h']; rfl
  have f1 : w.drew.frozen? ⟨r, 1, none⟩ = false := by
    have h' : w.drew.heap[r]? = _ := hr
    exact Lib.frozen_of_heap h' 1
  have HP : ∀ k : Nat, Hid (RdAt r d k (w.drew.setCell ⟨r, 1, none⟩ (.int .i64 (k : Int)))) := fun k => Lib.hid hr.put
  have HB : ∀ v, Hid (ButAt w.heap.size r w (w.drew.setCell ⟨r, 1, none⟩ v)) := fun v => Lib.hid (ButAt.drew_put w v)
  have HB0 : Hid (ButAt w.heap.size r w w.drew) := Lib.hid (ButAt.of_below ((Below.refl _ w).drew))
  have HI := fun w => Lib.hid (int_any d a w hd ha)
  unfold RdAt at hr
  obtain ⟨R, hR⟩ : ∃ R, intAt d.data.toList a = R := ⟨_, rfl⟩
  rw [hR] at HI ⊢
  clear hR hS hr
  go_enter Tryd.func31, Tryd.ntmps31
  go_wp2
  cases R with
  | none =>
    replace HI : ∀ w, Hid (Calls Tryd.prog 42 #[.string d, .int .i64 (a : Int)] w fun e w' => e = .returned (.tuple #[.int .i64 0, .int .i64 0, .int .i64 10]) ∧ w = w') := HI
    go_region_with (go_at_call 42; refine (HI _).out.mono ?_; rintro e w1 ⟨rfl, rfl⟩)
    all_goals go_wp2
    all_goals exact ⟨rfl, HB0.out, rfl⟩
  | some p =>
    obtain ⟨n, k⟩ := p
    replace HI : ∀ w, Hid (Calls Tryd.prog 42 #[.string d, .int .i64 (a : Int)] w fun e w' => e = .returned (.tuple #[.int .i64 n, .int .i64 (k : Int), .int .i64 0]) ∧ w = w') := HI
    go_region_with (go_at_call 42; refine (HI _).out.mono ?_; rintro e w1 ⟨rfl, rfl⟩)
    all_goals go_wp2
    all_goals go_ret
    all_goals exact ⟨(HB _).out, rfl, (HP k).out⟩
def encB (x : List UInt8) : Value := .string ⟨x.toArray⟩

set_option maxRecDepth 100000 in
set_option maxHeartbeats 2000000 in
theorem rtext_any {a0 a1 : Addr} (r : Nat) (d : ByteArray) (a : Nat) (w : World) (hd : d.size ≤ 9223372036854775000) (ha : a ≤ d.size) (hS : Sents a0 a1 w) (hr : RdAt r d a w) :
    Calls Tryd.prog 43 #[.pointer (some ⟨r, 0, none⟩)] w (readEnd a0 encB r d w (strAt d.data.toList a)) := by
  have g0 : w.drew.cell? ⟨1, 0, none⟩ = _ := hS.g0
  have c0 : w.drew.cell? ⟨r, 0, none⟩ = some (.string d) := by
    have h' : w.drew.heap[r]? = _ := hr
    rw [Lib.cell_of_heap h']; rfl
  have c1 : w.drew.cell? ⟨r, 1, none⟩ = some (.int .i64 (a : Int)) := by
    have h' : w.drew.heap[r]? = _ := hr
    rw [Lib.cell_of_heap h']; rfl
  have f1 : w.drew.frozen? ⟨r, 1, none⟩ = false := by
    have h' : w.drew.heap[r]? = _ := hr
    exact Lib.frozen_of_heap h' 1
  have HP : ∀ k : Nat, Hid (RdAt r d k (w.drew.setCell ⟨r, 1, none⟩ (.int .i64 (k : Int)))) := fun k => Lib.hid hr.put
  have HB : ∀ v, Hid (ButAt w.heap.size r w (w.drew.setCell ⟨r, 1, none⟩ v)) := fun v => Lib.hid (ButAt.drew_put w v)
  have HB0 : Hid (ButAt w.heap.size r w w.drew) := Lib.hid (ButAt.of_below ((Below.refl _ w).drew))
  have HI := fun w => Lib.hid (string_any d a w hd ha)
  unfold RdAt at hr
  obtain ⟨R, hR⟩ : ∃ R, strAt d.data.toList a = R := ⟨_, rfl⟩
  rw [hR] at HI ⊢
  clear hR hS hr
  go_enter Tryd.func43, Tryd.ntmps43
  go_wp2
  cases R with
  | none =>
    replace HI : ∀ w, Hid (Calls Tryd.prog 46 #[.string d, .int .i64 (a : Int)] w fun e w' => e = .returned (.tuple #[.string ⟨#[]⟩, .int .i64 0, .int .i64 10]) ∧ w = w') := HI
    go_region_with (go_at_call 46; refine (HI _).out.mono ?_; rintro e w1 ⟨rfl, rfl⟩)
    all_goals go_wp2
    all_goals exact ⟨rfl, HB0.out, rfl⟩
  | some p =>
    obtain ⟨n, k⟩ := p
    replace HI : ∀ w, Hid (Calls Tryd.prog 46 #[.string d, .int .i64 (a : Int)] w fun e w' => e = .returned (.tuple #[.string ⟨n.toArray⟩, .int .i64 (k : Int), .int .i64 0]) ∧ w = w') := HI
    go_region_with (go_at_call 46; refine (HI _).out.mono ?_; rintro e w1 ⟨rfl, rfl⟩)
    all_goals go_wp2
    all_goals go_ret
    all_goals exact ⟨(HB _).out, rfl, (HP k).out⟩
end Go.Proofs.YtfdholhfdceedaaDoor

/- The closure that delta.Apply defers. -/
import Derived.Test.YtfdholhfdceedaaDoorAdd
import Derived.Test.YtfdholhfdceedaaDoorIs
import Derived.Defers
import Derived.Recover
namespace Go.Proofs.YtfdholhfdceedaaDoor
open Go.RowKit

theorem wp_abs {P : Program} {c : Code} {a : Act} {w : World} {Q : Exit → Act → World → Prop} (h : ∀ Q', Hid (Q' = Q) → c.wp P Q' a w) : c.wp P Q a w := h Q (Lib.hid rfl)

set_option maxRecDepth 100000 in
set_option maxHeartbeats 2000000 in
theorem clo_panic {a0 a1 : Addr} (m : Nat) (s0 : ByteArray) (c0 : Int) (b : Bool) (w : World) (hS : Sents a0 a1 w) (hp : w.heap[m]? = some (.cells #[.string s0] 9 (0, 0))) (hq : w.heap[m + 1]? = some (.cells #[.int .i64 c0] 29 (0, 0)))
    (hap : ∀ k, k = 1 ∨ k = 2 ∨ k = a0.block ∨ k = a1.block → k < m) :
    CallsD Tryd.prog 28 #[.pointer (some ⟨m, 0, none⟩), .pointer (some ⟨m + 1, 0, none⟩)] (.panicking [{ v := .iface 110 (.pointer (some (if b then a0 else a1))), recovered := false }]) w
      fun e u' w' => e = .returned (.tuple #[]) ∧ u' = .panicking [{ v := .iface 110 (.pointer (some (if b then a0 else a1))), recovered := true }] ∧ Below m w w' ∧
        w'.cell? ⟨m, 0, none⟩ = some (.string ⟨#[]⟩) ∧ w'.cell? ⟨m + 1, 0, none⟩ = some (.int .i64 (if b then 10 else 190)) := by
  have hT : ∀ (v : Value) (xT : TypeId) (w : World), (Instr.typeAssert (.iface 110 v) xT 71 true).run Tryd.prog w = .ok (.tuple #[.iface 110 v, .bool true]) w := fun v xT w => run_typeAssert_hasB Tryd.underlying71 (by kernel_rfl) v xT w
  have hm1 : 1 < m := hap _ (.inl rfl)
  obtain ⟨w2, hw2⟩ : ∃ w2, (w.setCell ⟨m, 0, none⟩ (.string ⟨#[]⟩)).setCell ⟨m + 1, 0, none⟩ (.int .i64 190) = w2 := ⟨_, rfl⟩
  have hbw : Below m w w2 := by rw [← hw2]; exact ((Below.refl m w).setCell (p := ⟨m, 0, none⟩) (Nat.le_refl _) _).setCell (p := ⟨m + 1, 0, none⟩) (Nat.le_succ m) _
  have hS2 : Sents a0 a1 w2 := hS.kept fun k hk => hbw.block k (hap k hk)
  have hp2 : w2.heap[m]? = some (.cells #[.string ⟨#[]⟩] 9 (0, 0)) := by rw [← hw2]; simp [World.setCell, Array.getElem?_modify, hp]
  have hq2 : w2.heap[m + 1]? = some (.cells #[.int .i64 190] 29 (0, 0)) := by rw [← hw2]; simp [World.setCell, Array.getElem?_modify, hq]
  have g0 := hS2.g0
  have fq2 : w2.frozen? ⟨m + 1, 0, none⟩ = false := Lib.frozen_of_heap hq2 0
  have cq2 : w2.cell? ⟨m + 1, 0, none⟩ = some (.int .i64 190) := by rw [Lib.cell_of_heap hq2]; rfl
  have HB2 := Lib.hid hbw; have HS2 := Lib.hid hS2; have HP2 := Lib.hid hp2; have HQ2 := Lib.hid hq2
  clear hbw hS2 hp2 hq2
  have cp : w.cell? ⟨m, 0, none⟩ = some (.string s0) := by rw [Lib.cell_of_heap hp]; rfl
  have cq : w.cell? ⟨m + 1, 0, none⟩ = some (.int .i64 c0) := by rw [Lib.cell_of_heap hq]; rfl
  have fp : w.frozen? ⟨m, 0, none⟩ = false := Lib.frozen_of_heap hp 0
  have fq : w.frozen? ⟨m + 1, 0, none⟩ = false := Lib.frozen_of_heap hq 0
  refine callsD_of_wpS Tryd.func28 rfl fun c₀ cs hu => ?_
  apply wpS_seq
  apply wpS_region
  simp [wpOpsS, go_sem, recoverD, hu, Tryd.ntmps28, Exit.thenS]
  obtain ⟨ax, hax⟩ : ∃ ax, (if b = true then a0 else a1) = ax := ⟨_, rfl⟩
  rw [hax]
  have HAX := Lib.hid hax; clear hax
  have HP := Lib.hid hp; have HQ := Lib.hid hq; have HS := Lib.hid hS; have HAP := Lib.hid hap; have HU := Lib.hid hu
  clear hp hq hS hap hu
  have ht : (#[Value.pointer (some { block := m, off := 0 }), Value.pointer (some { block := m + 1, off := 0 })] ++ ((Array.replicate 17 undef).setIfInBounds 3 (Value.iface 110 (Value.pointer (some ax)))).setIfInBounds 0 (Value.iface 110 (Value.pointer (some ax)))) = #[Value.pointer (some { block := m, off := 0 }), Value.pointer (some { block := m + 1, off := 0 }), Value.iface 110 (Value.pointer (some ax)), undef, undef, Value.iface 110 (Value.pointer (some ax)), undef, undef, undef, undef, undef, undef, undef, undef, undef, undef, undef, undef, undef] := rfl
  rw [ht]
  clear ht
  refine wpS_of_wp ?_
  refine wp_abs fun Q HPO => ?_
  go_wp2_with fail
  cases b with
  | true =>
    obtain rfl : a0 = ax := HAX.out
    refine (is_same a0 w2).mono ?_
    rintro e w3 ⟨rfl, rfl⟩
    go_wp2
    rw [HPO.out]
    exact ⟨rfl, _, rfl, _, results_none rfl _ _ _, rfl, rfl, HB2.out.setCell (p := ⟨m + 1, 0, none⟩) (Nat.le_succ m) _, by simp [World.cell?, World.setCell, Array.getElem?_modify, HP2.out], by simp [World.cell?, World.setCell, Array.getElem?_modify, HQ2.out]⟩
  | false =>
    obtain rfl : a1 = ax := HAX.out
    obtain ⟨c1, t1, hr1⟩ := HS2.out.r1
    obtain ⟨c2, t2, hr2⟩ := HS2.out.r0
    refine (is_other a1 a0 c1 c2 t1 t2 w2 (fun h => HS2.out.ne h.symm) hr1 hr2).mono ?_
    rintro e w3 ⟨rfl, rfl⟩
    clear hr1 hr2
    go_wp2
    rw [HPO.out]
    exact ⟨rfl, _, rfl, _, results_none rfl _ _ _, rfl, rfl, HB2.out, by rw [Lib.cell_of_heap HP2.out]; rfl, by rw [Lib.cell_of_heap HQ2.out]; rfl⟩

set_option maxRecDepth 100000 in
set_option maxHeartbeats 2000000 in
theorem clo_idle (p q : Addr) (w : World) :
    CallsD Tryd.prog 28 #[.pointer (some p), .pointer (some q)] .returning w fun e u' w' => e = .returned (.tuple #[]) ∧ u' = .returning ∧ w = w' := by
  refine callsD_of_wpS Tryd.func28 rfl fun c₀ cs hu => ?_
  apply wpS_seq
  apply wpS_region
  simp [wpOpsS, go_sem, recoverD, hu, Tryd.ntmps28, Exit.thenS]
  have ht : (#[Value.pointer (some p), Value.pointer (some q)] ++ ((Array.replicate 17 undef).setIfInBounds 3 Value.nilIface).setIfInBounds 0 Value.nilIface) = #[Value.pointer (some p), Value.pointer (some q), Value.nilIface, undef, undef, Value.nilIface, undef, undef, undef, undef, undef, undef, undef, undef, undef, undef, undef, undef, undef] := rfl
  rw [ht]
  clear ht
  refine wpS_of_wp ?_
  refine wp_abs fun Q HPO => ?_
  go_wp2_with fail
  rw [HPO.out]
  have hc : ({ c₀ with mode := .returning } : Frame) = c₀ := by rw [← hu]
  exact ⟨rfl, .returning, by rw [hc], _, results_none rfl _ _ _, rfl, rfl, rfl⟩
end Go.Proofs.YtfdholhfdceedaaDoor

/- Facts and contracts for the laws of the sender, part 19. Conditions: those that each theorem names. -/
import Derived.Test.YtefloieanpgnmaaDoorK18
import Derived.Test.YtefloieanpgnmaaDoorK03
import Derived.Outline
import Derived.Deep.DeepCutAuto
import Derived.Deep.RegionHeld3
/- The messages that are due. -/
namespace Go.Proofs.YtefloieanpgnmaaDoor
open Go.RowKit

theorem u64_sub (a b : Int) (h : b ≤ a) (h1 : -9223372036854775808 ≤ b) (h2 : a ≤ 9223372036854775807) : IntKind.u64.wrap (IntKind.u64.wrap a - IntKind.u64.wrap b) = a - b := by
  unfold IntKind.wrap
  simp only [IntKind.bits, IntKind.signed]
  simp
  omega
set_option maxHeartbeats 1000000 in
theorem due_any (w : World) (g B : Nat) (o : Out) (now : Int) (hg : w.heap[g]? = some (.cells (outC o) 85 (0, 0))) (hB : w.cell? ⟨B, 0, none⟩ = some (.int .i64 now)) (h1 : -9223372036854775808 ≤ now ∧ now ≤ 9223372036854775807) (h2 : -9223372036854775808 ≤ o.tm ∧ o.tm ≤ 9223372036854775807) :
    Calls Tryd.prog 33 #[.pointer (some ⟨g, 0, none⟩), .pointer (some ⟨B, 0, none⟩)] w fun e w' => e = .returned (.bool (due now o)) ∧ Below w.heap.size w w' := by
  have c9 : w.cell? ⟨g, 9, none⟩ = some (.bool o.sent) := by rw [Lib.cell_of_heap hg]; rfl
  have c10 : w.cell? ⟨g, 10, none⟩ = some (.int .i64 o.tm) := by rw [Lib.cell_of_heap hg]; rfl
  obtain ⟨h1a, h1b⟩ := h1
  obtain ⟨h2a, h2b⟩ := h2
  unfold due
  obtain ⟨tm, htm⟩ : ∃ t, o.tm = t := ⟨_, rfl⟩
  rw [htm] at c10 h2a h2b ⊢
  clear htm hg
  cases hs : o.sent with
  | false =>
    rw [hs] at c9
    clear hs
    go_enter Tryd.func33, Tryd.ntmps33
    go_wp2
    go_quiet (fail)
    go_wp2
    go_ret
    exact ⟨rfl, (Below.refl _ w).drewN _⟩
  | true =>
    rw [hs] at c9
    clear hs
    by_cases hlt : now < tm
    · have g1 : decide (now < tm) = true := by simpa using hlt
      simp only [Bool.not_true, Bool.false_or, g1, Bool.true_or]
      go_enter Tryd.func33, Tryd.ntmps33
      go_wp2
      go_quiet (fail)
      go_wp2
      go_ret
      exact ⟨rfl, (Below.refl _ w).drewN _⟩
    · have g1 : decide (now < tm) = false := by simpa using hlt
      simp only [Bool.not_true, Bool.false_or, g1]
      go_enter Tryd.func33, Tryd.ntmps33
      go_wp2
      go_quiet (fail)
      go_wp2
      go_ret
      refine ⟨?_, (Below.refl _ w).drewN _⟩
      show Ending.returned (.bool (decide (8 ≤ IntKind.u64.wrap (IntKind.u64.wrap now - IntKind.u64.wrap tm)))) = _
      rw [u64_sub now tm (by omega) h2a h1b]
theorem row_stay {w w' : World} {base : Nat} {v : Value} {n : Nat} {xs : List Value} {e : TypeId} {size : Nat} (h : w.ownsRow base e size v n xs) (hk : ∀ j, v.ownBlock = some j → w'.heap[j]? = w.heap[j]?) : w'.ownsRow base e size v n xs := by
  refine ⟨h.1, ?_⟩
  rcases h.2 with h0 | ⟨g, cap, cur, rfl, hb, hg, r⟩
  · exact .inl h0
  · exact .inr ⟨g, cap, cur, rfl, hb, (hk g rfl).trans hg, r⟩
/-- the chosen ones of the first stories -/
def selK (S : Sen) (p : Out → Bool) (k : Nat) : List Nat := (List.range k).filter fun i => match (S.st i).out with | some o => p o | none => false
theorem selK_len (S : Sen) (p : Out → Bool) (k : Nat) : (selK S p k).length ≤ k := by
  unfold selK
  have := List.length_filter_le (fun i => match (S.st i).out with | some o => p o | none => false) (List.range k)
  rwa [List.length_range] at this
theorem selK_none {S : Sen} {p : Out → Bool} {k : Nat} (h : (S.st k).out = none) : selK S p (k + 1) = selK S p k := by
  unfold selK; rw [List.range_succ, List.filter_append]; simp [h]
theorem selK_some {S : Sen} {p : Out → Bool} {k : Nat} {o : Out} (h : (S.st k).out = some o) (hp : p o = true) : selK S p (k + 1) = selK S p k ++ [k] := by
  unfold selK; rw [List.range_succ, List.filter_append]; simp [h, hp]
theorem selK_not {S : Sen} {p : Out → Bool} {k : Nat} {o : Out} (h : (S.st k).out = some o) (hp : p o = false) : selK S p (k + 1) = selK S p k := by
  unfold selK; rw [List.range_succ, List.filter_append]; simp [h, hp]
theorem selK_mem {S : Sen} {p : Out → Bool} {k : Nat} {i : Nat} (h : i ∈ selK S p k) : i < k ∧ (S.st i).out.isSome = true := by
  unfold selK at h
  rw [List.mem_filter, List.mem_range] at h
  refine ⟨h.1, ?_⟩
  cases ho : (S.st i).out with
  | none => rw [ho] at h; simp at h
  | some o => rfl

set_option maxRecDepth 100000 in
set_option maxHeartbeats 4000000 in
theorem selAll {T : Nat → Prop} {w : World} {b : Nat} {S : Sen} {P : Nat → Option Nat} (h : SenAt T w b S P) :
    Calls Tryd.prog 30 #[.pointer (some ⟨b, 0, none⟩), .func (.func 40) #[] #[]] w fun e w' => ∃ v, e = .returned v ∧ w'.ownsRow w.heap.size 75 1 v (S.sel (fun _ => true)).length ((S.sel (fun _ => true)).map fun i => ptrV (P i)) ∧ Below w.heap.size w w' := by
  obtain ⟨i0, hi, hz0, hz1, hz2⟩ := info_parts infoPtr
  have HH := Lib.hid h
  have hbl := h.blt
  clear h
  go_enter Tryd.func30, Tryd.ntmps30
  go_wp2
  go_loopw [5, 8] (fun u i wr => ∃ k : Nat, i = .int .i64 k ∧ k ≤ 64 ∧ Hid (wr.ownsRow w.heap.size 75 1 u (selK S (fun _ => true) k).length ((selK S (fun _ => true) k).map fun i => ptrV (P i))) ∧ Hid (Below w.heap.size w wr)) (fun _ i _ => 64 - (intOf i).toNat)
  case atStart => exact ⟨0, rfl, by omega, Lib.hid ⟨rfl, .inl ⟨rfl, rfl⟩⟩, Lib.hid (Below.refl _ _)⟩
  case round =>
    obtain ⟨k, rfl, hk, HO, HB⟩ := hrel
    by_cases hk64 : k < 64
    · have hki : (k : Int) < 64 := by omega
      have s4 := ((HH.out.below HB.out).story hk64 4 (by omega)).1
      simp only [stoV] at s4
      have hkl := selK_len S (fun _ => true) k
      cases ho : (S.st k).out with
      | none =>
        have hp := HH.out.nout k hk64 ho
        rw [hp] at s4
        simp only [ptrV, Option.map_none] at s4
        have HSU := Lib.hid (selK_none (p := (fun _ => true)) ho)
        have HO3 : Hid (wr.ownsRow w.heap.size 75 1 u5 (selK S (fun _ => true) (k + 1)).length ((selK S (fun _ => true) (k + 1)).map fun i => ptrV (P i))) := Lib.hid (by rw [HSU.out]; exact HO.out)
        clear hp ho HO HSU
        go_wp2
        go_roundw
        case rel => exact ⟨k + 1, by go_num, by omega, HO3, HB⟩
        case measure => simp [intOf]; omega
      | some o =>
        obtain ⟨g, hp, -, -, hgb⟩ := (HH.out.below HB.out).sout k o hk64 ho
        rw [hp] at s4
        simp only [ptrV, Option.map_some] at s4
        have HPk := Lib.hid hp
        clear hgb
        have HSU : Hid (selK S (fun _ => true) (k + 1) = selK S (fun _ => true) k ++ [k]) := Lib.hid (selK_some ho rfl)
        clear ho
        go_wp2_with fail
        refine ((all_out _ wr).mono fun e w' h => ⟨h.1, show Below wr.heap.size wr w' by rw [← h.2]; exact Below.refl _ _⟩ : Calls _ _ _ _ fun e w' => e = .returned (.bool true) ∧ Below wr.heap.size wr w').mono ?_
        rintro e w2 ⟨rfl, hb2⟩
        have HB2 := Lib.hid (HB.out.trans (hb2.mono HB.out.size))
        have hrow0 := HO.out
        have hrow := row_stay hrow0 fun j hj => hb2.block j (hrow0.lt j hj).2
        clear hb2 hp HO hrow0
        go_wp2_with (at_builtin; refine wpList_append_own _ rfl _ _ 88 rfl w.heap.size 75 i0 _ 1 8 Tryd.underlying88 hi hz0 hz1 hz2 rfl (by decide) _ _ _ rfl (hrow.alloc _) ⟨w2.heap.size, 0, none⟩ 1 1 [.pointer (some ⟨g, 0, none⟩)] rfl rfl (World.news_of_block (cs := #[.pointer (some ⟨g, 0, none⟩)]) (t := 75) (fr := (0, 0)) (heap_alloc_new w2 _)) (by simp [Value.oneCell']) (by unfold maxLen; omega) (by omega) (by have := HB2.out.size; first | omega | (simp; omega)) ?_)
        intro v' w3 ho3 hg3 _
        have HO3 : Hid (w3.ownsRow w.heap.size 75 1 v' (selK S (fun _ => true) (k + 1)).length ((selK S (fun _ => true) (k + 1)).map fun i => ptrV (P i))) := Lib.hid (by
          rw [HSU.out, List.length_append, List.map_append]
          simpa [ptrV, HPk.out] using ho3)
        have HB3 : Hid (Below w.heap.size w w3) := Lib.hid ((HB2.out.alloc HB2.out.size _).grown hg3 (by have := HB2.out.size; simp; omega) (fun j e => (hrow.lt j e).1))
        clear ho3 hg3
        go_wp2
        go_roundw
        case rel => exact ⟨k + 1, by go_num, by omega, HO3, HB3⟩
        case measure => simp [intOf]; omega
    · obtain rfl : k = 64 := by omega
      have hs := sort_any HH.out HB.out (selK S (fun _ => true) 64) (fun i hi => selK_mem hi) (selK_len S (fun _ => true) 64) u5 HO.out
      have hse : (selK S (fun _ => true) 64).mergeSort (fun i j => decide (S.seqAt i ≤ S.seqAt j)) = S.sel (fun _ => true) := rfl
      have hsl : (selK S (fun _ => true) 64).length = (S.sel (fun _ => true)).length := by rw [← hse, List.length_mergeSort]
      rw [hse, hsl] at hs
      have HS := Lib.hid hs
      clear hs hse hsl HO
      go_wp2_with fail
      refine HS.out.mono ?_
      rintro e w2 ⟨rfl, hr2, hb2⟩
      have HR2 := Lib.hid hr2; have HB2 := Lib.hid (HB.out.trans hb2)
      clear hr2 hb2 HS
      go_wp2
      go_ret
      exact ⟨_, rfl, HR2.out, HB2.out⟩

set_option maxRecDepth 100000 in
set_option maxHeartbeats 4000000 in
theorem selAll2 {T : Nat → Prop} {w : World} {b : Nat} {S : Sen} {P : Nat → Option Nat} (h : SenAt T w b S P) :
    Calls Tryd.prog 30 #[.pointer (some ⟨b, 0, none⟩), .func (.func 31) #[] #[]] w fun e w' => ∃ v, e = .returned v ∧ w'.ownsRow w.heap.size 75 1 v (S.sel (fun _ => true)).length ((S.sel (fun _ => true)).map fun i => ptrV (P i)) ∧ Below w.heap.size w w' := by
  obtain ⟨i0, hi, hz0, hz1, hz2⟩ := info_parts infoPtr
  have HH := Lib.hid h
  have hbl := h.blt
  clear h
  go_enter Tryd.func30, Tryd.ntmps30
  go_wp2
  go_loopw [5, 8] (fun u i wr => ∃ k : Nat, i = .int .i64 k ∧ k ≤ 64 ∧ Hid (wr.ownsRow w.heap.size 75 1 u (selK S (fun _ => true) k).length ((selK S (fun _ => true) k).map fun i => ptrV (P i))) ∧ Hid (Below w.heap.size w wr)) (fun _ i _ => 64 - (intOf i).toNat)
  case atStart => exact ⟨0, rfl, by omega, Lib.hid ⟨rfl, .inl ⟨rfl, rfl⟩⟩, Lib.hid (Below.refl _ _)⟩
  case round =>
    obtain ⟨k, rfl, hk, HO, HB⟩ := hrel
    by_cases hk64 : k < 64
    · have hki : (k : Int) < 64 := by omega
      have s4 := ((HH.out.below HB.out).story hk64 4 (by omega)).1
      simp only [stoV] at s4
      have hkl := selK_len S (fun _ => true) k
      cases ho : (S.st k).out with
      | none =>
        have hp := HH.out.nout k hk64 ho
        rw [hp] at s4
        simp only [ptrV, Option.map_none] at s4
        have HSU := Lib.hid (selK_none (p := (fun _ => true)) ho)
        have HO3 : Hid (wr.ownsRow w.heap.size 75 1 u5 (selK S (fun _ => true) (k + 1)).length ((selK S (fun _ => true) (k + 1)).map fun i => ptrV (P i))) := Lib.hid (by rw [HSU.out]; exact HO.out)
        clear hp ho HO HSU
        go_wp2
        go_roundw
        case rel => exact ⟨k + 1, by go_num, by omega, HO3, HB⟩
        case measure => simp [intOf]; omega
      | some o =>
        obtain ⟨g, hp, -, -, hgb⟩ := (HH.out.below HB.out).sout k o hk64 ho
        rw [hp] at s4
        simp only [ptrV, Option.map_some] at s4
        have HPk := Lib.hid hp
        clear hgb
        have HSU : Hid (selK S (fun _ => true) (k + 1) = selK S (fun _ => true) k ++ [k]) := Lib.hid (selK_some ho rfl)
        clear ho
        go_wp2_with fail
        refine ((all_out2 _ wr).mono fun e w' h => ⟨h.1, show Below wr.heap.size wr w' by rw [← h.2]; exact Below.refl _ _⟩ : Calls _ _ _ _ fun e w' => e = .returned (.bool true) ∧ Below wr.heap.size wr w').mono ?_
        rintro e w2 ⟨rfl, hb2⟩
        have HB2 := Lib.hid (HB.out.trans (hb2.mono HB.out.size))
        have hrow0 := HO.out
        have hrow := row_stay hrow0 fun j hj => hb2.block j (hrow0.lt j hj).2
        clear hb2 hp HO hrow0
        go_wp2_with (at_builtin; refine wpList_append_own _ rfl _ _ 88 rfl w.heap.size 75 i0 _ 1 8 Tryd.underlying88 hi hz0 hz1 hz2 rfl (by decide) _ _ _ rfl (hrow.alloc _) ⟨w2.heap.size, 0, none⟩ 1 1 [.pointer (some ⟨g, 0, none⟩)] rfl rfl (World.news_of_block (cs := #[.pointer (some ⟨g, 0, none⟩)]) (t := 75) (fr := (0, 0)) (heap_alloc_new w2 _)) (by simp [Value.oneCell']) (by unfold maxLen; omega) (by omega) (by have := HB2.out.size; first | omega | (simp; omega)) ?_)
        intro v' w3 ho3 hg3 _
        have HO3 : Hid (w3.ownsRow w.heap.size 75 1 v' (selK S (fun _ => true) (k + 1)).length ((selK S (fun _ => true) (k + 1)).map fun i => ptrV (P i))) := Lib.hid (by
          rw [HSU.out, List.length_append, List.map_append]
          simpa [ptrV, HPk.out] using ho3)
        have HB3 : Hid (Below w.heap.size w w3) := Lib.hid ((HB2.out.alloc HB2.out.size _).grown hg3 (by have := HB2.out.size; simp; omega) (fun j e => (hrow.lt j e).1))
        clear ho3 hg3
        go_wp2
        go_roundw
        case rel => exact ⟨k + 1, by go_num, by omega, HO3, HB3⟩
        case measure => simp [intOf]; omega
    · obtain rfl : k = 64 := by omega
      have hs := sort_any HH.out HB.out (selK S (fun _ => true) 64) (fun i hi => selK_mem hi) (selK_len S (fun _ => true) 64) u5 HO.out
      have hse : (selK S (fun _ => true) 64).mergeSort (fun i j => decide (S.seqAt i ≤ S.seqAt j)) = S.sel (fun _ => true) := rfl
      have hsl : (selK S (fun _ => true) 64).length = (S.sel (fun _ => true)).length := by rw [← hse, List.length_mergeSort]
      rw [hse, hsl] at hs
      have HS := Lib.hid hs
      clear hs hse hsl HO
      go_wp2_with fail
      refine HS.out.mono ?_
      rintro e w2 ⟨rfl, hr2, hb2⟩
      have HR2 := Lib.hid hr2; have HB2 := Lib.hid (HB.out.trans hb2)
      clear hr2 hb2 HS
      go_wp2
      go_ret
      exact ⟨_, rfl, HR2.out, HB2.out⟩

set_option maxRecDepth 100000 in
set_option maxHeartbeats 4000000 in
theorem selDue {T : Nat → Prop} {w : World} {b : Nat} {S : Sen} {P : Nat → Option Nat} (h : SenAt T w b S P) (B : Nat) (now : Int) (hB : w.cell? ⟨B, 0, none⟩ = some (.int .i64 now)) (hnow : -9223372036854775808 ≤ now ∧ now ≤ 9223372036854775807) :
    Calls Tryd.prog 30 #[.pointer (some ⟨b, 0, none⟩), .func (.func 33) #[] #[.pointer (some ⟨B, 0, none⟩)]] w fun e w' => ∃ v, e = .returned v ∧ w'.ownsRow w.heap.size 75 1 v (S.sel (due now)).length ((S.sel (due now)).map fun i => ptrV (P i)) ∧ Below w.heap.size w w' := by
  obtain ⟨i0, hi, hz0, hz1, hz2⟩ := info_parts infoPtr
  have HH := Lib.hid h
  have hbl := h.blt
  clear h
  go_enter Tryd.func30, Tryd.ntmps30
  go_wp2
  go_loopw [5, 8] (fun u i wr => ∃ k : Nat, i = .int .i64 k ∧ k ≤ 64 ∧ Hid (wr.ownsRow w.heap.size 75 1 u (selK S (due now) k).length ((selK S (due now) k).map fun i => ptrV (P i))) ∧ Hid (Below w.heap.size w wr)) (fun _ i _ => 64 - (intOf i).toNat)
  case atStart => exact ⟨0, rfl, by omega, Lib.hid ⟨rfl, .inl ⟨rfl, rfl⟩⟩, Lib.hid (Below.refl _ _)⟩
  case round =>
    obtain ⟨k, rfl, hk, HO, HB⟩ := hrel
    by_cases hk64 : k < 64
    · have hki : (k : Int) < 64 := by omega
      have s4 := ((HH.out.below HB.out).story hk64 4 (by omega)).1
      simp only [stoV] at s4
      have hkl := selK_len S (due now) k
      cases ho : (S.st k).out with
      | none =>
        have hp := HH.out.nout k hk64 ho
        rw [hp] at s4
        simp only [ptrV, Option.map_none] at s4
        have HSU := Lib.hid (selK_none (p := (due now)) ho)
        have HO3 : Hid (wr.ownsRow w.heap.size 75 1 u5 (selK S (due now) (k + 1)).length ((selK S (due now) (k + 1)).map fun i => ptrV (P i))) := Lib.hid (by rw [HSU.out]; exact HO.out)
        clear hp ho HO HSU
        go_wp2
        go_roundw
        case rel => exact ⟨k + 1, by go_num, by omega, HO3, HB⟩
        case measure => simp [intOf]; omega
      | some o =>
        obtain ⟨g, hp, -, -, hgb⟩ := (HH.out.below HB.out).sout k o hk64 ho
        rw [hp] at s4
        simp only [ptrV, Option.map_some] at s4
        have HPk := Lib.hid hp
        have hot := (HH.out.ok.outs k o ho).2.2.2.2
        have hb0 : wr.cell? ⟨B, 0, none⟩ = some (.int .i64 now) := (HB.out.cell (World.block_lt_of_cell? w _ hB)).trans hB
        have HD := Lib.hid (due_any wr g B o now hgb hb0 hnow hot)
        have HS1 : Hid (due now o = true → selK S (due now) (k + 1) = selK S (due now) k ++ [k]) := Lib.hid (fun hd => selK_some ho hd)
        have HS2 : Hid (due now o = false → selK S (due now) (k + 1) = selK S (due now) k) := Lib.hid (fun hd => selK_not ho hd)
        obtain ⟨D, hD⟩ : ∃ D, due now o = D := ⟨_, rfl⟩
        rw [hD] at HD HS1 HS2
        clear ho hgb hot hb0 hD
        go_wp2_with fail
        refine HD.out.mono ?_
        rintro e w2 ⟨rfl, hb2⟩
        have HB2 := Lib.hid (HB.out.trans (hb2.mono HB.out.size))
        have hrow0 := HO.out
        have hrow := row_stay hrow0 fun j hj => hb2.block j (hrow0.lt j hj).2
        clear hb2 hp HO hrow0
        cases D with
        | true =>
          have HSU := Lib.hid (HS1.out rfl)
          go_wp2_with (at_builtin; refine wpList_append_own _ rfl _ _ 88 rfl w.heap.size 75 i0 _ 1 8 Tryd.underlying88 hi hz0 hz1 hz2 rfl (by decide) _ _ _ rfl (hrow.alloc _) ⟨w2.heap.size, 0, none⟩ 1 1 [.pointer (some ⟨g, 0, none⟩)] rfl rfl (World.news_of_block (cs := #[.pointer (some ⟨g, 0, none⟩)]) (t := 75) (fr := (0, 0)) (heap_alloc_new w2 _)) (by simp [Value.oneCell']) (by unfold maxLen; omega) (by omega) (by have := HB2.out.size; first | omega | (simp; omega)) ?_)
          intro v' w3 ho3 hg3 _
          have HO3 : Hid (w3.ownsRow w.heap.size 75 1 v' (selK S (due now) (k + 1)).length ((selK S (due now) (k + 1)).map fun i => ptrV (P i))) := Lib.hid (by
            rw [HSU.out, List.length_append, List.map_append]
            simpa [ptrV, HPk.out] using ho3)
          have HB3 : Hid (Below w.heap.size w w3) := Lib.hid ((HB2.out.alloc HB2.out.size _).grown hg3 (by have := HB2.out.size; simp; omega) (fun j e => (hrow.lt j e).1))
          clear ho3 hg3
          go_wp2
          go_roundw
          case rel => exact ⟨k + 1, by go_num, by omega, HO3, HB3⟩
          case measure => simp [intOf]; omega
        | false =>
          have HSU := Lib.hid (HS2.out rfl)
          have HO3 : Hid (w2.ownsRow w.heap.size 75 1 u5 (selK S (due now) (k + 1)).length ((selK S (due now) (k + 1)).map fun i => ptrV (P i))) := Lib.hid (by rw [HSU.out]; exact hrow)
          go_wp2
          go_roundw
          case rel => exact ⟨k + 1, by go_num, by omega, HO3, HB2⟩
          case measure => simp [intOf]; omega
    · obtain rfl : k = 64 := by omega
      have hs := sort_any HH.out HB.out (selK S (due now) 64) (fun i hi => selK_mem hi) (selK_len S (due now) 64) u5 HO.out
      have hse : (selK S (due now) 64).mergeSort (fun i j => decide (S.seqAt i ≤ S.seqAt j)) = S.sel (due now) := rfl
      have hsl : (selK S (due now) 64).length = (S.sel (due now)).length := by rw [← hse, List.length_mergeSort]
      rw [hse, hsl] at hs
      have HS := Lib.hid hs
      clear hs hse hsl HO
      go_wp2_with fail
      refine HS.out.mono ?_
      rintro e w2 ⟨rfl, hr2, hb2⟩
      have HR2 := Lib.hid hr2; have HB2 := Lib.hid (HB.out.trans hb2)
      clear hr2 hb2 HS
      go_wp2
      go_ret
      exact ⟨_, rfl, HR2.out, HB2.out⟩

end Go.Proofs.YtefloieanpgnmaaDoor
/- plan: what its loops keep. -/
namespace Go.Proofs.YtefloieanpgnmaaDoor
open Go.RowKit

theorem upd_upd (f : Nat → Sto) (i : Nat) (x y : Sto) : upd (upd f i x) i y = upd f i y := by
  funext j; unfold upd; split <;> rfl
theorem upd_self (f : Nat → Sto) (i : Nat) : upd f i (f i) = f := by
  funext j; unfold upd; split
  · rename_i e; rw [e]
  · rfl
theorem drops_succ (S : Sen) (now : Int) (k : Nat) : S.drops now (k + 1) = { S.drops now k with st := upd (S.drops now k).st k (drop1 (S.tgt k now) (S.st k)) } := by
  unfold Sen.drops
  simp only [Sen.mk.injEq, true_and]
  funext j
  unfold upd
  by_cases h : j = k
  · subst h; simp
  · by_cases h2 : j < k
    · simp [h, h2, show j < k + 1 by omega]
    · simp [h, h2, show ¬ j < k + 1 by omega]
theorem drops_at (S : Sen) (now : Int) (k : Nat) : (S.drops now k).st k = S.st k := by simp [Sen.drops]
theorem drops_tgt (S : Sen) (now : Int) (k i : Nat) (t : Int) : (S.drops now k).tgt i t = S.tgt i t := by
  unfold Sen.tgt Sen.drops
  simp only
  split
  · rfl
  · split
    · unfold drop1
      split
      · rfl
      · split <;> rfl
    · rfl
theorem drops_zero (S : Sen) (now : Int) : S.drops now 0 = S := by simp [Sen.drops]
/-- the sender after stores into its own blocks -/
theorem Snd.of {a0 a1 : Addr} {w0 : World} {T T' : Nat → Prop} {w w' : World} {b : Nat} {S S' : Sen} {P P' : Nat → Option Nat} (h : Snd a0 a1 w0 T w b S P) (h' : SenAt T' w' b S' P') (hb : But T w.heap.size w w') (hT : ∀ k, T' k → T k ∨ w.heap.size ≤ k) : Snd a0 a1 w0 T' w' b S' P' :=
  ⟨h', fun k hk => by
    rcases hT k hk with h1 | h1
    · exact h.low k h1
    · exact Nat.le_trans h.lw.bel.size h1, ⟨h.lw.S, h.lw.H, h.lw.bel.trans (hb.below h.lw.bel.size h.low)⟩⟩

/-- out := a new message -/
theorem SenAt.putOut {T : Nat → Prop} {w : World} {b : Nat} {S : Sen} {P : Nat → Option Nat} (h : SenAt T w b S P) {i : Nat} (hi : i < 64) (o : Out) (g : Nat) (hok : SenOk { S with st := upd S.st i { S.st i with out := some o } }) (hg : w.heap[g]? = some (.cells (outC o) 85 (0, 0))) (hgT : ¬ T g) :
    SenAt (fun k => T k ∨ k = g) (w.setCell ⟨b, 4 + i * 13 + 4, none⟩ (.pointer (some ⟨g, 0, none⟩))) b { S with st := upd S.st i { S.st i with out := some o } } (updP P i (some g)) := by
  have hgb : g ≠ b := fun e => hgT (by rw [e]; exact h.own)
  have hF := h.cells.set (k := 4 + i * 13 + 4) (by omega) (.pointer (some ⟨g, 0, none⟩))
  have hblk : ∀ j, j ≠ b → (w.setCell ⟨b, 4 + i * 13 + 4, none⟩ (.pointer (some ⟨g, 0, none⟩))).heap[j]? = w.heap[j]? := fun j hj => Below.heap_setCell _ ⟨b, _, none⟩ _ j hj
  have hgl : g < w.heap.size := (Array.getElem?_eq_some_iff.1 hg).1
  exact h.story1 hi (x := { S.st i with out := some o }) (p := some g) (c := S.counter) (T' := fun k => T k ∨ k = g) hok
    (fun _ hk => .inl hk) (fun k hk => by
      simp
      rcases hk with hk | hk
      · exact h.lt k hk
      · rw [hk]; exact hgl) hF (fun c hc => by
      match c, hc with
      | 0, _ => simp [updV, senV_at0, stoV]
      | 1, _ => simp [updV, senV_at, stoV]
      | 2, _ => simp [updV, senV_at, stoV]
      | 3, _ => simp [updV, senV_at, stoV]
      | 4, _ => simp [updV, stoV, ptrV]
      | 5, _ => simp [updV, senV_at, stoV, ackN]
      | 6, _ => simp [updV, senV_at, stoV, ackM]
      | 7, _ => simp [updV, senV_at, stoV, ackM]
      | 8, _ => simp [updV, senV_at, stoV, ackM]
      | 9, _ => simp [updV, senV_at, stoV, ackM]
      | 10, _ => simp [updV, senV_at, stoV, ackM]
      | 11, _ => simp [updV, senV_at, stoV, ackM]
      | 12, _ => simp [updV, senV_at, stoV, ackM]) (by unfold updV; rw [if_neg (by omega)]; rfl) (fun o' h2 ho => by
      unfold updV
      rw [if_neg (ho 4 (by omega))])
    (fun j _ hj => hblk j hj) (fun ho => by cases ho) (fun o' ho => by
      cases ho
      exact ⟨g, rfl, .inr rfl, hgb, (hblk g hgb).trans hg⟩) (fun j g' hj hji h1 h2 => by
      cases h1
      cases hoj : (S.st j).out with
      | none => rw [h.nout j hj hoj] at h2; cases h2
      | some oj =>
        obtain ⟨g2, h3, h4, -, -⟩ := h.sout j oj hj hoj
        rw [h2] at h3
        cases h3
        exact hgT h4)

theorem keep3 {w0 w1 w2 : World} {p q r : Addr} {x y z : Value} (h : w1.cell? p = some x ∧ w1.cell? q = some y ∧ w1.cell? r = some z ∧ Below w0.heap.size w0 w1) (hb : Below w1.heap.size w1 w2) : w2.cell? p = some x ∧ w2.cell? q = some y ∧ w2.cell? r = some z ∧ Below w0.heap.size w0 w2 :=
  ⟨(hb.cell (World.block_lt_of_cell? w1 _ h.1)).trans h.1, (hb.cell (World.block_lt_of_cell? w1 _ h.2.1)).trans h.2.1, (hb.cell (World.block_lt_of_cell? w1 _ h.2.2.1)).trans h.2.2.1, h.2.2.2.trans (hb.mono h.2.2.2.size)⟩

def funs (_ : World) : Obj := .cells #[.func (.func 37) #[] #[], .func (.func 38) #[] #[], .func (.func 39) #[] #[]] 97 (0, 0)
/-- the loops that fill -/
def FillSt (a0 a1 : Addr) (w0 w : World) (T : Nat → Prop) (b F : Nat) (X : Sen × Nat) (W : World) : Prop := ∃ (T' : Nat → Prop) (P' : Nat → Option Nat), Snd a0 a1 w0 T' W b X.1 P' ∧ But T w.heap.size w W ∧ (∀ k, T' k → T k ∨ w.heap.size ≤ k) ∧ ¬ T' F ∧ W.heap[F]? = some (funs W) ∧ X.2 ≤ 64
/-- function number fn is the chooser of pass c -/
structure ClsIs (c fn : Nat) : Prop where
  enters : ∀ args w, (callFunc fn args).run Tryd.prog w = .ok (.enter fn args) w
  calls : ∀ (k o : Kn) (w : World), Calls Tryd.prog fn #[k.enc, o.enc] w fun e w' => e = .returned (.bool (cls c k o)) ∧ Below w.heap.size w w'
theorem funs_at {a0 a1 : Addr} {w0 w : World} {T : Nat → Prop} {b F : Nat} {X : Sen × Nat} {W : World} (h : FillSt a0 a1 w0 w T b F X W) {c : Nat} (hc : c < 3) : ∃ fn, Hid (ClsIs c fn) ∧ W.cell? ⟨F, c, none⟩ = some (.func (.func fn) #[] #[]) := by
  obtain ⟨_, _, _, _, _, _, hF, _⟩ := h
  unfold funs at hF
  match c, hc with
  | 0, _ => exact ⟨_, Lib.hid ⟨enters_of Tryd.func37 (by kernel_rfl) rfl, fun k o w => cls0_any k o w⟩, by rw [Lib.cell_of_heap hF]; rfl⟩
  | 1, _ => exact ⟨_, Lib.hid ⟨enters_of Tryd.func38 (by kernel_rfl) rfl, fun k o w => cls1_any k o w⟩, by rw [Lib.cell_of_heap hF]; rfl⟩
  | 2, _ => exact ⟨_, Lib.hid ⟨enters_of Tryd.func39 (by kernel_rfl) rfl, fun k o w => cls2_any k o w⟩, by rw [Lib.cell_of_heap hF]; rfl⟩

theorem two_at {w wn : World} {x y : Value} {t : TypeId} (h : Below (w.alloc (.cells #[x, y] t)).drew.heap.size (w.alloc (.cells #[x, y] t)).drew wn) : wn.cell? ⟨w.heap.size, 0, none⟩ = some x ∧ wn.cell? ⟨w.heap.size, 1, none⟩ = some y ∧ wn.frozen? ⟨w.heap.size, 0, none⟩ = false ∧ wn.frozen? ⟨w.heap.size, 1, none⟩ = false := by
  have hk : wn.heap[w.heap.size]? = some (.cells #[x, y] t (0, 0)) := (h.block w.heap.size (by simp)).trans (heap_alloc_new w _)
  exact ⟨by rw [Lib.cell_of_heap hk]; rfl, by rw [Lib.cell_of_heap hk]; rfl, Lib.frozen_of_heap hk 0, Lib.frozen_of_heap hk 1⟩
theorem cut_a {w wn : World} (hbn : Below w.drew.heap.size w.drew wn) (cs : Array Value) (t : TypeId) : Below w.heap.size w (wn.alloc (.cells cs t)) ∧ w.heap.size ≤ wn.heap.size ∧ (wn.alloc (.cells cs t)).heap[wn.heap.size]? = some (.cells cs t (0, 0)) :=
  ⟨((Below.refl _ w).drew.trans hbn).alloc hbn.size _, hbn.size, heap_alloc_new wn _⟩
theorem cut_b {w wn : World} {x y : Value} {t : TypeId} (h : Below (w.alloc (.cells #[x, y] t)).drew.heap.size (w.alloc (.cells #[x, y] t)).drew wn) (u v : Value) : Below w.heap.size w ((wn.setCell ⟨w.heap.size, 0, none⟩ u).setCell ⟨w.heap.size, 1, none⟩ v) ∧ w.heap.size ≤ w.heap.size ∧ ((wn.setCell ⟨w.heap.size, 0, none⟩ u).setCell ⟨w.heap.size, 1, none⟩ v).heap[w.heap.size]? = some (.cells #[u, v] t (0, 0)) := by
  have hk : wn.heap[w.heap.size]? = some (.cells #[x, y] t (0, 0)) := (h.block w.heap.size (by simp)).trans (heap_alloc_new w _)
  refine ⟨(((((Below.refl _ w).alloc (Nat.le_refl _) _).drew).trans (h.mono (by simp))).setCell (by simp) _).setCell (by simp) _, Nat.le_refl _, ?_⟩
  simp [World.setCell, Array.getElem?_modify, hk]
theorem keep6 {w0 w1 w2 : World} {p1 p2 p3 p4 p5 p6 : Addr} {x1 x2 x3 x4 x5 x6 : Value} (h : w1.cell? p1 = some x1 ∧ w1.cell? p2 = some x2 ∧ w1.cell? p3 = some x3 ∧ w1.cell? p4 = some x4 ∧ w1.cell? p5 = some x5 ∧ w1.cell? p6 = some x6 ∧ Below w0.heap.size w0 w1) (hb : Below w1.heap.size w1 w2) :
    w2.cell? p1 = some x1 ∧ w2.cell? p2 = some x2 ∧ w2.cell? p3 = some x3 ∧ w2.cell? p4 = some x4 ∧ w2.cell? p5 = some x5 ∧ w2.cell? p6 = some x6 ∧ Below w0.heap.size w0 w2 := by
  obtain ⟨h1, h2, h3, h4, h5, h6, h7⟩ := h
  have key : ∀ {p : Addr} {x : Value}, w1.cell? p = some x → w2.cell? p = some x := fun h => (hb.cell (World.block_lt_of_cell? w1 _ h)).trans h
  exact ⟨key h1, key h2, key h3, key h4, key h5, key h6, h7.trans (hb.mono h7.size)⟩
theorem last7 {a b c d e f g : Prop} (h : a ∧ b ∧ c ∧ d ∧ e ∧ f ∧ g) : g := h.2.2.2.2.2.2
theorem skips_out {now : Int} {c : Nat} {X : Sen × Nat} {k : Nat} {o : Out} (h : (X.1.st k).out = some o) : skips now c X k = true := by unfold skips; rw [h]; rfl
theorem skips_is {now : Int} {c : Nat} {X : Sen × Nat} {k : Nat} (h : (X.1.st k).held.is (X.1.tgt k now) = true) : skips now c X k = true := by unfold skips; rw [h]; simp
theorem skips_cls {now : Int} {c : Nat} {X : Sen × Nat} {k : Nat} (h : cls c (X.1.st k).held (X.1.tgt k now) = false) : skips now c X k = true := by unfold skips; rw [h]; simp
theorem skips_n {now : Int} {c : Nat} {X : Sen × Nat} {k : Nat} (h : 16 ≤ X.2) : skips now c X k = true := by unfold skips; rw [decide_eq_true h]; simp
theorem skips_c {now : Int} {c : Nat} {X : Sen × Nat} {k : Nat} (h : 4611686018427387903 ≤ X.1.counter) : skips now c X k = true := by unfold skips maxI; rw [decide_eq_true h]; simp
theorem skips_no {now : Int} {c : Nat} {X : Sen × Nat} {k : Nat} (h1 : (X.1.st k).out = none) (h2 : (X.1.st k).held.is (X.1.tgt k now) = false) (h3 : cls c (X.1.st k).held (X.1.tgt k now) = true) (h4 : ¬ 16 ≤ X.2) (h5 : ¬ 4611686018427387903 ≤ X.1.counter) : skips now c X k = false := by
  unfold skips maxI; rw [h1, h2, h3, decide_eq_false h4, decide_eq_false h5]; rfl
theorem FillSt.below {a0 a1 : Addr} {w0 w : World} {T : Nat → Prop} {b F : Nat} {X : Sen × Nat} {W W' : World} (h : FillSt a0 a1 w0 w T b F X W) (hb : Below W.heap.size W W') : FillSt a0 a1 w0 w T b F X W' := by
  obtain ⟨T1, P1, hS, hbut, hT1, hF1, hFb, hX⟩ := h
  exact ⟨T1, P1, hS.below hb, hbut.trans (But.of_below (hb.mono hbut.size)), hT1, hF1, (hb.block F (Array.getElem?_eq_some_iff.1 hFb).1).trans hFb, hX⟩
theorem fill_next {a0 a1 : Addr} {w0 w : World} {T : Nat → Prop} {b F : Nat} {X : Sen × Nat} {W : World} (h : FillSt a0 a1 w0 w T b F X W) (hTb : T b) {now : Int} {c k : Nat} (hk : k < 64) (hsk : skips now c X k = false) :
    Calls Tryd.prog 41 #[.pointer (some ⟨b, 0, none⟩), .int .i64 k, (X.1.tgt k now).enc] W fun e w' => ∃ g, e = .returned (.pointer (some ⟨g, 0, none⟩)) ∧ w'.frozen? ⟨b, 4 + k * 13 + 4, none⟩ = false ∧ (∃ v, w'.cell? ⟨b, 4 + k * 13 + 4, none⟩ = some v) ∧ FillSt a0 a1 w0 w T b F (outNew X.1 now k, X.2 + 1) (w'.setCell ⟨b, 4 + k * 13 + 4, none⟩ (.pointer (some ⟨g, 0, none⟩))) := by
  obtain ⟨T1, P1, hS, hbut, hT1, hF1, hFb, hX⟩ := h
  obtain ⟨ho, h2, h3, h4, h5⟩ := skips_false hsk
  have hb1 : T1 b := hS.at_.own
  refine (next_any hS k hk (X.1.tgt k now) (hS.at_.ok.tgt k now).1 h5).mono ?_
  rintro e w' ⟨g, rfl, hS', hg, hlg, hB⟩
  have hgT : ¬ T1 g := fun e => by have := hS.at_.lt g e; omega
  have hput := hS'.at_.putOut hk ⟨nextMsg X.1 k (X.1.tgt k now), X.1.tgt k now, false, 0⟩ g (hS.at_.ok.outNew now k h5) hg hgT
  have hsz := hbut.size
  have hFl : F < W.heap.size := (Array.getElem?_eq_some_iff.1 hFb).1
  have hFb' : F ≠ b := fun e => hF1 (by rw [e]; exact hb1)
  have s4 := hS'.at_.story hk 4 (by omega)
  refine ⟨g, rfl, s4.2, ⟨_, s4.1⟩, fun j => T1 j ∨ j = g, updP P1 k (some g), hS.of hput ((hB.weaken (fun j _ e => by rw [e]; exact hb1)).setCell hb1 _) (fun j hj => ?_), hbut.trans (((hB.mono hsz).weaken (fun j _ e => by rw [e]; exact hTb)).setCell hTb _), fun j hj => ?_, fun hj => ?_, ?_, ?_⟩
  · rcases hj with hj | hj
    · exact .inl hj
    · right; omega
  · rcases hj with hj | hj
    · exact hT1 j hj
    · right; omega
  · rcases hj with hj | hj
    · exact hF1 hj
    · omega
  · rw [Below.heap_setCell _ ⟨b, _, none⟩ _ _ hFb', hB.block F hFl hFb']
    exact hFb
  · show X.2 + 1 ≤ 64
    omega
/-- the loop that drops -/
def DropSt (a0 a1 : Addr) (w0 w : World) (T : Nat → Prop) (b : Nat) (S : Sen) (now : Int) (k : Nat) (W : World) : Prop := ∃ P : Nat → Option Nat, Snd a0 a1 w0 T W b (S.drops now k) P ∧ But T w.heap.size w W


/-! ### a drawn region in one order, its operations one by one -/
theorem take_w {P : Program} {md : Region.Mode} {ops : Array Oper} {Q : Exit → Act → World → Prop} {S : World → Prop} {fuel : Nat} {listed : Array Bool} {a : Act} {w : World} (i : Nat)
    (h : ∃ oi, ops[i]? = some oi ∧ Region.noSelect ops = true ∧ Region.free md ops listed i = true ∧ (Region.ready md ops listed).contains i = true ∧ ∃ v, (∀ c a w, Q (.panic c) (a.put oi.dst v) w → Q (.panic c) a w) ∧ YieldsIf P ops S oi v a ∧ S w ∧ wpAnyH P md ops Q S fuel (listed.setIfInBounds i true) (a.put oi.dst v) w) : wpAnyH P md ops Q S (fuel + 1) listed a w := by
  obtain ⟨oi, h1, h2, h3, h4, v, h5, h6, h7, h8⟩ := h
  exact wpAnyH_take h1 h2 h3 h4 h5 h6 h7 h8
theorem call_w {P : Program} {md : Region.Mode} {ops : Array Oper} {Q : Exit → Act → World → Prop} {S : World → Prop} {fuel : Nat} {listed : Array Bool} {a : Act} {w : World} (i : Nat)
    (h : ∃ oi, ops[i]? = some oi ∧ Region.ready md ops listed = [i] ∧ Region.wanted oi (yielded ops a.tmps) = true ∧ ∀ K' : Act → World → Prop, Shut (∀ a w, S w → (S w → wpAnyH P md ops Q S fuel (listed.setIfInBounds i true) a w) → K' a w) → Oper.wp P oi a w K' Q) : wpAnyH P md ops Q S (fuel + 1) listed a w := by
  obtain ⟨oi, h1, h2, h3, h4⟩ := h
  exact wpAnyH_ready h2 (by simp) (AllReadyH.cons h1 (fun K' hK => by rw [if_pos h3]; exact h4 K' hK) AllReadyH.nil)
end Go.Proofs.YtefloieanpgnmaaDoor

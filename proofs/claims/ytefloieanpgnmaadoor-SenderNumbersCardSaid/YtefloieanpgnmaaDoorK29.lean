/- Facts and contracts for the laws of the sender, part 29. Conditions: those that each theorem names. -/
import Derived.Test.YtefloieanpgnmaaDoorK25
/- The law's steps: the lease, the ticks. -/
namespace Go.Proofs.YtefloieanpgnmaaDoor
open Go.RowKit

set_option maxRecDepth 100000 in
set_option maxHeartbeats 8000000 in
theorem next_lease {U : Nat → Prop} {w : World} {q : Nat} {W : Wld} {vf va : Value} (h : WAt U w q W vf va) (hw : NextOk W) (o : Op3) (ho : okO o) (hp : pickD o.kind 11 = 2) :
    Calls Tryd.prog 9 #[.pointer (some ⟨q, 0, none⟩), opV o] w (NextEnd U w q (W.next o).1 (W.next o).2) := by
  obtain ⟨kind, story, n⟩ := o
  obtain ⟨⟨hk1, hk2⟩, ⟨hs1, hs2⟩, hn1, hn2⟩ := ho
  simp only at hk1 hk2 hs1 hs2 hn1 hn2 hp
  have C11 := fun W => Lib.hid (pick_any kind 11 W hk1 hk2 (by omega) (by omega))
  have CN := fun W => Lib.hid (pick_any n 40 W hn1 hn2 (by omega) (by omega))
  have hrn := pick_range n (n := 40) (by omega)
  have hnow := hw.now
  have hq := h.lt q h.own
  have HNX : Hid (W.next ⟨kind, story, n⟩ = (.lease (W.now + pickD n 40 - 5), { W with lease := W.now + pickD n 40 - 5 })) := Lib.hid (by unfold Wld.next; simp only; rw [if_neg (by omega), if_pos hp])
  have hpc : pickD kind 11 = 2 := by omega
  obtain ⟨pk, hpk⟩ : ∃ x, pickD kind 11 = x := ⟨_, rfl⟩
  obtain ⟨pn, hpn⟩ : ∃ x, pickD n 40 = x := ⟨_, rfl⟩
  simp only [hpk] at C11 hpc
  simp only [hpn] at CN HNX hrn
  have hwr1 : IntKind.i64.wrap (W.now + pn) = W.now + pn := IntWalk.i64_in _ (by omega)
  have hwr2 : IntKind.i64.wrap (W.now + pn - 5) = W.now + pn - 5 := IntWalk.i64_in _ (by omega)
  have hns := NextSt.start h ⟨kind, story, n⟩
  obtain ⟨wA, hwA⟩ : ∃ wA, (w.alloc (.cells #[.int .i64 kind, .int .i64 story, .int .i64 n] 38)).alloc (.cells #[.int .i64 0, .int .i64 0, .slice none 0 0, .int .i64 0, .int .i64 0, .int .i64 0, .int .i64 0, .int .i64 0, .int .i64 0, .int .i64 0, .string ⟨#[]⟩] 35) = wA := ⟨_, rfl⟩
  simp only at hns
  rw [hwA] at hns
  obtain ⟨K, hKK⟩ : ∃ K, w.heap.size = K := ⟨_, rfl⟩
  rw [hKK] at hns
  have HN := Lib.hid hns
  have o0 : wA.cell? ⟨K, 0, none⟩ = some (.int .i64 kind) := by rw [Lib.cell_of_heap HN.out.op]; rfl
  have o2 : wA.cell? ⟨K, 2, none⟩ = some (.int .i64 n) := by rw [Lib.cell_of_heap HN.out.op]; rfl
  have n0 : wA.cell? ⟨q, 0, none⟩ = some (.int .i64 W.now) := (HN.out.wat.cells 0 (by omega)).1
  have f0 := (HN.out.wat.cells 0 (by omega)).2
  obtain ⟨v1, n1⟩ : ∃ v, wA.cell? ⟨q, 1, none⟩ = some v := ⟨_, (HN.out.wat.cells 1 (by omega)).1⟩
  have f1 := (HN.out.wat.cells 1 (by omega)).2
  obtain ⟨nw, hnw⟩ : ∃ x, W.now = x := ⟨_, rfl⟩
  have HNW := Lib.hid hnw
  rw [hnw] at n0 hnow HNX hwr1 hwr2
  clear h hw hp hpk hpn hns hnw
  unfold opV
  simp only
  rcases hpc with rfl
  all_goals
    go_enter Tryd.func9, Tryd.ntmps9
    go_upto_region 16 with (first
      | (go_at_call 14; with_reducible (refine (C11 _).out.mono ?_); rintro e wm ⟨rfl, rfl⟩)
      | fail)
    try rw [hwA]
    try rw [hKK]
    clear hwA
    go_region_with (first
      | (go_at_call 14; with_reducible (refine (CN _).out.mono ?_); rintro e wm ⟨rfl, rfl⟩)
      | fail)
    all_goals
      obtain ⟨wB, hwB⟩ : ∃ wB, (wA.setCell ⟨q, 1, none⟩ (.int .i64 (nw + pn - 5))).drew = wB := ⟨_, rfl⟩
      have HNB : Hid (NextSt U w q { W with lease := nw + pn - 5 } vf va K ⟨kind, story, n⟩ wB) := Lib.hid (by rw [← hwB]; exact (HN.out.put (by omega) (put_lease W vf va (nw + pn - 5)) rfl rfl).below (Below.refl _ _).drew)
      rw [hwB]
      have c0 : wB.cell? ⟨q, 1, none⟩ = some (.int .i64 (nw + pn - 5)) := (HNB.out.wat.cells 1 (by omega)).1
      clear hwB o0 o2 n0 f0 n1 f1 HN
      obtain ⟨hfa, hfb⟩ := next_fin HNB.out.wat (fun e => by have := HNB.out.ub _ e; omega) (by have := HNB.out.hK; omega : w.heap.size ≤ K + 1) HNB.out.but [.int .i64 2, .int .i64 0, .slice none 0 0, .int .i64 (nw + pn - 5), .int .i64 0, .int .i64 0, .int .i64 0, .int .i64 0, .int .i64 0, .int .i64 0, .string ⟨#[]⟩]
      obtain ⟨csF, hcsF⟩ := HNB.out.cal
      have hrd := storeC_cell (K + 1) [.int .i64 2, .int .i64 0, .slice none 0 0, .int .i64 (nw + pn - 5), .int .i64 0, .int .i64 0, .int .i64 0, .int .i64 0, .int .i64 0, .int .i64 0, .string ⟨#[]⟩] 0 wB (fun j hj => by rw [Nat.zero_add]; exact (cal_cells hcsF).1 j (by simpa using hj))
      obtain ⟨wz, hwz⟩ : ∃ wz, storeC (K + 1) [.int .i64 2, .int .i64 0, .slice none 0 0, .int .i64 (nw + pn - 5), .int .i64 0, .int .i64 0, .int .i64 0, .int .i64 0, .int .i64 0, .int .i64 0, .string ⟨#[]⟩] 0 wB = wz := ⟨_, rfl⟩
      rw [hwz] at hfa hfb hrd
      have y0 := hrd 0 (by simp)
      have y1 := hrd 1 (by simp)
      have y2 := hrd 2 (by simp)
      have y3 := hrd 3 (by simp)
      have y4 := hrd 4 (by simp)
      have y5 := hrd 5 (by simp)
      have y6 := hrd 6 (by simp)
      have y7 := hrd 7 (by simp)
      have y8 := hrd 8 (by simp)
      have y9 := hrd 9 (by simp)
      have y10 := hrd 10 (by simp)
      simp only [Nat.zero_add, List.getElem_cons_zero, List.getElem_cons_succ] at y0 y1 y2 y3 y4 y5 y6 y7 y8 y9 y10
      simp only [storeC, Nat.zero_add, Nat.reduceAdd] at hwz
      have HFA := Lib.hid hfa; have HFB := Lib.hid hfb
      clear hfa hfb hrd hcsF
      obtain ⟨cs0, hcs0⟩ := HNB.out.cal
      obtain ⟨hsome, hfz⟩ := cal_cells hcs0
      obtain ⟨x0, hx0⟩ := Option.isSome_iff_exists.1 (hsome 0 (by omega))
      have hz0 := hfz 0
      obtain ⟨x1, hx1⟩ := Option.isSome_iff_exists.1 (hsome 1 (by omega))
      have hz1 := hfz 1
      obtain ⟨x2, hx2⟩ := Option.isSome_iff_exists.1 (hsome 2 (by omega))
      have hz2 := hfz 2
      obtain ⟨x3, hx3⟩ := Option.isSome_iff_exists.1 (hsome 3 (by omega))
      have hz3 := hfz 3
      obtain ⟨x4, hx4⟩ := Option.isSome_iff_exists.1 (hsome 4 (by omega))
      have hz4 := hfz 4
      obtain ⟨x5, hx5⟩ := Option.isSome_iff_exists.1 (hsome 5 (by omega))
      have hz5 := hfz 5
      obtain ⟨x6, hx6⟩ := Option.isSome_iff_exists.1 (hsome 6 (by omega))
      have hz6 := hfz 6
      obtain ⟨x7, hx7⟩ := Option.isSome_iff_exists.1 (hsome 7 (by omega))
      have hz7 := hfz 7
      obtain ⟨x8, hx8⟩ := Option.isSome_iff_exists.1 (hsome 8 (by omega))
      have hz8 := hfz 8
      obtain ⟨x9, hx9⟩ := Option.isSome_iff_exists.1 (hsome 9 (by omega))
      have hz9 := hfz 9
      obtain ⟨x10, hx10⟩ := Option.isSome_iff_exists.1 (hsome 10 (by omega))
      have hz10 := hfz 10
      clear hsome hfz
      clear hcs0
      go_wp2_with fail
      have HFIN : Hid (NextEnd U w q (W.next ⟨kind, story, n⟩).1 (W.next ⟨kind, story, n⟩).2 (.returned (.agg #[.int .i64 2, .int .i64 0, .slice none 0 0, .int .i64 (nw + pn - 5), .int .i64 0, .int .i64 0, .int .i64 0, .int .i64 0, .int .i64 0, .int .i64 0, .string ⟨#[]⟩])) wz) := Lib.hid (by
        rw [HNX.out]
        have hfa := HFA.out
        try rw [HNW.out] at hfa
        exact ⟨.slice none 0 0, vf, va, U, rfl, hfa, HFB.out, fun k hk => .inl hk, fun now l hc => by cases hc⟩)
      exact bodyPost_ret (v := .agg #[.int .i64 2, .int .i64 0, .slice none 0 0, .int .i64 (nw + pn - 5), .int .i64 0, .int .i64 0, .int .i64 0, .int .i64 0, .int .i64 0, .int .i64 0, .string ⟨#[]⟩]) (by simp [results, Tryd.results9, go_sem, y0, y1, y2, y3, y4, y5, y6, y7, y8, y9, y10]) rfl HFIN.out

set_option maxRecDepth 100000 in
set_option maxHeartbeats 8000000 in
theorem next_tick {U : Nat → Prop} {w : World} {q : Nat} {W : Wld} {vf va : Value} (h : WAt U w q W vf va) (hw : NextOk W) (o : Op3) (ho : okO o) (hp : pickD o.kind 11 = 3 ∨ pickD o.kind 11 = 4) :
    Calls Tryd.prog 9 #[.pointer (some ⟨q, 0, none⟩), opV o] w (NextEnd U w q (W.next o).1 (W.next o).2) := by
  obtain ⟨kind, story, n⟩ := o
  obtain ⟨⟨hk1, hk2⟩, ⟨hs1, hs2⟩, hn1, hn2⟩ := ho
  simp only at hk1 hk2 hs1 hs2 hn1 hn2 hp
  have C11 := fun W => Lib.hid (pick_any kind 11 W hk1 hk2 (by omega) (by omega))
  have CN := fun W => Lib.hid (pick_any n 5 W hn1 hn2 (by omega) (by omega))
  have hrn := pick_range n (n := 5) (by omega)
  have hnow := hw.now
  have hq := h.lt q h.own
  have HNX : Hid (W.next ⟨kind, story, n⟩ = (.tick (W.now + pickD n 5), { W with now := W.now + pickD n 5 })) := Lib.hid (by unfold Wld.next; simp only; rw [if_neg (by omega), if_neg (by omega), if_pos (by omega)])
  have hpc : pickD kind 11 = 3 ∨ pickD kind 11 = 4 := by omega
  obtain ⟨pk, hpk⟩ : ∃ x, pickD kind 11 = x := ⟨_, rfl⟩
  obtain ⟨pn, hpn⟩ : ∃ x, pickD n 5 = x := ⟨_, rfl⟩
  simp only [hpk] at C11 hpc
  simp only [hpn] at CN HNX hrn
  have hwr1 : IntKind.i64.wrap (W.now + pn) = W.now + pn := IntWalk.i64_in _ (by omega)
  have hns := NextSt.start h ⟨kind, story, n⟩
  obtain ⟨wA, hwA⟩ : ∃ wA, (w.alloc (.cells #[.int .i64 kind, .int .i64 story, .int .i64 n] 38)).alloc (.cells #[.int .i64 0, .int .i64 0, .slice none 0 0, .int .i64 0, .int .i64 0, .int .i64 0, .int .i64 0, .int .i64 0, .int .i64 0, .int .i64 0, .string ⟨#[]⟩] 35) = wA := ⟨_, rfl⟩
  simp only at hns
  rw [hwA] at hns
  obtain ⟨K, hKK⟩ : ∃ K, w.heap.size = K := ⟨_, rfl⟩
  rw [hKK] at hns
  have HN := Lib.hid hns
  have o0 : wA.cell? ⟨K, 0, none⟩ = some (.int .i64 kind) := by rw [Lib.cell_of_heap HN.out.op]; rfl
  have o2 : wA.cell? ⟨K, 2, none⟩ = some (.int .i64 n) := by rw [Lib.cell_of_heap HN.out.op]; rfl
  have n0 : wA.cell? ⟨q, 0, none⟩ = some (.int .i64 W.now) := (HN.out.wat.cells 0 (by omega)).1
  have f0 := (HN.out.wat.cells 0 (by omega)).2
  obtain ⟨v1, n1⟩ : ∃ v, wA.cell? ⟨q, 1, none⟩ = some v := ⟨_, (HN.out.wat.cells 1 (by omega)).1⟩
  have f1 := (HN.out.wat.cells 1 (by omega)).2
  obtain ⟨nw, hnw⟩ : ∃ x, W.now = x := ⟨_, rfl⟩
  have HNW := Lib.hid hnw
  rw [hnw] at n0 hnow HNX hwr1
  clear h hw hp hpk hpn hns hnw
  unfold opV
  simp only
  rcases hpc with rfl | rfl
  all_goals
    go_enter Tryd.func9, Tryd.ntmps9
    go_upto_region 20 with (first
      | (go_at_call 14; with_reducible (refine (C11 _).out.mono ?_); rintro e wm ⟨rfl, rfl⟩)
      | fail)
    try rw [hwA]
    try rw [hKK]
    clear hwA
    go_region_with (first
      | (go_at_call 14; with_reducible (refine (CN _).out.mono ?_); rintro e wm ⟨rfl, rfl⟩)
      | fail)
    all_goals
      obtain ⟨wB, hwB⟩ : ∃ wB, (wA.setCell ⟨q, 0, none⟩ (.int .i64 (nw + pn))).drew = wB := ⟨_, rfl⟩
      have HNB : Hid (NextSt U w q { W with now := nw + pn } vf va K ⟨kind, story, n⟩ wB) := Lib.hid (by rw [← hwB]; exact (HN.out.put (by omega) (put_now W vf va (nw + pn)) rfl rfl).below (Below.refl _ _).drew)
      rw [hwB]
      have c0 : wB.cell? ⟨q, 0, none⟩ = some (.int .i64 (nw + pn)) := (HNB.out.wat.cells 0 (by omega)).1
      clear hwB o0 o2 n0 f0 n1 f1 HN
      obtain ⟨hfa, hfb⟩ := next_fin HNB.out.wat (fun e => by have := HNB.out.ub _ e; omega) (by have := HNB.out.hK; omega : w.heap.size ≤ K + 1) HNB.out.but [.int .i64 4, .int .i64 (nw + pn), .slice none 0 0, .int .i64 0, .int .i64 0, .int .i64 0, .int .i64 0, .int .i64 0, .int .i64 0, .int .i64 0, .string ⟨#[]⟩]
      obtain ⟨csF, hcsF⟩ := HNB.out.cal
      have hrd := storeC_cell (K + 1) [.int .i64 4, .int .i64 (nw + pn), .slice none 0 0, .int .i64 0, .int .i64 0, .int .i64 0, .int .i64 0, .int .i64 0, .int .i64 0, .int .i64 0, .string ⟨#[]⟩] 0 wB (fun j hj => by rw [Nat.zero_add]; exact (cal_cells hcsF).1 j (by simpa using hj))
      obtain ⟨wz, hwz⟩ : ∃ wz, storeC (K + 1) [.int .i64 4, .int .i64 (nw + pn), .slice none 0 0, .int .i64 0, .int .i64 0, .int .i64 0, .int .i64 0, .int .i64 0, .int .i64 0, .int .i64 0, .string ⟨#[]⟩] 0 wB = wz := ⟨_, rfl⟩
      rw [hwz] at hfa hfb hrd
      have y0 := hrd 0 (by simp)
      have y1 := hrd 1 (by simp)
      have y2 := hrd 2 (by simp)
      have y3 := hrd 3 (by simp)
      have y4 := hrd 4 (by simp)
      have y5 := hrd 5 (by simp)
      have y6 := hrd 6 (by simp)
      have y7 := hrd 7 (by simp)
      have y8 := hrd 8 (by simp)
      have y9 := hrd 9 (by simp)
      have y10 := hrd 10 (by simp)
      simp only [Nat.zero_add, List.getElem_cons_zero, List.getElem_cons_succ] at y0 y1 y2 y3 y4 y5 y6 y7 y8 y9 y10
      simp only [storeC, Nat.zero_add, Nat.reduceAdd] at hwz
      have HFA := Lib.hid hfa; have HFB := Lib.hid hfb
      clear hfa hfb hrd hcsF
      obtain ⟨cs0, hcs0⟩ := HNB.out.cal
      obtain ⟨hsome, hfz⟩ := cal_cells hcs0
      obtain ⟨x0, hx0⟩ := Option.isSome_iff_exists.1 (hsome 0 (by omega))
      have hz0 := hfz 0
      obtain ⟨x1, hx1⟩ := Option.isSome_iff_exists.1 (hsome 1 (by omega))
      have hz1 := hfz 1
      obtain ⟨x2, hx2⟩ := Option.isSome_iff_exists.1 (hsome 2 (by omega))
      have hz2 := hfz 2
      obtain ⟨x3, hx3⟩ := Option.isSome_iff_exists.1 (hsome 3 (by omega))
      have hz3 := hfz 3
      obtain ⟨x4, hx4⟩ := Option.isSome_iff_exists.1 (hsome 4 (by omega))
      have hz4 := hfz 4
      obtain ⟨x5, hx5⟩ := Option.isSome_iff_exists.1 (hsome 5 (by omega))
      have hz5 := hfz 5
      obtain ⟨x6, hx6⟩ := Option.isSome_iff_exists.1 (hsome 6 (by omega))
      have hz6 := hfz 6
      obtain ⟨x7, hx7⟩ := Option.isSome_iff_exists.1 (hsome 7 (by omega))
      have hz7 := hfz 7
      obtain ⟨x8, hx8⟩ := Option.isSome_iff_exists.1 (hsome 8 (by omega))
      have hz8 := hfz 8
      obtain ⟨x9, hx9⟩ := Option.isSome_iff_exists.1 (hsome 9 (by omega))
      have hz9 := hfz 9
      obtain ⟨x10, hx10⟩ := Option.isSome_iff_exists.1 (hsome 10 (by omega))
      have hz10 := hfz 10
      clear hsome hfz
      clear hcs0
      go_wp2_with fail
      have HFIN : Hid (NextEnd U w q (W.next ⟨kind, story, n⟩).1 (W.next ⟨kind, story, n⟩).2 (.returned (.agg #[.int .i64 4, .int .i64 (nw + pn), .slice none 0 0, .int .i64 0, .int .i64 0, .int .i64 0, .int .i64 0, .int .i64 0, .int .i64 0, .int .i64 0, .string ⟨#[]⟩])) wz) := Lib.hid (by
        rw [HNX.out]
        have hfa := HFA.out
        try rw [HNW.out] at hfa
        exact ⟨.slice none 0 0, vf, va, U, rfl, hfa, HFB.out, fun k hk => .inl hk, fun now l hc => by cases hc⟩)
      exact bodyPost_ret (v := .agg #[.int .i64 4, .int .i64 (nw + pn), .slice none 0 0, .int .i64 0, .int .i64 0, .int .i64 0, .int .i64 0, .int .i64 0, .int .i64 0, .int .i64 0, .string ⟨#[]⟩]) (by simp [results, Tryd.results9, go_sem, y0, y1, y2, y3, y4, y5, y6, y7, y8, y9, y10]) rfl HFIN.out

set_option maxRecDepth 100000 in
set_option maxHeartbeats 8000000 in
theorem next_back {U : Nat → Prop} {w : World} {q : Nat} {W : Wld} {vf va : Value} (h : WAt U w q W vf va) (hw : NextOk W) (o : Op3) (ho : okO o) (hp : pickD o.kind 11 = 5) :
    Calls Tryd.prog 9 #[.pointer (some ⟨q, 0, none⟩), opV o] w (NextEnd U w q (W.next o).1 (W.next o).2) := by
  obtain ⟨kind, story, n⟩ := o
  obtain ⟨⟨hk1, hk2⟩, ⟨hs1, hs2⟩, hn1, hn2⟩ := ho
  simp only at hk1 hk2 hs1 hs2 hn1 hn2 hp
  have C11 := fun W => Lib.hid (pick_any kind 11 W hk1 hk2 (by omega) (by omega))
  have CN := fun W => Lib.hid (pick_any n 30 W hn1 hn2 (by omega) (by omega))
  have hrn := pick_range n (n := 30) (by omega)
  have hnow := hw.now
  have hq := h.lt q h.own
  have HNX : Hid (W.next ⟨kind, story, n⟩ = (.tick (W.now - pickD n 30), { W with now := W.now - pickD n 30 })) := Lib.hid (by unfold Wld.next; simp only; rw [if_neg (by omega), if_neg (by omega), if_neg (by omega), if_pos hp])
  have hpc : pickD kind 11 = 5 := by omega
  obtain ⟨pk, hpk⟩ : ∃ x, pickD kind 11 = x := ⟨_, rfl⟩
  obtain ⟨pn, hpn⟩ : ∃ x, pickD n 30 = x := ⟨_, rfl⟩
  simp only [hpk] at C11 hpc
  simp only [hpn] at CN HNX hrn
  have hwr1 : IntKind.i64.wrap (W.now - pn) = W.now - pn := IntWalk.i64_in _ (by omega)
  have hns := NextSt.start h ⟨kind, story, n⟩
  obtain ⟨wA, hwA⟩ : ∃ wA, (w.alloc (.cells #[.int .i64 kind, .int .i64 story, .int .i64 n] 38)).alloc (.cells #[.int .i64 0, .int .i64 0, .slice none 0 0, .int .i64 0, .int .i64 0, .int .i64 0, .int .i64 0, .int .i64 0, .int .i64 0, .int .i64 0, .string ⟨#[]⟩] 35) = wA := ⟨_, rfl⟩
  simp only at hns
  rw [hwA] at hns
  obtain ⟨K, hKK⟩ : ∃ K, w.heap.size = K := ⟨_, rfl⟩
  rw [hKK] at hns
  have HN := Lib.hid hns
  have o0 : wA.cell? ⟨K, 0, none⟩ = some (.int .i64 kind) := by rw [Lib.cell_of_heap HN.out.op]; rfl
  have o2 : wA.cell? ⟨K, 2, none⟩ = some (.int .i64 n) := by rw [Lib.cell_of_heap HN.out.op]; rfl
  have n0 : wA.cell? ⟨q, 0, none⟩ = some (.int .i64 W.now) := (HN.out.wat.cells 0 (by omega)).1
  have f0 := (HN.out.wat.cells 0 (by omega)).2
  obtain ⟨v1, n1⟩ : ∃ v, wA.cell? ⟨q, 1, none⟩ = some v := ⟨_, (HN.out.wat.cells 1 (by omega)).1⟩
  have f1 := (HN.out.wat.cells 1 (by omega)).2
  obtain ⟨nw, hnw⟩ : ∃ x, W.now = x := ⟨_, rfl⟩
  have HNW := Lib.hid hnw
  rw [hnw] at n0 hnow HNX hwr1
  clear h hw hp hpk hpn hns hnw
  unfold opV
  simp only
  rcases hpc with rfl
  all_goals
    go_enter Tryd.func9, Tryd.ntmps9
    go_upto_region 23 with (first
      | (go_at_call 14; with_reducible (refine (C11 _).out.mono ?_); rintro e wm ⟨rfl, rfl⟩)
      | fail)
    try rw [hwA]
    try rw [hKK]
    clear hwA
    go_region_with (first
      | (go_at_call 14; with_reducible (refine (CN _).out.mono ?_); rintro e wm ⟨rfl, rfl⟩)
      | fail)
    all_goals
      obtain ⟨wB, hwB⟩ : ∃ wB, (wA.setCell ⟨q, 0, none⟩ (.int .i64 (nw - pn))).drew = wB := ⟨_, rfl⟩
      have HNB : Hid (NextSt U w q { W with now := nw - pn } vf va K ⟨kind, story, n⟩ wB) := Lib.hid (by rw [← hwB]; exact (HN.out.put (by omega) (put_now W vf va (nw - pn)) rfl rfl).below (Below.refl _ _).drew)
      rw [hwB]
      have c0 : wB.cell? ⟨q, 0, none⟩ = some (.int .i64 (nw - pn)) := (HNB.out.wat.cells 0 (by omega)).1
      clear hwB o0 o2 n0 f0 n1 f1 HN
      obtain ⟨hfa, hfb⟩ := next_fin HNB.out.wat (fun e => by have := HNB.out.ub _ e; omega) (by have := HNB.out.hK; omega : w.heap.size ≤ K + 1) HNB.out.but [.int .i64 4, .int .i64 (nw - pn), .slice none 0 0, .int .i64 0, .int .i64 0, .int .i64 0, .int .i64 0, .int .i64 0, .int .i64 0, .int .i64 0, .string ⟨#[]⟩]
      obtain ⟨csF, hcsF⟩ := HNB.out.cal
      have hrd := storeC_cell (K + 1) [.int .i64 4, .int .i64 (nw - pn), .slice none 0 0, .int .i64 0, .int .i64 0, .int .i64 0, .int .i64 0, .int .i64 0, .int .i64 0, .int .i64 0, .string ⟨#[]⟩] 0 wB (fun j hj => by rw [Nat.zero_add]; exact (cal_cells hcsF).1 j (by simpa using hj))
      obtain ⟨wz, hwz⟩ : ∃ wz, storeC (K + 1) [.int .i64 4, .int .i64 (nw - pn), .slice none 0 0, .int .i64 0, .int .i64 0, .int .i64 0, .int .i64 0, .int .i64 0, .int .i64 0, .int .i64 0, .string ⟨#[]⟩] 0 wB = wz := ⟨_, rfl⟩
      rw [hwz] at hfa hfb hrd
      have y0 := hrd 0 (by simp)
      have y1 := hrd 1 (by simp)
      have y2 := hrd 2 (by simp)
      have y3 := hrd 3 (by simp)
      have y4 := hrd 4 (by simp)
      have y5 := hrd 5 (by simp)
      have y6 := hrd 6 (by simp)
      have y7 := hrd 7 (by simp)
      have y8 := hrd 8 (by simp)
      have y9 := hrd 9 (by simp)
      have y10 := hrd 10 (by simp)
      simp only [Nat.zero_add, List.getElem_cons_zero, List.getElem_cons_succ] at y0 y1 y2 y3 y4 y5 y6 y7 y8 y9 y10
      simp only [storeC, Nat.zero_add, Nat.reduceAdd] at hwz
      have HFA := Lib.hid hfa; have HFB := Lib.hid hfb
      clear hfa hfb hrd hcsF
      obtain ⟨cs0, hcs0⟩ := HNB.out.cal
      obtain ⟨hsome, hfz⟩ := cal_cells hcs0
      obtain ⟨x0, hx0⟩ := Option.isSome_iff_exists.1 (hsome 0 (by omega))
      have hz0 := hfz 0
      obtain ⟨x1, hx1⟩ := Option.isSome_iff_exists.1 (hsome 1 (by omega))
      have hz1 := hfz 1
      obtain ⟨x2, hx2⟩ := Option.isSome_iff_exists.1 (hsome 2 (by omega))
      have hz2 := hfz 2
      obtain ⟨x3, hx3⟩ := Option.isSome_iff_exists.1 (hsome 3 (by omega))
      have hz3 := hfz 3
      obtain ⟨x4, hx4⟩ := Option.isSome_iff_exists.1 (hsome 4 (by omega))
      have hz4 := hfz 4
      obtain ⟨x5, hx5⟩ := Option.isSome_iff_exists.1 (hsome 5 (by omega))
      have hz5 := hfz 5
      obtain ⟨x6, hx6⟩ := Option.isSome_iff_exists.1 (hsome 6 (by omega))
      have hz6 := hfz 6
      obtain ⟨x7, hx7⟩ := Option.isSome_iff_exists.1 (hsome 7 (by omega))
      have hz7 := hfz 7
      obtain ⟨x8, hx8⟩ := Option.isSome_iff_exists.1 (hsome 8 (by omega))
      have hz8 := hfz 8
      obtain ⟨x9, hx9⟩ := Option.isSome_iff_exists.1 (hsome 9 (by omega))
      have hz9 := hfz 9
      obtain ⟨x10, hx10⟩ := Option.isSome_iff_exists.1 (hsome 10 (by omega))
      have hz10 := hfz 10
      clear hsome hfz
      clear hcs0
      go_wp2_with fail
      have HFIN : Hid (NextEnd U w q (W.next ⟨kind, story, n⟩).1 (W.next ⟨kind, story, n⟩).2 (.returned (.agg #[.int .i64 4, .int .i64 (nw - pn), .slice none 0 0, .int .i64 0, .int .i64 0, .int .i64 0, .int .i64 0, .int .i64 0, .int .i64 0, .int .i64 0, .string ⟨#[]⟩])) wz) := Lib.hid (by
        rw [HNX.out]
        have hfa := HFA.out
        try rw [HNW.out] at hfa
        exact ⟨.slice none 0 0, vf, va, U, rfl, hfa, HFB.out, fun k hk => .inl hk, fun now l hc => by cases hc⟩)
      exact bodyPost_ret (v := .agg #[.int .i64 4, .int .i64 (nw - pn), .slice none 0 0, .int .i64 0, .int .i64 0, .int .i64 0, .int .i64 0, .int .i64 0, .int .i64 0, .int .i64 0, .string ⟨#[]⟩]) (by simp [results, Tryd.results9, go_sem, y0, y1, y2, y3, y4, y5, y6, y7, y8, y9, y10]) rfl HFIN.out
end Go.Proofs.YtefloieanpgnmaaDoor

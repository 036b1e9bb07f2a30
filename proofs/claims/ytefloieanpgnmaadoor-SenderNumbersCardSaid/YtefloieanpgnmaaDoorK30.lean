/- Facts and contracts for the laws of the sender, part 30. Conditions: those that each theorem names. -/
import Derived.Test.YtefloieanpgnmaaDoorK25
/- The law's steps: a message is lost. -/
namespace Go.Proofs.YtefloieanpgnmaaDoor
open Go.RowKit

theorem idx_lt {c : Int} {n : Nat} (h : 0 < n) : (pickD c n).toNat < n := by
  have := pick_range c (n := (n : Int)) (by omega)
  omega
set_option maxRecDepth 100000 in
set_option maxHeartbeats 8000000 in
theorem next_lose {U : Nat → Prop} {w : World} {q : Nat} {W : Wld} {vf va : Value} (h : WAt U w q W vf va) (hw : NextOk W) (o : Op3) (ho : okO o) (hp : pickD o.kind 11 = 8) :
    Calls Tryd.prog 9 #[.pointer (some ⟨q, 0, none⟩), opV o] w (NextEnd U w q (W.next o).1 (W.next o).2) := by
  obtain ⟨kind, story, n⟩ := o
  obtain ⟨⟨hk1, hk2⟩, ⟨hs1, hs2⟩, hn1, hn2⟩ := ho
  simp only at hk1 hk2 hs1 hs2 hn1 hn2 hp
  have C11 := fun W => Lib.hid (pick_any kind 11 W hk1 hk2 (by omega) (by omega))
  have hq := h.lt q h.own
  have HFL := Lib.hid hw.flen
  have HNX : Hid (W.next ⟨kind, story, n⟩ = (.none, { W with flight := W.flight.eraseIdx (pickD story W.flight.length).toNat })) := Lib.hid (by
    unfold Wld.next; simp only; rw [if_neg (by omega), if_neg (by omega), if_neg (by omega), if_neg (by omega), if_neg (by omega), if_pos hp])
  obtain ⟨fa, fc, hvf, hfc, -, -⟩ := h.flight.read
  subst hvf
  simp only [hp] at C11
  have hns := NextSt.start h ⟨kind, story, n⟩
  obtain ⟨wA, hwA⟩ : ∃ wA, (w.alloc (.cells #[.int .i64 kind, .int .i64 story, .int .i64 n] 38)).alloc (.cells #[.int .i64 0, .int .i64 0, .slice none 0 0, .int .i64 0, .int .i64 0, .int .i64 0, .int .i64 0, .int .i64 0, .int .i64 0, .int .i64 0, .string ⟨#[]⟩] 35) = wA := ⟨_, rfl⟩
  simp only at hns
  rw [hwA] at hns
  obtain ⟨K, hKK⟩ : ∃ K, w.heap.size = K := ⟨_, rfl⟩
  rw [hKK] at hns
  have HN := Lib.hid hns
  have o0 : wA.cell? ⟨K, 0, none⟩ = some (.int .i64 kind) := by rw [Lib.cell_of_heap HN.out.op]; rfl
  have o1 : wA.cell? ⟨K, 1, none⟩ = some (.int .i64 story) := by rw [Lib.cell_of_heap HN.out.op]; rfl
  obtain ⟨n1, hn1e⟩ : ∃ x, W.flight.length = x := ⟨_, rfl⟩
  have HLN := Lib.hid hn1e
  rw [hn1e] at HFL hfc HN
  have c67 : wA.cell? ⟨q, 67, none⟩ = some (.slice fa n1 fc) := (HN.out.wat.cells 67 (by omega)).1
  have f67 := (HN.out.wat.cells 67 (by omega)).2
  clear h hw hp hns hn1e
  unfold opV
  simp only
  by_cases hz : n1 = 0
  · have hzb : decide ((0 : Int) < (n1 : Int)) = false := decide_eq_false (by omega)
    have hzb2 : decide (0 < n1) = false := decide_eq_false (by omega)
    have hz3 : ¬ 0 < n1 := by omega
    have HNY : Hid (W.next ⟨kind, story, n⟩ = (.none, W)) := Lib.hid (by
      rw [HNX.out]
      have : W.flight = [] := List.length_eq_zero_iff.1 (by rw [HLN.out]; exact hz)
      rw [this, List.eraseIdx_nil, ← this])
    clear hz HNX
    obtain ⟨hfa, hfb⟩ := next_fin HN.out.wat (fun e => by have := HN.out.ub _ e; omega) (by have := HN.out.hK; omega : w.heap.size ≤ K + 1) HN.out.but [.int .i64 0, .int .i64 0, .slice none 0 0, .int .i64 0, .int .i64 0, .int .i64 0, .int .i64 0, .int .i64 0, .int .i64 0, .int .i64 0, .string ⟨#[]⟩]
    obtain ⟨csF, hcsF⟩ := HN.out.cal
    have hrd := storeC_cell (K + 1) [.int .i64 0, .int .i64 0, .slice none 0 0, .int .i64 0, .int .i64 0, .int .i64 0, .int .i64 0, .int .i64 0, .int .i64 0, .int .i64 0, .string ⟨#[]⟩] 0 wA (fun j hj => by rw [Nat.zero_add]; exact (cal_cells hcsF).1 j (by simpa using hj))
    obtain ⟨wz, hwz⟩ : ∃ wz, storeC (K + 1) [.int .i64 0, .int .i64 0, .slice none 0 0, .int .i64 0, .int .i64 0, .int .i64 0, .int .i64 0, .int .i64 0, .int .i64 0, .int .i64 0, .string ⟨#[]⟩] 0 wA = wz := ⟨_, rfl⟩
    rw [hwz] at hfa hfb hrd
    have y0 := hrd 0 (by simp)
    have y1 := hrd 1 (by simp)
    have y2 := hrd 2 (by simp)
    have y3 := hrd 3 (by simp)
    have y4 := hrd 4 (by simp)
    have y5 := hrd 5 (by simp)
    have y6 := hrd 6 (by simp)
    have y7 := hrd 7 (by simp)
    have y8 := hrd 8 (by simp)
    have y9 := hrd 9 (by simp)
    have y10 := hrd 10 (by simp)
    simp only [Nat.zero_add, List.getElem_cons_zero, List.getElem_cons_succ] at y0 y1 y2 y3 y4 y5 y6 y7 y8 y9 y10
    simp only [storeC, Nat.zero_add, Nat.reduceAdd] at hwz
    have HFA := Lib.hid hfa; have HFB := Lib.hid hfb
    clear hfa hfb hrd hcsF
    obtain ⟨cs0, hcs0⟩ := HN.out.cal
    obtain ⟨hsome, hfz⟩ := cal_cells hcs0
    obtain ⟨x0, hx0⟩ := Option.isSome_iff_exists.1 (hsome 0 (by omega))
    have hz0 := hfz 0
    obtain ⟨x1, hx1⟩ := Option.isSome_iff_exists.1 (hsome 1 (by omega))
    have hz1 := hfz 1
    obtain ⟨x2, hx2⟩ := Option.isSome_iff_exists.1 (hsome 2 (by omega))
    have hz2 := hfz 2
    obtain ⟨x3, hx3⟩ := Option.isSome_iff_exists.1 (hsome 3 (by omega))
    have hz3 := hfz 3
    obtain ⟨x4, hx4⟩ := Option.isSome_iff_exists.1 (hsome 4 (by omega))
    have hz4 := hfz 4
    obtain ⟨x5, hx5⟩ := Option.isSome_iff_exists.1 (hsome 5 (by omega))
    have hz5 := hfz 5
    obtain ⟨x6, hx6⟩ := Option.isSome_iff_exists.1 (hsome 6 (by omega))
    have hz6 := hfz 6
    obtain ⟨x7, hx7⟩ := Option.isSome_iff_exists.1 (hsome 7 (by omega))
    have hz7 := hfz 7
    obtain ⟨x8, hx8⟩ := Option.isSome_iff_exists.1 (hsome 8 (by omega))
    have hz8 := hfz 8
    obtain ⟨x9, hx9⟩ := Option.isSome_iff_exists.1 (hsome 9 (by omega))
    have hz9 := hfz 9
    obtain ⟨x10, hx10⟩ := Option.isSome_iff_exists.1 (hsome 10 (by omega))
    have hz10 := hfz 10
    clear hsome hfz
    clear hcs0
    go_enter Tryd.func9, Tryd.ntmps9
    go_wp2_with (first
      | (go_at_call 14; with_reducible (refine (C11 _).out.mono ?_); rintro e wm ⟨rfl, rfl⟩)
      | fail)
    have HFIN : Hid (NextEnd U w q (W.next ⟨kind, story, n⟩).1 (W.next ⟨kind, story, n⟩).2 (.returned (.agg #[.int .i64 0, .int .i64 0, .slice none 0 0, .int .i64 0, .int .i64 0, .int .i64 0, .int .i64 0, .int .i64 0, .int .i64 0, .int .i64 0, .string ⟨#[]⟩])) wz) := Lib.hid (by
      rw [HNY.out]
      exact ⟨.slice none 0 0, _, va, U, rfl, HFA.out, HFB.out, fun k hk => .inl hk, fun now l hc => by cases hc⟩)
    exact bodyPost_ret (v := .agg #[.int .i64 0, .int .i64 0, .slice none 0 0, .int .i64 0, .int .i64 0, .int .i64 0, .int .i64 0, .int .i64 0, .int .i64 0, .int .i64 0, .string ⟨#[]⟩]) (by simp [results, Tryd.results9, go_sem, y0, y1, y2, y3, y4, y5, y6, y7, y8, y9, y10]) rfl HFIN.out
  · have hzb : decide ((0 : Int) < (n1 : Int)) = true := decide_eq_true (by omega)
    have hzb2 : decide (0 < n1) = true := decide_eq_true (by omega)
    have hz3 : 0 < n1 := by omega
    have hrp := pick_range story (n := (n1 : Int)) (by omega)
    have CP := fun W => Lib.hid (pick_any story (n1 : Int) W hs1 hs2 (by omega) (by have := HFL.out; omega))
    obtain ⟨j, hj⟩ : ∃ j : Nat, pickD story (n1 : Int) = j := ⟨(pickD story (n1 : Int)).toNat, by omega⟩
    rw [hj] at hrp
    simp only [hj] at CP
    have HNY : Hid (W.next ⟨kind, story, n⟩ = (.none, { W with flight := W.flight.eraseIdx j })) := Lib.hid (by
      rw [HNX.out, HLN.out, hj, Int.toNat_natCast])
    have hjl : j < n1 := by omega
    clear hz HNX hj
    go_enter Tryd.func9, Tryd.ntmps9
    go_upto_region 34 with (first
      | (go_at_call 14; with_reducible (refine (C11 _).out.mono ?_); rintro e wm ⟨rfl, rfl⟩)
      | fail)
    try rw [hwA]
    try rw [hKK]
    clear hwA
    have HWO : Hid (∀ wx, NextSt U w q W (.slice fa n1 fc) va K ⟨kind, story, n⟩ wx → Calls Tryd.prog 24 #[.slice fa n1 fc, .int .i64 j] wx fun e w' => ∃ v', e = .returned v' ∧ w'.ownsRow wx.heap.size 33 7 v' (W.flight.eraseIdx j).length ((W.flight.eraseIdx j).flatMap msgC) ∧ Below wx.heap.size wx w') := Lib.hid (fun wx hx => without_any _ W.flight j wx hx.wat.flight.read (by rw [HLN.out]; exact hjl) (by rw [HLN.out]; exact HFL.out))
    have HND : Hid (NextSt U w q W (.slice fa n1 fc) va K ⟨kind, story, n⟩ wA.drew) := Lib.hid (HN.out.below (Below.refl _ _).drew)
    have HKQ : Hid (q < K) := Lib.hid (HN.out.ub q HN.out.wat.own)
    go_region_with (first
      | (go_at_call 14; with_reducible (refine (CP _).out.mono ?_); rintro e wm ⟨rfl, rfl⟩)
      | (go_at_call 24; (with_reducible (refine (HWO.out _ HND.out).mono ?_)); rintro e wI ⟨v', rfl, hrow, hbI⟩; obtain ⟨ia, ic, rfl⟩ := row_form hrow; have HNI := Lib.hid (HND.out.below hbI); have cN : wI.cell? ⟨q, 67, none⟩ = some (.slice fa n1 fc) := (HNI.out.wat.cells 67 (by omega)).1; have fN := (HNI.out.wat.cells 67 (by omega)).2)
      | fail)
    all_goals
      have HSZ := HND.out.cal.elim fun cs hc => (Array.getElem?_eq_some_iff.1 hc.1).1
      have hown : ∀ g, (Value.slice ia (W.flight.eraseIdx j).length ic).ownBlock = some g → K + 1 < g ∧ g < wI.heap.size := fun g e => by have := hrow.lt g e; omega
      obtain ⟨wB, hwB⟩ : ∃ wB, wI.setCell ⟨q, 67, none⟩ (.slice ia (W.flight.eraseIdx j).length ic) = wB := ⟨_, rfl⟩
      have HWB : Hid (WAt (fun k => U k ∨ (Value.slice ia (W.flight.eraseIdx j).length ic).ownBlock = some k) wB q { W with flight := W.flight.eraseIdx j } (.slice ia (W.flight.eraseIdx j).length ic) va) := Lib.hid (by
        rw [← hwB]
        refine (HNI.out.wat.more (fun k hk => .inl hk) (fun k hk => hk.elim (HNI.out.wat.lt k) fun e => (hown k e).2)).putF (RowO.of_own hrow fun g e => ⟨.inr e, fun e2 => by have := (hown g e).1; have := HKQ.out; omega⟩) (fun g e e2 => ?_)
        have := HNI.out.ub g (HNI.out.wat.answers.own g e2).1
        have := (hown g e).1
        omega)
      have HNK : Hid (¬ (U (K + 1) ∨ (Value.slice ia (W.flight.eraseIdx j).length ic).ownBlock = some (K + 1))) := Lib.hid (fun e => e.elim (fun e => by have := HNI.out.ub _ e; omega) fun e => by have := (hown _ e).1; omega)
      have HKW : Hid (w.heap.size ≤ K + 1) := Lib.hid (by have := HNI.out.hK; omega)
      have HBB : Hid (But U w.heap.size w wB) := Lib.hid (by rw [← hwB]; exact HNI.out.but.setCell HNI.out.wat.own _)
      have HCB : Hid (∃ cs, CalAt (K + 1) cs wB) := Lib.hid (HNI.out.cal.elim fun cs hc => ⟨cs, by rw [← hwB]; exact (Below.heap_setCell _ ⟨q, _, none⟩ _ (K + 1) (by show K + 1 ≠ q; have := HKQ.out; omega)).trans hc.1, hc.2⟩)
      have HUN : Hid (∀ k, (U k ∨ (Value.slice ia (W.flight.eraseIdx j).length ic).ownBlock = some k) → U k ∨ w.heap.size ≤ k) := Lib.hid (fun k hk => hk.elim .inl fun e => .inr (by have := (hown k e).1; have := HKW.out; omega))
      rw [hwB]
      clear hwB cN fN hrow hbI hown c67 f67 o0 o1
      obtain ⟨hfa, hfb⟩ := next_fin HWB.out HNK.out HKW.out HBB.out [.int .i64 0, .int .i64 0, .slice none 0 0, .int .i64 0, .int .i64 0, .int .i64 0, .int .i64 0, .int .i64 0, .int .i64 0, .int .i64 0, .string ⟨#[]⟩]
      obtain ⟨csF, hcsF⟩ := HCB.out
      have hrd := storeC_cell (K + 1) [.int .i64 0, .int .i64 0, .slice none 0 0, .int .i64 0, .int .i64 0, .int .i64 0, .int .i64 0, .int .i64 0, .int .i64 0, .int .i64 0, .string ⟨#[]⟩] 0 wB (fun j hj => by rw [Nat.zero_add]; exact (cal_cells hcsF).1 j (by simpa using hj))
      obtain ⟨wz, hwz⟩ : ∃ wz, storeC (K + 1) [.int .i64 0, .int .i64 0, .slice none 0 0, .int .i64 0, .int .i64 0, .int .i64 0, .int .i64 0, .int .i64 0, .int .i64 0, .int .i64 0, .string ⟨#[]⟩] 0 wB = wz := ⟨_, rfl⟩
      rw [hwz] at hfa hfb hrd
      have y0 := hrd 0 (by simp)
      have y1 := hrd 1 (by simp)
      have y2 := hrd 2 (by simp)
      have y3 := hrd 3 (by simp)
      have y4 := hrd 4 (by simp)
      have y5 := hrd 5 (by simp)
      have y6 := hrd 6 (by simp)
      have y7 := hrd 7 (by simp)
      have y8 := hrd 8 (by simp)
      have y9 := hrd 9 (by simp)
      have y10 := hrd 10 (by simp)
      simp only [Nat.zero_add, List.getElem_cons_zero, List.getElem_cons_succ] at y0 y1 y2 y3 y4 y5 y6 y7 y8 y9 y10
      simp only [storeC, Nat.zero_add, Nat.reduceAdd] at hwz
      have HFA := Lib.hid hfa; have HFB := Lib.hid hfb
      clear hfa hfb hrd hcsF
      obtain ⟨cs0, hcs0⟩ := HCB.out
      obtain ⟨hsome, hfz⟩ := cal_cells hcs0
      obtain ⟨x0, hx0⟩ := Option.isSome_iff_exists.1 (hsome 0 (by omega))
      have hz0 := hfz 0
      obtain ⟨x1, hx1⟩ := Option.isSome_iff_exists.1 (hsome 1 (by omega))
      have hz1 := hfz 1
      obtain ⟨x2, hx2⟩ := Option.isSome_iff_exists.1 (hsome 2 (by omega))
      have hz2 := hfz 2
      obtain ⟨x3, hx3⟩ := Option.isSome_iff_exists.1 (hsome 3 (by omega))
      have hz3 := hfz 3
      obtain ⟨x4, hx4⟩ := Option.isSome_iff_exists.1 (hsome 4 (by omega))
      have hz4 := hfz 4
      obtain ⟨x5, hx5⟩ := Option.isSome_iff_exists.1 (hsome 5 (by omega))
      have hz5 := hfz 5
      obtain ⟨x6, hx6⟩ := Option.isSome_iff_exists.1 (hsome 6 (by omega))
      have hz6 := hfz 6
      obtain ⟨x7, hx7⟩ := Option.isSome_iff_exists.1 (hsome 7 (by omega))
      have hz7 := hfz 7
      obtain ⟨x8, hx8⟩ := Option.isSome_iff_exists.1 (hsome 8 (by omega))
      have hz8 := hfz 8
      obtain ⟨x9, hx9⟩ := Option.isSome_iff_exists.1 (hsome 9 (by omega))
      have hz9 := hfz 9
      obtain ⟨x10, hx10⟩ := Option.isSome_iff_exists.1 (hsome 10 (by omega))
      have hz10 := hfz 10
      clear hsome hfz hcs0
      go_wp2_with fail
      have HFIN : Hid (NextEnd U w q (W.next ⟨kind, story, n⟩).1 (W.next ⟨kind, story, n⟩).2 (.returned (.agg #[.int .i64 0, .int .i64 0, .slice none 0 0, .int .i64 0, .int .i64 0, .int .i64 0, .int .i64 0, .int .i64 0, .int .i64 0, .int .i64 0, .string ⟨#[]⟩])) wz) := Lib.hid (by
        rw [HNY.out]
        exact ⟨.slice none 0 0, _, va, _, rfl, HFA.out, HFB.out, HUN.out, fun now l hc => by cases hc⟩)
      exact bodyPost_ret (v := .agg #[.int .i64 0, .int .i64 0, .slice none 0 0, .int .i64 0, .int .i64 0, .int .i64 0, .int .i64 0, .int .i64 0, .int .i64 0, .int .i64 0, .string ⟨#[]⟩]) (by simp [results, Tryd.results9, go_sem, y0, y1, y2, y3, y4, y5, y6, y7, y8, y9, y10]) rfl HFIN.out
end Go.Proofs.YtefloieanpgnmaaDoor

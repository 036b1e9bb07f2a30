/- Facts and contracts for the laws of the sender, part 28. Conditions: those that each theorem names. -/
import Derived.Test.YtefloieanpgnmaaDoorK25
/- The law's steps: the wanted texts. -/
namespace Go.Proofs.YtefloieanpgnmaaDoor
open Go.RowKit

set_option maxRecDepth 100000 in
set_option maxHeartbeats 8000000 in
theorem next_want {a0 a1 : Addr} {w0 : World} {U : Nat → Prop} {w : World} {q : Nat} {W : Wld} {vf va : Value} (h : WAt U w q W vf va) (_hq0 : w0.heap.size ≤ q) (hlw : LW a0 a1 w0 w) (hw : NextOk W) (o : Op3) (ho : okO o) (hp : pickD o.kind 11 ≤ 1) :
    Calls Tryd.prog 9 #[.pointer (some ⟨q, 0, none⟩), opV o] w (NextEnd U w q (W.next o).1 (W.next o).2) := by
  obtain ⟨kind, story, n⟩ := o
  obtain ⟨⟨hk1, hk2⟩, ⟨hs1, hs2⟩, hn1, hn2⟩ := ho
  simp only at hk1 hk2 hs1 hs2 hn1 hn2 hp
  have hr11 := pick_range kind (n := 11) (by omega)
  have C11 := fun W => Lib.hid (pick_any kind 11 W hk1 hk2 (by omega) (by omega))
  have C22 := fun W => Lib.hid (pick_any kind 22 W hk1 hk2 (by omega) (by omega))
  have C6 := fun W => Lib.hid (pick_any story 6 W hs1 hs2 (by omega) (by omega))
  have C64 := fun W => Lib.hid (pick_any story 64 W hs1 hs2 (by omega) (by omega))
  have C101 := fun W => Lib.hid (pick_any n 101 W hn1 hn2 (by omega) (by omega))
  have hr6 := pick_range story (n := 6) (by omega)
  have hr64 := pick_range story (n := 64) (by omega)
  have hr22 := pick_range kind (n := 22) (by omega)
  have hr101 := pick_range n (n := 101) (by omega)
  have hq := h.lt q h.own
  have HW := Lib.hid h; have HLW := Lib.hid hlw; have HNO := Lib.hid hw
  have HNX : Hid (W.next ⟨kind, story, n⟩ = (.want W.now { W with wanted := updF W.wanted ((if pickD kind 22 < 11 then 1 + pickD story 6 else 1 + pickD story 64).toNat) (pickD n 101).toNat }.items, { W with wanted := updF W.wanted ((if pickD kind 22 < 11 then 1 + pickD story 6 else 1 + pickD story 64).toNat) (pickD n 101).toNat })) := Lib.hid (by unfold Wld.next; rw [if_pos hp])
  have hpc : pickD kind 11 = 0 ∨ pickD kind 11 = 1 := by omega
  obtain ⟨pk, hpk⟩ : ∃ x, pickD kind 11 = x := ⟨_, rfl⟩
  obtain ⟨p22, hp22⟩ : ∃ x, pickD kind 22 = x := ⟨_, rfl⟩
  obtain ⟨p6, hp6⟩ : ∃ x, pickD story 6 = x := ⟨_, rfl⟩
  obtain ⟨p64, hp64⟩ : ∃ x, pickD story 64 = x := ⟨_, rfl⟩
  obtain ⟨pn, hpn⟩ : ∃ x, pickD n 101 = x := ⟨_, rfl⟩
  simp only [hpk] at C11 hpc
  simp only [hp22] at C22 HNX hr22
  simp only [hp6] at C6 HNX hr6
  simp only [hp64] at C64 HNX hr64
  simp only [hpn] at C101 HNX hr101
  have hns := NextSt.start h ⟨kind, story, n⟩
  obtain ⟨wA, hwA⟩ : ∃ wA, (w.alloc (.cells #[.int .i64 kind, .int .i64 story, .int .i64 n] 38)).alloc (.cells #[.int .i64 0, .int .i64 0, .slice none 0 0, .int .i64 0, .int .i64 0, .int .i64 0, .int .i64 0, .int .i64 0, .int .i64 0, .int .i64 0, .string ⟨#[]⟩] 35) = wA := ⟨_, rfl⟩
  simp only at hns
  rw [hwA] at hns
  obtain ⟨K, hKK⟩ : ∃ K, w.heap.size = K := ⟨_, rfl⟩
  have HKK := Lib.hid hKK
  rw [hKK] at hns
  have HN := Lib.hid hns
  have o0 : wA.cell? ⟨K, 0, none⟩ = some (.int .i64 kind) := by rw [Lib.cell_of_heap HN.out.op]; rfl
  have o1 : wA.cell? ⟨K, 1, none⟩ = some (.int .i64 story) := by rw [Lib.cell_of_heap HN.out.op]; rfl
  have o2 : wA.cell? ⟨K, 2, none⟩ = some (.int .i64 n) := by rw [Lib.cell_of_heap HN.out.op]; rfl
  clear h hlw hw hp hr11 hpk hp22 hp6 hp64 hpn hns
  unfold opV
  simp only
  by_cases h22 : p22 < 11
  · rcases hpc with rfl | rfl
    all_goals
      go_enter Tryd.func9, Tryd.ntmps9
      go_upto_region 13 with (first
        | (go_at_call 14; first
            | (with_reducible (refine (C11 _).out.mono ?_); rintro e wm ⟨rfl, rfl⟩)
            | (with_reducible (refine (C22 _).out.mono ?_); rintro e wm ⟨rfl, rfl⟩)
            | (with_reducible (refine (C6 _).out.mono ?_); rintro e wm ⟨rfl, rfl⟩)
            | (with_reducible (refine (C64 _).out.mono ?_); rintro e wm ⟨rfl, rfl⟩))
        | fail)
      try rw [hwA]
      try rw [hKK]
      clear hwA
      obtain ⟨a, rfl⟩ : ∃ a : Nat, p6 = a := ⟨p6.toNat, by omega⟩
      obtain ⟨nn, rfl⟩ : ∃ a : Nat, pn = a := ⟨pn.toNat, by omega⟩
      have hi0 : (0 : Int) ≤ 1 + (a : Int) := by omega
      have hi65 : (1 : Int) + (a : Int) < 65 := by omega
      have hit : ((1 : Int) + (a : Int)).toNat = 1 + a := by omega
      obtain ⟨v0, c0⟩ : ∃ v, wA.cell? ⟨q, 2 + (1 + a), none⟩ = some v := ⟨_, (HN.out.wat.cells (2 + (1 + a)) (by omega)).1⟩
      have f0 := (HN.out.wat.cells (2 + (1 + a)) (by omega)).2
      go_region_with (first
        | (go_at_call 14; with_reducible (refine (C101 _).out.mono ?_); rintro e wm ⟨rfl, rfl⟩)
        | fail)
      obtain ⟨wB, hwB⟩ : ∃ wB, (wA.setCell ⟨q, 2 + (1 + a), none⟩ (.int .i64 nn)).drew = wB := ⟨_, rfl⟩
      have HNB : Hid (NextSt U w q { W with wanted := updF W.wanted (1 + a) nn } vf va K ⟨kind, story, n⟩ wB) := Lib.hid (by rw [← hwB]; exact (HN.out.put (by omega) (put_wanted W vf va (1 + a) (by omega) nn) rfl rfl).below (Below.refl _ _).drew)
      have HW1 : Hid (W100 { W with wanted := updF W.wanted (1 + a) nn }) := Lib.hid (fun i => by
        simp only [updF]
        split
        · omega
        · exact HNO.out.w100 i)
      obtain ⟨L, hL⟩ : ∃ L, ({ W with wanted := updF W.wanted (1 + a) nn } : Wld).items = L := ⟨_, rfl⟩
      have HLI := Lib.hid hL
      have HI : Hid (∀ wx, NextSt U w q { W with wanted := updF W.wanted (1 + a) nn } vf va K ⟨kind, story, n⟩ wx → Calls Tryd.prog 23 #[.pointer (some ⟨q, 0, none⟩)] wx fun e w' => ∃ v, e = .returned v ∧ w'.ownsRow wx.heap.size 60 2 v L.length (L.flatMap itemC) ∧ Below wx.heap.size wx w') := Lib.hid (fun wx hx => by rw [← hL]; exact items_any hx.wat.cells (hx.wat.lt q hx.wat.own) HW1.out)
      rw [hwB]
      have HND : Hid (NextSt U w q { W with wanted := updF W.wanted (1 + a) nn } vf va K ⟨kind, story, n⟩ wB.drew) := Lib.hid (HNB.out.below (Below.refl _ _).drew)
      have n0 := (HNB.out.wat.cells 0 (by omega)).1
      simp only [wldV, if_true] at n0
      obtain ⟨W1, hW1⟩ : ∃ W1 : Wld, { W with wanted := updF W.wanted (1 + a) nn } = W1 := ⟨_, rfl⟩
      have HWE := Lib.hid hW1
      rw [hW1] at HND HNB HI
      have cNW : W1.now = W.now := by rw [← hW1]
      have HCN : Hid (wldV W1 vf va 0 = .int .i64 W.now) := Lib.hid (by rw [← hW1]; rfl)
      clear hwB c0 f0 o0 o1 o2 HN hW1 hL cNW
      go_upto_region 14 with fail
      go_region_with (first
        | (go_at_call 23; go_loud (with_reducible (refine (HI.out _ HND.out).mono ?_)); rintro e wI ⟨vi, rfl, hrow, hbI⟩; obtain ⟨ia, ic, rfl⟩ := row_form hrow; have HNI := Lib.hid (HND.out.below hbI); have cN : wI.cell? ⟨q, 0, none⟩ = some (.int .i64 W.now) := (HNI.out.wat.cells 0 (by omega)).1.trans (by rw [HCN.out]); obtain ⟨cs0, hcs0⟩ := HNI.out.cal; obtain ⟨hsome, hfz⟩ := cal_cells hcs0; obtain ⟨x0, hx0⟩ := Option.isSome_iff_exists.1 (hsome 0 (by omega)); have hz0 := hfz 0; obtain ⟨x1, hx1⟩ := Option.isSome_iff_exists.1 (hsome 1 (by omega)); have hz1 := hfz 1; obtain ⟨x2, hx2⟩ := Option.isSome_iff_exists.1 (hsome 2 (by omega)); have hz2 := hfz 2; obtain ⟨x3, hx3⟩ := Option.isSome_iff_exists.1 (hsome 3 (by omega)); have hz3 := hfz 3; obtain ⟨x4, hx4⟩ := Option.isSome_iff_exists.1 (hsome 4 (by omega)); have hz4 := hfz 4; obtain ⟨x5, hx5⟩ := Option.isSome_iff_exists.1 (hsome 5 (by omega)); have hz5 := hfz 5; obtain ⟨x6, hx6⟩ := Option.isSome_iff_exists.1 (hsome 6 (by omega)); have hz6 := hfz 6; obtain ⟨x7, hx7⟩ := Option.isSome_iff_exists.1 (hsome 7 (by omega)); have hz7 := hfz 7; obtain ⟨x8, hx8⟩ := Option.isSome_iff_exists.1 (hsome 8 (by omega)); have hz8 := hfz 8; obtain ⟨x9, hx9⟩ := Option.isSome_iff_exists.1 (hsome 9 (by omega)); have hz9 := hfz 9; obtain ⟨x10, hx10⟩ := Option.isSome_iff_exists.1 (hsome 10 (by omega)); have hz10 := hfz 10; clear hsome hfz)
        | fail)
      all_goals
        clear HCN cN n0 hx0 hz0 hx1 hz1 hx2 hz2 hx3 hz3 hx4 hz4 hx5 hz5 hx6 hz6 hx7 hz7 hx8 hz8 hx9 hz9 hx10 hz10
        obtain ⟨hfa, hfb⟩ := next_fin HNI.out.wat (fun e => by have := HNI.out.ub _ e; omega) (by have := HNI.out.hK; omega : w.heap.size ≤ K + 1) HNI.out.but [.int .i64 1, .int .i64 W.now, .slice ia L.length ic, .int .i64 0, .int .i64 0, .int .i64 0, .int .i64 0, .int .i64 0, .int .i64 0, .int .i64 0, .string ⟨#[]⟩]
        obtain ⟨csF, hcsF⟩ := HNI.out.cal
        have hrd := storeC_cell (K + 1) [.int .i64 1, .int .i64 W.now, .slice ia L.length ic, .int .i64 0, .int .i64 0, .int .i64 0, .int .i64 0, .int .i64 0, .int .i64 0, .int .i64 0, .string ⟨#[]⟩] 0 wI (fun j hj => by rw [Nat.zero_add]; exact (cal_cells hcsF).1 j (by simpa using hj))
        obtain ⟨wz, hwz⟩ : ∃ wz, storeC (K + 1) [.int .i64 1, .int .i64 W.now, .slice ia L.length ic, .int .i64 0, .int .i64 0, .int .i64 0, .int .i64 0, .int .i64 0, .int .i64 0, .int .i64 0, .string ⟨#[]⟩] 0 wI = wz := ⟨_, rfl⟩
        rw [hwz] at hfa hfb hrd
        have y0 := hrd 0 (by simp)
        have y1 := hrd 1 (by simp)
        have y2 := hrd 2 (by simp)
        have y3 := hrd 3 (by simp)
        have y4 := hrd 4 (by simp)
        have y5 := hrd 5 (by simp)
        have y6 := hrd 6 (by simp)
        have y7 := hrd 7 (by simp)
        have y8 := hrd 8 (by simp)
        have y9 := hrd 9 (by simp)
        have y10 := hrd 10 (by simp)
        simp only [Nat.zero_add, List.getElem_cons_zero, List.getElem_cons_succ] at y0 y1 y2 y3 y4 y5 y6 y7 y8 y9 y10
        simp only [storeC, Nat.zero_add, Nat.reduceAdd] at hwz
        have HFA := Lib.hid hfa; have HFB := Lib.hid hfb
        clear hfa hfb hrd hcsF
        have HIT : Hid (ItL wz (.slice ia L.length ic) L ∧ ∀ bb off n cc, (.slice ia L.length ic : Value) = .slice (some ⟨bb, off, none⟩) n cc → w.heap.size ≤ bb ∧ bb < wz.heap.size ∧ ¬ U bb) := Lib.hid (itl_of hrow HND.out.but.size (fun k hk => (HND.out.wat.lt k hk)) (by rw [← hwz]; exact fun j hj => storeC_far (K + 1) [.int .i64 1, .int .i64 W.now, .slice ia L.length ic, .int .i64 0, .int .i64 0, .int .i64 0, .int .i64 0, .int .i64 0, .int .i64 0, .int .i64 0, .string ⟨#[]⟩] 0 wI j hj) (by have := HND.out.hK; have := (Array.getElem?_eq_some_iff.1 HND.out.cal.choose_spec.1).1; omega))
        rw [hwz]
        clear hwz hrow hbI
        go_wp2_with fail
        have HFIN : Hid (NextEnd U w q (W.next ⟨kind, story, n⟩).1 (W.next ⟨kind, story, n⟩).2 (.returned (.agg #[.int .i64 1, .int .i64 W.now, .slice ia L.length ic, .int .i64 0, .int .i64 0, .int .i64 0, .int .i64 0, .int .i64 0, .int .i64 0, .int .i64 0, .string ⟨#[]⟩])) wz) := Lib.hid (by
          rw [HNX.out, if_pos h22, hit, Int.toNat_natCast, HWE.out]
          refine ⟨.slice ia L.length ic, vf, va, U, rfl, HFA.out, HFB.out, fun k hk => .inl hk, fun now l hc => ?_⟩
          have hl2 : W1.items = L := by rw [← HWE.out]; exact HLI.out
          have hc2 : Cal.want W.now L = Cal.want now l := by rw [← hl2]; exact hc
          injection hc2 with h1 h2
          rw [← h2]
          exact HIT.out)
        exact bodyPost_ret (v := .agg #[.int .i64 1, .int .i64 W.now, .slice ia L.length ic, .int .i64 0, .int .i64 0, .int .i64 0, .int .i64 0, .int .i64 0, .int .i64 0, .int .i64 0, .string ⟨#[]⟩]) (by simp [results, Tryd.results9, go_sem, y0, y1, y2, y3, y4, y5, y6, y7, y8, y9, y10]) rfl HFIN.out
  · rcases hpc with rfl | rfl
    all_goals
      go_enter Tryd.func9, Tryd.ntmps9
      go_upto_region 13 with (first
        | (go_at_call 14; first
            | (with_reducible (refine (C11 _).out.mono ?_); rintro e wm ⟨rfl, rfl⟩)
            | (with_reducible (refine (C22 _).out.mono ?_); rintro e wm ⟨rfl, rfl⟩)
            | (with_reducible (refine (C6 _).out.mono ?_); rintro e wm ⟨rfl, rfl⟩)
            | (with_reducible (refine (C64 _).out.mono ?_); rintro e wm ⟨rfl, rfl⟩))
        | fail)
      try rw [hwA]
      try rw [hKK]
      clear hwA
      obtain ⟨a, rfl⟩ : ∃ a : Nat, p64 = a := ⟨p64.toNat, by omega⟩
      obtain ⟨nn, rfl⟩ : ∃ a : Nat, pn = a := ⟨pn.toNat, by omega⟩
      have hi0 : (0 : Int) ≤ 1 + (a : Int) := by omega
      have hi65 : (1 : Int) + (a : Int) < 65 := by omega
      have hit : ((1 : Int) + (a : Int)).toNat = 1 + a := by omega
      obtain ⟨v0, c0⟩ : ∃ v, wA.cell? ⟨q, 2 + (1 + a), none⟩ = some v := ⟨_, (HN.out.wat.cells (2 + (1 + a)) (by omega)).1⟩
      have f0 := (HN.out.wat.cells (2 + (1 + a)) (by omega)).2
      go_region_with (first
        | (go_at_call 14; with_reducible (refine (C101 _).out.mono ?_); rintro e wm ⟨rfl, rfl⟩)
        | fail)
      obtain ⟨wB, hwB⟩ : ∃ wB, (wA.setCell ⟨q, 2 + (1 + a), none⟩ (.int .i64 nn)).drew = wB := ⟨_, rfl⟩
      have HNB : Hid (NextSt U w q { W with wanted := updF W.wanted (1 + a) nn } vf va K ⟨kind, story, n⟩ wB) := Lib.hid (by rw [← hwB]; exact (HN.out.put (by omega) (put_wanted W vf va (1 + a) (by omega) nn) rfl rfl).below (Below.refl _ _).drew)
      have HW1 : Hid (W100 { W with wanted := updF W.wanted (1 + a) nn }) := Lib.hid (fun i => by
        simp only [updF]
        split
        · omega
        · exact HNO.out.w100 i)
      obtain ⟨L, hL⟩ : ∃ L, ({ W with wanted := updF W.wanted (1 + a) nn } : Wld).items = L := ⟨_, rfl⟩
      have HLI := Lib.hid hL
      have HI : Hid (∀ wx, NextSt U w q { W with wanted := updF W.wanted (1 + a) nn } vf va K ⟨kind, story, n⟩ wx → Calls Tryd.prog 23 #[.pointer (some ⟨q, 0, none⟩)] wx fun e w' => ∃ v, e = .returned v ∧ w'.ownsRow wx.heap.size 60 2 v L.length (L.flatMap itemC) ∧ Below wx.heap.size wx w') := Lib.hid (fun wx hx => by rw [← hL]; exact items_any hx.wat.cells (hx.wat.lt q hx.wat.own) HW1.out)
      rw [hwB]
      have HND : Hid (NextSt U w q { W with wanted := updF W.wanted (1 + a) nn } vf va K ⟨kind, story, n⟩ wB.drew) := Lib.hid (HNB.out.below (Below.refl _ _).drew)
      have n0 := (HNB.out.wat.cells 0 (by omega)).1
      simp only [wldV, if_true] at n0
      obtain ⟨W1, hW1⟩ : ∃ W1 : Wld, { W with wanted := updF W.wanted (1 + a) nn } = W1 := ⟨_, rfl⟩
      have HWE := Lib.hid hW1
      rw [hW1] at HND HNB HI
      have cNW : W1.now = W.now := by rw [← hW1]
      have HCN : Hid (wldV W1 vf va 0 = .int .i64 W.now) := Lib.hid (by rw [← hW1]; rfl)
      clear hwB c0 f0 o0 o1 o2 HN hW1 hL cNW
      go_upto_region 14 with fail
      go_region_with (first
        | (go_at_call 23; go_loud (with_reducible (refine (HI.out _ HND.out).mono ?_)); rintro e wI ⟨vi, rfl, hrow, hbI⟩; obtain ⟨ia, ic, rfl⟩ := row_form hrow; have HNI := Lib.hid (HND.out.below hbI); have cN : wI.cell? ⟨q, 0, none⟩ = some (.int .i64 W.now) := (HNI.out.wat.cells 0 (by omega)).1.trans (by rw [HCN.out]); obtain ⟨cs0, hcs0⟩ := HNI.out.cal; obtain ⟨hsome, hfz⟩ := cal_cells hcs0; obtain ⟨x0, hx0⟩ := Option.isSome_iff_exists.1 (hsome 0 (by omega)); have hz0 := hfz 0; obtain ⟨x1, hx1⟩ := Option.isSome_iff_exists.1 (hsome 1 (by omega)); have hz1 := hfz 1; obtain ⟨x2, hx2⟩ := Option.isSome_iff_exists.1 (hsome 2 (by omega)); have hz2 := hfz 2; obtain ⟨x3, hx3⟩ := Option.isSome_iff_exists.1 (hsome 3 (by omega)); have hz3 := hfz 3; obtain ⟨x4, hx4⟩ := Option.isSome_iff_exists.1 (hsome 4 (by omega)); have hz4 := hfz 4; obtain ⟨x5, hx5⟩ := Option.isSome_iff_exists.1 (hsome 5 (by omega)); have hz5 := hfz 5; obtain ⟨x6, hx6⟩ := Option.isSome_iff_exists.1 (hsome 6 (by omega)); have hz6 := hfz 6; obtain ⟨x7, hx7⟩ := Option.isSome_iff_exists.1 (hsome 7 (by omega)); have hz7 := hfz 7; obtain ⟨x8, hx8⟩ := Option.isSome_iff_exists.1 (hsome 8 (by omega)); have hz8 := hfz 8; obtain ⟨x9, hx9⟩ := Option.isSome_iff_exists.1 (hsome 9 (by omega)); have hz9 := hfz 9; obtain ⟨x10, hx10⟩ := Option.isSome_iff_exists.1 (hsome 10 (by omega)); have hz10 := hfz 10; clear hsome hfz)
        | fail)
      all_goals
        clear HCN cN n0 hx0 hz0 hx1 hz1 hx2 hz2 hx3 hz3 hx4 hz4 hx5 hz5 hx6 hz6 hx7 hz7 hx8 hz8 hx9 hz9 hx10 hz10
        obtain ⟨hfa, hfb⟩ := next_fin HNI.out.wat (fun e => by have := HNI.out.ub _ e; omega) (by have := HNI.out.hK; omega : w.heap.size ≤ K + 1) HNI.out.but [.int .i64 1, .int .i64 W.now, .slice ia L.length ic, .int .i64 0, .int .i64 0, .int .i64 0, .int .i64 0, .int .i64 0, .int .i64 0, .int .i64 0, .string ⟨#[]⟩]
        obtain ⟨csF, hcsF⟩ := HNI.out.cal
        have hrd := storeC_cell (K + 1) [.int .i64 1, .int .i64 W.now, .slice ia L.length ic, .int .i64 0, .int .i64 0, .int .i64 0, .int .i64 0, .int .i64 0, .int .i64 0, .int .i64 0, .string ⟨#[]⟩] 0 wI (fun j hj => by rw [Nat.zero_add]; exact (cal_cells hcsF).1 j (by simpa using hj))
        obtain ⟨wz, hwz⟩ : ∃ wz, storeC (K + 1) [.int .i64 1, .int .i64 W.now, .slice ia L.length ic, .int .i64 0, .int .i64 0, .int .i64 0, .int .i64 0, .int .i64 0, .int .i64 0, .int .i64 0, .string ⟨#[]⟩] 0 wI = wz := ⟨_, rfl⟩
        rw [hwz] at hfa hfb hrd
        have y0 := hrd 0 (by simp)
        have y1 := hrd 1 (by simp)
        have y2 := hrd 2 (by simp)
        have y3 := hrd 3 (by simp)
        have y4 := hrd 4 (by simp)
        have y5 := hrd 5 (by simp)
        have y6 := hrd 6 (by simp)
        have y7 := hrd 7 (by simp)
        have y8 := hrd 8 (by simp)
        have y9 := hrd 9 (by simp)
        have y10 := hrd 10 (by simp)
        simp only [Nat.zero_add, List.getElem_cons_zero, List.getElem_cons_succ] at y0 y1 y2 y3 y4 y5 y6 y7 y8 y9 y10
        simp only [storeC, Nat.zero_add, Nat.reduceAdd] at hwz
        have HFA := Lib.hid hfa; have HFB := Lib.hid hfb
        clear hfa hfb hrd hcsF
        have HIT : Hid (ItL wz (.slice ia L.length ic) L ∧ ∀ bb off n cc, (.slice ia L.length ic : Value) = .slice (some ⟨bb, off, none⟩) n cc → w.heap.size ≤ bb ∧ bb < wz.heap.size ∧ ¬ U bb) := Lib.hid (itl_of hrow HND.out.but.size (fun k hk => (HND.out.wat.lt k hk)) (by rw [← hwz]; exact fun j hj => storeC_far (K + 1) [.int .i64 1, .int .i64 W.now, .slice ia L.length ic, .int .i64 0, .int .i64 0, .int .i64 0, .int .i64 0, .int .i64 0, .int .i64 0, .int .i64 0, .string ⟨#[]⟩] 0 wI j hj) (by have := HND.out.hK; have := (Array.getElem?_eq_some_iff.1 HND.out.cal.choose_spec.1).1; omega))
        rw [hwz]
        clear hwz hrow hbI
        go_wp2_with fail
        have HFIN : Hid (NextEnd U w q (W.next ⟨kind, story, n⟩).1 (W.next ⟨kind, story, n⟩).2 (.returned (.agg #[.int .i64 1, .int .i64 W.now, .slice ia L.length ic, .int .i64 0, .int .i64 0, .int .i64 0, .int .i64 0, .int .i64 0, .int .i64 0, .int .i64 0, .string ⟨#[]⟩])) wz) := Lib.hid (by
          rw [HNX.out, if_neg (by omega), hit, Int.toNat_natCast, HWE.out]
          refine ⟨.slice ia L.length ic, vf, va, U, rfl, HFA.out, HFB.out, fun k hk => .inl hk, fun now l hc => ?_⟩
          have hl2 : W1.items = L := by rw [← HWE.out]; exact HLI.out
          have hc2 : Cal.want W.now L = Cal.want now l := by rw [← hl2]; exact hc
          injection hc2 with h1 h2
          rw [← h2]
          exact HIT.out)
        exact bodyPost_ret (v := .agg #[.int .i64 1, .int .i64 W.now, .slice ia L.length ic, .int .i64 0, .int .i64 0, .int .i64 0, .int .i64 0, .int .i64 0, .int .i64 0, .int .i64 0, .string ⟨#[]⟩]) (by simp [results, Tryd.results9, go_sem, y0, y1, y2, y3, y4, y5, y6, y7, y8, y9, y10]) rfl HFIN.out
end Go.Proofs.YtefloieanpgnmaaDoor

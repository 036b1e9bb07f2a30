/- Facts and contracts for the laws of the sender, part 31. Conditions: those that each theorem names. -/
import Derived.Test.YtefloieanpgnmaaDoorK25
import Derived.Test.YtefloieanpgnmaaDoorK30
/- The law's steps: an answer is received. -/
namespace Go.Proofs.YtefloieanpgnmaaDoor
open Go.RowKit

set_option maxRecDepth 100000 in
set_option maxHeartbeats 8000000 in
theorem next_recv {U : Nat → Prop} {w : World} {q : Nat} {W : Wld} {vf va : Value} (h : WAt U w q W vf va) (hw : NextOk W) (o : Op3) (ho : okO o) (hp : 9 ≤ pickD o.kind 11) :
    Calls Tryd.prog 9 #[.pointer (some ⟨q, 0, none⟩), opV o] w (NextEnd U w q (W.next o).1 (W.next o).2) := by
  obtain ⟨kind, story, n⟩ := o
  obtain ⟨⟨hk1, hk2⟩, ⟨hs1, hs2⟩, hn1, hn2⟩ := ho
  simp only at hk1 hk2 hs1 hs2 hn1 hn2 hp
  have hr11 := pick_range kind (n := 11) (by omega)
  have C11 := fun W => Lib.hid (pick_any kind 11 W hk1 hk2 (by omega) (by omega))
  have C3 := fun W => Lib.hid (pick_any n 3 W hn1 hn2 (by omega) (by omega))
  have hq := h.lt q h.own
  have HAL := Lib.hid hw.alen
  have HNX : Hid (W.next ⟨kind, story, n⟩ = match W.answers[(pickD story W.answers.length).toNat]? with | some m => (.recv W.now m, { W with answers := if 0 < pickD n 3 then W.answers.eraseIdx (pickD story W.answers.length).toNat else W.answers }) | none => (.none, W)) := Lib.hid (by
    unfold Wld.next; simp only; rw [if_neg (by omega), if_neg (by omega), if_neg (by omega), if_neg (by omega), if_neg (by omega), if_neg (by omega)]
    cases W.answers[(pickD story W.answers.length).toNat]? <;> rfl)
  obtain ⟨aa, ac, hva, hac, -, hrd0⟩ := h.answers.read
  subst hva
  have HRD := Lib.hid hrd0
  obtain ⟨pk, hpk⟩ : ∃ x, pickD kind 11 = x := ⟨_, rfl⟩
  rw [hpk] at hp hr11
  simp only [hpk] at C11
  have b0 : ((pk : Int) == 0) = false := by rw [beq_eq_false_iff_ne]; omega
  have b1 : ((pk : Int) == 1) = false := by rw [beq_eq_false_iff_ne]; omega
  have b2 : ((pk : Int) == 2) = false := by rw [beq_eq_false_iff_ne]; omega
  have b3 : ((pk : Int) == 3) = false := by rw [beq_eq_false_iff_ne]; omega
  have b4 : ((pk : Int) == 4) = false := by rw [beq_eq_false_iff_ne]; omega
  have b5 : ((pk : Int) == 5) = false := by rw [beq_eq_false_iff_ne]; omega
  have b6 : ((pk : Int) == 6) = false := by rw [beq_eq_false_iff_ne]; omega
  have b7 : ((pk : Int) == 7) = false := by rw [beq_eq_false_iff_ne]; omega
  have b8 : ((pk : Int) == 8) = false := by rw [beq_eq_false_iff_ne]; omega
  have hns := NextSt.start h ⟨kind, story, n⟩
  obtain ⟨wA, hwA⟩ : ∃ wA, (w.alloc (.cells #[.int .i64 kind, .int .i64 story, .int .i64 n] 38)).alloc (.cells #[.int .i64 0, .int .i64 0, .slice none 0 0, .int .i64 0, .int .i64 0, .int .i64 0, .int .i64 0, .int .i64 0, .int .i64 0, .int .i64 0, .string ⟨#[]⟩] 35) = wA := ⟨_, rfl⟩
  simp only at hns
  rw [hwA] at hns
  obtain ⟨K, hKK⟩ : ∃ K, w.heap.size = K := ⟨_, rfl⟩
  rw [hKK] at hns
  have HN := Lib.hid hns
  have o0 : wA.cell? ⟨K, 0, none⟩ = some (.int .i64 kind) := by rw [Lib.cell_of_heap HN.out.op]; rfl
  have o1 : wA.cell? ⟨K, 1, none⟩ = some (.int .i64 story) := by rw [Lib.cell_of_heap HN.out.op]; rfl
  have o2 : wA.cell? ⟨K, 2, none⟩ = some (.int .i64 n) := by rw [Lib.cell_of_heap HN.out.op]; rfl
  obtain ⟨n1, hn1e⟩ : ∃ x, W.answers.length = x := ⟨_, rfl⟩
  have HLN := Lib.hid hn1e
  rw [hn1e] at HAL hac HN
  have c68 : wA.cell? ⟨q, 68, none⟩ = some (.slice aa n1 ac) := (HN.out.wat.cells 68 (by omega)).1
  have f68 := (HN.out.wat.cells 68 (by omega)).2
  clear h hw hp hr11 hpk hns hn1e hrd0
  unfold opV
  simp only
  by_cases hz : n1 = 0
  · have hzb : decide ((0 : Int) < (n1 : Int)) = false := decide_eq_false (by omega)
    have hzb2 : decide (0 < n1) = false := decide_eq_false (by omega)
    have hz3 : ¬ 0 < n1 := by omega
    have HNY : Hid (W.next ⟨kind, story, n⟩ = (.none, W)) := Lib.hid (by
      rw [HNX.out]
      have : W.answers = [] := List.length_eq_zero_iff.1 (by rw [HLN.out]; exact hz)
      rw [this]; rfl)
    clear hz HNX
    obtain ⟨hfa, hfb⟩ := next_fin HN.out.wat (fun e => by have := HN.out.ub _ e; omega) (by have := HN.out.hK; omega : w.heap.size ≤ K + 1) HN.out.but [.int .i64 0, .int .i64 0, .slice none 0 0, .int .i64 0, .int .i64 0, .int .i64 0, .int .i64 0, .int .i64 0, .int .i64 0, .int .i64 0, .string ⟨#[]⟩]
    obtain ⟨csF, hcsF⟩ := HN.out.cal
    have hrd := storeC_cell (K + 1) [.int .i64 0, .int .i64 0, .slice none 0 0, .int .i64 0, .int .i64 0, .int .i64 0, .int .i64 0, .int .i64 0, .int .i64 0, .int .i64 0, .string ⟨#[]⟩] 0 wA (fun j hj => by rw [Nat.zero_add]; exact (cal_cells hcsF).1 j (by simpa using hj))
    obtain ⟨wz, hwz⟩ : ∃ wz, storeC (K + 1) [.int .i64 0, .int .i64 0, .slice none 0 0, .int .i64 0, .int .i64 0, .int .i64 0, .int .i64 0, .int .i64 0, .int .i64 0, .int .i64 0, .string ⟨#[]⟩] 0 wA = wz := ⟨_, rfl⟩
    rw [hwz] at hfa hfb hrd
    have y0 := hrd 0 (by simp)
    have y1 := hrd 1 (by simp)
    have y2 := hrd 2 (by simp)
    have y3 := hrd 3 (by simp)
    have y4 := hrd 4 (by simp)
    have y5 := hrd 5 (by simp)
    have y6 := hrd 6 (by simp)
    have y7 := hrd 7 (by simp)
    have y8 := hrd 8 (by simp)
    have y9 := hrd 9 (by simp)
    have y10 := hrd 10 (by simp)
    simp only [Nat.zero_add, List.getElem_cons_zero, List.getElem_cons_succ] at y0 y1 y2 y3 y4 y5 y6 y7 y8 y9 y10
    simp only [storeC, Nat.zero_add, Nat.reduceAdd] at hwz
    have HFA := Lib.hid hfa; have HFB := Lib.hid hfb
    clear hfa hfb hrd hcsF
    obtain ⟨cs0, hcs0⟩ := HN.out.cal
    obtain ⟨hsome, hfz⟩ := cal_cells hcs0
    obtain ⟨x0, hx0⟩ := Option.isSome_iff_exists.1 (hsome 0 (by omega))
    have hz0 := hfz 0
    obtain ⟨x1, hx1⟩ := Option.isSome_iff_exists.1 (hsome 1 (by omega))
    have hz1 := hfz 1
    obtain ⟨x2, hx2⟩ := Option.isSome_iff_exists.1 (hsome 2 (by omega))
    have hz2 := hfz 2
    obtain ⟨x3, hx3⟩ := Option.isSome_iff_exists.1 (hsome 3 (by omega))
    have hz3 := hfz 3
    obtain ⟨x4, hx4⟩ := Option.isSome_iff_exists.1 (hsome 4 (by omega))
    have hz4 := hfz 4
    obtain ⟨x5, hx5⟩ := Option.isSome_iff_exists.1 (hsome 5 (by omega))
    have hz5 := hfz 5
    obtain ⟨x6, hx6⟩ := Option.isSome_iff_exists.1 (hsome 6 (by omega))
    have hz6 := hfz 6
    obtain ⟨x7, hx7⟩ := Option.isSome_iff_exists.1 (hsome 7 (by omega))
    have hz7 := hfz 7
    obtain ⟨x8, hx8⟩ := Option.isSome_iff_exists.1 (hsome 8 (by omega))
    have hz8 := hfz 8
    obtain ⟨x9, hx9⟩ := Option.isSome_iff_exists.1 (hsome 9 (by omega))
    have hz9 := hfz 9
    obtain ⟨x10, hx10⟩ := Option.isSome_iff_exists.1 (hsome 10 (by omega))
    have hz10 := hfz 10
    clear hsome hfz
    clear hcs0
    go_enter Tryd.func9, Tryd.ntmps9
    go_wp2_with (first
      | (go_at_call 14; (with_reducible (refine (C11 _).out.mono ?_)); rintro e wm ⟨rfl, rfl⟩)
      | fail)
    have HFIN : Hid (NextEnd U w q (W.next ⟨kind, story, n⟩).1 (W.next ⟨kind, story, n⟩).2 (.returned (.agg #[.int .i64 0, .int .i64 0, .slice none 0 0, .int .i64 0, .int .i64 0, .int .i64 0, .int .i64 0, .int .i64 0, .int .i64 0, .int .i64 0, .string ⟨#[]⟩])) wz) := Lib.hid (by
      rw [HNY.out]
      exact ⟨.slice none 0 0, vf, _, U, rfl, HFA.out, HFB.out, fun k hk => .inl hk, fun now l hc => by cases hc⟩)
    exact bodyPost_ret (v := .agg #[.int .i64 0, .int .i64 0, .slice none 0 0, .int .i64 0, .int .i64 0, .int .i64 0, .int .i64 0, .int .i64 0, .int .i64 0, .int .i64 0, .string ⟨#[]⟩]) (by simp [results, Tryd.results9, go_sem, y0, y1, y2, y3, y4, y5, y6, y7, y8, y9, y10]) rfl HFIN.out
  · have hzb : decide ((0 : Int) < (n1 : Int)) = true := decide_eq_true (by omega)
    have hzb2 : decide (0 < n1) = true := decide_eq_true (by omega)
    have hz3 : 0 < n1 := by omega
    have hrp := pick_range story (n := (n1 : Int)) (by omega)
    have CP := fun W => Lib.hid (pick_any story (n1 : Int) W hs1 hs2 (by omega) (by have := HAL.out; omega))
    obtain ⟨j, hj⟩ : ∃ j : Nat, pickD story (n1 : Int) = j := ⟨(pickD story (n1 : Int)).toNat, by omega⟩
    rw [hj] at hrp
    simp only [hj] at CP
    have hjl : j < n1 := by omega
    have hja : (j : Int) < (n1 : Int) := by omega
    have hlen : j < W.answers.length := by rw [HLN.out]; exact hjl
    obtain ⟨m, hm⟩ : ∃ m, W.answers[j] = m := ⟨_, rfl⟩
    obtain ⟨p3, hp3⟩ : ∃ x, pickD n 3 = x := ⟨_, rfl⟩
    simp only [hp3] at C3
    have HNY : Hid (W.next ⟨kind, story, n⟩ = (.recv W.now m, { W with answers := if 0 < p3 then W.answers.eraseIdx j else W.answers })) := Lib.hid (by
      rw [HNX.out, HLN.out, hj, Int.toNat_natCast, List.getElem?_eq_getElem hlen, hm, hp3])
    obtain ⟨ab, aoff, haa, hrd⟩ := HRD.out (fun e => by rw [e] at hlen; simp at hlen)
    subst haa
    have hcell : ∀ c u, c < 7 → (msgC m)[c]? = some u → w.cell? ⟨ab, aoff + j * 7 + c, none⟩ = some u := fun c u hc hu => by
      rw [Nat.add_assoc]
      exact hrd _ u (by rw [msgs_at W.answers j c hlen hc, hm]; exact hu)
    have HCE : Hid (∀ wx, NextSt U w q W vf (.slice (some ⟨ab, aoff, none⟩) n1 ac) K ⟨kind, story, n⟩ wx → ∀ c u, c < 7 → (msgC m)[c]? = some u → wx.cell? ⟨ab, aoff + j * 7 + c, none⟩ = some u) := Lib.hid (fun wx hx c u hc hu => by
      obtain ⟨ab2, aoff2, e1, hr2⟩ : ∃ b off, (some ⟨ab, aoff, none⟩ : Option Addr) = some ⟨b, off, none⟩ ∧ ∀ j u, (W.answers.flatMap msgC)[j]? = some u → wx.cell? ⟨b, off + j, none⟩ = some u := by
        obtain ⟨a2, c2, e, -, -, h4⟩ := hx.wat.answers.read
        injection e with e1 e2 e3
        subst e1
        exact h4 (fun e => by rw [e] at hlen; simp at hlen)
      injection e1 with e1
      injection e1 with e1 e2
      subst e1
      subst e2
      rw [Nat.add_assoc]
      exact hr2 _ u (by rw [msgs_at W.answers j c hlen hc, hm]; exact hu))
    clear hz HNX hj hcell hrd HRD hp3
    go_enter Tryd.func9, Tryd.ntmps9
    go_upto_region 3 with (first
      | (go_at_call 14; (with_reducible (refine (C11 _).out.mono ?_)); rintro e wm ⟨rfl, rfl⟩)
      | fail)
    try rw [hwA]
    try rw [hKK]
    clear hwA
    go_quiet ((go_at_call 14; with_reducible exact Calls.quiet_of_same (((CP _).out).mono fun _ _ h => ⟨h.1, h.2.symm⟩)))
    obtain ⟨wq, hwq⟩ : ∃ wq, wA.drewN nq = wq := ⟨_, rfl⟩
    have HQ : Hid (NextSt U w q W vf (.slice (some ⟨ab, aoff, none⟩) n1 ac) K ⟨kind, story, n⟩ wq) := Lib.hid (by rw [← hwq]; exact HN.out.below ((Below.refl _ _).drewN _))
    rw [hwq]
    clear hwq HN c68 f68 o0 o1 o2
    have c68 : wq.cell? ⟨q, 68, none⟩ = some (.slice (some ⟨ab, aoff, none⟩) n1 ac) := (HQ.out.wat.cells 68 (by omega)).1
    have o2 : wq.cell? ⟨K, 2, none⟩ = some (.int .i64 n) := by rw [Lib.cell_of_heap HQ.out.op]; rfl
    have e0 := HCE.out wq HQ.out 0 (.int .i64 m.kind) (by omega) rfl
    have e1 := HCE.out wq HQ.out 1 (.int .i64 m.partner) (by omega) rfl
    have e2 := HCE.out wq HQ.out 2 (.int .i64 m.seq) (by omega) rfl
    have e3 := HCE.out wq HQ.out 3 (.int .i64 m.story) (by omega) rfl
    have e4 := HCE.out wq HQ.out 4 (.int .i64 m.base) (by omega) rfl
    have e5 := HCE.out wq HQ.out 5 (.int .i64 m.version) (by omega) rfl
    have e6 := HCE.out wq HQ.out 6 (.string ⟨m.data.toArray⟩) (by omega) rfl
    simp only [Nat.add_zero] at e0
    go_upto_region 5 with fail
    obtain ⟨wr, hwr⟩ : ∃ wr, wq.alloc (.cells #[.int .i64 m.kind, .int .i64 m.partner, .int .i64 m.seq, .int .i64 m.story, .int .i64 m.base, .int .i64 m.version, .string ⟨m.data.toArray⟩] 33) = wr := ⟨_, rfl⟩
    have hbr : Below wq.heap.size wq wr := by rw [← hwr]; exact (Below.refl _ _).alloc (Nat.le_refl _) _
    have HR := Lib.hid (HQ.out.below hbr)
    have HMJ : Hid (MAt wq.heap.size m wr) := Lib.hid (by rw [← hwr]; exact heap_alloc_new wq _)
    try rw [hwr]
    obtain ⟨J, hJ⟩ : ∃ J, wq.heap.size = J := ⟨_, rfl⟩
    have HJK : Hid (K + 1 < J ∧ q < K) := Lib.hid (by rw [← hJ]; exact ⟨HQ.out.cal.elim fun cs hc => (Array.getElem?_eq_some_iff.1 hc.1).1, HQ.out.ub q HQ.out.wat.own⟩)
    rw [hJ] at HMJ ⊢
    clear hwr hbr hJ e0 e1 e2 e3 e4 e5 e6 c68 HQ o2
    have o2 : wr.cell? ⟨K, 2, none⟩ = some (.int .i64 n) := by rw [Lib.cell_of_heap HR.out.op]; rfl
    have c68 : wr.cell? ⟨q, 68, none⟩ = some (.slice (some ⟨ab, aoff, none⟩) n1 ac) := (HR.out.wat.cells 68 (by omega)).1
    have f68 := (HR.out.wat.cells 68 (by omega)).2
    obtain ⟨nw, hnw⟩ : ∃ x, W.now = x := ⟨_, rfl⟩
    have HNW := Lib.hid hnw
    clear hnw
    by_cases h3 : 0 < p3
    · have h3b : decide ((0 : Int) < p3) = true := decide_eq_true h3
      have HWO : Hid (Calls Tryd.prog 24 #[.slice (some ⟨ab, aoff, none⟩) n1 ac, .int .i64 j] wr fun e w' => ∃ v', e = .returned v' ∧ w'.ownsRow wr.heap.size 33 7 v' (W.answers.eraseIdx j).length ((W.answers.eraseIdx j).flatMap msgC) ∧ Below wr.heap.size wr w') := Lib.hid (without_any _ W.answers j wr HR.out.wat.answers.read hlen (by rw [HLN.out]; exact HAL.out))
      go_upto_region 7 with (first
        | (go_at_call 14; (with_reducible (refine (C3 _).out.mono ?_)); rintro e wm ⟨rfl, rfl⟩)
        | (go_at_call 24; (with_reducible (refine HWO.out.mono ?_)); rintro e wI ⟨v', rfl, hrow, hbI⟩; obtain ⟨ia, ic, rfl⟩ := row_form hrow; have HNI := Lib.hid (HR.out.below hbI); have cN : wI.cell? ⟨q, 68, none⟩ = some (.slice (some ⟨ab, aoff, none⟩) n1 ac) := (HNI.out.wat.cells 68 (by omega)).1; have fN := (HNI.out.wat.cells 68 (by omega)).2; have HMI := Lib.hid (HMJ.out.below hbI))
        | fail)
      have HSZ := HMJ.out.lt
      have hown : ∀ g, (Value.slice ia (W.answers.eraseIdx j).length ic).ownBlock = some g → J < g ∧ g < wI.heap.size := fun g e => by have := hrow.lt g e; omega
      obtain ⟨wB, hwB⟩ : ∃ wB, wI.setCell ⟨q, 68, none⟩ (.slice ia (W.answers.eraseIdx j).length ic) = wB := ⟨_, rfl⟩
      have HWB : Hid (WAt (fun k => U k ∨ (Value.slice ia (W.answers.eraseIdx j).length ic).ownBlock = some k) wB q { W with answers := W.answers.eraseIdx j } vf (.slice ia (W.answers.eraseIdx j).length ic)) := Lib.hid (by
        rw [← hwB]
        refine (HNI.out.wat.more (fun k hk => .inl hk) (fun k hk => hk.elim (HNI.out.wat.lt k) fun e => (hown k e).2)).putA ⟨own_base hrow, fun g e => ⟨.inr e, fun e2 => by have := (hown g e).1; have := HJK.out; omega⟩⟩ (fun g e e2 => ?_)
        have h5 : U g := by
          rcases HNI.out.wat.flight with ⟨h6, -⟩ | ⟨g2, _, _, _, h6, h7, -⟩
          · rw [h6] at e; cases e
          · rw [h6] at e; injection e with e; rw [← e]; exact h7
        have := HNI.out.ub g h5
        have := (hown g e2).1
        have := HJK.out
        omega)
      have HNK : Hid (¬ (U (K + 1) ∨ (Value.slice ia (W.answers.eraseIdx j).length ic).ownBlock = some (K + 1))) := Lib.hid (fun e => e.elim (fun e => by have := HNI.out.ub _ e; omega) fun e => by have := (hown _ e).1; have := HJK.out; omega)
      have HKW : Hid (w.heap.size ≤ K + 1) := Lib.hid (by have := HNI.out.hK; omega)
      have HBB : Hid (But U w.heap.size w wB) := Lib.hid (by rw [← hwB]; exact HNI.out.but.setCell HNI.out.wat.own _)
      have HCB : Hid (∃ cs, CalAt (K + 1) cs wB) := Lib.hid (HNI.out.cal.elim fun cs hc => ⟨cs, by rw [← hwB]; exact (Below.heap_setCell _ ⟨q, _, none⟩ _ (K + 1) (by show K + 1 ≠ q; have := HJK.out; omega)).trans hc.1, hc.2⟩)
      have HMB : Hid (MAt J m wB) := Lib.hid (by rw [← hwB]; exact HMI.out.far2 (by have := HJK.out; omega) _)
      have HUN : Hid (∀ k, (U k ∨ (Value.slice ia (W.answers.eraseIdx j).length ic).ownBlock = some k) → U k ∨ w.heap.size ≤ k) := Lib.hid (fun k hk => hk.elim .inl fun e => .inr (by have := (hown k e).1; have := HKW.out; have := HJK.out; omega))
      have HNZ : Hid (W.next ⟨kind, story, n⟩ = (.recv nw m, { W with answers := W.answers.eraseIdx j })) := Lib.hid (by rw [HNY.out, if_pos h3, HNW.out])
      rw [hwB]
      have n0 : wB.cell? ⟨q, 0, none⟩ = some (.int .i64 nw) := (HWB.out.cells 0 (by omega)).1.trans (by rw [← HNW.out]; rfl)
      clear hwB cN fN hrow hbI hown c68 f68 o2 h3 h3b
      obtain ⟨hfa, hfb⟩ := next_fin HWB.out HNK.out HKW.out HBB.out [.int .i64 3, .int .i64 nw, .slice none 0 0, .int .i64 0, .int .i64 m.kind, .int .i64 m.partner, .int .i64 m.seq, .int .i64 m.story, .int .i64 m.base, .int .i64 m.version, .string ⟨m.data.toArray⟩]
      obtain ⟨csF, hcsF⟩ := HCB.out
      have hrd := storeC_cell (K + 1) [.int .i64 3, .int .i64 nw, .slice none 0 0, .int .i64 0, .int .i64 m.kind, .int .i64 m.partner, .int .i64 m.seq, .int .i64 m.story, .int .i64 m.base, .int .i64 m.version, .string ⟨m.data.toArray⟩] 0 wB (fun j hj => by rw [Nat.zero_add]; exact (cal_cells hcsF).1 j (by simpa using hj))
      obtain ⟨wz, hwz⟩ : ∃ wz, storeC (K + 1) [.int .i64 3, .int .i64 nw, .slice none 0 0, .int .i64 0, .int .i64 m.kind, .int .i64 m.partner, .int .i64 m.seq, .int .i64 m.story, .int .i64 m.base, .int .i64 m.version, .string ⟨m.data.toArray⟩] 0 wB = wz := ⟨_, rfl⟩
      rw [hwz] at hfa hfb hrd
      have y0 := hrd 0 (by simp)
      have y1 := hrd 1 (by simp)
      have y2 := hrd 2 (by simp)
      have y3 := hrd 3 (by simp)
      have y4 := hrd 4 (by simp)
      have y5 := hrd 5 (by simp)
      have y6 := hrd 6 (by simp)
      have y7 := hrd 7 (by simp)
      have y8 := hrd 8 (by simp)
      have y9 := hrd 9 (by simp)
      have y10 := hrd 10 (by simp)
      simp only [Nat.zero_add, List.getElem_cons_zero, List.getElem_cons_succ] at y0 y1 y2 y3 y4 y5 y6 y7 y8 y9 y10
      simp only [storeC, Nat.zero_add, Nat.reduceAdd] at hwz
      have HFA := Lib.hid hfa; have HFB := Lib.hid hfb
      clear hfa hfb hrd hcsF
      obtain ⟨cs0, hcs0⟩ := HCB.out
      obtain ⟨hsome, hfz⟩ := cal_cells hcs0
      obtain ⟨x0, hx0⟩ := Option.isSome_iff_exists.1 (hsome 0 (by omega))
      have hz0 := hfz 0
      obtain ⟨x1, hx1⟩ := Option.isSome_iff_exists.1 (hsome 1 (by omega))
      have hz1 := hfz 1
      obtain ⟨x2, hx2⟩ := Option.isSome_iff_exists.1 (hsome 2 (by omega))
      have hz2 := hfz 2
      obtain ⟨x3, hx3⟩ := Option.isSome_iff_exists.1 (hsome 3 (by omega))
      have hz3 := hfz 3
      obtain ⟨x4, hx4⟩ := Option.isSome_iff_exists.1 (hsome 4 (by omega))
      have hz4 := hfz 4
      obtain ⟨x5, hx5⟩ := Option.isSome_iff_exists.1 (hsome 5 (by omega))
      have hz5 := hfz 5
      obtain ⟨x6, hx6⟩ := Option.isSome_iff_exists.1 (hsome 6 (by omega))
      have hz6 := hfz 6
      obtain ⟨x7, hx7⟩ := Option.isSome_iff_exists.1 (hsome 7 (by omega))
      have hz7 := hfz 7
      obtain ⟨x8, hx8⟩ := Option.isSome_iff_exists.1 (hsome 8 (by omega))
      have hz8 := hfz 8
      obtain ⟨x9, hx9⟩ := Option.isSome_iff_exists.1 (hsome 9 (by omega))
      have hz9 := hfz 9
      obtain ⟨x10, hx10⟩ := Option.isSome_iff_exists.1 (hsome 10 (by omega))
      have hz10 := hfz 10
      clear hsome hfz hcs0
      obtain ⟨j0, j1, j2, j3, j4, j5, j6⟩ := HMB.out.c
      have hjk : J ≠ K + 1 := by have := HJK.out; omega
      have hqk : q ≠ K + 1 := by have := HJK.out; omega
      have HWZ := Lib.hid hwz
      clear hwz
      go_region
      rw [HWZ.out]
      obtain ⟨wy, hwy⟩ : ∃ wy, wz.drew = wy := ⟨_, rfl⟩
      have hby : Below wz.heap.size wz wy := by rw [← hwy]; exact (Below.refl _ _).drew
      have HFY := Lib.hid (HFA.out.below hby)
      have HBY : Hid (But U w.heap.size w wy) := Lib.hid (HFB.out.trans (But.of_below (hby.mono HFB.out.size)))
      rw [hwy]
      have v0 := (hby.cell (World.block_lt_of_cell? wz _ y0)).trans y0
      have v1 := (hby.cell (World.block_lt_of_cell? wz _ y1)).trans y1
      have v2 := (hby.cell (World.block_lt_of_cell? wz _ y2)).trans y2
      have v3 := (hby.cell (World.block_lt_of_cell? wz _ y3)).trans y3
      have v4 := (hby.cell (World.block_lt_of_cell? wz _ y4)).trans y4
      have v5 := (hby.cell (World.block_lt_of_cell? wz _ y5)).trans y5
      have v6 := (hby.cell (World.block_lt_of_cell? wz _ y6)).trans y6
      have v7 := (hby.cell (World.block_lt_of_cell? wz _ y7)).trans y7
      have v8 := (hby.cell (World.block_lt_of_cell? wz _ y8)).trans y8
      have v9 := (hby.cell (World.block_lt_of_cell? wz _ y9)).trans y9
      have v10 := (hby.cell (World.block_lt_of_cell? wz _ y10)).trans y10
      clear hwy hby
      go_wp2_with fail
      have HFIN : Hid (NextEnd U w q (W.next ⟨kind, story, n⟩).1 (W.next ⟨kind, story, n⟩).2 (.returned (.agg #[.int .i64 3, .int .i64 nw, .slice none 0 0, .int .i64 0, .int .i64 m.kind, .int .i64 m.partner, .int .i64 m.seq, .int .i64 m.story, .int .i64 m.base, .int .i64 m.version, .string ⟨m.data.toArray⟩])) wy) := Lib.hid (by
        rw [HNZ.out]
        exact ⟨.slice none 0 0, vf, _, _, rfl, HFY.out, HBY.out, HUN.out, fun now l hc => by cases hc⟩)
      exact bodyPost_ret (v := .agg #[.int .i64 3, .int .i64 nw, .slice none 0 0, .int .i64 0, .int .i64 m.kind, .int .i64 m.partner, .int .i64 m.seq, .int .i64 m.story, .int .i64 m.base, .int .i64 m.version, .string ⟨m.data.toArray⟩]) (by simp [results, Tryd.results9, go_sem, v0, v1, v2, v3, v4, v5, v6, v7, v8, v9, v10]) rfl HFIN.out
    · have h3b : decide ((0 : Int) < p3) = false := decide_eq_false h3
      have h3c : p3 ≤ 0 := by omega
      have HWB : Hid (WAt U wr q W vf (.slice (some ⟨ab, aoff, none⟩) n1 ac)) := Lib.hid HR.out.wat
      have HNK : Hid (¬ U (K + 1)) := Lib.hid (fun e => by have := HR.out.ub _ e; omega)
      have HKW : Hid (w.heap.size ≤ K + 1) := Lib.hid (by have := HR.out.hK; omega)
      have HBB : Hid (But U w.heap.size w wr) := Lib.hid HR.out.but
      have HCB : Hid (∃ cs, CalAt (K + 1) cs wr) := Lib.hid HR.out.cal
      have HMB := HMJ
      have HUN : Hid (∀ k, U k → U k ∨ w.heap.size ≤ k) := Lib.hid (fun k hk => .inl hk)
      have HNZ : Hid (W.next ⟨kind, story, n⟩ = (.recv nw m, W)) := Lib.hid (by rw [HNY.out, if_neg h3, ← HNW.out])
      have n0 : wr.cell? ⟨q, 0, none⟩ = some (.int .i64 nw) := (HWB.out.cells 0 (by omega)).1.trans (by rw [← HNW.out]; rfl)
      clear h3
      go_upto_region 7 with (first
        | (go_at_call 14; (with_reducible (refine (C3 _).out.mono ?_)); rintro e wm ⟨rfl, rfl⟩)
        | fail)
      clear c68 f68 o2 h3b h3c
      obtain ⟨wB, hwB⟩ : ∃ wB, wr = wB := ⟨_, rfl⟩
      rw [hwB] at HWB HBB HCB HMB n0 ⊢
      clear hwB
      obtain ⟨hfa, hfb⟩ := next_fin HWB.out HNK.out HKW.out HBB.out [.int .i64 3, .int .i64 nw, .slice none 0 0, .int .i64 0, .int .i64 m.kind, .int .i64 m.partner, .int .i64 m.seq, .int .i64 m.story, .int .i64 m.base, .int .i64 m.version, .string ⟨m.data.toArray⟩]
      obtain ⟨csF, hcsF⟩ := HCB.out
      have hrd := storeC_cell (K + 1) [.int .i64 3, .int .i64 nw, .slice none 0 0, .int .i64 0, .int .i64 m.kind, .int .i64 m.partner, .int .i64 m.seq, .int .i64 m.story, .int .i64 m.base, .int .i64 m.version, .string ⟨m.data.toArray⟩] 0 wB (fun j hj => by rw [Nat.zero_add]; exact (cal_cells hcsF).1 j (by simpa using hj))
      obtain ⟨wz, hwz⟩ : ∃ wz, storeC (K + 1) [.int .i64 3, .int .i64 nw, .slice none 0 0, .int .i64 0, .int .i64 m.kind, .int .i64 m.partner, .int .i64 m.seq, .int .i64 m.story, .int .i64 m.base, .int .i64 m.version, .string ⟨m.data.toArray⟩] 0 wB = wz := ⟨_, rfl⟩
      rw [hwz] at hfa hfb hrd
      have y0 := hrd 0 (by simp)
      have y1 := hrd 1 (by simp)
      have y2 := hrd 2 (by simp)
      have y3 := hrd 3 (by simp)
      have y4 := hrd 4 (by simp)
      have y5 := hrd 5 (by simp)
      have y6 := hrd 6 (by simp)
      have y7 := hrd 7 (by simp)
      have y8 := hrd 8 (by simp)
      have y9 := hrd 9 (by simp)
      have y10 := hrd 10 (by simp)
      simp only [Nat.zero_add, List.getElem_cons_zero, List.getElem_cons_succ] at y0 y1 y2 y3 y4 y5 y6 y7 y8 y9 y10
      simp only [storeC, Nat.zero_add, Nat.reduceAdd] at hwz
      have HFA := Lib.hid hfa; have HFB := Lib.hid hfb
      clear hfa hfb hrd hcsF
      obtain ⟨cs0, hcs0⟩ := HCB.out
      obtain ⟨hsome, hfz⟩ := cal_cells hcs0
      obtain ⟨x0, hx0⟩ := Option.isSome_iff_exists.1 (hsome 0 (by omega))
      have hz0 := hfz 0
      obtain ⟨x1, hx1⟩ := Option.isSome_iff_exists.1 (hsome 1 (by omega))
      have hz1 := hfz 1
      obtain ⟨x2, hx2⟩ := Option.isSome_iff_exists.1 (hsome 2 (by omega))
      have hz2 := hfz 2
      obtain ⟨x3, hx3⟩ := Option.isSome_iff_exists.1 (hsome 3 (by omega))
      have hz3 := hfz 3
      obtain ⟨x4, hx4⟩ := Option.isSome_iff_exists.1 (hsome 4 (by omega))
      have hz4 := hfz 4
      obtain ⟨x5, hx5⟩ := Option.isSome_iff_exists.1 (hsome 5 (by omega))
      have hz5 := hfz 5
      obtain ⟨x6, hx6⟩ := Option.isSome_iff_exists.1 (hsome 6 (by omega))
      have hz6 := hfz 6
      obtain ⟨x7, hx7⟩ := Option.isSome_iff_exists.1 (hsome 7 (by omega))
      have hz7 := hfz 7
      obtain ⟨x8, hx8⟩ := Option.isSome_iff_exists.1 (hsome 8 (by omega))
      have hz8 := hfz 8
      obtain ⟨x9, hx9⟩ := Option.isSome_iff_exists.1 (hsome 9 (by omega))
      have hz9 := hfz 9
      obtain ⟨x10, hx10⟩ := Option.isSome_iff_exists.1 (hsome 10 (by omega))
      have hz10 := hfz 10
      clear hsome hfz hcs0
      obtain ⟨j0, j1, j2, j3, j4, j5, j6⟩ := HMB.out.c
      have hjk : J ≠ K + 1 := by have := HJK.out; omega
      have hqk : q ≠ K + 1 := by have := HJK.out; omega
      have HWZ := Lib.hid hwz
      clear hwz
      go_region
      rw [HWZ.out]
      obtain ⟨wy, hwy⟩ : ∃ wy, wz.drew = wy := ⟨_, rfl⟩
      have hby : Below wz.heap.size wz wy := by rw [← hwy]; exact (Below.refl _ _).drew
      have HFY := Lib.hid (HFA.out.below hby)
      have HBY : Hid (But U w.heap.size w wy) := Lib.hid (HFB.out.trans (But.of_below (hby.mono HFB.out.size)))
      rw [hwy]
      have v0 := (hby.cell (World.block_lt_of_cell? wz _ y0)).trans y0
      have v1 := (hby.cell (World.block_lt_of_cell? wz _ y1)).trans y1
      have v2 := (hby.cell (World.block_lt_of_cell? wz _ y2)).trans y2
      have v3 := (hby.cell (World.block_lt_of_cell? wz _ y3)).trans y3
      have v4 := (hby.cell (World.block_lt_of_cell? wz _ y4)).trans y4
      have v5 := (hby.cell (World.block_lt_of_cell? wz _ y5)).trans y5
      have v6 := (hby.cell (World.block_lt_of_cell? wz _ y6)).trans y6
      have v7 := (hby.cell (World.block_lt_of_cell? wz _ y7)).trans y7
      have v8 := (hby.cell (World.block_lt_of_cell? wz _ y8)).trans y8
      have v9 := (hby.cell (World.block_lt_of_cell? wz _ y9)).trans y9
      have v10 := (hby.cell (World.block_lt_of_cell? wz _ y10)).trans y10
      clear hwy hby
      go_wp2_with fail
      have HFIN : Hid (NextEnd U w q (W.next ⟨kind, story, n⟩).1 (W.next ⟨kind, story, n⟩).2 (.returned (.agg #[.int .i64 3, .int .i64 nw, .slice none 0 0, .int .i64 0, .int .i64 m.kind, .int .i64 m.partner, .int .i64 m.seq, .int .i64 m.story, .int .i64 m.base, .int .i64 m.version, .string ⟨m.data.toArray⟩])) wy) := Lib.hid (by
        rw [HNZ.out]
        exact ⟨.slice none 0 0, vf, _, _, rfl, HFY.out, HBY.out, HUN.out, fun now l hc => by cases hc⟩)
      exact bodyPost_ret (v := .agg #[.int .i64 3, .int .i64 nw, .slice none 0 0, .int .i64 0, .int .i64 m.kind, .int .i64 m.partner, .int .i64 m.seq, .int .i64 m.story, .int .i64 m.base, .int .i64 m.version, .string ⟨m.data.toArray⟩]) (by simp [results, Tryd.results9, go_sem, v0, v1, v2, v3, v4, v5, v6, v7, v8, v9, v10]) rfl HFIN.out
end Go.Proofs.YtefloieanpgnmaaDoor

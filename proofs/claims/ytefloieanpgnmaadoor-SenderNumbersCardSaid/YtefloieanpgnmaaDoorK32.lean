/- Facts and contracts for the laws of the sender, part 32. Conditions: those that each theorem names. -/
import Derived.Test.YtefloieanpgnmaaDoorK25
import Derived.Test.YtefloieanpgnmaaDoorK30
import Derived.Test.YtefloieanpgnmaaDoorK16
import Derived.Deep.AppendLies
import Derived.Deep.RegionLaw
/- The law's steps: a message is given to the partner. -/
namespace Go.Proofs.YtefloieanpgnmaaDoor
open Go.RowKit

theorem lw_but {a0 a1 : Addr} {w0 w wx : World} {U : Nat → Prop} (h : LW a0 a1 w0 w) (hU : ∀ k, U k → w0.heap.size ≤ k) (hb : But U w.heap.size w wx) : LW a0 a1 w0 wx := ⟨h.S, h.H, h.bel.trans (hb.below h.bel.size hU)⟩
theorem RowO.keepv {U : Nat → Prop} {q : Nat} {w w' : World} {v : Value} {l : List Msg} (h : RowO U q w v l) (hk : ∀ j, v.ownBlock = some j → w'.heap[j]? = w.heap[j]?) : RowO U q w' v l := by
  rcases h with h | ⟨g, off, cap, cur, h1, h2, h3, h4, h5⟩
  · exact .inl h
  · exact .inr ⟨g, off, cap, cur, h1, h2, h3, (hk g (by rw [h1]; rfl)).trans h4, h5⟩
theorem RowO.own {U : Nat → Prop} {q : Nat} {w : World} {v : Value} {l : List Msg} (h : RowO U q w v l) : ∀ j, v.ownBlock = some j → U j ∧ j ≠ q := fun j hj => by
  rcases h with ⟨h, -⟩ | ⟨g, off, cap, cur, h1, h2, h3, -⟩
  · rw [h] at hj; cases hj
  · rw [h1] at hj; injection hj with hj; subst hj; exact ⟨h2, h3⟩
/-- an answer is appended to the answers -/
theorem WAt.app {U : Nat → Prop} {wx w1 : World} {q : Nat} {W : Wld} {vf va va' : Value} {gg : Nat} {l' : List Msg} (h : WAt U wx q W vf va) (hown : w1.ownsRow 0 33 7 va' l'.length (l'.flatMap msgC)) (hg : wx.grownBy w1 va.ownBlock) (hat : va.ownBlock = some gg ∨ gg = wx.heap.size) (hv : va'.ownBlock = some gg) :
    WAt (fun k => U k ∨ k = gg) (w1.setCell ⟨q, 68, none⟩ va') q { W with answers := l' } vf va' := by
  have hq := h.lt q h.own
  have hgq : gg ≠ q := by
    rcases hat with e | e
    · exact (h.answers.own gg e).2
    · omega
  have hlt : gg < w1.heap.size := (hown.lt gg hv).2
  have hfar : ∀ k, k ≠ q → (w1.setCell ⟨q, 68, none⟩ va').heap[k]? = w1.heap[k]? := fun k hk => Below.heap_setCell _ ⟨q, _, none⟩ _ k hk
  refine ⟨.inl h.own, fun k hk => ?_, ?_, ?_, ⟨own_keep hown fun j hj => hfar j ?_, fun j hj => ?_⟩, fun j hj e => ?_⟩
  · simp
    rcases hk with hk | rfl
    · exact Nat.lt_of_lt_of_le (h.lt k hk) hg.size
    · exact hlt
  · exact ((h.cells.kept (hg.block q hq fun e => (h.answers.own q e.symm).2 rfl)).set (k := 68) (by omega) va').congr (put_answers W vf va l' va')
  · refine (h.flight.more fun k hk => .inl hk).keepv fun j hj => ?_
    obtain ⟨h1, h2⟩ := h.flight.own j hj
    exact (hfar j h2).trans (hg.block j (h.lt j h1) fun e => h.apart j hj e.symm)
  · rw [hv] at hj; injection hj with hj; rw [← hj]; exact hgq
  · rw [hv] at hj; injection hj with hj; rw [← hj]; exact ⟨.inr rfl, hgq⟩
  · rw [hv] at e; injection e with e
    rcases hat with e2 | e2
    · exact h.apart j hj (by rw [e2, e])
    · have := h.lt j (h.flight.own j hj).1; omega
/-- messages are appended to what is on its way -/
theorem WAt.flow {U : Nat → Prop} {wx w1 : World} {q : Nat} {W : Wld} {vf va v' : Value} {l' : List Msg} (h : WAt U wx q W vf va) (hr : RowO (fun k => U k ∨ v'.ownBlock = some k) q w1 v' l') (hg : wx.grownBy w1 vf.ownBlock) (hat : ∀ k, v'.ownBlock = some k → vf.ownBlock = some k ∨ (wx.heap.size ≤ k ∧ k < w1.heap.size)) :
    WAt (fun k => U k ∨ v'.ownBlock = some k) (w1.setCell ⟨q, 67, none⟩ v') q { W with flight := l' } v' va := by
  have hq := h.lt q h.own
  have hfar : ∀ k, k ≠ q → (w1.setCell ⟨q, 67, none⟩ v').heap[k]? = w1.heap[k]? := fun k hk => Below.heap_setCell _ ⟨q, _, none⟩ _ k hk
  refine ⟨.inl h.own, fun k hk => ?_, ?_, ?_, ⟨own_keep h.answers.row fun j hj => ?_, fun j hj => ⟨.inl (h.answers.own j hj).1, (h.answers.own j hj).2⟩⟩, fun j hj e => ?_⟩
  · simp
    rcases hk with hk | hk
    · exact Nat.lt_of_lt_of_le (h.lt k hk) hg.size
    · rcases hat k hk with h1 | h1
      · exact Nat.lt_of_lt_of_le (h.lt k (h.flight.own k h1).1) hg.size
      · exact h1.2
  · exact ((h.cells.kept (hg.block q hq fun e => (h.flight.own q e.symm).2 rfl)).set (k := 67) (by omega) v').congr (put_flight W vf va l' v')
  · exact hr.keepv fun j hj => hfar j (hr.own j hj).2
  · obtain ⟨h1, h2⟩ := h.answers.own j hj
    exact (hfar j h2).trans (hg.block j (h.lt j h1) fun e => h.apart j e.symm hj)
  · rcases hat j hj with h1 | h1
    · exact h.apart j h1 e
    · have := h.lt j (h.answers.own j e).1; omega

set_option maxRecDepth 100000 in
set_option maxHeartbeats 8000000 in
theorem next_give {a0 a1 : Addr} {w0 : World} {U : Nat → Prop} {w : World} {q : Nat} {W : Wld} {vf va : Value} (h : WAt U w q W vf va) (hlw : LW a0 a1 w0 w) (hU : ∀ k, U k → w0.heap.size ≤ k) (hw : NextOk W) (o : Op3) (ho : okO o) (hp : 6 ≤ pickD o.kind 11 ∧ pickD o.kind 11 ≤ 7) :
    Calls Tryd.prog 9 #[.pointer (some ⟨q, 0, none⟩), opV o] w (NextEnd U w q (W.next o).1 (W.next o).2) := by
  obtain ⟨kind, story, n⟩ := o
  obtain ⟨⟨hk1, hk2⟩, ⟨hs1, hs2⟩, hn1, hn2⟩ := ho
  simp only at hk1 hk2 hs1 hs2 hn1 hn2 hp
  have C11 := fun W => Lib.hid (pick_any kind 11 W hk1 hk2 (by omega) (by omega))
  have C3 := fun W => Lib.hid (pick_any n 3 W hn1 hn2 (by omega) (by omega))
  have hq := h.lt q h.own
  have HFL := Lib.hid hw.flen
  have HAL := Lib.hid hw.alen
  have HTX := Lib.hid hw.text
  have HMS := Lib.hid hw.flight
  have HLW := Lib.hid hlw
  have HUL := Lib.hid hU
  have HNX : Hid (W.next ⟨kind, story, n⟩ = match W.flight[(pickD story W.flight.length).toNat]? with | some m => (.none, { W with answers := W.answers ++ [(W.p.answer m).1], p := (W.p.answer m).2, flight := if 0 < pickD n 3 then W.flight.eraseIdx (pickD story W.flight.length).toNat else W.flight }) | none => (.none, W)) := Lib.hid (by
    unfold Wld.next; simp only; rw [if_neg (by omega), if_neg (by omega), if_neg (by omega), if_neg (by omega), if_pos (by omega)]
    cases W.flight[(pickD story W.flight.length).toNat]? <;> rfl)
  obtain ⟨aa, ac, hva, hac, -, -⟩ := h.answers.read
  subst hva
  obtain ⟨fa, fc, hvf, hfc, -, hrd0⟩ := h.flight.read
  subst hvf
  have HRD := Lib.hid hrd0
  obtain ⟨pk, hpk⟩ : ∃ x, pickD kind 11 = x := ⟨_, rfl⟩
  rw [hpk] at hp
  simp only [hpk] at C11
  have b0 : ((pk : Int) == 0) = false := by rw [beq_eq_false_iff_ne]; omega
  have b1 : ((pk : Int) == 1) = false := by rw [beq_eq_false_iff_ne]; omega
  have b2 : ((pk : Int) == 2) = false := by rw [beq_eq_false_iff_ne]; omega
  have b3 : ((pk : Int) == 3) = false := by rw [beq_eq_false_iff_ne]; omega
  have b4 : ((pk : Int) == 4) = false := by rw [beq_eq_false_iff_ne]; omega
  have b5 : ((pk : Int) == 5) = false := by rw [beq_eq_false_iff_ne]; omega
  have hns := NextSt.start h ⟨kind, story, n⟩
  obtain ⟨wA, hwA⟩ : ∃ wA, (w.alloc (.cells #[.int .i64 kind, .int .i64 story, .int .i64 n] 38)).alloc (.cells #[.int .i64 0, .int .i64 0, .slice none 0 0, .int .i64 0, .int .i64 0, .int .i64 0, .int .i64 0, .int .i64 0, .int .i64 0, .int .i64 0, .string ⟨#[]⟩] 35) = wA := ⟨_, rfl⟩
  simp only at hns
  rw [hwA] at hns
  obtain ⟨K, hKK⟩ : ∃ K, w.heap.size = K := ⟨_, rfl⟩
  rw [hKK] at hns
  have HN := Lib.hid hns
  have o0 : wA.cell? ⟨K, 0, none⟩ = some (.int .i64 kind) := by rw [Lib.cell_of_heap HN.out.op]; rfl
  have o1 : wA.cell? ⟨K, 1, none⟩ = some (.int .i64 story) := by rw [Lib.cell_of_heap HN.out.op]; rfl
  obtain ⟨n1, hn1e⟩ : ∃ x, W.flight.length = x := ⟨_, rfl⟩
  have HLN := Lib.hid hn1e
  obtain ⟨n2, hn2e⟩ : ∃ x, W.answers.length = x := ⟨_, rfl⟩
  have HLA := Lib.hid hn2e
  rw [hn1e] at HFL hfc HN
  rw [hn2e] at HAL hac HN
  have c67 : wA.cell? ⟨q, 67, none⟩ = some (.slice fa n1 fc) := (HN.out.wat.cells 67 (by omega)).1
  clear h hw hpk hns hn1e hn2e hrd0 hlw hU
  unfold opV
  simp only
  have hpk7 : pk = 6 ∨ pk = 7 := by omega
  clear hp
  rcases hpk7 with rfl | rfl
  all_goals
    clear b0 b1 b2 b3 b4 b5
    by_cases hz : n1 = 0
    · have hzb : decide ((0 : Int) < (n1 : Int)) = false := decide_eq_false (by omega)
      have hzb2 : decide (0 < n1) = false := decide_eq_false (by omega)
      have hz3 : ¬ 0 < n1 := by omega
      have HNY : Hid (W.next ⟨kind, story, n⟩ = (.none, W)) := Lib.hid (by
        rw [HNX.out]
        have : W.flight = [] := List.length_eq_zero_iff.1 (by rw [HLN.out]; exact hz)
        rw [this, List.getElem?_nil])
      clear hz HNX
      obtain ⟨hfa, hfb⟩ := next_fin HN.out.wat (fun e => by have := HN.out.ub _ e; omega) (by have := HN.out.hK; omega : w.heap.size ≤ K + 1) HN.out.but [.int .i64 0, .int .i64 0, .slice none 0 0, .int .i64 0, .int .i64 0, .int .i64 0, .int .i64 0, .int .i64 0, .int .i64 0, .int .i64 0, .string ⟨#[]⟩]
      obtain ⟨csF, hcsF⟩ := HN.out.cal
      have hrd := storeC_cell (K + 1) [.int .i64 0, .int .i64 0, .slice none 0 0, .int .i64 0, .int .i64 0, .int .i64 0, .int .i64 0, .int .i64 0, .int .i64 0, .int .i64 0, .string ⟨#[]⟩] 0 wA (fun j hj => by rw [Nat.zero_add]; exact (cal_cells hcsF).1 j (by simpa using hj))
      obtain ⟨wz, hwz⟩ : ∃ wz, storeC (K + 1) [.int .i64 0, .int .i64 0, .slice none 0 0, .int .i64 0, .int .i64 0, .int .i64 0, .int .i64 0, .int .i64 0, .int .i64 0, .int .i64 0, .string ⟨#[]⟩] 0 wA = wz := ⟨_, rfl⟩
      rw [hwz] at hfa hfb hrd
      have y0 := hrd 0 (by simp)
      have y1 := hrd 1 (by simp)
      have y2 := hrd 2 (by simp)
      have y3 := hrd 3 (by simp)
      have y4 := hrd 4 (by simp)
      have y5 := hrd 5 (by simp)
      have y6 := hrd 6 (by simp)
      have y7 := hrd 7 (by simp)
      have y8 := hrd 8 (by simp)
      have y9 := hrd 9 (by simp)
      have y10 := hrd 10 (by simp)
      simp only [Nat.zero_add, List.getElem_cons_zero, List.getElem_cons_succ] at y0 y1 y2 y3 y4 y5 y6 y7 y8 y9 y10
      simp only [storeC, Nat.zero_add, Nat.reduceAdd] at hwz
      have HFA := Lib.hid hfa; have HFB := Lib.hid hfb
      clear hfa hfb hrd hcsF
      obtain ⟨cs0, hcs0⟩ := HN.out.cal
      obtain ⟨hsome, hfz⟩ := cal_cells hcs0
      obtain ⟨x0, hx0⟩ := Option.isSome_iff_exists.1 (hsome 0 (by omega))
      have hz0 := hfz 0
      obtain ⟨x1, hx1⟩ := Option.isSome_iff_exists.1 (hsome 1 (by omega))
      have hz1 := hfz 1
      obtain ⟨x2, hx2⟩ := Option.isSome_iff_exists.1 (hsome 2 (by omega))
      have hz2 := hfz 2
      obtain ⟨x3, hx3⟩ := Option.isSome_iff_exists.1 (hsome 3 (by omega))
      have hz3 := hfz 3
      obtain ⟨x4, hx4⟩ := Option.isSome_iff_exists.1 (hsome 4 (by omega))
      have hz4 := hfz 4
      obtain ⟨x5, hx5⟩ := Option.isSome_iff_exists.1 (hsome 5 (by omega))
      have hz5 := hfz 5
      obtain ⟨x6, hx6⟩ := Option.isSome_iff_exists.1 (hsome 6 (by omega))
      have hz6 := hfz 6
      obtain ⟨x7, hx7⟩ := Option.isSome_iff_exists.1 (hsome 7 (by omega))
      have hz7 := hfz 7
      obtain ⟨x8, hx8⟩ := Option.isSome_iff_exists.1 (hsome 8 (by omega))
      have hz8 := hfz 8
      obtain ⟨x9, hx9⟩ := Option.isSome_iff_exists.1 (hsome 9 (by omega))
      have hz9 := hfz 9
      obtain ⟨x10, hx10⟩ := Option.isSome_iff_exists.1 (hsome 10 (by omega))
      have hz10 := hfz 10
      clear hsome hfz
      clear hcs0
      go_enter Tryd.func9, Tryd.ntmps9
      go_wp2_with (first
        | (go_at_call 14; (with_reducible (refine (C11 _).out.mono ?_)); rintro e wm ⟨rfl, rfl⟩)
        | fail)
      have HFIN : Hid (NextEnd U w q (W.next ⟨kind, story, n⟩).1 (W.next ⟨kind, story, n⟩).2 (.returned (.agg #[.int .i64 0, .int .i64 0, .slice none 0 0, .int .i64 0, .int .i64 0, .int .i64 0, .int .i64 0, .int .i64 0, .int .i64 0, .int .i64 0, .string ⟨#[]⟩])) wz) := Lib.hid (by
        rw [HNY.out]
        exact ⟨.slice none 0 0, _, _, U, rfl, HFA.out, HFB.out, fun k hk => .inl hk, fun now l hc => by cases hc⟩)
      exact bodyPost_ret (v := .agg #[.int .i64 0, .int .i64 0, .slice none 0 0, .int .i64 0, .int .i64 0, .int .i64 0, .int .i64 0, .int .i64 0, .int .i64 0, .int .i64 0, .string ⟨#[]⟩]) (by simp [results, Tryd.results9, go_sem, y0, y1, y2, y3, y4, y5, y6, y7, y8, y9, y10]) rfl HFIN.out
    · have hzb : decide ((0 : Int) < (n1 : Int)) = true := decide_eq_true (by omega)
      have hzb2 : decide (0 < n1) = true := decide_eq_true (by omega)
      have hz3 : 0 < n1 := by omega
      have hrp := pick_range story (n := (n1 : Int)) (by omega)
      have CP := fun W => Lib.hid (pick_any story (n1 : Int) W hs1 hs2 (by omega) (by have := HFL.out; omega))
      obtain ⟨j, hj⟩ : ∃ j : Nat, pickD story (n1 : Int) = j := ⟨(pickD story (n1 : Int)).toNat, by omega⟩
      rw [hj] at hrp
      simp only [hj] at CP
      have hjl : j < n1 := by omega
      have hja : (j : Int) < (n1 : Int) := by omega
      have hj0 : (0 : Int) ≤ (j : Int) := by omega
      have hlen : j < W.flight.length := by rw [HLN.out]; exact hjl
      obtain ⟨m, hm⟩ : ∃ m, W.flight[j] = m := ⟨_, rfl⟩
      obtain ⟨p3, hp3⟩ : ∃ x, pickD n 3 = x := ⟨_, rfl⟩
      simp only [hp3] at C3
      obtain ⟨am, p', hA⟩ : ∃ am p', W.p.answer m = (am, p') := ⟨_, _, rfl⟩
      have HNY : Hid (W.next ⟨kind, story, n⟩ = (.none, { W with answers := W.answers ++ [am], p := p', flight := if 0 < p3 then W.flight.eraseIdx j else W.flight })) := Lib.hid (by
        rw [HNX.out, HLN.out, hj, Int.toNat_natCast, List.getElem?_eq_getElem hlen, hm, hp3]
        simp only [hA])
      obtain ⟨ab, aoff, haa, hrd⟩ := HRD.out (fun e => by rw [e] at hlen; simp at hlen)
      subst haa
      have HCE : Hid (∀ wx W2 va2, WAt U wx q W2 (.slice (some ⟨ab, aoff, none⟩) n1 fc) va2 → W2.flight = W.flight → ∀ c u, c < 7 → (msgC m)[c]? = some u → wx.cell? ⟨ab, aoff + j * 7 + c, none⟩ = some u) := Lib.hid (fun wx W2 va2 hx hfl c u hc hu => by
        obtain ⟨ab2, aoff2, e1, hr2⟩ : ∃ b off, (some ⟨ab, aoff, none⟩ : Option Addr) = some ⟨b, off, none⟩ ∧ ∀ j u, (W.flight.flatMap msgC)[j]? = some u → wx.cell? ⟨b, off + j, none⟩ = some u := by
          obtain ⟨a2, c2, e, -, -, h4⟩ := hx.flight.read
          rw [hfl] at e h4
          injection e with e1 e2 e3
          subst e1
          exact h4 (fun e => by rw [e] at hlen; simp at hlen)
        injection e1 with e1
        injection e1 with e1 e2
        subst e1
        subst e2
        rw [Nat.add_assoc]
        exact hr2 _ u (by rw [msgs_at W.flight j c hlen hc, hm]; exact hu))
      have HMO : Hid (1 ≤ m.story ∧ m.story ≤ 64 ∧ m.data.length ≤ 9223372036854775000) := Lib.hid (HMS.out m (by rw [← hm]; exact List.getElem_mem hlen))
      have HANS : Hid (∀ wx, NextSt U w q W (.slice (some ⟨ab, aoff, none⟩) n1 fc) (.slice aa n2 ac) K ⟨kind, story, n⟩ wx → Calls Tryd.prog 19 #[.pointer (some ⟨q, 69, none⟩), .agg #[.int .i64 m.kind, .int .i64 m.partner, .int .i64 m.seq, .int .i64 m.story, .int .i64 m.base, .int .i64 m.version, .string ⟨m.data.toArray⟩]] wx fun e w' => e = .returned (.agg #[.int .i64 am.kind, .int .i64 am.partner, .int .i64 am.seq, .int .i64 am.story, .int .i64 am.base, .int .i64 am.version, .string ⟨am.data.toArray⟩]) ∧ WAt U w' q { W with p := p' } (.slice (some ⟨ab, aoff, none⟩) n1 fc) (.slice aa n2 ac) ∧ But (fun k => k = q) wx.heap.size wx w') := Lib.hid (fun wx hx => by
        have hqx := hx.wat.lt q hx.wat.own
        have h3 := answer_any hx.wat.cells hqx (HUL.out q hx.wat.own) (lw_but HLW.out HUL.out hx.but) m m.story.toNat (by have := HMO.out; omega) (by have := HMO.out; omega) (HTX.out _) HMO.out.2.2
        rw [hA] at h3
        refine h3.mono ?_
        rintro e w' ⟨rfl, hf, hb⟩
        exact ⟨rfl, hx.wat.putP hf hb, hb⟩)
      clear hz HNX hj hrd HRD hp3 hA
      go_enter Tryd.func9, Tryd.ntmps9
      go_upto_region 28 with (first
        | (go_at_call 14; (with_reducible (refine (C11 _).out.mono ?_)); rintro e wm ⟨rfl, rfl⟩)
        | fail)
      try rw [hwA]
      try rw [hKK]
      clear hwA
      go_quiet ((go_at_call 14; with_reducible exact Calls.quiet_of_same (((CP _).out).mono fun _ _ h => ⟨h.1, h.2.symm⟩)))
      obtain ⟨wq, hwq⟩ : ∃ wq, wA.drewN nq = wq := ⟨_, rfl⟩
      have HQ : Hid (NextSt U w q W (.slice (some ⟨ab, aoff, none⟩) n1 fc) (.slice aa n2 ac) K ⟨kind, story, n⟩ wq) := Lib.hid (by rw [← hwq]; exact HN.out.below ((Below.refl _ _).drewN _))
      rw [hwq]
      clear hwq HN c67 o0 o1
      have c67 : wq.cell? ⟨q, 67, none⟩ = some (.slice (some ⟨ab, aoff, none⟩) n1 fc) := (HQ.out.wat.cells 67 (by omega)).1
      have c68 : wq.cell? ⟨q, 68, none⟩ = some (.slice aa n2 ac) := (HQ.out.wat.cells 68 (by omega)).1
      have f68 := (HQ.out.wat.cells 68 (by omega)).2
      have e0 := HCE.out wq _ _ HQ.out.wat rfl 0 (.int .i64 m.kind) (by omega) rfl
      have e1 := HCE.out wq _ _ HQ.out.wat rfl 1 (.int .i64 m.partner) (by omega) rfl
      have e2 := HCE.out wq _ _ HQ.out.wat rfl 2 (.int .i64 m.seq) (by omega) rfl
      have e3 := HCE.out wq _ _ HQ.out.wat rfl 3 (.int .i64 m.story) (by omega) rfl
      have e4 := HCE.out wq _ _ HQ.out.wat rfl 4 (.int .i64 m.base) (by omega) rfl
      have e5 := HCE.out wq _ _ HQ.out.wat rfl 5 (.int .i64 m.version) (by omega) rfl
      have e6 := HCE.out wq _ _ HQ.out.wat rfl 6 (.string ⟨m.data.toArray⟩) (by omega) rfl
      simp only [Nat.add_zero] at e0
      have HND : Hid (NextSt U w q W (.slice (some ⟨ab, aoff, none⟩) n1 fc) (.slice aa n2 ac) K ⟨kind, story, n⟩ wq.drew) := Lib.hid (HQ.out.below (Below.refl _ _).drew)
      obtain ⟨i0, hinf, hz0, hz1, hz2⟩ := info_parts infoMsg
      have hqh : q < wq.heap.size := HQ.out.wat.lt q HQ.out.wat.own
      have hah : ab < wq.heap.size := World.block_lt_of_cell? wq _ e0
      obtain ⟨fl, hfl⟩ : ∃ fl, W.answers.flatMap msgC = fl := ⟨_, rfl⟩
      have HFLN : Hid (W.answers.flatMap msgC = fl) := Lib.hid hfl
      clear hfl hKK
      go_wp2_with fail

      go_region_law
        (first
          | ((go_simp; go_at_call 19; ((with_reducible (refine (HANS.out _ HND.out).mono ?_)); rintro e wI ⟨rfl, hWI, hbI⟩; have hsI : wq.heap.size ≤ wI.heap.size := hbI.size; have hqI : q < wI.heap.size := hWI.lt q hWI.own; have i67 : wI.cell? ⟨q, 67, none⟩ = some (.slice (some ⟨ab, aoff, none⟩) n1 fc) := (hWI.cells 67 (by omega)).1; have i68 : wI.cell? ⟨q, 68, none⟩ = some (.slice aa n2 ac) := (hWI.cells 68 (by omega)).1; have j68 := (hWI.cells 68 (by omega)).2; have ie0 := HCE.out wI _ _ hWI rfl 0 (.int .i64 m.kind) (by omega) rfl; have ie1 := HCE.out wI _ _ hWI rfl 1 (.int .i64 m.partner) (by omega) rfl; have ie2 := HCE.out wI _ _ hWI rfl 2 (.int .i64 m.seq) (by omega) rfl; have ie3 := HCE.out wI _ _ hWI rfl 3 (.int .i64 m.story) (by omega) rfl; have ie4 := HCE.out wI _ _ hWI rfl 4 (.int .i64 m.base) (by omega) rfl; have ie5 := HCE.out wI _ _ hWI rfl 5 (.int .i64 m.version) (by omega) rfl; have ie6 := HCE.out wI _ _ hWI rfl 6 (.string ⟨m.data.toArray⟩) (by omega) rfl; simp only [Nat.add_zero] at ie0; have haI : ab < wI.heap.size := World.block_lt_of_cell? wI _ ie0; have hrowI : wI.ownsRow 0 33 7 (.slice aa n2 ac) n2 fl := (by have h9 : wI.ownsRow 0 33 7 (.slice aa n2 ac) W.answers.length (W.answers.flatMap msgC) := hWI.answers.row; rw [HLA.out, HFLN.out] at h9; exact h9); have HROW := Lib.hid hrowI; have HQA : Hid (some q ≠ (Value.slice aa n2 ac).ownBlock) := Lib.hid (fun e => (hWI.answers.own q e.symm).2 rfl); have HAA : Hid (some ab ≠ (Value.slice aa n2 ac).ownBlock) := Lib.hid (fun e => hWI.apart ab rfl e.symm); have HWI := Lib.hid hWI; have HBI := Lib.hid hbI; clear hWI hbI hrowI)))
          | ((refine step_append_lies _ (by rfl) _ _ _ (by rfl) 0 33 i0 _ 7 64 Tryd.underlying28 hinf hz0 hz1 hz2 rfl (by omega) (.slice aa n2 ac) n2 fl (by rfl) (by first | exact (HROW.out.alloc _).drew | exact HROW.out.alloc _ | exact HROW.out.alloc _) ⟨wI.heap.size, 0, none⟩ 1 1 [.int .i64 am.kind, .int .i64 am.partner, .int .i64 am.seq, .int .i64 am.story, .int .i64 am.base, .int .i64 am.version, .string ⟨am.data.toArray⟩] (by rfl) (by rfl) (World.news_of_block (cs := #[.int .i64 am.kind, .int .i64 am.partner, .int .i64 am.seq, .int .i64 am.story, .int .i64 am.base, .int .i64 am.version, .string ⟨am.data.toArray⟩]) (t := 33) (fr := (0, 0)) (heap_alloc_new wI _)) (by simp [Value.oneCell']) (by omega) (by have := HAL.out; unfold maxLen; omega) (by have := HAL.out; omega) (by omega) (wI.heap.size + 1) (by simp) ?_; intro gg cap' w1 hown1 hgrow hat hlt'; have hbq : w1.heap[q]? = wI.heap[q]? := (hgrow.block q (by simp; omega) HQA.out).trans (heap_alloc_old wI _ hqI); have hba : w1.heap[ab]? = wI.heap[ab]? := (hgrow.block ab (by simp; omega) HAA.out).trans (heap_alloc_old wI _ haI); have z68 : w1.frozen? ⟨q, 68, none⟩ = false := frozen_same hbq j68; have y67 := cell_same hbq i67; have y68 := cell_same hbq i68; have y0 := cell_same hba ie0; have y1 := cell_same hba ie1; have y2 := cell_same hba ie2; have y3 := cell_same hba ie3; have y4 := cell_same hba ie4; have y5 := cell_same hba ie5; have y6 := cell_same hba ie6; clear hbq hba)))
      all_goals
        have hrowL : w1.ownsRow 0 33 7 (.slice (some ⟨gg, 0, none⟩) (n2 + 1) cap') (W.answers ++ [am]).length ((W.answers ++ [am]).flatMap msgC) := by
          rw [List.length_append, List.flatMap_append, HLA.out, HFLN.out]
          exact hown1
        obtain ⟨wB, hwB⟩ : ∃ wB, w1.setCell ⟨q, 68, none⟩ (.slice (some ⟨gg, 0, none⟩) (n2 + 1) cap') = wB := ⟨_, rfl⟩
        have HWB : Hid (WAt (fun k => U k ∨ k = gg) wB q { W with answers := W.answers ++ [am], p := p' } (.slice (some ⟨ab, aoff, none⟩) n1 fc) (.slice (some ⟨gg, 0, none⟩) (n2 + 1) cap')) := Lib.hid (by
          rw [← hwB]
          exact WAt.app (wx := wI.alloc (.cells #[.int .i64 am.kind, .int .i64 am.partner, .int .i64 am.seq, .int .i64 am.story, .int .i64 am.base, .int .i64 am.version, .string ⟨am.data.toArray⟩] 33)) (HWI.out.below ((Below.refl _ wI).alloc (Nat.le_refl _) _)) hrowL ⟨hgrow.os, hgrow.tape, hgrow.output, hgrow.size, hgrow.block⟩ (by simpa using hat) rfl)
        have hkp : ∀ k, k < wq.heap.size → ¬ U k → wB.heap[k]? = wq.heap[k]? := fun k hk hn => by
          have hkq : k ≠ q := fun e => hn (by rw [e]; exact HWI.out.own)
          rw [← hwB, Below.heap_setCell w1 ⟨q, 68, none⟩ _ k hkq]
          refine (hgrow.block k (by simp; omega) (fun e => hn (HWI.out.answers.own k e.symm).1)).trans ?_
          exact (heap_alloc_old wI _ (by omega)).trans (HBI.out.block k hk hkq)
        have HKP := Lib.hid hkp
        have hsz1 := hgrow.size
        have hszB : wq.heap.size ≤ wB.heap.size := by rw [← hwB]; simp at hsz1 ⊢; omega
        have HBB : Hid (But U w.heap.size w wB) := Lib.hid (HQ.out.but.trans ⟨by rw [← hwB]; exact hgrow.os.trans HBI.out.os, by rw [← hwB]; exact hgrow.tape.trans HBI.out.tape, by rw [← hwB]; exact hgrow.output.trans HBI.out.output, hszB, fun k hk hn => HKP.out k (by have := HQ.out.but.size; omega) hn⟩)
        have hKq : K + 1 < wq.heap.size := HQ.out.cal.elim fun cs hc => (Array.getElem?_eq_some_iff.1 hc.1).1
        have hub := HQ.out.ub
        have hgo : gg < K ∨ wI.heap.size < gg := hat.elim (fun e => .inl (hub gg (HWI.out.answers.own gg e).1)) fun e => .inr (by omega)
        have HNK : Hid (¬ (U (K + 1) ∨ K + 1 = gg)) := Lib.hid (fun e => e.elim (fun e => by have := hub _ e; omega) fun e => by omega)
        have HKW : Hid (w.heap.size ≤ K + 1) := Lib.hid (by have := HQ.out.hK; omega)
        have HCB : Hid (∃ cs, CalAt (K + 1) cs wB) := Lib.hid (HQ.out.cal.elim fun cs hc => ⟨cs, (HKP.out (K + 1) hKq (fun e => by have := hub _ e; omega)).trans hc.1, hc.2⟩)
        have HOB : Hid (wB.heap[K]? = some (.cells #[.int .i64 kind, .int .i64 story, .int .i64 n] 38 (0, 0))) := Lib.hid ((HKP.out K (by omega) (fun e => by have := hub _ e; omega)).trans HQ.out.op)
        have HUN : Hid (∀ k, (U k ∨ k = gg) → U k ∨ w.heap.size ≤ k) := Lib.hid (fun k hk => hk.elim .inl fun e => hat.elim (fun e2 => .inl (by rw [e]; exact (HWI.out.answers.own gg e2).1)) fun e2 => .inr (by have := HQ.out.but.size; omega))
        have HQK : Hid (q < K ∧ K + 1 < wB.heap.size) := Lib.hid ⟨hub q HWI.out.own, by omega⟩
        rw [hwB]
        have o2 : wB.cell? ⟨K, 2, none⟩ = some (.int .i64 n) := by rw [Lib.cell_of_heap HOB.out]; rfl
        clear hwB hkp hsz1 hszB hKq hub hgo hat hlt' hgrow hown1 hrowL z68 y67 y68 y0 y1 y2 y3 y4 y5 y6 HROW HQA HAA HWI HBI i67 i68 j68 ie0 ie1 ie2 ie3 ie4 ie5 ie6 haI hqI hsI e0 e1 e2 e3 e4 e5 e6 c67 c68 f68 hqh hah HANS HCE
        by_cases h3 : 0 < p3
        · have h3b : decide ((0 : Int) < p3) = true := decide_eq_true h3
          have HNZ : Hid (W.next ⟨kind, story, n⟩ = (.none, { W with answers := W.answers ++ [am], p := p', flight := W.flight.eraseIdx j })) := Lib.hid (by rw [HNY.out, if_pos h3])
          have HWO : Hid (Calls Tryd.prog 24 #[.slice (some ⟨ab, aoff, none⟩) n1 fc, .int .i64 j] wB fun e w' => ∃ v', e = .returned v' ∧ w'.ownsRow wB.heap.size 33 7 v' (W.flight.eraseIdx j).length ((W.flight.eraseIdx j).flatMap msgC) ∧ Below wB.heap.size wB w') := Lib.hid (without_any _ W.flight j wB HWB.out.flight.read hlen (by rw [HLN.out]; exact HFL.out))
          have c67 : wB.cell? ⟨q, 67, none⟩ = some (.slice (some ⟨ab, aoff, none⟩) n1 fc) := (HWB.out.cells 67 (by omega)).1
          have f67 := (HWB.out.cells 67 (by omega)).2
          go_upto_region 35 with (first
            | (go_at_call 14; (with_reducible (refine (C3 _).out.mono ?_)); rintro e wm ⟨rfl, rfl⟩)
            | (go_at_call 24; (with_reducible (refine HWO.out.mono ?_)); rintro e wJ ⟨v', rfl, hrow, hbJ⟩; obtain ⟨ia, ic, rfl⟩ := row_form hrow; have HNI := Lib.hid (HWB.out.below hbJ); have cN : wJ.cell? ⟨q, 67, none⟩ = some (.slice (some ⟨ab, aoff, none⟩) n1 fc) := (HNI.out.cells 67 (by omega)).1; have fN := (HNI.out.cells 67 (by omega)).2)
            | fail)
          have hsJ := hbJ.size
          have hown : ∀ g, (Value.slice ia (W.flight.eraseIdx j).length ic).ownBlock = some g → wB.heap.size ≤ g ∧ g < wJ.heap.size := fun g e => hrow.lt g e
          obtain ⟨wC, hwC⟩ : ∃ wC, wJ.setCell ⟨q, 67, none⟩ (.slice ia (W.flight.eraseIdx j).length ic) = wC := ⟨_, rfl⟩
          have HWC : Hid (WAt (fun k => (U k ∨ k = gg) ∨ (Value.slice ia (W.flight.eraseIdx j).length ic).ownBlock = some k) wC q { W with answers := W.answers ++ [am], p := p', flight := W.flight.eraseIdx j } (.slice ia (W.flight.eraseIdx j).length ic) (.slice (some ⟨gg, 0, none⟩) (n2 + 1) cap')) := Lib.hid (by
            rw [← hwC]
            refine (HNI.out.more (fun k hk => .inl hk) (fun k hk => hk.elim (HNI.out.lt k) fun e => (hown k e).2)).putF (RowO.of_own hrow fun g e => ⟨.inr e, fun e2 => by have := (hown g e).1; have := HQK.out; omega⟩) (fun g e e2 => ?_)
            have h7 := HWB.out.lt g (HWB.out.answers.own g e2).1
            have := (hown g e).1
            omega)
          have HNK2 : Hid (¬ ((U (K + 1) ∨ K + 1 = gg) ∨ (Value.slice ia (W.flight.eraseIdx j).length ic).ownBlock = some (K + 1))) := Lib.hid (fun e => e.elim HNK.out fun e => by have := (hown _ e).1; have := HQK.out; omega)
          have HBB2 : Hid (But U w.heap.size w wC) := Lib.hid (by rw [← hwC]; exact (HBB.out.trans (But.of_below (hbJ.mono HBB.out.size))).setCell (by have h8 := HWB.out.own; exact h8.elim id fun e => by have h9 := HUN.out q (.inr e); exact h9.elim id fun h9 => by have := HQK.out; omega) _)
          have HCB2 : Hid (∃ cs, CalAt (K + 1) cs wC) := Lib.hid (HCB.out.elim fun cs hc => ⟨cs, by rw [← hwC]; exact (Below.heap_setCell _ ⟨q, _, none⟩ _ (K + 1) (by show K + 1 ≠ q; have := HQK.out; omega)).trans ((hbJ.block (K + 1) HQK.out.2).trans hc.1), hc.2⟩)
          have HUN2 : Hid (∀ k, ((U k ∨ k = gg) ∨ (Value.slice ia (W.flight.eraseIdx j).length ic).ownBlock = some k) → U k ∨ w.heap.size ≤ k) := Lib.hid (fun k hk => hk.elim (HUN.out k) fun e => .inr (by have := (hown k e).1; have := HBB.out.size; omega))
          rw [hwC]
          clear hwC cN fN hrow hbJ hown c67 f67 o2 h3 h3b hsJ HNI HWO HWB HNK HBB HCB HUN
          have HWB := HWC; have HNK := HNK2; have HBB := HBB2; have HCB := HCB2; have HUN := HUN2
          clear HWC HNK2 HBB2 HCB2 HUN2
          obtain ⟨hfa, hfb⟩ := next_fin HWB.out HNK.out HKW.out HBB.out [.int .i64 0, .int .i64 0, .slice none 0 0, .int .i64 0, .int .i64 0, .int .i64 0, .int .i64 0, .int .i64 0, .int .i64 0, .int .i64 0, .string ⟨#[]⟩]
          obtain ⟨csF, hcsF⟩ := HCB.out
          have hrd := storeC_cell (K + 1) [.int .i64 0, .int .i64 0, .slice none 0 0, .int .i64 0, .int .i64 0, .int .i64 0, .int .i64 0, .int .i64 0, .int .i64 0, .int .i64 0, .string ⟨#[]⟩] 0 wC (fun j hj => by rw [Nat.zero_add]; exact (cal_cells hcsF).1 j (by simpa using hj))
          obtain ⟨wz, hwz⟩ : ∃ wz, storeC (K + 1) [.int .i64 0, .int .i64 0, .slice none 0 0, .int .i64 0, .int .i64 0, .int .i64 0, .int .i64 0, .int .i64 0, .int .i64 0, .int .i64 0, .string ⟨#[]⟩] 0 wC = wz := ⟨_, rfl⟩
          rw [hwz] at hfa hfb hrd
          have y0 := hrd 0 (by simp)
          have y1 := hrd 1 (by simp)
          have y2 := hrd 2 (by simp)
          have y3 := hrd 3 (by simp)
          have y4 := hrd 4 (by simp)
          have y5 := hrd 5 (by simp)
          have y6 := hrd 6 (by simp)
          have y7 := hrd 7 (by simp)
          have y8 := hrd 8 (by simp)
          have y9 := hrd 9 (by simp)
          have y10 := hrd 10 (by simp)
          simp only [Nat.zero_add, List.getElem_cons_zero, List.getElem_cons_succ] at y0 y1 y2 y3 y4 y5 y6 y7 y8 y9 y10
          simp only [storeC, Nat.zero_add, Nat.reduceAdd] at hwz
          have HFA := Lib.hid hfa; have HFB := Lib.hid hfb
          clear hfa hfb hrd hcsF
          obtain ⟨cs0, hcs0⟩ := HCB.out
          obtain ⟨hsome, hfz⟩ := cal_cells hcs0
          obtain ⟨x0, hx0⟩ := Option.isSome_iff_exists.1 (hsome 0 (by omega))
          have hz0 := hfz 0
          obtain ⟨x1, hx1⟩ := Option.isSome_iff_exists.1 (hsome 1 (by omega))
          have hz1 := hfz 1
          obtain ⟨x2, hx2⟩ := Option.isSome_iff_exists.1 (hsome 2 (by omega))
          have hz2 := hfz 2
          obtain ⟨x3, hx3⟩ := Option.isSome_iff_exists.1 (hsome 3 (by omega))
          have hz3 := hfz 3
          obtain ⟨x4, hx4⟩ := Option.isSome_iff_exists.1 (hsome 4 (by omega))
          have hz4 := hfz 4
          obtain ⟨x5, hx5⟩ := Option.isSome_iff_exists.1 (hsome 5 (by omega))
          have hz5 := hfz 5
          obtain ⟨x6, hx6⟩ := Option.isSome_iff_exists.1 (hsome 6 (by omega))
          have hz6 := hfz 6
          obtain ⟨x7, hx7⟩ := Option.isSome_iff_exists.1 (hsome 7 (by omega))
          have hz7 := hfz 7
          obtain ⟨x8, hx8⟩ := Option.isSome_iff_exists.1 (hsome 8 (by omega))
          have hz8 := hfz 8
          obtain ⟨x9, hx9⟩ := Option.isSome_iff_exists.1 (hsome 9 (by omega))
          have hz9 := hfz 9
          obtain ⟨x10, hx10⟩ := Option.isSome_iff_exists.1 (hsome 10 (by omega))
          have hz10 := hfz 10
          clear hsome hfz hcs0
          go_wp2_with fail
          have HFIN : Hid (NextEnd U w q (W.next ⟨kind, story, n⟩).1 (W.next ⟨kind, story, n⟩).2 (.returned (.agg #[.int .i64 0, .int .i64 0, .slice none 0 0, .int .i64 0, .int .i64 0, .int .i64 0, .int .i64 0, .int .i64 0, .int .i64 0, .int .i64 0, .string ⟨#[]⟩])) wz) := Lib.hid (by
            rw [HNZ.out]
            exact ⟨.slice none 0 0, _, _, _, rfl, HFA.out, HFB.out, HUN.out, fun now l hc => by cases hc⟩)
          exact bodyPost_ret (v := .agg #[.int .i64 0, .int .i64 0, .slice none 0 0, .int .i64 0, .int .i64 0, .int .i64 0, .int .i64 0, .int .i64 0, .int .i64 0, .int .i64 0, .string ⟨#[]⟩]) (by simp [results, Tryd.results9, go_sem, y0, y1, y2, y3, y4, y5, y6, y7, y8, y9, y10]) rfl HFIN.out
        · have h3b : decide ((0 : Int) < p3) = false := decide_eq_false h3
          have h3c : p3 ≤ 0 := by omega
          have HNZ : Hid (W.next ⟨kind, story, n⟩ = (.none, { W with answers := W.answers ++ [am], p := p' })) := Lib.hid (by rw [HNY.out, if_neg h3])
          clear h3
          go_upto_region 35 with (first
            | (go_at_call 14; (with_reducible (refine (C3 _).out.mono ?_)); rintro e wm ⟨rfl, rfl⟩)
            | fail)
          clear o2 h3b h3c
          obtain ⟨hfa, hfb⟩ := next_fin HWB.out HNK.out HKW.out HBB.out [.int .i64 0, .int .i64 0, .slice none 0 0, .int .i64 0, .int .i64 0, .int .i64 0, .int .i64 0, .int .i64 0, .int .i64 0, .int .i64 0, .string ⟨#[]⟩]
          obtain ⟨csF, hcsF⟩ := HCB.out
          have hrd := storeC_cell (K + 1) [.int .i64 0, .int .i64 0, .slice none 0 0, .int .i64 0, .int .i64 0, .int .i64 0, .int .i64 0, .int .i64 0, .int .i64 0, .int .i64 0, .string ⟨#[]⟩] 0 wB (fun j hj => by rw [Nat.zero_add]; exact (cal_cells hcsF).1 j (by simpa using hj))
          obtain ⟨wz, hwz⟩ : ∃ wz, storeC (K + 1) [.int .i64 0, .int .i64 0, .slice none 0 0, .int .i64 0, .int .i64 0, .int .i64 0, .int .i64 0, .int .i64 0, .int .i64 0, .int .i64 0, .string ⟨#[]⟩] 0 wB = wz := ⟨_, rfl⟩
          rw [hwz] at hfa hfb hrd
          have y0 := hrd 0 (by simp)
          have y1 := hrd 1 (by simp)
          have y2 := hrd 2 (by simp)
          have y3 := hrd 3 (by simp)
          have y4 := hrd 4 (by simp)
          have y5 := hrd 5 (by simp)
          have y6 := hrd 6 (by simp)
          have y7 := hrd 7 (by simp)
          have y8 := hrd 8 (by simp)
          have y9 := hrd 9 (by simp)
          have y10 := hrd 10 (by simp)
          simp only [Nat.zero_add, List.getElem_cons_zero, List.getElem_cons_succ] at y0 y1 y2 y3 y4 y5 y6 y7 y8 y9 y10
          simp only [storeC, Nat.zero_add, Nat.reduceAdd] at hwz
          have HFA := Lib.hid hfa; have HFB := Lib.hid hfb
          clear hfa hfb hrd hcsF
          obtain ⟨cs0, hcs0⟩ := HCB.out
          obtain ⟨hsome, hfz⟩ := cal_cells hcs0
          obtain ⟨x0, hx0⟩ := Option.isSome_iff_exists.1 (hsome 0 (by omega))
          have hz0 := hfz 0
          obtain ⟨x1, hx1⟩ := Option.isSome_iff_exists.1 (hsome 1 (by omega))
          have hz1 := hfz 1
          obtain ⟨x2, hx2⟩ := Option.isSome_iff_exists.1 (hsome 2 (by omega))
          have hz2 := hfz 2
          obtain ⟨x3, hx3⟩ := Option.isSome_iff_exists.1 (hsome 3 (by omega))
          have hz3 := hfz 3
          obtain ⟨x4, hx4⟩ := Option.isSome_iff_exists.1 (hsome 4 (by omega))
          have hz4 := hfz 4
          obtain ⟨x5, hx5⟩ := Option.isSome_iff_exists.1 (hsome 5 (by omega))
          have hz5 := hfz 5
          obtain ⟨x6, hx6⟩ := Option.isSome_iff_exists.1 (hsome 6 (by omega))
          have hz6 := hfz 6
          obtain ⟨x7, hx7⟩ := Option.isSome_iff_exists.1 (hsome 7 (by omega))
          have hz7 := hfz 7
          obtain ⟨x8, hx8⟩ := Option.isSome_iff_exists.1 (hsome 8 (by omega))
          have hz8 := hfz 8
          obtain ⟨x9, hx9⟩ := Option.isSome_iff_exists.1 (hsome 9 (by omega))
          have hz9 := hfz 9
          obtain ⟨x10, hx10⟩ := Option.isSome_iff_exists.1 (hsome 10 (by omega))
          have hz10 := hfz 10
          clear hsome hfz hcs0
          go_wp2_with fail
          have HFIN : Hid (NextEnd U w q (W.next ⟨kind, story, n⟩).1 (W.next ⟨kind, story, n⟩).2 (.returned (.agg #[.int .i64 0, .int .i64 0, .slice none 0 0, .int .i64 0, .int .i64 0, .int .i64 0, .int .i64 0, .int .i64 0, .int .i64 0, .int .i64 0, .string ⟨#[]⟩])) wz) := Lib.hid (by
            rw [HNZ.out]
            exact ⟨.slice none 0 0, _, _, _, rfl, HFA.out, HFB.out, HUN.out, fun now l hc => by cases hc⟩)
          exact bodyPost_ret (v := .agg #[.int .i64 0, .int .i64 0, .slice none 0 0, .int .i64 0, .int .i64 0, .int .i64 0, .int .i64 0, .int .i64 0, .int .i64 0, .int .i64 0, .string ⟨#[]⟩]) (by simp [results, Tryd.results9, go_sem, y0, y1, y2, y3, y4, y5, y6, y7, y8, y9, y10]) rfl HFIN.out
end Go.Proofs.YtefloieanpgnmaaDoor

/- sane. -/
import Derived.Test.YtmfnhfkgkdibfaaGreatINil
import Derived.Test.YtmfnhfkgkdibfaaGreatISaP
namespace Go.Proofs.YtmfnhfkgkdibfaaGreat
open Go.RowKit Go.Sort Go.Proofs Go.Maps

theorem pair_at {base : Nat} {W : World} {v : Value} {e : TypeId} {α : Type} {enc : α → List Value} (hk : ∀ x, (enc x).length = 2) {l : List α} (h : W.ownsRow base e 2 v l.length (l.flatMap enc)) : ∃ a c, v = .slice a l.length c ∧ l.length ≤ c ∧ c ≤ 9223372036854775807 ∧ ∀ k (h : k < l.length), ∃ b off, a = some ⟨b, off, none⟩ ∧ ∀ i, i < 2 → W.cell? ⟨b, off + (k * 2 + i), none⟩ = (enc l[k])[i]? := by
  rcases h.2 with ⟨rfl, h0⟩ | ⟨g, cap, cur, rfl, _, hg, hc, hm, _⟩
  · exact ⟨none, 0, by rw [h0], by omega, by omega, fun j hj => by omega⟩
  · refine ⟨some ⟨g, 0, none⟩, cap, rfl, hc, by unfold maxLen at hm; exact hm, fun j hj => ⟨g, 0, rfl, fun i hi => ?_⟩⟩
    have hcells : ∀ i u, (l.flatMap enc)[i]? = some u → W.cell? ((⟨g, 0, none⟩ : Addr).add i) = some u := h.cells rfl
    have ha : ∀ i, (⟨g, 0, none⟩ : Addr).add i = ⟨g, 0 + i, none⟩ := fun i => by unfold Addr.add; by_cases h0 : i = 0 <;> simp [h0]
    rw [← ha]
    have hat : (l.flatMap enc)[j * 2 + i]? = (enc l[j])[i]? := by
      rw [flatMap_at enc 2 (by decide) hk, show (j * 2 + i) / 2 = j by omega, show (j * 2 + i) % 2 = i by omega, List.getElem?_eq_getElem hj]; rfl
    rw [← hat]
    have hlt : i < (enc l[j]).length := by rw [hk]; exact hi
    rw [hat, List.getElem?_eq_getElem hlt]
    exact hcells _ _ (by rw [hat, List.getElem?_eq_getElem hlt])
theorem HitsR.at {base : Nat} {W : World} {v : Value} {l : List (Int × Nat)} (h : HitsR base W v l) : HitsAt W v l := by
  obtain ⟨a, c, hv, hle, hm, hc⟩ := pair_at (enc := hitC) (fun _ => rfl) h
  exact ⟨a, c, hv, hle, hm, fun k hk => by
    obtain ⟨b, off, ha, hcc⟩ := hc k hk
    exact ⟨b, off, ha, hcc 0 (by decide), hcc 1 (by decide)⟩⟩
theorem TermsR.at {base : Nat} {W : World} {v : Value} {l : List (Wd × Nat)} (h : TermsR base W v l) : TermsAt W v l := by
  obtain ⟨a, c, hv, hle, hm, hc⟩ := pair_at (enc := termC) (fun _ => rfl) h
  exact ⟨a, c, hv, hle, hm, fun k hk => by
    obtain ⟨b, off, ha, hcc⟩ := hc k hk
    exact ⟨b, off, ha, hcc 0 (by decide), hcc 1 (by decide)⟩⟩
theorem IntsR.at {base : Nat} {W : World} {v : Value} {l : List Int} (h : IntsR base W v l) (hl : l.length ≤ 1099511627776) : IntsAt W v l := by
  have hcells : ∀ g, v.ownBlock = some g → ∀ j u, (l.map (Value.int .i64))[j]? = some u → W.cell? ((⟨g, 0, none⟩ : Addr).add j) = some u := fun g hg => World.ownsRow.cells h hg
  rcases h.2 with ⟨rfl, h0⟩ | ⟨g, cap, cur, rfl, _, _, hc, _⟩
  · exact ⟨none, 0, by rw [h0], by omega, hl, fun j hj => by omega⟩
  · refine ⟨some ⟨g, 0, none⟩, cap, rfl, hc, hl, fun j hj => ⟨g, 0, rfl, ?_⟩⟩
    have := hcells g rfl j (.int .i64 l[j]) (by rw [List.getElem?_map, List.getElem?_eq_getElem hj]; rfl)
    rw [Nat.zero_add]
    unfold Addr.add at this
    by_cases h0 : j = 0
    · subst h0; exact this
    · rw [if_neg h0, Nat.zero_add] at this; exact this

set_option maxRecDepth 1000000 in
set_option maxHeartbeats 8000000 in
theorem sane_any (w : World) : Calls Tryz.prog 10 #[] w fun e w' => e = .returned (.bool true) ∧ Below w.heap.size w w' := by
  go_enter Tryz.func10, Tryz.ntmps10
  go_wp2_with fail
  obtain ⟨w0, hw0⟩ : ∃ w0, w.alloc (.cells (saneOps.flatMap opC).toArray 33 (0, 0)) = w0 := ⟨_, rfl⟩
  have hb0 : Below w.heap.size w w0 := by rw [← hw0]; exact (Below.refl _ w).alloc (Nat.le_refl _) _
  have hops : OpsAt w0 (.slice (some ⟨w.heap.size, 0, none⟩) 4 4) saneOps := by
    rw [← hw0]
    refine ⟨_, _, rfl, by decide, by decide, fun k hk => ⟨_, _, rfl, ?_⟩⟩
    have hk' : k < 4 := hk
    rcases (show k = 0 ∨ k = 1 ∨ k = 2 ∨ k = 3 by omega) with rfl | rfl | rfl | rfl <;> exact ⟨by simp [saneOps, opC], by simp [saneOps, opC], by simp [saneOps, opC]⟩
  have hrun := run_any _ saneOps w0 hops (by decide) (fun o ho => by
    simp only [saneOps, List.mem_cons, List.not_mem_nil, or_false] at ho
    rcases ho with rfl | rfl | rfl | rfl <;> exact ⟨⟨by decide, by decide⟩, by decide⟩)
  rw [sane_run, ← hw0] at hrun
  refine hrun.mono ?_
  rw [hw0]
  rintro e w1 ⟨p, S, rfl, hI1, hS1, hb1⟩
  have HB1 := Lib.hid (bthen hb0 hb1); have HI1 := Lib.hid hI1
  have HS1 : Hid (∀ k, S k → w.heap.size ≤ k) := Lib.hid fun k hk => Nat.le_trans hb0.size (hS1 k hk)
  clear hb0 hb1 hI1 hS1 hrun hops hw0
  -- Docs
  have hd := docs_any w1 HI1.out (by omega) [82, 65, 73, 78] (by decide)
  rw [sane_docs] at hd
  go_wp2_with fail
  refine hd.mono ?_
  rintro e w2 ⟨va, rfl, ha, hb2⟩
  have HB2 := Lib.hid (bthen HB1.out hb2); have HI2 := Lib.hid (HI1.out.below hb2); have HA := Lib.hid ha.at
  clear hd ha hb2 HI1 HB1
  -- Phrase
  go_wp2_with fail
  have hst : StrsAt (w2.alloc (.cells ([wThe, wCity].map encW).toArray 9)) (.slice (some ⟨w2.heap.size, 0, none⟩) 2 2) [wThe, wCity] := strsAt_new w2 [wThe, wCity] (by decide)
  have hba : Below w2.heap.size w2 (w2.alloc (.cells ([wThe, wCity].map encW).toArray 9)) := (Below.refl _ w2).alloc (Nat.le_refl _) _
  have hp := phrase_any _ (HI2.out.below hba) (by omega) _ [wThe, wCity] hst (by decide) (fun s hs => by
    simp only [List.mem_cons, List.not_mem_nil, or_false] at hs
    rcases hs with rfl | rfl <;> decide)
  rw [sane_phrase] at hp
  refine hp.mono ?_
  rintro e w3 ⟨vb, rfl, hb, hb3⟩
  have hb23 := bthen hba hb3
  have HB3 := Lib.hid (bthen HB2.out hb23); have HI3 := Lib.hid (HI2.out.below hb23); have HBv := Lib.hid hb.at; have HA3 := Lib.hid (HA.out.below hb23)
  clear hp hb hb3 hst hba hb23 HI2 HB2 HA
  -- Prefix
  have hp := prefix_any w3 HI3.out (by omega) [99] (by decide)
  rw [sane_pref] at hp
  go_wp2_with fail
  refine hp.mono ?_
  rintro e w4 ⟨vc, rfl, hc, hb4⟩
  have HB4 := Lib.hid (bthen HB3.out hb4); have HI4 := Lib.hid (HI3.out.below hb4); have HC := Lib.hid hc.at; have HA4 := Lib.hid (HA3.out.below hb4); have HBv4 := Lib.hid (HBv.out.below hb4)
  clear hp hc hb4 HI3 HB3 HA3 HBv
  -- Terms
  have hp := terms_any w4 HI4.out (by omega) [] (by decide) 2 (by omega) (by omega)
  rw [sane_terms] at hp
  go_wp2_with fail
  refine hp.mono ?_
  rintro e w5 ⟨vd, rfl, hd, hb5⟩
  have HB5 := Lib.hid (bthen HB4.out hb5); have HI5 := Lib.hid (HI4.out.below hb5); have HD := Lib.hid hd.at; have HA5 := Lib.hid (HA4.out.below hb5); have HBv5 := Lib.hid (HBv4.out.below hb5); have HC5 := Lib.hid (HC.out.below hb5)
  clear hp hd hb5 HI4 HB4 HA4 HBv4 HC
  obtain ⟨aa, ca, rfl, -, -, -⟩ := HA5.out
  obtain ⟨ab, cb, rfl, -, -, -⟩ := HBv5.out
  obtain ⟨ac, cc, rfl, -, -, -⟩ := HC5.out
  obtain ⟨ad, cd, rfl, -, -, -⟩ := HD.out
  simp only [List.length_cons, List.length_nil, Nat.zero_add, Nat.reduceAdd] at *
  have hlen := len_any w5 HI5.out
  have hall := all_any w5 HI5.out
  go_wp2_with fail
  refine hlen.mono ?_
  rintro e w5' ⟨rfl, hw5⟩
  subst hw5
  go_wp2_with fail
  refine hall.mono ?_
  rintro e w6 ⟨vi, rfl, hi, hb6⟩
  have HB6 := Lib.hid (bthen HB5.out hb6); have HI6 := Lib.hid (HI5.out.below hb6)
  obtain ⟨ai, ci, rfl, -, -, -⟩ := (hi.at (by decide))
  have hall2 := all_any w6 HI6.out
  obtain ⟨_, _, ea, _, _, ka⟩ := HA5.out.below hb6
  obtain ⟨_, _, eb, _, _, kb⟩ := HBv5.out.below hb6
  obtain ⟨_, _, ec, _, _, kc⟩ := HC5.out.below hb6
  obtain ⟨_, _, ed, _, _, kd⟩ := HD.out.below hb6
  injection ea with ea _ _; injection eb with eb _ _; injection ec with ec _ _; injection ed with ed _ _
  subst ea; subst eb; subst ec; subst ed
  obtain ⟨ga, oa, rfl, a0, a1⟩ := ka 0 (by decide)
  obtain ⟨gb, ob, rfl, b0, b1⟩ := kb 1 (by decide)
  obtain ⟨gc, oc, rfl, c0, c1⟩ := kc 0 (by decide)
  obtain ⟨gd, od, rfl, d0, d1⟩ := kd 0 (by decide)
  obtain ⟨gd', od', ed', d2, d3⟩ := kd 1 (by decide)
  injection ed' with ed'
  injection ed' with e1 e2
  subst e1; subst e2
  simp only [List.getElem_cons_zero, List.getElem_cons_succ, Nat.zero_mul, Nat.add_zero, Nat.zero_add, Nat.one_mul, Nat.reduceAdd] at a0 a1 b0 b1 c0 c1 d0 d1 d2 d3
  simp only [List.map_cons, List.map_nil, saneD, List.length_cons, List.length_nil, Nat.zero_add, Nat.reduceAdd] at *
  clear ka kb kc kd hall hi hb6 HA5 HBv5 HC5 HD HB5 HI5 hlen
  have g1 : (wCity == [99, 105, 116, 121]) = true := by decide
  have g2 : (wThe == [116, 104, 101]) = true := by decide
  go_wp2_with fail
  refine hall2.mono ?_
  rintro e w7 ⟨vj, rfl, hj, hb7⟩
  have HB7 := Lib.hid (bthen HB6.out hb7); have HI7 := Lib.hid (HI6.out.below hb7)
  obtain ⟨aj, cj, rfl, -, -, kj⟩ := (hj.at (by decide))
  obtain ⟨gj, oj, rfl, j0⟩ := kj 0 (by decide)
  simp only [List.length_cons, List.length_nil, Nat.zero_add, Nat.reduceAdd, List.getElem_cons_zero, Nat.add_zero] at j0 ⊢
  clear kj hj hb7 HB6 HI6 hall2 a0 a1 b0 b1 c0 c1 d0 d1 d2 d3
  go_wp2_with fail
  refine (nil_remove _ _).mono ?_
  rintro e w8 ⟨rfl, hb8⟩
  have HB8 := Lib.hid (bthen HB7.out hb8); have HI8 := Lib.hid (HI7.out.below hb8)
  clear hb8 HB7 HI7 j0
  go_wp2_with fail
  refine (nil_put 1 [97] _).mono ?_
  rintro e w8' ⟨rfl, hw⟩
  subst hw
  go_wp2_with fail
  refine (nil_docs [97] (by decide) _).mono ?_
  rintro e w9 ⟨rfl, hb9⟩
  have HB9 := Lib.hid (bthen HB8.out hb9); have HI9 := Lib.hid (HI8.out.below hb9)
  clear hb9 HB8 HI8
  go_wp2_with fail
  refine (nil_phrase _ _).mono ?_
  rintro e wA ⟨rfl, hw⟩
  have hba : Below w9.heap.size w9 wA := by rw [hw]; exact (Below.refl _ w9).alloc (Nat.le_refl _) _
  have HBA := Lib.hid (bthen HB9.out hba); have HIA := Lib.hid (HI9.out.below hba)
  clear hw hba HB9 HI9
  go_wp2_with fail
  refine (nil_prefix [97] (by decide) _).mono ?_
  rintro e wB ⟨rfl, hbB⟩
  have HBB := Lib.hid (bthen HBA.out hbB); have HIB := Lib.hid (HIA.out.below hbB)
  clear hbB HBA HIA
  go_wp2_with fail
  refine (nil_terms [] 5 _).mono ?_
  rintro e wB' ⟨rfl, hw⟩
  subst hw
  go_wp2_with fail
  refine (nil_all _).mono ?_
  rintro e wB'' ⟨rfl, hw⟩
  subst hw
  go_wp2_with fail
  refine (nil_len _).mono ?_
  rintro e wB3 ⟨rfl, hw⟩
  subst hw
  go_wp2_with fail
  refine (put_refused _ HIB.out 257 [] (by omega)).mono ?_
  rintro e wB4 ⟨rfl, hw⟩
  subst hw
  go_wp2_with fail
  refine (put_any _ HIB.out (by omega) (fun k h => h.elim) 1 (by omega) (by omega) [] (by decide)).mono ?_
  rintro e wC ⟨rfl, S', -, hbC, -⟩
  have hend : Below w.heap.size w wC := HBB.out.trans (hbC.below HBB.out.size HS1.out)
  clear hbC
  go_wp2
  go_ret
  exact ⟨rfl, hend⟩
end Go.Proofs.YtmfnhfkgkdibfaaGreat

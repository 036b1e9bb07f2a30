/- equal, of two indexes of the same documents. -/
import Derived.Test.YtmfnhfkgkdibfaaGreatIL6
import Derived.Deep.RegionHeld3
namespace Go.Proofs.YtmfnhfkgkdibfaaGreat
open Go.RowKit Go.Sort Go.Proofs Go.Maps

theorem IntsAt.below {W W' : World} {v : Value} {l : List Int} (h : IntsAt W v l) (hb : Below W.heap.size W W') : IntsAt W' v l := by
  obtain ⟨a, c, hv, hle, hm, hc⟩ := h
  refine ⟨a, c, hv, hle, hm, fun j hj => ?_⟩
  obtain ⟨b, off, ha, h1⟩ := hc j hj
  exact ⟨b, off, ha, (hb.cell (World.block_lt_of_cell? W _ h1)).trans h1⟩
theorem hits_next {base : Nat} {a W : World} {v : Value} {l : List (Int × Nat)} (k : Below a.heap.size a W) (h : HitsR base a v l) : HitsAt W v l := h.at.below k
theorem terms_next {base : Nat} {a W : World} {v : Value} {l : List (Wd × Nat)} (k : Below a.heap.size a W) (h : TermsR base a v l) : TermsAt W v l := h.at.below k
theorem below_keep {a b c : World} (k : Below b.heap.size b c) (h : Below a.heap.size a b) : Below a.heap.size a c := bthen h k
theorem cell_keep {b c : World} {p : Addr} {v : Value} (k : Below b.heap.size b c) (h : b.cell? p = some v) : c.cell? p = some v := (k.cell (World.block_lt_of_cell? b _ h)).trans h

theorem s_keep {a b c : World} {p : Addr} {v : Value} (k : Below b.heap.size b c) (h : b.cell? p = some v ∧ Below a.heap.size a b) : c.cell? p = some v ∧ Below a.heap.size a c := ⟨cell_keep k h.1, below_keep k h.2⟩

set_option maxRecDepth 1000000 in
set_option maxHeartbeats 8000000 in
theorem equal_any {S1 Q1 S2 Q2 : Nat → Prop} {N1 N2 p1 p2 : Nat} {D : List Dc} (w : World) (hx : IdxAt S1 Q1 N1 w p1 D) (hy : IdxAt S2 Q2 N2 w p2 D) (hN1 : N1 ≤ 1000000) (hN2 : N2 ≤ 1000000) (vq : Value) (qs : List (List UInt8)) (hq : StrsAt w vq qs) (hql : qs.length ≤ 5) (hqs : ∀ s ∈ qs, s.length ≤ 40) (n : Int) (hn0 : -9223372036854775808 ≤ n) (hn1 : n ≤ 9223372036854775807) :
    Calls Tryz.prog 32 #[.pointer (some ⟨p1, 0, none⟩), .pointer (some ⟨p2, 0, none⟩), vq, .int .i64 n] w fun e w' => e = .returned (.bool true) ∧ Below w.heap.size w w' := by
  have HX := Lib.hid hx; have HY := Lib.hid hy; have HQ := Lib.hid hq; have HS := Lib.hid hqs
  have HDL := Lib.hid (docs_le hx.asc hx.ids)
  have hterms : Hid (∀ s (c : Nat → Prop) (c' : Nat → Prop) M q W, IdxAt c c' M W q D → M ≤ 1000000 → s.length ≤ 1000000 → Calls Tryz.prog 26 #[.pointer (some ⟨q, 0, none⟩), .string ⟨s.toArray⟩, .int .i64 n] W fun e w' => ∃ v, e = .returned v ∧ TermsR W.heap.size w' v (termsQ D s n) ∧ Below W.heap.size W w') := Lib.hid (fun s c c' M q W h hM hs => terms_any W h hM s hs n hn0 hn1)
  clear hx hy hqs
  obtain ⟨aq, cq, rfl, hqle, -, -⟩ := hq
  go_enter Tryz.func32, Tryz.ntmps32
  go_wp2_with fail
  refine (len_any w HX.out).mono ?_
  rintro e w' ⟨rfl, hw⟩
  subst w'
  go_wp2_with fail
  refine (len_any _ HY.out).mono ?_
  rintro e w'' ⟨rfl, hw⟩
  subst w''
  go_wp2_with fail
  refine (all_any _ HX.out).mono ?_
  rintro e w1 ⟨v1, rfl, hr1, hb1⟩
  go_wp2_with fail
  refine (all_any _ (HY.out.below hb1)).mono ?_
  rintro e w2 ⟨v2, rfl, hr2, hb2⟩
  have hi1 : IntsAt w2 v1 (D.map (·.1)) := (IntsR.at hr1 (by have := HDL.out; rw [List.length_map]; omega)).below hb2
  have hi2 : IntsAt w2 v2 (D.map (·.1)) := IntsR.at hr2 (by have := HDL.out; rw [List.length_map]; omega)
  have hcs := sameInts_any v1 v2 _ _ w2 hi1 hi2
  have HB2 := Lib.hid (bthen hb1 hb2)
  clear hr1 hr2 hb1 hb2 hi1 hi2
  simp only [decide_true] at hcs
  go_wp2_with fail
  refine hcs.mono ?_
  rintro e w3 ⟨rfl, hb3⟩
  have HB3 := Lib.hid (bthen HB2.out hb3)
  clear hb3 hcs HB2
  -- Phrase
  have hqs5 : ∀ s ∈ qs, s.length ≤ 1000000 := fun s hs => by have := HS.out s hs; omega
  go_wp2_with fail
  refine (phrase_any w3 (HX.out.below HB3.out) hN1 _ qs (HQ.out.below HB3.out) (by omega) hqs5).mono ?_
  rintro e w4 ⟨v3, rfl, hr3, hb4⟩
  have HB4 := Lib.hid (bthen HB3.out hb4)
  go_wp2_with fail
  refine (phrase_any w4 (HY.out.below HB4.out) hN2 _ qs (HQ.out.below HB4.out) (by omega) hqs5).mono ?_
  rintro e w5 ⟨v4, rfl, hr4, hb5⟩
  have hcs := sameHits_true v3 v4 _ w5 (hr3.at.below hb5) hr4.at
  have HB5 := Lib.hid (bthen HB4.out hb5)
  clear hr3 hr4 hb4 hb5 HB3 HB4 hqs5
  go_wp2_with fail
  refine hcs.mono ?_
  rintro e w6 ⟨rfl, hb6⟩
  have HB6 := Lib.hid (bthen HB5.out hb6)
  clear hb6 hcs HB5
  -- Terms
  go_wp2_with fail
  refine (hterms.out [] _ _ _ _ w6 (HX.out.below HB6.out) hN1 (by decide)).mono ?_
  rintro e w7 ⟨v5, rfl, hr5, hb7⟩
  have HB7 := Lib.hid (bthen HB6.out hb7)
  go_wp2_with fail
  refine (hterms.out [] _ _ _ _ w7 (HY.out.below HB7.out) hN2 (by decide)).mono ?_
  rintro e w8 ⟨v6, rfl, hr6, hb8⟩
  have hcs := sameTerms_true v5 v6 _ w8 (hr5.at.below hb8) hr6.at
  have HB8 := Lib.hid (bthen HB7.out hb8)
  clear hr5 hr6 hb7 hb8 HB6 HB7
  go_wp2_with fail
  refine hcs.mono ?_
  rintro e w9 ⟨rfl, hb9⟩
  have HB9 := Lib.hid (bthen HB8.out hb9)
  clear hb9 hcs HB8
  go_wp2
  go_loopw [9] (fun i wr => ∃ k : Nat, i = .int .i64 k ∧ k ≤ qs.length ∧ Hid (Below w.heap.size w wr)) (fun i _ => qs.length - (intOf i).toNat)
  case atStart => exact ⟨0, rfl, by omega, HB9⟩
  case round =>
    obtain ⟨k, rfl, hk, HB⟩ := hrel
    by_cases hkl : k < qs.length
    · have hki : (k : Int) < (qs.length : Int) := by omega
      have hIx := HX.out.below HB.out
      have hIy := HY.out.below HB.out
      obtain ⟨_, _, e1, _, _, hcc⟩ := HQ.out.below HB.out
      injection e1 with e1 e2 e3
      subst e1
      clear e2 e3
      obtain ⟨b, off, rfl, ck⟩ := hcc k hkl
      have hsl := HS.out qs[k] (List.getElem_mem hkl)
      obtain ⟨q, hq⟩ : ∃ q, qs[k] = q := ⟨_, rfl⟩
      rw [hq] at ck hsl
      simp only [encW] at ck
      have cD := fun W (h : Below wr.heap.size wr W) => docs_any W (hIx.below h) hN1 q (by omega)
      have cD' := fun W (h : Below wr.heap.size wr W) => docs_any W (hIy.below h) hN2 q (by omega)
      have cP := fun W (h : Below wr.heap.size wr W) => prefix_any W (hIx.below h) hN1 q (by omega)
      have cP' := fun W (h : Below wr.heap.size wr W) => prefix_any W (hIy.below h) hN2 q (by omega)
      have cT := fun W (h : Below wr.heap.size wr W) => hterms.out q _ _ _ _ W (hIx.below h) hN1 (by omega)
      have cT' := fun W (h : Below wr.heap.size wr W) => hterms.out q _ _ _ _ W (hIy.below h) hN2 (by omega)
      obtain ⟨L1, hL1⟩ : ∃ L, docsQ D q = L := ⟨_, rfl⟩
      obtain ⟨L2, hL2⟩ : ∃ L, prefQ D q = L := ⟨_, rfl⟩
      obtain ⟨L3, hL3⟩ : ∃ L, termsQ D q n = L := ⟨_, rfl⟩
      rw [hL1] at cD cD'
      rw [hL2] at cP cP'
      rw [hL3] at cT cT'
      have KD := Lib.hid cD; have KD' := Lib.hid cD'; have KP := Lib.hid cP; have KP' := Lib.hid cP'; have KT := Lib.hid cT; have KT' := Lib.hid cT'
      have hb0 : Below wr.heap.size wr wr.drew := (Below.refl _ wr).drew
      have ckd : wr.drew.cell? ⟨b, off + k, none⟩ = some (.string ⟨q.toArray⟩) := ck
      clear cD cD' cP cP' cT cT' hL1 hL2 hL3 hcc hIx hIy hq
      go_upto_region 6 with fail
      go_region_held3 (fun w' => w'.cell? ⟨b, off + k, none⟩ = some (.string ⟨q.toArray⟩) ∧ Below wr.heap.size wr w')
        (first
          | (with_reducible assumption)
          | (exact s_keep (by with_reducible assumption) (by with_reducible assumption))
          | (exact ⟨by with_reducible assumption, by with_reducible assumption⟩)
          | (exact (s_keep (by with_reducible assumption) (by with_reducible assumption)).1)
          | (exact (s_keep (by with_reducible assumption) (by with_reducible assumption)).2))
        (first
          | (go_at_call 28; with_reducible (refine (KD.out _ (by first | with_reducible assumption | exact And.right (by with_reducible assumption))).mono ?_); rintro e wn ⟨vn, rfl, hrn, hbn⟩)
          | (go_at_call 28; with_reducible (refine (KD'.out _ (by first | with_reducible assumption | exact And.right (by with_reducible assumption))).mono ?_); rintro e wn ⟨vn, rfl, hrn, hbn⟩)
          | (go_at_call 30; with_reducible (refine (KP.out _ (by first | with_reducible assumption | exact And.right (by with_reducible assumption))).mono ?_); rintro e wn ⟨vn, rfl, hrn, hbn⟩)
          | (go_at_call 30; with_reducible (refine (KP'.out _ (by first | with_reducible assumption | exact And.right (by with_reducible assumption))).mono ?_); rintro e wn ⟨vn, rfl, hrn, hbn⟩)
          | (go_at_call 26; with_reducible (refine (KT.out _ (by first | with_reducible assumption | exact And.right (by with_reducible assumption))).mono ?_); rintro e wn ⟨vn, rfl, hrn, hbn⟩)
          | (go_at_call 26; with_reducible (refine (KT'.out _ (by first | with_reducible assumption | exact And.right (by with_reducible assumption))).mono ?_); rintro e wn ⟨vn, rfl, hrn, hbn⟩)
          | (go_at_call 22; refine (sameHits_true _ _ L1 _ (by first | exact HitsR.at (by with_reducible assumption) | exact hits_next (by with_reducible assumption) (by with_reducible assumption)) (by first | exact HitsR.at (by with_reducible assumption) | exact hits_next (by with_reducible assumption) (by with_reducible assumption))).mono ?_; rintro e wn ⟨rfl, hbn⟩)
          | (go_at_call 22; refine (sameHits_true _ _ L2 _ (by first | exact HitsR.at (by with_reducible assumption) | exact hits_next (by with_reducible assumption) (by with_reducible assumption)) (by first | exact HitsR.at (by with_reducible assumption) | exact hits_next (by with_reducible assumption) (by with_reducible assumption))).mono ?_; rintro e wn ⟨rfl, hbn⟩)
          | (go_at_call 25; refine (sameTerms_true _ _ L3 _ (by first | exact TermsR.at (by with_reducible assumption) | exact terms_next (by with_reducible assumption) (by with_reducible assumption)) (by first | exact TermsR.at (by with_reducible assumption) | exact terms_next (by with_reducible assumption) (by with_reducible assumption))).mono ?_; rintro e wn ⟨rfl, hbn⟩)
          | fail)
      all_goals
        go_wp2
        go_roundw
        case rel => exact ⟨k + 1, by go_num, by omega, Lib.hid (HB.out.trans ((by first | exact And.right (by with_reducible assumption) | exact below_keep (by with_reducible assumption) (And.right (by with_reducible assumption)) : Below wr.heap.size wr _).mono HB.out.size))⟩
        case measure => simp [intOf]; omega
    · obtain rfl : k = qs.length := by omega
      go_wp2
      go_ret
      exact ⟨rfl, HB.out⟩
end Go.Proofs.YtmfnhfkgkdibfaaGreat

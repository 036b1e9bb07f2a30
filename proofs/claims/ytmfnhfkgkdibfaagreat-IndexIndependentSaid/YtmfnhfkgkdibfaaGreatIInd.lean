/- IndexIndependent. -/
import Derived.Test.YtmfnhfkgkdibfaaGreatIApp
import Derived.Deep.AppendLies
namespace Go.Proofs.YtmfnhfkgkdibfaaGreat
open Go.RowKit Go.Sort Go.Proofs Go.Maps

theorem hits_form {W : World} {v : Value} {l : List (Int × Nat)} (h : HitsAt W v l) : ∃ a c, v = .slice a l.length c ∧ l.length ≤ c ∧ c ≤ 9223372036854775807 := by
  obtain ⟨a, c, h1, h2, h3, _⟩ := h; exact ⟨a, c, h1, h2, h3⟩
theorem docs_from {S Q : Nat → Prop} {N : Nat} {p : Nat} {D : List Dc} (w0 w : World) (hb : Below w0.heap.size w0 w) (h : IdxAt S Q N w p D) (hN : N ≤ 1000000) (s : List UInt8) (hs : s.length ≤ 1000000) :
    Calls Tryz.prog 28 #[.pointer (some ⟨p, 0, none⟩), .string ⟨s.toArray⟩] w fun e w' => ∃ v, e = .returned v ∧ HitsR w0.heap.size w' v (docsQ D s) ∧ Below w0.heap.size w0 w' ∧ Below w.heap.size w w' :=
  (docs_any w h hN s hs).mono fun _ _ ⟨v, he, hr, hb'⟩ => ⟨v, he, hr.mono hb.size, bthen hb hb', hb'⟩
theorem prefix_from {S Q : Nat → Prop} {N : Nat} {p : Nat} {D : List Dc} (w0 w : World) (hb : Below w0.heap.size w0 w) (h : IdxAt S Q N w p D) (hN : N ≤ 1000000) (s : List UInt8) (hs : s.length ≤ 1000000) :
    Calls Tryz.prog 30 #[.pointer (some ⟨p, 0, none⟩), .string ⟨s.toArray⟩] w fun e w' => ∃ v, e = .returned v ∧ HitsR w0.heap.size w' v (prefQ D s) ∧ Below w0.heap.size w0 w' ∧ Below w.heap.size w w' :=
  (prefix_any w h hN s hs).mono fun _ _ ⟨v, he, hr, hb'⟩ => ⟨v, he, hr.mono hb.size, bthen hb hb', hb'⟩

set_option maxRecDepth 1000000 in
set_option maxHeartbeats 16000000 in
theorem lawInd_any (v : Value) (ops : List Op3) (vq : Value) (qs : List (List UInt8)) (w : World) (h : OpsAt w v ops) (hok : ∀ o ∈ ops, okOp o) (hlen : ∀ o ∈ ops, o.2.2.length ≤ 9223372036854775807) (hq : StrsL w vq qs) (hqs : ∀ s ∈ qs, s.length ≤ 9223372036854775807) :
    Calls Tryz.prog 5 #[v, vq] w fun e w' => e = .returned (.bool true) ∧ Below w.heap.size w w' := by
  obtain ⟨i0, hi, hz0, hz1, hz2⟩ := info_parts infoHit
  have HOK := Lib.hid (few_ok hok)
  have HL := Lib.hid hlen
  have HOP := Lib.hid h
  have HQ := Lib.hid hq; have HQS := Lib.hid hqs
  have hfl := few_len ops
  obtain ⟨hq5, hq40⟩ := queries_small qs
  have HQ40 := Lib.hid hq40
  clear h hok hlen hq hqs hq40
  go_enter Tryz.func5, Tryz.ntmps5
  go_wp2_with fail
  refine (sane_any w).mono ?_
  rintro e w1 ⟨rfl, hb1⟩
  go_wp2_with fail
  refine (few_any v ops w1 (HOP.out.below hb1) HL.out).mono ?_
  rintro e w2 ⟨vf, rfl, hf, hb2⟩
  have HB2 := Lib.hid (bthen hb1 hb2)
  have HOF := Lib.hid (opsAt_of_owns hf (by omega))
  clear hb1 hb2 hf
  go_wp2_with fail
  refine (left_any vf (fewL ops) w2 HOF.out (by omega)).mono ?_
  rintro e w3 ⟨vl, rfl, hl, hb3⟩
  have hll := leftK_len (fewL ops) 256
  have hol := opsAt_of_owns hl (by unfold leftL; omega)
  have HB3 := Lib.hid (bthen HB2.out hb3)
  have HOL := Lib.hid hol
  have HLO := Lib.hid (left_ok HOK.out)
  have HBS := Lib.hid (fun o (ho : o ∈ leftL (fewL ops)) s => both_single ho s)
  have HPS := Lib.hid (fun o (ho : o ∈ leftL (fewL ops)) q => phrase_single ho q)
  have hll2 : (leftL (fewL ops)).length ≤ 256 := hll
  have hrl : runD (leftL (fewL ops)) = runD (fewL ops) := run_left _
  obtain ⟨l, hl'⟩ : ∃ l, leftL (fewL ops) = l := ⟨_, rfl⟩
  obtain ⟨D, hD⟩ : ∃ D, runD (fewL ops) = D := ⟨_, rfl⟩
  rw [hl', hD] at hrl
  rw [hl'] at HOL HLO HBS HPS hll2
  rw [hD] at HBS HPS
  have HRL := Lib.hid hrl
  clear hb3 hl hol HB2 HOF hl' hD hll hrl
  go_wp2_with fail
  refine (queries_any vq qs w3 (HQ.out.below HB3.out) HQS.out).mono ?_
  rintro e w4 ⟨v4, rfl, ho4, hb4⟩
  have HB4 := Lib.hid (bthen HB3.out hb4)
  have HOL4 := Lib.hid (HOL.out.below hb4)
  have HST := Lib.hid (strsAt_of_owns ho4 (by omega))
  obtain ⟨q, hq⟩ : ∃ q, queriesL qs = q := ⟨_, rfl⟩
  rw [hq] at hq5 HQ40 HST
  have hrun := run_any vl l w4 HOL4.out hll2 HLO.out
  rw [HRL.out] at hrun
  clear ho4 hb4 HB3 HOL hq
  go_wp2_with fail
  refine hrun.mono ?_
  rintro e w5 ⟨p, S, rfl, hI, -, hb5⟩
  have HB5 := Lib.hid (bthen HB4.out hb5)
  have HI := Lib.hid hI
  have HOL5 := Lib.hid (HOL4.out.below hb5)
  have HST5 := Lib.hid (HST.out.below hb5)
  obtain ⟨al, cl, rfl, hlle, -, -⟩ := HOL5.out
  obtain ⟨aq, cq_, rfl, hqle, -, -⟩ := HST5.out
  clear hI hb5 hrun HB4 HOL4 HST
  go_wp2
  go_loopw [9] (fun i wr => ∃ k : Nat, i = .int .i64 k ∧ k ≤ l.length ∧ Hid (Below w5.heap.size w5 wr)) (fun i _ => l.length - (intOf i).toNat)
  case atStart => exact ⟨0, rfl, by omega, Lib.hid (Below.refl _ _)⟩
  case round =>
    obtain ⟨k, rfl, hk, HB⟩ := hrel
    by_cases hkl : k < l.length
    · have hki : (k : Int) < (l.length : Int) := by omega
      obtain ⟨_, _, e1, _, _, occ⟩ := HOL5.out.below HB.out
      injection e1 with e1 e2 e3
      subst e1
      clear e2 e3
      obtain ⟨bo, oo, rfl, -, o2, -⟩ := occ k hkl
      have hwin := ops_window (HOL5.out.below HB.out) k hkl
      have hrw := fun W => run_window_o (b := bo) (off := oo) (n := l.length) (c := cl) (k := k) (by omega) W
      have hlo := HLO.out l[k] (List.getElem_mem hkl)
      have HBS' := Lib.hid (HBS.out l[k] (List.getElem_mem hkl))
      have HPS' := Lib.hid (HPS.out l[k] (List.getElem_mem hkl))
      obtain ⟨o, ho⟩ : ∃ o, l[k] = o := ⟨_, rfl⟩
      rw [ho] at o2 hwin hlo HBS' HPS'
      have hr1 := run_any (.slice (some ⟨bo, oo + k * 3, none⟩) 1 (cl - k)) [o] wr hwin (by simp) (fun x hx => by rw [List.mem_singleton.1 hx]; exact hlo)
      obtain ⟨E, hE⟩ : ∃ E, runD [o] = E := ⟨_, rfl⟩
      rw [hE] at hr1 HBS' HPS'
      obtain ⟨id, hid⟩ : ∃ id, o.2.1 = id := ⟨_, rfl⟩
      rw [hid] at o2 HBS' HPS'
      clear occ ho hE hlo hid hwin
      go_wp2_with fail
      refine hr1.mono ?_
      rintro e w6 ⟨p1, S1, rfl, hJ, -, hb6⟩
      have o3 : w6.cell? ⟨bo, oo + k * 3 + 1, none⟩ = some (.int .i64 id) := cell_keep hb6 o2
      have HB6 := Lib.hid (bthen HB.out hb6)
      have HI6 := Lib.hid (HI.out.below HB6.out)
      have HJ6 := Lib.hid hJ
      have HST6 := Lib.hid (HST5.out.below HB6.out)
      clear hr1 hJ hb6 o2 HB
      go_wp2
      go_loopw [11] (fun i wr => ∃ k : Nat, i = .int .i64 k ∧ k ≤ q.length + 1 ∧ Hid (Below w6.heap.size w6 wr)) (fun i _ => q.length + 1 - (intOf i).toNat)
      case atStart => exact ⟨0, rfl, by omega, Lib.hid (Below.refl _ _)⟩
      case round =>
        obtain ⟨m, rfl, hm, HC⟩ := hrel
        have hms := HC.out.size
        by_cases hml : m ≤ q.length
        · have g0 : decide ((m : Int) ≤ (q.length : Int)) = true := by simp; omega
          have HI7 := Lib.hid (HI6.out.below HC.out)
          have HJ7 := Lib.hid (HJ6.out.below HC.out)
          have HST7 := Lib.hid (HST6.out.below HC.out)
          have o4 : wr.cell? ⟨bo, oo + k * 3 + 1, none⟩ = some (.int .i64 id) := cell_keep HC.out o3
          have hqs5 : ∀ s ∈ q, s.length ≤ 1000000 := fun s hs => by have := HQ40.out s hs; omega
          go_wp2_with fail
          refine (phrase_any wr HI7.out (by omega) _ q HST7.out (by omega) hqs5).mono ?_
          rintro e w8 ⟨v8, rfl, hr8, hb8⟩
          have hp9 := phrase_any w8 (HJ7.out.below hb8) (by omega) _ q (HST7.out.below hb8) (by omega) hqs5
          have HB8 := Lib.hid (bthen HC.out hb8)
          go_wp2_with fail
          refine hp9.mono ?_
          rintro e w9 ⟨v9, rfl, hr9, hb9⟩
          have HB9 := Lib.hid (bthen HB8.out hb9)
          have HA9 := Lib.hid ((HitsR.at hr8).below hb9)
          have HO9 := Lib.hid (HitsR.at hr9)
          have HF9 := Lib.hid (HPS'.out q)
          have hla9 := phraseQ_len D q
          have o5 : w9.cell? ⟨bo, oo + k * 3 + 1, none⟩ = some (.int .i64 id) := cell_keep hb9 (cell_keep hb8 o4)
          obtain ⟨LA, hLA⟩ : ∃ L, phraseQ D q = L := ⟨_, rfl⟩
          obtain ⟨LO, hLO⟩ : ∃ L, phraseQ E q = L := ⟨_, rfl⟩
          rw [hLA] at HA9 HF9 hla9
          rw [hLO] at HO9 HF9
          have hbs9 := HB9.out.size
          clear hp9 hr8 hb8 hr9 hb9 HB8 hqs5 HI7 HJ7 HST7 o4 hLA hLO HC
          refine (Nat.lt_or_ge m q.length).elim ?more ?last
          case' more =>
            intro hmq
            have hmi : (m : Int) < (q.length : Int) := by omega
            have HI10 := Lib.hid (HI6.out.below HB9.out)
            have HJ10 := Lib.hid (HJ6.out.below HB9.out)
            obtain ⟨_, _, e1, _, _, hcc⟩ := HST6.out.below HB9.out
            injection e1 with e1 e2 e3
            subst e1
            clear e2 e3
            obtain ⟨b, off, rfl, ck⟩ := hcc m hmq
            have hsl := HQ40.out q[m] (List.getElem_mem hmq)
            have HF10 := Lib.hid (HBS'.out q[m])
            obtain ⟨s, hs⟩ : ∃ s, q[m] = s := ⟨_, rfl⟩
            rw [hs] at ck hsl HF10
            simp only [encW] at ck
            have cD := fun W (h : Below w9.heap.size w9 W) => docs_from w9 W h (HI10.out.below h) (by omega) s (by omega)
            have cP := fun W (h : Below w9.heap.size w9 W) => prefix_from w9 W h (HI10.out.below h) (by omega) s (by omega)
            have hd1 := docsQ_len D s
            have hd2 := prefQ_len D s
            obtain ⟨L1, hL1⟩ : ∃ L, docsQ D s = L := ⟨_, rfl⟩
            obtain ⟨L2, hL2⟩ : ∃ L, prefQ D s = L := ⟨_, rfl⟩
            rw [hL1] at cD HF10 hd1
            rw [hL2] at cP HF10 hd2
            have KD := Lib.hid cD; have KP := Lib.hid cP
            have hb0 : Below w9.heap.size w9 w9.drew := (Below.refl _ w9).drew
            have ckd : w9.drew.cell? ⟨b, off + m, none⟩ = some (.string ⟨s.toArray⟩) := ck
            have hck : (⟨b, off + m, none⟩ : Addr).block < w9.heap.size := World.block_lt_of_cell? w9 _ ck
            clear cD cP hL1 hL2 hcc hs HA9 HF9 hla9 HO9
            go_upto_region 15 with fail
            go_region_held3 (fun w' => w'.cell? ⟨b, off + m, none⟩ = some (.string ⟨s.toArray⟩) ∧ Below w9.heap.size w9 w')
              (first
                | (with_reducible assumption)
                | (exact s_keep (by with_reducible assumption) (by with_reducible assumption))
                | (exact ⟨by with_reducible assumption, by with_reducible assumption⟩)
                | (exact (s_keep (by with_reducible assumption) (by with_reducible assumption)).1)
                | (exact (s_keep (by with_reducible assumption) (by with_reducible assumption)).2))
              (first
                | (go_at_call 28; with_reducible (refine (KD.out _ (by first | with_reducible assumption | exact And.right (by with_reducible assumption))).mono ?_); rintro e wd ⟨vd, rfl, hrd, hbd9, hbd⟩)
                | (go_at_call 30; with_reducible (refine (KP.out _ (by first | with_reducible assumption | exact And.right (by with_reducible assumption))).mono ?_); rintro e wp ⟨vp, rfl, hrp, hbp9, hbp⟩; obtain ⟨Ap, cp, rfl, hsp⟩ := hits_src hrp)
                | (have hrow := HitsR.below hrd hbp
                   have hbs12 := Below.size hbp9
                   have hc1 : L1.length + L2.length ≤ maxLen := by unfold maxLen; omega
                   have hc2 : (L1.length + L2.length) * 16 ≤ 140737488355328 := by omega
                   have hc3 := hits_cells1 L2
                   refine step_append_src (by rfl) _ _ _ (by rfl) w9.heap.size 53 i0 _ 2 16 Tryz.underlying43 hi hz0 hz1 hz2 rfl (by decide) vd L1.length (L1.flatMap hitC) (by rfl) hrow Ap L2.length cp (L2.flatMap hitC) (by rfl) hsp hc3 hc1 hc2 hbs12 ?_
                   intro v12 w12 ho12 hg12
                   have hS12 := s_grown (p := ⟨b, off + m, none⟩) (v := .string ⟨s.toArray⟩) hrow (Nat.le_refl _) hck hg12 (by first | with_reducible assumption | exact ⟨by with_reducible assumption, by with_reducible assumption⟩)
                   have hA12 := hits_app ho12)
                | fail)
            have hd3 := docsQ_len E s
            have hd4 := prefQ_len E s
            have ck2 := hS12.1
            have hck2 : (⟨b, off + m, none⟩ : Addr).block < w12.heap.size := World.block_lt_of_cell? w12 _ ck2
            have cE := fun W (h : Below w12.heap.size w12 W) => docs_from w12 W h (HJ10.out.below (bthen hS12.2 h)) (by omega) s (by omega)
            have cQ := fun W (h : Below w12.heap.size w12 W) => prefix_from w12 W h (HJ10.out.below (bthen hS12.2 h)) (by omega) s (by omega)
            obtain ⟨L3, hL3⟩ : ∃ L, docsQ E s = L := ⟨_, rfl⟩
            obtain ⟨L4, hL4⟩ : ∃ L, prefQ E s = L := ⟨_, rfl⟩
            rw [hL3] at cE HF10 hd3
            rw [hL4] at cQ HF10 hd4
            have KE := Lib.hid cE; have KQ := Lib.hid cQ
            have hb1 : Below w12.heap.size w12 w12.drew := (Below.refl _ w12).drew
            have ckd2 : w12.drew.cell? ⟨b, off + m, none⟩ = some (.string ⟨s.toArray⟩) := ck2
            have HS12 := Lib.hid hS12
            have HA12 := Lib.hid hA12
            clear cE cQ hL3 hL4 ck2 ckd ck hb0 ho12 hg12 hS12 hA12 KD KP
            go_upto_region 16 with fail
            go_region_held3 (fun w' => w'.cell? ⟨b, off + m, none⟩ = some (.string ⟨s.toArray⟩) ∧ Below w12.heap.size w12 w')
              (first
                | (with_reducible assumption)
                | (exact s_keep (by with_reducible assumption) (by with_reducible assumption))
                | (exact ⟨by with_reducible assumption, by with_reducible assumption⟩)
                | (exact (s_keep (by with_reducible assumption) (by with_reducible assumption)).1)
                | (exact (s_keep (by with_reducible assumption) (by with_reducible assumption)).2))
              (first
                | (go_at_call 28; with_reducible (refine (KE.out _ (by first | with_reducible assumption | exact And.right (by with_reducible assumption))).mono ?_); rintro e wdb ⟨vdb, rfl, hrdb, hbd9b, hbdb⟩)
                | (go_at_call 30; with_reducible (refine (KQ.out _ (by first | with_reducible assumption | exact And.right (by with_reducible assumption))).mono ?_); rintro e wpb ⟨vpb, rfl, hrpb, hbp9b, hbpb⟩; obtain ⟨Apb, cpb, rfl, hspb⟩ := hits_src hrpb)
                | (have hrowb := HitsR.below hrdb hbpb
                   have hbs12b := Below.size hbp9b
                   have hc1b : L3.length + L4.length ≤ maxLen := by unfold maxLen; omega
                   have hc2b : (L3.length + L4.length) * 16 ≤ 140737488355328 := by omega
                   have hc3b := hits_cells1 L4
                   refine step_append_src (by rfl) _ _ _ (by rfl) w12.heap.size 53 i0 _ 2 16 Tryz.underlying43 hi hz0 hz1 hz2 rfl (by decide) vdb L3.length (L3.flatMap hitC) (by rfl) hrowb Apb L4.length cpb (L4.flatMap hitC) (by rfl) hspb hc3b hc1b hc2b hbs12b ?_
                   intro v12b w12b ho12b hg12b
                   have hS12b := s_grown (p := ⟨b, off + m, none⟩) (v := .string ⟨s.toArray⟩) hrowb (Nat.le_refl _) hck2 hg12b (by first | with_reducible assumption | exact ⟨by with_reducible assumption, by with_reducible assumption⟩)
                   have hA12b := hits_app ho12b)
                | fail)
            have hS12 := HS12.out
            have hA12 := HA12.out
            have hBy : Below w12.heap.size w12 w12b := hS12b.2
            have HA := Lib.hid ((HitsR.at hA12).below hBy)
            have HO := Lib.hid (HitsR.at hA12b)
            have hla : (L1 ++ L2).length ≤ 512 := by rw [List.length_append]; omega
            have oz : w12b.cell? ⟨bo, oo + k * 3 + 1, none⟩ = some (.int .i64 id) := cell_keep hBy (cell_keep hS12.2 o5)
            have HBz := Lib.hid (bthen HB9.out (bthen hS12.2 hBy))
            obtain ⟨LA, hLA⟩ : ∃ L, L1 ++ L2 = L := ⟨_, rfl⟩
            obtain ⟨LO, hLO⟩ : ∃ L, L3 ++ L4 = L := ⟨_, rfl⟩
            rw [hLA] at HA HF10 hla
            rw [hLO] at HO HF10
            have HF := HF10
            obtain ⟨wz, rfl⟩ : ∃ wz, wz = w12b := ⟨_, rfl⟩
            clear KE KQ ckd2 hS12 hS12b hA12 hA12b ho12b hg12b hLA hLO HF10 hd1 hd2 hd3 hd4 HI10 HJ10 HB9 o5 hBy
            obtain ⟨aa, ca, rfl, hale, -⟩ := hits_form HA.out
            obtain ⟨ao, co, rfl, hole, -⟩ := hits_form HO.out
          case' last =>
            intro hmq
            have hmi : ¬ (m : Int) < (q.length : Int) := by omega
            have gm1 : decide ((m : Int) < (q.length : Int)) = false := by rw [decide_eq_false_iff_not]; omega
            have gm2 : decide (m < q.length) = false := by rw [decide_eq_false_iff_not]; omega
            have HA := HA9
            have HO := HO9
            have HF := HF9
            have HBz := HB9
            have hla : LA.length ≤ 512 := by omega
            have oz := o5
            obtain ⟨wz, rfl⟩ : ∃ wz, wz = w9 := ⟨_, rfl⟩
            clear HA9 HO9 HF9 HB9 o5 hla9
            obtain ⟨aa, ca, rfl, hale, -⟩ := hits_form HA.out
            obtain ⟨ao, co, rfl, hole, -⟩ := hits_form HO.out
          all_goals
            go_wp2
            go_loopw [14, 15] (fun um uj wr => ∃ j : Nat, uj = .int .i64 j ∧ j ≤ LA.length ∧ Hid (HitsR wz.heap.size wr um ((LA.take j).filter (fun y => decide (y.1 = id)))) ∧ Hid (Below wz.heap.size wz wr)) (fun _ i _ => LA.length - (intOf i).toNat)
            case atStart => exact ⟨0, rfl, by omega, Lib.hid ⟨rfl, .inl ⟨rfl, rfl⟩⟩, Lib.hid (Below.refl _ _)⟩
            case round =>
              obtain ⟨j, rfl, hj, HM, HG⟩ := hrel
              have hgs := HG.out.size
              by_cases hjl : j < LA.length
              · have hji : (j : Int) < (LA.length : Int) := by omega
                obtain ⟨_, _, e1, _, _, hcc⟩ := HA.out.below HG.out
                injection e1 with e1 e2 e3
                subst e1
                clear e2 e3
                obtain ⟨bh, oh, rfl, h1, h2⟩ := hcc j hjl
                have oz2 : wr.cell? ⟨bo, oo + k * 3 + 1, none⟩ = some (.int .i64 id) := cell_keep HG.out oz
                have HT := Lib.hid (List.take_succ_eq_append_getElem hjl)
                obtain ⟨⟨i1, c1⟩, hx⟩ : ∃ z, LA[j] = z := ⟨_, rfl⟩
                rw [hx] at h1 h2 HT
                simp only at h1 h2
                rw [← Nat.add_assoc] at h2
                clear hx hcc
                have hml2 : ((LA.take j).filter (fun y => decide (y.1 = id))).length ≤ 512 := by
                  have := List.length_filter_le (fun y : Int × Nat => decide (y.1 = id)) (LA.take j)
                  rw [List.length_take] at this
                  omega
                by_cases hid : i1 = id
                · have g1 : (i1 == id) = true := by simpa using hid
                  have HSU : Hid ((LA.take j).filter (fun y => decide (y.1 = id)) ++ [(i1, c1)] = (LA.take (j + 1)).filter (fun y => decide (y.1 = id))) := Lib.hid (by rw [HT.out, List.filter_append]; simp [hid])
                  obtain ⟨M, hM⟩ : ∃ M, (LA.take j).filter (fun y => decide (y.1 = id)) = M := ⟨_, rfl⟩
                  rw [hM] at HM HSU hml2
                  have hrow : wr.ownsRow wz.heap.size 53 2 u14 M.length (M.flatMap hitC) := HM.out
                  clear hid hM HM
                  go_wp2_with fail
                  go_quiet (fail)
                  have hrow' : ∀ q, (wr.drewN q).ownsRow wz.heap.size 53 2 u14 M.length (M.flatMap hitC) := fun q => row_kept hrow fun j hj => rfl
                  go_wp2_with (at_builtin; refine wpList_append_own _ rfl _ _ 43 rfl wz.heap.size 53 i0 _ 2 16 Tryz.underlying43 hi hz0 hz1 hz2 rfl (by decide) _ _ _ rfl ((hrow' _).alloc _) ⟨wr.heap.size, 0, none⟩ 1 1 (hitC (i1, c1)) rfl rfl (World.news_of_block (cs := (hitC (i1, c1)).toArray) (t := 53) (fr := (0, 0)) (heap_alloc_new _ _)) (by simp [Value.oneCell', hitC]) ?c3 ?c4 ?c5 ?_)
                  case c3 => unfold maxLen; omega
                  case c4 => omega
                  case c5 => first | omega | (simp; omega)
                  intro v' w2 ho2 hg2 _
                  have HO2 : Hid (HitsR wz.heap.size w2 v' ((LA.take (j + 1)).filter (fun y => decide (y.1 = id)))) := Lib.hid (by
                    rw [← HSU.out]
                    unfold HitsR
                    simpa [List.flatMap_append] using ho2)
                  have HB2 : Hid (Below wz.heap.size wz w2) := Lib.hid (((HG.out.drewN _).alloc hgs _).grown hg2 (by simp; omega) (fun j e => (hrow.lt j e).1))
                  clear ho2 hg2
                  go_wp2
                  go_roundw
                  case rel => exact ⟨j + 1, by go_num, by omega, HO2, HB2⟩
                  case measure => simp [intOf]; omega
                · have g1 : (i1 == id) = false := by simpa using hid
                  have HM' : Hid (HitsR wz.heap.size wr u14 ((LA.take (j + 1)).filter (fun y => decide (y.1 = id)))) := Lib.hid (by
                    rw [HT.out, List.filter_append]
                    have : [(i1, c1)].filter (fun y : Int × Nat => decide (y.1 = id)) = [] := by simp [hid]
                    rw [this, List.append_nil]
                    exact HM.out)
                  clear hid HM
                  go_wp2_with fail
                  go_quiet (fail)
                  go_wp2
                  go_roundw
                  case rel => exact ⟨j + 1, by go_num, by omega, Lib.hid (HM'.out.below ((Below.refl _ wr).drewN _)), Lib.hid (HG.out.drewN _)⟩
                  case measure => simp [intOf]; omega
              · have HM9 : Hid (HitsR wz.heap.size wr u14 LO) := Lib.hid (by
                  have := HM.out
                  rw [List.take_of_length_le (by omega), HF.out] at this
                  exact this)
                have HOw := Lib.hid (HO.out.below HG.out)
                have hsm := sameHits_true u14 (.slice ao LO.length co) LO wr (HitsR.at HM9.out) HOw.out
                have HBw := Lib.hid (bthen HBz.out HG.out)
                clear HM
                go_wp2_with fail
                refine hsm.mono ?_
                rintro e w20 ⟨rfl, hb20⟩
                have HB20 := Lib.hid (bthen HBw.out hb20)
                clear hsm hb20
                go_wp2
                go_roundw
                case rel => exact ⟨m + 1, by go_num, by omega, HB20⟩
                case measure => simp [intOf]; omega
        · have g0 : decide ((m : Int) ≤ (q.length : Int)) = false := by simp; omega
          have HBf := Lib.hid (bthen HB6.out HC.out)
          go_wp2
          go_roundw
          case rel => exact ⟨k + 1, by go_num, by omega, HBf⟩
          case measure => simp [intOf]; omega
    · have HBf := Lib.hid (bthen HB5.out HB.out)
      go_wp2
      go_ret
      exact ⟨rfl, HBf.out⟩
end Go.Proofs.YtmfnhfkgkdibfaaGreat

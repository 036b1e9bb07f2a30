/- The walk of one law of the sender. Conditions: those that each theorem names. -/
import Derived.Test.YtogjgibaolppfaaGreatDoorK29
import Derived.Laws.AppendOwn
import Derived.OwnWalk
/- The law SearchIndependent, walked. -/
namespace Go.Proofs.YtogjgibaolppfaaGreatDoor
open Go.RowKit Go.Sort Go.Proofs Go.Maps Go.Lib

theorem res_single (d : Dc) (l : List Prt) : (resD [d] l).length ≤ 1 := by
  rw [res_len]
  exact List.length_filter_le _ _
set_option maxRecDepth 100000 in
set_option maxHeartbeats 8000000 in
theorem lawIndep_any (v : Value) (ds : List Int) (u : Value) (xs : List Int) (n : Int) (hn : I64 n) (w : World) (hv : IntsL w v ds) (hu : IntsL w u xs) (hE : Env w) :
    Calls Tryz.prog 9 #[v, u, .int .i64 n] w fun e w' => e = .returned (.bool true) ∧ Below w.heap.size w w' := by
  obtain ⟨i0, hi, hz0, hz1, hz2⟩ := info_parts infoHit
  have HS := Lib.hid (sane_any w hE)
  have HE := Lib.hid hE
  have HV := Lib.hid hv
  have HU := Lib.hid hu
  obtain ⟨av, cv, hve, -, -, hvc⟩ := hv
  subst hve
  obtain ⟨au, cu, hue, -⟩ := hu
  subst hue
  clear hE
  go_enter Tryz.func9, Tryz.ntmps9
  by_cases h0 : ds.length = 0
  · have g0 : ((ds.length : Int) == 0) = true := by rw [beq_iff_eq]; omega
    have g0' : (ds.length == 0) = true := by rw [beq_iff_eq]; exact h0
    clear h0 hvc
    go_wp2_with (first
      | (go_at_call 12; (with_reducible (refine HS.out.mono ?_)); rintro e w1 ⟨rfl, hb⟩; have HB1 := Lib.hid hb; clear hb)
      | fail)
    go_ret
    exact ⟨rfl, HB1.out⟩
  · have g0 : ((ds.length : Int) == 0) = false := by rw [beq_eq_false_iff_ne]; omega
    have g0' : (ds.length == 0) = false := by rw [beq_eq_false_iff_ne]; exact h0
    have hKe : min (ds.length : Int) 12 = ((min ds.length 12 : Nat) : Int) := by omega
    have HPK : Hid (∀ W, Calls Tryz.prog 31 #[.int .i64 n, .int .i64 (min (ds.length : Int) 12)] W fun e w' => e = .returned (.int .i64 ((pickN n (min ds.length 12) : Nat) : Int)) ∧ W = w') := Lib.hid (fun W => by rw [hKe]; exact pick_any n hn (min ds.length 12) (by omega) (by omega) W)
    have hql := pickN_lt (c := n) (n := min ds.length 12) (by omega)
    obtain ⟨q, hq⟩ : ∃ q, pickN n (min ds.length 12) = q := ⟨_, rfl⟩
    rw [hq] at HPK hql
    have hqd : q < ds.length := by omega
    have hq12 : q < 12 := by omega
    obtain ⟨bq, oq, hae, ckq, hi64⟩ := hvc q hqd
    subst hae
    have HMEM : Hid ((1 + (q : Int), wordsOf (textF ds[q])) ∈ mD ds (min ds.length 12)) := Lib.hid ((mD_mem ds _ _).2 ⟨q, hql, by rw [Int.add_comm]; simp [List.getD, List.getElem?_eq_getElem hqd]⟩)
    have htl := text_len ds[q]
    obtain ⟨dq, hdq⟩ : ∃ dq, ds[q] = dq := ⟨_, rfl⟩
    rw [hdq] at ckq hi64 HMEM htl
    have HTX := Lib.hid (fun W => text_any dq hi64 W)
    obtain ⟨t, ht⟩ : ∃ t, textF dq = t := ⟨_, rfl⟩
    rw [ht] at HTX HMEM htl
    have HCK := Lib.hid ckq
    clear ht hdq hi64 ckq hvc hKe hq h0
    go_upto_region 7 with (first
      | (go_at_call 12; (with_reducible (refine HS.out.mono ?_)); rintro e w1 ⟨rfl, hb⟩; have HB1 := Lib.hid hb; clear hb; have HMA := Lib.hid (made_law _ ds w1 (HV.out.below HB1.out)))
      | (go_at_call 19; (with_reducible (refine HMA.out.mono ?_)); rintro e w2 ⟨p, y, rfl, hI, hb⟩; have HI2 := Lib.hid hI; have HB2 := Lib.hid (bthen HB1.out hb); clear hI hb; have HNW := Lib.hid (SI.new w2))
      | (go_at_call 31; (with_reducible (refine (HPK.out _).mono ?_)); rintro e wx ⟨rfl, rfl⟩)
      | (go_at_call 33; (with_reducible (refine HNW.out.mono ?_)); rintro e w3 ⟨p2, rfl, h1⟩; have HP3 := Lib.hid h1; clear h1)
      | fail)
    have HB3 := Lib.hid (bthen HB2.out HP3.out.base)
    have HI3 := Lib.hid (HI2.out.below HP3.out.base)
    have ck3 := (HB3.out.cell (World.block_lt_of_cell? w _ HCK.out)).trans HCK.out
    have hx0 : (0 : Int) ≤ 1 + (q : Int) - 1 := by omega
    have hx1 : 1 + (q : Int) - 1 < (ds.length : Int) := by omega
    have hxt : (1 + (q : Int) - 1).toNat = q := by omega
    have hxe : 1 + (q : Int) - 1 = (q : Int) := by omega
    clear HNW HMA HS HCK HB1
    go_wp2_with (first
      | (go_at_call 35; (with_reducible (refine (HTX.out _).mono ?_)); rintro e w4 ⟨rfl, hb4⟩; have HP4 := Lib.hid ((HP3.out.below hb4).put (by omega) (1 + (q : Int)) (by omega) (by omega) t (by omega)); have HB4 := Lib.hid hb4; clear hb4)
      | (go_at_call 34; (with_reducible (refine HP4.out.mono ?_)); rintro e w5 ⟨rfl, h1⟩; have HP5 := Lib.hid h1; clear h1; have HB5 := Lib.hid (bthen HB2.out HP5.out.base); have HPS := Lib.hid (parts_law _ xs w5 (HU.out.below HB5.out)))
      | (go_at_call 15; (with_reducible (refine HPS.out.mono ?_)); rintro e w6 ⟨g, c, P, rfl, hP, hL, hb⟩)
      | fail)
    have HB6 := Lib.hid (bthen HB5.out hb)
    have HI6 := Lib.hid ((HI2.out.below HP5.out.base).below hb)
    have HJ6 := Lib.hid ((HP5.out.ix (by omega)).below hb)
    obtain ⟨l, hl⟩ : ∃ l, P.map (·.1) = l := ⟨_, rfl⟩
    have HPA := Lib.hid hP.at
    rw [hl] at hL HPA
    have HFO := Lib.hid (refForm_any _ l w6 HPA.out hL.ok hL.eight)
    have HPF := Lib.hid hL.parse
    have hfl := hL.len
    have hall := HI6.out.all l
    have hr256 := res_le HI6.out.asc HI6.out.ids l
    have HAL : Hid ((resD (mD ds (min ds.length 12)) l).filter (fun y => decide (y.1 = 1 + (q : Int))) = resD (putD [] (1 + (q : Int)) (wordsOf t)) l) := Lib.hid (alone HI6.out.asc HMEM.out l)
    have hr1 : (resD (putD [] (1 + (q : Int)) (wordsOf t)) l).length ≤ 1 := res_single (1 + (q : Int), wordsOf t) l
    have HRA := Lib.hid (HI6.out.runF (HE.out.below HB6.out) HPF.out (by omega) 256 (by decide))
    obtain ⟨D, hD⟩ : ∃ D, mD ds (min ds.length 12) = D := ⟨_, rfl⟩
    obtain ⟨D2, hD2⟩ : ∃ D, putD [] (1 + (q : Int)) (wordsOf t) = D := ⟨_, rfl⟩
    rw [hD] at hall HAL hr256 HRA HI6
    rw [hD2] at HAL hr1 HJ6
    rw [hall] at HRA
    have HRF : Hid (∀ W, Below w6.heap.size w6 W → Calls Tryz.prog 20 #[.pointer (some ⟨p2, 0, none⟩), .string ⟨(formL l).toArray⟩, .int .i64 5] W fun e w' => ∃ a c, e = .returned (.tuple #[.slice a ((resD D2 l).take (5 : Int).toNat).length c, .int .i64 ((resD D2 l).length : Int), .int .i64 0]) ∧ HitsAt w' (.slice a ((resD D2 l).take (5 : Int).toNat).length c) ((resD D2 l).take (5 : Int).toNat) ∧ Below W.heap.size W w') := Lib.hid (fun W hW => (HJ6.out.below hW).runF (HE.out.below (bthen HB6.out hW)) HPF.out (by omega) 5 (by decide))
    have h5 : (resD D2 l).take (5 : Int).toNat = resD D2 l := List.take_of_length_le (by show (resD D2 l).length ≤ 5; omega)
    rw [h5] at HRF
    obtain ⟨R, hR⟩ : ∃ R, resD D l = R := ⟨_, rfl⟩
    obtain ⟨R2, hR2⟩ : ∃ R, resD D2 l = R := ⟨_, rfl⟩
    obtain ⟨F, hF⟩ : ∃ F, formL l = F := ⟨_, rfl⟩
    rw [hR, hF] at HRA
    rw [hR2, hF] at HRF
    rw [hR] at HAL hr256
    rw [hR2] at HAL hr1
    rw [hF] at HFO
    clear h5 hF hR hR2 hD hD2 hall hL hl hP hb HPF HPS HP4 HP5 HB5 HB4 HB3 HB2 HI2 HI3 HI6 HJ6 hfl HMEM ck3 HTX HU HV HE HPK HP3
    go_wp2_with (first
      | (go_at_call 32; (with_reducible (refine HFO.out.mono ?_)); rintro e wx ⟨rfl, rfl⟩)
      | (go_at_call 20; (with_reducible (refine HRA.out.mono ?_)); rintro e w7 ⟨aa, ca, rfl, hh, hb⟩; have HH7 := Lib.hid hh; have HB7 := Lib.hid (bthen HB6.out hb); have HRF7 := Lib.hid (HRF.out w7 hb); clear hh hb)
      | (go_at_call 20; (with_reducible (refine HRF7.out.mono ?_)); rintro e w8 ⟨af, cf, rfl, hh, hb⟩; have HO8 := Lib.hid hh; have HH8 := Lib.hid (HH7.out.below hb); have HB8 := Lib.hid (bthen HB7.out hb); clear hh hb)
      | fail)
    clear HFO HRA HRF HRF7 HH7 HB7 HB6 HPA
    go_loopw [19, 20] (fun v19 v20 wr => ∃ j : Nat, v20 = .int .i64 j ∧ j ≤ R.length ∧ Hid (HitsR w8.heap.size wr v19 ((R.take j).filter (fun y => decide (y.1 = 1 + (q : Int))))) ∧ Hid (Below w8.heap.size w8 wr)) (fun _ v20 _ => R.length - (intOf v20).toNat)
    case atStart => exact ⟨0, rfl, Nat.zero_le _, Lib.hid (World.ownsRow_nil _ _ _ _), Lib.hid (Below.refl _ _)⟩
    case round =>
      obtain ⟨j, rfl, hj, HR, HB⟩ := hrel
      obtain ⟨ar, cr, hvr⟩ := row_form HR.out
      subst hvr
      have hbs := HB.out.size
      by_cases hjl : j < R.length
      · have hji : (j : Int) < (R.length : Int) := by omega
        obtain ⟨a1, c1, e1, -, -, hc⟩ := HH8.out.below HB.out
        injection e1 with e11 _ e13
        subst e11; subst e13
        obtain ⟨b, off, rfl, d0, d1⟩ := hc j hjl
        have HT := Lib.hid (List.take_succ_eq_append_getElem hjl)
        obtain ⟨⟨i1, n1⟩, hx⟩ : ∃ z, R[j] = z := ⟨_, rfl⟩
        rw [hx] at d0 d1 HT
        simp only at d0 d1
        rw [← Nat.add_assoc] at d1
        have HFS : Hid ((R.take (j + 1)).filter (fun y => decide (y.1 = 1 + (q : Int))) = (R.take j).filter (fun y => decide (y.1 = 1 + (q : Int))) ++ if i1 = 1 + (q : Int) then [(i1, n1)] else []) := Lib.hid (by
          rw [HT.out, List.filter_append]
          by_cases he : i1 = 1 + (q : Int) <;> simp [he])
        have hMl : ((R.take j).filter (fun y => decide (y.1 = 1 + (q : Int)))).length ≤ 256 := by
          have := List.length_filter_le (fun y : Int × Nat => decide (y.1 = 1 + (q : Int))) (R.take j)
          rw [List.length_take] at this
          omega
        obtain ⟨M, hM⟩ : ∃ M, (R.take j).filter (fun y => decide (y.1 = 1 + (q : Int))) = M := ⟨_, rfl⟩
        rw [hM] at HR HFS hMl ⊢
        clear hc hx HT hM
        by_cases he : i1 = 1 + (q : Int)
        · subst he
          rw [if_pos rfl] at HFS
          have hrow : wr.ownsRow w8.heap.size 64 2 (.slice ar M.length cr) M.length (M.flatMap hitC) := HR.out
          go_wp2_with (at_builtin; refine wpList_append_own _ rfl _ _ 39 rfl w8.heap.size 64 i0 _ 2 16 Tryz.underlying39 hi hz0 hz1 hz2 rfl (by decide) _ _ _ rfl (hrow.alloc _) ⟨wr.heap.size, 0, none⟩ 1 1 (hitC (1 + (q : Int), n1)) rfl rfl (World.news_of_block (cs := (hitC (1 + (q : Int), n1)).toArray) (t := 64) (fr := (0, 0)) (heap_alloc_new _ _)) (by simp [Value.oneCell', hitC]) ?c3 ?c4 ?c5 ?_)
          case c3 => unfold maxLen; omega
          case c4 => omega
          case c5 => first | omega | (simp; omega)
          intro v' wn ho2 hg2 _
          have HRN : Hid (HitsR w8.heap.size wn v' ((R.take (j + 1)).filter (fun y => decide (y.1 = 1 + (q : Int))))) := Lib.hid (by
            rw [HFS.out]
            unfold HitsR
            simpa [List.flatMap_append] using ho2)
          have HBN : Hid (Below w8.heap.size w8 wn) := Lib.hid ((HB.out.alloc hbs _).grown hg2 (by simp; omega) (fun j e => (hrow.lt j e).1))
          clear ho2 hg2
          go_wp2_with fail
          go_roundw
          case rel => exact ⟨j + 1, by go_num, by omega, HRN, HBN⟩
          case measure => simp [intOf]; omega
        · rw [if_neg he, List.append_nil] at HFS
          have hne : (i1 == 1 + (q : Int)) = false := by rw [beq_eq_false_iff_ne]; exact he
          clear he
          go_wp2_with fail
          go_roundw
          case rel => exact ⟨j + 1, by go_num, by omega, Lib.hid (by rw [HFS.out]; exact HR.out), HB⟩
          case measure => simp [intOf]; omega
      · obtain rfl : j = R.length := by omega
        have hRF := HR.out
        rw [List.take_length, HAL.out] at hRF
        have HRF := Lib.hid (HitsR.at hRF)
        have HOF := Lib.hid (HO8.out.below HB.out)
        have hlen : ((R.take R.length).filter (fun y => decide (y.1 = 1 + (q : Int)))).length = R2.length := by rw [List.take_length, HAL.out]
        rw [hlen]
        have HBF := Lib.hid (bthen HB8.out HB.out)
        clear hRF HR hlen HB HH8 HO8 HB8 HAL
        go_wp2_with (first
          | (go_at_call 22; (with_reducible (refine (sameHits_true _ _ R2 _ HRF.out HOF.out).mono ?_)); rintro e wz ⟨rfl, hb⟩; have HBZ := Lib.hid (bthen HBF.out hb); clear hb)
          | fail)
        go_ret
        exact ⟨rfl, HBZ.out⟩
end Go.Proofs.YtogjgibaolppfaaGreatDoor

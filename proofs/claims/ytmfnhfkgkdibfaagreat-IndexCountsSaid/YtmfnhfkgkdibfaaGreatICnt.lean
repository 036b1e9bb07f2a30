/- IndexCounts. -/
import Derived.Test.YtmfnhfkgkdibfaaGreatIL8
import Derived.Test.YtmfnhfkgkdibfaaGreatICnP
namespace Go.Proofs.YtmfnhfkgkdibfaaGreat
open Go.RowKit Go.Sort Go.Proofs Go.Maps

theorem hits_fit {W : World} {v : Value} {l : List (Int × Nat)} (h : HitsAt W v l) : ∃ a c, v = .slice a l.length c ∧ l.length ≤ c ∧ c ≤ 9223372036854775807 := by
  obtain ⟨a, c, h1, h2, h3, _⟩ := h; exact ⟨a, c, h1, h2, h3⟩

/-- x[k:k+1] -/
theorem run_window_s {b off n c k : Nat} (hk : k < c) (W : World) : (Instr.slice 23 (.slice (some ⟨b, off, none⟩) n c) (some (.int .i64 (k : Int))) (some (.int .i64 ((k : Int) + 1))) none).run Tryz.prog W = .ok (.slice (some ⟨b, off + k, none⟩) 1 (c - k)) W := by
  have ht : Tryz.prog.underlying 23 = some (.slice (Tryz.prog.elem 23)) := by kernel_rfl
  have he : Tryz.prog.elem 23 = 9 := by kernel_rfl
  rw [run_slice_lh W 23 _ n c ht .i64 .i64 k ((k : Int) + 1) (by omega) (by omega) (by omega), he]
  have : (Go.sizeOf 9).run Tryz.prog W = .ok 1 W := Tryz.sizeOf9 W
  rw [this]
  have hne : ¬ c = k := by omega
  have e1 : ((k : Int) + 1).toNat = k + 1 := by omega
  simp [Result.andThen, sliced, Addr.add, hne, e1]
theorem strs_window {W : World} {b off c : Nat} {l : List (List UInt8)} (h : StrsAt W (.slice (some ⟨b, off, none⟩) l.length c) l) (k : Nat) (hk : k < l.length) : StrsAt W (.slice (some ⟨b, off + k, none⟩) 1 (c - k)) [l[k]] := by
  obtain ⟨a', c', e, h1, h2, h3⟩ := h
  injection e with e1 e2 e3
  subst e1; subst e3
  refine ⟨_, _, rfl, by simp; omega, by simp, fun j hj => ?_⟩
  have hj0 : j = 0 := by simpa using hj
  subst hj0
  obtain ⟨b', off', e, h4⟩ := h3 k hk
  injection e with e
  injection e with e1 e2
  subst e1; subst e2
  exact ⟨_, _, rfl, by simpa using h4⟩

set_option maxRecDepth 1000000 in
set_option maxHeartbeats 16000000 in
theorem lawCounts_any (v : Value) (ops : List Op3) (vq : Value) (qs : List (List UInt8)) (w : World) (h : OpsAt w v ops) (hok : ∀ o ∈ ops, okOp o) (hlen : ∀ o ∈ ops, o.2.2.length ≤ 9223372036854775807) (hq : StrsL w vq qs) (hqs : ∀ s ∈ qs, s.length ≤ 9223372036854775807) :
    Calls Tryz.prog 6 #[v, vq] w fun e w' => e = .returned (.bool true) ∧ Below w.heap.size w w' := by
  have HOK := Lib.hid (few_ok hok)
  have HL := Lib.hid hlen
  have HOP := Lib.hid h
  have HQ := Lib.hid hq; have HQS := Lib.hid hqs
  have hfl := few_len ops
  obtain ⟨hq5, hq40⟩ := queries_small qs
  have HQ40 := Lib.hid hq40
  clear h hok hlen hq hqs hq40
  go_enter Tryz.func6, Tryz.ntmps6
  go_wp2_with fail
  refine (sane_any w).mono ?_
  rintro e w1 ⟨rfl, hb1⟩
  go_wp2_with fail
  refine (few_any v ops w1 (HOP.out.below hb1) HL.out).mono ?_
  rintro e w2 ⟨vf, rfl, hf, hb2⟩
  have HB2 := Lib.hid (bthen hb1 hb2)
  have HOF := Lib.hid (opsAt_of_owns hf (by omega))
  clear hb1 hb2 hf
  go_wp2_with fail
  refine (left_any vf (fewL ops) w2 HOF.out (by omega)).mono ?_
  rintro e w3 ⟨vl, rfl, hl, hb3⟩
  have hll := leftK_len (fewL ops) 256
  have hol := opsAt_of_owns hl (by unfold leftL; omega)
  have HB3 := Lib.hid (bthen HB2.out hb3)
  have HOL := Lib.hid hol
  have hrun := run_any vl (leftL (fewL ops)) w3 hol hll (left_ok HOK.out)
  rw [run_left] at hrun
  have HLO := Lib.hid (left_ok HOK.out)
  have HFO : Hid (∀ o ∈ leftL (fewL ops), ∀ s f, FoundAt (docsQ (runD (fewL ops)) s) o.2.1 f → f = cq s (wordsOf o.2.2)) := Lib.hid (fun o ho s f h => FoundAt.last ho h)
  have hll2 : (leftL (fewL ops)).length ≤ 256 := hll
  obtain ⟨l, hl'⟩ : ∃ l, leftL (fewL ops) = l := ⟨_, rfl⟩
  obtain ⟨D, hD⟩ : ∃ D, runD (fewL ops) = D := ⟨_, rfl⟩
  rw [hl'] at HOL HLO HFO hll2
  rw [hD] at HFO hrun
  clear hb3 hl hol HB2 HOF hl' hD hll
  go_wp2_with fail
  refine hrun.mono ?_
  rintro e w4 ⟨p, S, rfl, hI, -, hb4⟩
  have HB4 := Lib.hid (bthen HB3.out hb4)
  have HI := Lib.hid hI
  have HOL4 := Lib.hid (HOL.out.below hb4)
  have HTD := Lib.hid (fun (s : List UInt8) (n : Int) (x : Wd) (m : Nat) h => term_docs (s := s) (n := n) (x := x) (m := m) hI.asc hI.ids hI.oks h)
  clear hI hb4 hrun HB3 HOL
  go_wp2_with fail
  refine (terms_any w4 HI.out (by omega) [] (by simp) 1000 (by omega) (by omega)).mono ?_
  rintro e w5 ⟨vt, rfl, ht, hb5⟩
  have HB5 := Lib.hid (bthen HB4.out hb5)
  have HI5 := Lib.hid (HI.out.below hb5)
  have HOL5 := Lib.hid (HOL4.out.below hb5)
  have HT5 := Lib.hid (TermsR.at ht)
  have HTM := Lib.hid (fun (x : Wd) (m : Nat) (h : (x, m) ∈ termsQ D [] 1000) => HTD.out [] 1000 x m h)
  obtain ⟨T, hT⟩ : ∃ T, termsQ D [] 1000 = T := ⟨_, rfl⟩
  rw [hT] at HT5 HTM
  obtain ⟨at_, ct, rfl, htl, htc, -⟩ := HT5.out
  clear ht hb5 HB4 HI HOL4 hT
  go_wp2
  go_loopw [9] (fun i wr => ∃ k : Nat, i = .int .i64 k ∧ k ≤ T.length ∧ Hid (Below w5.heap.size w5 wr)) (fun i _ => T.length - (intOf i).toNat)
  case atStart => exact ⟨0, rfl, by omega, Lib.hid (Below.refl _ _)⟩
  case round =>
    obtain ⟨k, rfl, hk, HB⟩ := hrel
    by_cases hkl : k < T.length
    · have hki : (k : Int) < (T.length : Int) := by omega
      obtain ⟨_, _, e1, _, _, kk⟩ := HT5.out.below HB.out
      injection e1 with e1 e2 e3
      subst e1
      clear e2 e3
      obtain ⟨b, off, rfl, a1, a2⟩ := kk k hkl
      obtain ⟨hd1, hd2, hd3⟩ := HTM.out T[k].1 T[k].2 (List.getElem_mem hkl)
      obtain ⟨⟨x, m⟩, hx⟩ : ∃ z, T[k] = z := ⟨_, rfl⟩
      rw [hx] at a1 a2 hd1 hd2 hd3
      simp only at a1 a2 hd1 hd2 hd3
      rw [← Nat.add_assoc] at a2
      clear hx kk
      go_wp2_with fail
      refine (docs_any wr (HI5.out.below HB.out) (by omega) x (by omega)).mono ?_
      rintro e w6 ⟨vh, rfl, hr6, hb6⟩
      obtain ⟨ah, ch, rfl, hhl, hhc⟩ := hits_fit hr6.at
      have a3 : w6.cell? ⟨b, off + k * 2 + 1, none⟩ = some (.int .i64 (m : Int)) := cell_keep hb6 a2
      have HB6 := Lib.hid (bthen HB.out hb6)
      have hb6s := hb6.size
      rw [hd1] at *
      have g1 : ((m : Int) != (m : Int)) = false := by simp
      have g2 : ((m : Int) == 0) = false := by simp; omega
      clear hr6 hb6 a1 a2 hd1
      go_wp2
      go_roundw
      case rel => exact ⟨k + 1, by go_num, by omega, HB6⟩
      case measure => simp [intOf]; omega
    · have HB6 := Lib.hid (bthen HB5.out HB.out)
      have HI6 := Lib.hid (HI5.out.below HB.out)
      have HOL6 := Lib.hid (HOL5.out.below HB.out)
      clear HI5 HOL5 HT5 HTM
      go_wp2_with fail
      refine (queries_any vq qs wr (HQ.out.below HB6.out) HQS.out).mono ?_
      rintro e w7 ⟨v7, rfl, ho7, hb7⟩
      have HB7 := Lib.hid (bthen HB6.out hb7)
      have HI7 := Lib.hid (HI6.out.below hb7)
      have HOL7 := Lib.hid (HOL6.out.below hb7)
      have HST := Lib.hid (strsAt_of_owns ho7 (by omega))
      obtain ⟨q, hq⟩ : ∃ q, queriesL qs = q := ⟨_, rfl⟩
      rw [hq] at hq5 HQ40 HST
      obtain ⟨aq, cq_, rfl, hqle, -, -⟩ := HST.out
      clear ho7 hb7 HB6 HI6 HOL6 HB HB5 hq
      go_wp2
      go_loopw [12] (fun i wr => ∃ k : Nat, i = .int .i64 k ∧ k ≤ q.length ∧ Hid (Below w7.heap.size w7 wr)) (fun i _ => q.length - (intOf i).toNat)
      case atStart => exact ⟨0, rfl, by omega, Lib.hid (Below.refl _ _)⟩
      case round =>
        obtain ⟨k, rfl, hk, HB⟩ := hrel
        by_cases hkl : k < q.length
        · have hki : (k : Int) < (q.length : Int) := by omega
          obtain ⟨_, _, e1, _, _, hcc⟩ := HST.out.below HB.out
          injection e1 with e1 e2 e3
          subst e1
          clear e2 e3
          obtain ⟨b, off, rfl, ck⟩ := hcc k hkl
          have hwin := strs_window (HST.out.below HB.out) k hkl
          have hrw := fun W => run_window_s (b := b) (off := off) (n := q.length) (c := cq_) (k := k) (by omega) W
          have hsl := HQ40.out q[k] (List.getElem_mem hkl)
          have hfo := HFO.out
          obtain ⟨s, hs⟩ : ∃ s, q[k] = s := ⟨_, rfl⟩
          rw [hs] at ck hsl hwin
          have HF2 := Lib.hid (fun o ho f => hfo o ho s f)
          clear hcc hs hfo
          have ck1 : wr.cell? ⟨b, off + k, none⟩ = some (.string ⟨s.toArray⟩) := ck
          have hbs := HB.out.size
          go_wp2_with fail
          refine (docs_any wr (HI7.out.below HB.out) (by omega) s (by omega)).mono ?_
          rintro e w8 ⟨vh, rfl, hr8, hb8⟩
          have hph := phrase_any w8 ((HI7.out.below HB.out).below hb8) (by omega) (.slice (some ⟨b, off + k, none⟩) 1 (cq_ - k)) [s] (hwin.below hb8) (by simp) (by simp; omega)
          rw [phraseQ_one] at hph
          have ck2 : w8.cell? ⟨b, off + k, none⟩ = some (.string ⟨s.toArray⟩) := cell_keep hb8 ck1
          have HH8 := Lib.hid hr8.at
          have HB8 := Lib.hid (bthen HB.out hb8)
          clear hwin hr8 hb8 ck
          go_wp2_with fail
          refine hph.mono ?_
          rintro e w9 ⟨vp, rfl, hr9, hb9⟩
          have hsm := sameHits_true vh vp _ w9 (HH8.out.below hb9) hr9.at
          have ck3 : w9.cell? ⟨b, off + k, none⟩ = some (.string ⟨s.toArray⟩) := cell_keep hb9 ck2
          have HH9 := Lib.hid (HH8.out.below hb9)
          have HB9 := Lib.hid (bthen HB8.out hb9)
          clear hph hr9 hb9 ck2 HH8 HB8
          go_wp2_with fail
          refine hsm.mono ?_
          rintro e w10 ⟨rfl, hb10⟩
          have ck4 : w10.cell? ⟨b, off + k, none⟩ = some (.string ⟨s.toArray⟩) := cell_keep hb10 ck3
          have HH10 := Lib.hid (HH9.out.below hb10)
          have HB10 := Lib.hid (bthen HB9.out hb10)
          have hbs10 := HB10.out.size
          clear hsm hb10 ck3 HH9 HB9
          go_wp2_with fail
          refine (Words_any ⟨s.toArray⟩ (by simp [ByteArray.size]; omega) w10).mono ?_
          rintro e w11 h11
          obtain ⟨vw, rfl, hsw, hb11⟩ := h11.strs (by simp [ByteArray.size]; omega)
          have hs' : (⟨s.toArray⟩ : ByteArray).data.toList = s := by simp
          rw [hs'] at hsw
          have HW11 := Lib.hid hsw
          have HH11 := Lib.hid (HH10.out.below hb11)
          have HB11 := Lib.hid (bthen HB10.out hb11)
          obtain ⟨aw, cw, rfl, hwle, -, -⟩ := HW11.out
          obtain ⟨H, hH⟩ : ∃ H, docsQ D s = H := ⟨_, rfl⟩
          obtain ⟨ah, ch, rfl, hhle, -⟩ := hits_fit HH11.out
          rw [hH] at HH11 HF2 hhle ⊢
          obtain ⟨ws, hws⟩ : ∃ ws, wordsOf s = ws := ⟨_, rfl⟩
          rw [hws] at HW11 hwle ⊢
          have HWS := Lib.hid hws
          have HBL := Lib.hid (bthen HB7.out HB11.out)
          have HOL8 := Lib.hid (HOL7.out.below HB11.out)
          obtain ⟨al, cl, rfl, hlle, -, -⟩ := HOL8.out
          clear h11 hsw hb11 HB10 HH10 hs' hH hws ck1 ck4 hbs hbs10
          go_wp2
          go_loopw [15] (fun i wq => ∃ j : Nat, i = .int .i64 j ∧ j ≤ l.length ∧ Hid (Below w11.heap.size w11 wq)) (fun i _ => l.length - (intOf i).toNat)
          case atStart => exact ⟨0, rfl, by omega, Lib.hid (Below.refl _ _)⟩
          case round =>
            obtain ⟨j, rfl, hj, HC⟩ := hrel
            by_cases hjl : j < l.length
            · have hji : (j : Int) < (l.length : Int) := by omega
              obtain ⟨_, _, e1, _, _, occ⟩ := HOL8.out.below HC.out
              injection e1 with e1 e2 e3
              subst e1
              clear e2 e3
              obtain ⟨bo, oo, rfl, -, o2, o3⟩ := occ j hjl
              obtain ⟨-, hlo⟩ := HLO.out l[j] (List.getElem_mem hjl)
              have hfj := HF2.out l[j] (List.getElem_mem hjl)
              obtain ⟨⟨x1, id, tx⟩, hx⟩ : ∃ z, l[j] = z := ⟨_, rfl⟩
              rw [hx] at o2 o3 hlo hfj
              simp only at o2 o3 hlo hfj
              have HFJ := Lib.hid hfj
              have HWW := Lib.hid (HW11.out.below HC.out)
              have HHW := Lib.hid (HH11.out.below HC.out)
              clear occ hfj hx
              go_wp2_with fail
              refine (Words_any ⟨tx.toArray⟩ (by simp [ByteArray.size]; omega) wr).mono ?_
              rintro e w12 h12
              obtain ⟨vx, rfl, hsx, hb12⟩ := h12.strs (by simp [ByteArray.size]; omega)
              have hs' : (⟨tx.toArray⟩ : ByteArray).data.toList = tx := by simp
              rw [hs'] at hsx
              have HX12 := Lib.hid hsx
              have oc2 : w12.cell? ⟨bo, oo + j * 3 + 1, none⟩ = some (.int .i64 id) := cell_keep hb12 o2
              have HC12 := Lib.hid (bthen HC.out hb12)
              have HW12 := Lib.hid (HWW.out.below hb12)
              have HH12 := Lib.hid (HHW.out.below hb12)
              have hwl := words_count_le tx
              obtain ⟨xs, hxs⟩ : ∃ xs, wordsOf tx = xs := ⟨_, rfl⟩
              rw [hxs] at HX12 HFJ hwl
              obtain ⟨ax, cx, rfl, hxle, -, -⟩ := HX12.out
              clear h12 hsx hb12 hs' hxs o2 o3 HWW HHW
              go_wp2
              go_loopw [16, 18] (fun un ui wz => ∃ m n0 : Nat, un = .int .i64 n0 ∧ ui = .int .i64 m ∧ m ≤ xs.length ∧ n0 ≤ m ∧ Hid (cq s (xs.take m) = n0) ∧ Hid (Below w12.heap.size w12 wz)) (fun _ i _ => xs.length - (intOf i).toNat)
              case atStart => exact ⟨0, 0, rfl, rfl, by omega, by omega, Lib.hid (by simp [cq_nil]), Lib.hid (Below.refl _ _)⟩
              case round =>
                obtain ⟨m, n0, rfl, rfl, hm, hn0, HN, HE⟩ := hrel
                by_cases hml : m < xs.length
                · have hmi : (m : Int) < (xs.length : Int) := by omega
                  obtain ⟨_, _, e1, _, _, xcc⟩ := HX12.out.below HE.out
                  injection e1 with e1 e2 e3
                  subst e1
                  clear e2 e3
                  obtain ⟨bx, ox, rfl, xk⟩ := xcc m hml
                  have xk1 : wr.cell? ⟨bx, ox + m, none⟩ = some (.string ⟨(xs[m]).toArray⟩) := xk
                  by_cases hw1 : ws.length = 1
                  · have g1 : ((ws.length : Int) == 1) = true := by simp; omega
                    obtain ⟨_, _, e1, _, _, wcc⟩ := HW12.out.below HE.out
                    injection e1 with e1 e2 e3
                    subst e1
                    clear e2 e3
                    obtain ⟨bw, ow, rfl, wk⟩ := wcc 0 (by omega)
                    have wk1 : wr.cell? ⟨bw, ow, none⟩ = some (.string ⟨(ws[0]'(by omega)).toArray⟩) := wk
                    have hone : wordsOf s = [ws[0]'(by omega)] := by
                      rw [HWS.out]
                      obtain ⟨z, hz⟩ := List.length_eq_one_iff.1 hw1
                      subst hz; rfl
                    have HSU := Lib.hid (cq_succ hone xs m hml)
                    obtain ⟨y, hy⟩ : ∃ y, xs[m] = y := ⟨_, rfl⟩
                    obtain ⟨z, hz⟩ : ∃ z, ws[0]'(by omega) = z := ⟨_, rfl⟩
                    rw [hy] at xk1 HSU
                    rw [hz] at wk1 HSU
                    have HWl := Lib.hid hw1
                    have h0l : (0 : Int) < (ws.length : Int) := by omega
                    clear hy hz hone xcc wcc xk wk hw1
                    go_wp2_with fail
                    go_quiet (fail)
                    go_wp2
                    · have hyz : (y == z) = true := by assumption
                      have hyz' : y = z := by simpa using hyz
                      have HN' : Hid (cq s (xs.take (m + 1)) = n0 + 1) := Lib.hid (by rw [HSU.out, HN.out, if_pos hyz'])
                      clear hyz'
                      go_roundw
                      case rel => exact ⟨m + 1, n0 + 1, by go_num, by go_num, by omega, by omega, HN', Lib.hid (HE.out.drewN _)⟩
                      case measure => simp [intOf]; omega
                    · have hyz : (y == z) = false := by assumption
                      have hyz' : ¬ y = z := by simpa using hyz
                      have HN' : Hid (cq s (xs.take (m + 1)) = n0) := Lib.hid (by rw [HSU.out, HN.out, if_neg hyz']; rfl)
                      clear hyz'
                      go_roundw
                      case rel => exact ⟨m + 1, n0, rfl, by go_num, by omega, by omega, HN', Lib.hid (HE.out.drewN _)⟩
                      case measure => simp [intOf]; omega
                  · have g1 : ((ws.length : Int) == 1) = false := by simp; omega
                    have HN' : Hid (cq s (xs.take (m + 1)) = n0) := Lib.hid (by
                      have hne : (wordsOf s).length ≠ 1 := by rw [HWS.out]; exact hw1
                      rw [← HN.out, cq_other hne, cq_other hne])
                    clear xcc xk
                    go_wp2_with fail
                    go_quiet (fail)
                    go_wp2
                    go_roundw
                    case rel => exact ⟨m + 1, n0, rfl, by go_num, by omega, by omega, HN', Lib.hid (HE.out.drewN _)⟩
                    case measure => simp [intOf]; omega
                · have HN9 : Hid (cq s xs = n0) := Lib.hid (by have := HN.out; rwa [List.take_of_length_le (by omega)] at this)
                  have HH13 := Lib.hid (HH12.out.below HE.out)
                  have oc3 : wr.cell? ⟨bo, oo + j * 3 + 1, none⟩ = some (.int .i64 id) := cell_keep HE.out oc2
                  have HC13 := Lib.hid (bthen HC12.out HE.out)
                  obtain ⟨w13, rfl⟩ : ∃ w13, w13 = wr := ⟨_, rfl⟩
                  clear HN oc2 HC12 HX12 HW12 HH12
                  go_wp2
                  go_loopw [19, 20] (fun uf ui wz => ∃ r f : Nat, uf = .int .i64 f ∧ ui = .int .i64 r ∧ r ≤ H.length ∧ Hid (FoundAt (H.take r) id f) ∧ Hid (Below w13.heap.size w13 wz)) (fun _ i _ => H.length - (intOf i).toNat)
                  case atStart => exact ⟨0, 0, rfl, rfl, by omega, Lib.hid (.inl ⟨rfl, fun y hy => by simp at hy⟩), Lib.hid (Below.refl _ _)⟩
                  case round =>
                    obtain ⟨r, f, rfl, rfl, hr, HF, HG⟩ := hrel
                    by_cases hrl : r < H.length
                    · have hri : (r : Int) < (H.length : Int) := by omega
                      obtain ⟨_, _, e1, _, _, hcc⟩ := HH13.out.below HG.out
                      injection e1 with e1 e2 e3
                      subst e1
                      clear e2 e3
                      obtain ⟨bh, oh, rfl, h1, h2⟩ := hcc r hrl
                      have oc4 : wr.cell? ⟨bo, oo + j * 3 + 1, none⟩ = some (.int .i64 id) := cell_keep HG.out oc3
                      have HT := Lib.hid (List.take_succ_eq_append_getElem hrl)
                      obtain ⟨⟨i1, c1⟩, hx⟩ : ∃ z, H[r] = z := ⟨_, rfl⟩
                      rw [hx] at h1 h2 HT
                      simp only at h1 h2
                      rw [← Nat.add_assoc] at h2
                      clear hx hcc
                      by_cases hid : i1 = id
                      · have g1 : (i1 == id) = true := by simpa using hid
                        have HF' : Hid (FoundAt (H.take (r + 1)) id c1) := Lib.hid (by rw [HT.out]; exact FoundAt.new (y := (i1, c1)) hid)
                        clear hid
                        go_wp2_with fail
                        go_quiet (fail)
                        go_wp2
                        go_roundw
                        case rel => exact ⟨r + 1, c1, rfl, by go_num, by omega, HF', Lib.hid (HG.out.drewN _)⟩
                        case measure => simp [intOf]; omega
                      · have g1 : (i1 == id) = false := by simpa using hid
                        have HF' : Hid (FoundAt (H.take (r + 1)) id f) := Lib.hid (by rw [HT.out]; exact FoundAt.same HF.out (y := (i1, c1)) hid)
                        clear hid
                        go_wp2_with fail
                        go_quiet (fail)
                        go_wp2
                        go_roundw
                        case rel => exact ⟨r + 1, f, rfl, by go_num, by omega, HF', Lib.hid (HG.out.drewN _)⟩
                        case measure => simp [intOf]; omega
                    · have hff := HFJ.out f (by have := HF.out; rwa [List.take_of_length_le (by omega)] at this)
                      rw [HN9.out] at hff
                      have g1 : ((f : Int) != (n0 : Int)) = false := by simp; omega
                      have HBf := Lib.hid (bthen HC13.out HG.out)
                      clear hff
                      go_wp2
                      go_roundw
                      case rel => exact ⟨j + 1, by go_num, by omega, HBf⟩
                      case measure => simp [intOf]; omega
            · have HBf := Lib.hid (bthen HB11.out HC.out)
              go_wp2
              go_roundw
              case rel => exact ⟨k + 1, by go_num, by omega, HBf⟩
              case measure => simp [intOf]; omega
        · go_wp2
          go_ret
          exact ⟨rfl, bthen HB7.out HB.out⟩
end Go.Proofs.YtmfnhfkgkdibfaaGreat

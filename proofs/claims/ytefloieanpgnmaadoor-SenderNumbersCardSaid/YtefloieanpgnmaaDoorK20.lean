/- Facts and contracts for the laws of the sender, part 20. Conditions: those that each theorem names. -/
import Derived.Test.YtefloieanpgnmaaDoorK19
import Derived.Outline
import Derived.Deep.DeepCutAuto
/- plan: the messages that do not suit their targets are dropped, and new ones made. -/
namespace Go.Proofs.YtefloieanpgnmaaDoor
open Go.RowKit

set_option maxRecDepth 100000 in
set_option maxHeartbeats 8000000 in
theorem plan_any {a0 a1 : Addr} {w0 : World} {T : Nat → Prop} {w : World} {b : Nat} {S : Sen} {P : Nat → Option Nat} (h : Snd a0 a1 w0 T w b S P) (now : Int) (_hnow : -9223372036854775808 ≤ now ∧ now ≤ 9223372036854775807) :
    Calls Tryd.prog 27 #[.pointer (some ⟨b, 0, none⟩), .int .i64 now] w fun e w' => e = .returned (.tuple #[]) ∧ ∃ (T' : Nat → Prop) (P' : Nat → Option Nat), Snd a0 a1 w0 T' w' b (S.plan now) P' ∧ But T w.heap.size w w' ∧ ∀ k, T' k → T k ∨ w.heap.size ≤ k := by
  have HH := Lib.hid h
  have hbl := h.at_.blt
  have HTB := Lib.hid h.at_.own
  clear h
  go_enter Tryd.func27, Tryd.ntmps27
  go_wp2
  go_loopw [15] (fun i wr => ∃ k : Nat, i = .int .i64 k ∧ k ≤ 64 ∧ Hid (DropSt a0 a1 w0 w T b S now k wr)) (fun i _ => 64 - (intOf i).toNat)
  case atStart => exact ⟨0, rfl, by omega, Lib.hid ⟨P, by rw [drops_zero]; exact HH.out, But.refl _ _ _⟩⟩
  case round =>
    obtain ⟨k, rfl, hk, HD⟩ := hrel
    obtain ⟨P1, hS, hbut⟩ := HD.out
    by_cases hk64 : k < 64
    · have hki : (k : Int) < 64 := by omega
      have s4 := (hS.at_.story hk64 4 (by omega)).1
      simp only [stoV] at s4
      have hst := drops_at S now k
      have hsz := hbut.size
      cases ho : (S.st k).out with
      | none =>
        have hp := hS.at_.nout k hk64 (by rw [hst]; exact ho)
        rw [hp] at s4
        simp only [ptrV, Option.map_none] at s4
        have hsame : S.drops now (k + 1) = S.drops now k := by
          rw [drops_succ]
          have : drop1 (S.tgt k now) (S.st k) = (S.drops now k).st k := by rw [hst]; unfold drop1; rw [ho]
          rw [this, upd_self]
        have HD2 : Hid (∀ q, DropSt a0 a1 w0 w T b S now (k + 1) (wr.drewN q)) := Lib.hid (fun q => ⟨P1, by rw [hsame]; exact hS.below ((Below.refl _ wr).drewN q), hbut.drewN q⟩)
        clear hS hbut hst ho hp hsame HD
        go_wp2_with fail
        go_quiet (fail)
        go_wp2
        go_roundw
        case rel => exact ⟨k + 1, by go_num, by omega, Lib.hid (HD2.out _)⟩
        case measure => simp [intOf]; omega
      | some o =>
        obtain ⟨g, hp, hTg, hgb, hg⟩ := hS.at_.sout k o hk64 (by rw [hst]; exact ho)
        rw [hp] at s4
        simp only [ptrV, Option.map_some] at s4
        have g7 : wr.cell? ⟨g, 7, none⟩ = some (.int .i64 o.text.num) := by rw [Lib.cell_of_heap hg]; rfl
        have g8 : wr.cell? ⟨g, 8, none⟩ = some (.string ⟨o.text.txt.toArray⟩) := by rw [Lib.cell_of_heap hg]; rfl
        have g9 : wr.cell? ⟨g, 9, none⟩ = some (.bool o.sent) := by rw [Lib.cell_of_heap hg]; rfl
        obtain ⟨t, ht⟩ : ∃ t, S.tgt k now = t := ⟨_, rfl⟩
        obtain ⟨r, hr⟩ : ∃ r, o.text.is t = r := ⟨_, rfl⟩
        have CT : Hid (∀ W, Below wr.heap.size wr W → Calls Tryd.prog 29 #[.pointer (some ⟨b, 0, none⟩), .int .i64 k, .int .i64 now] W fun e w' => e = .returned t.enc ∧ Below W.heap.size W w') := Lib.hid (fun W hW => by
          have := target_any (hS.below hW).at_ k hk64 now
          rw [drops_tgt, ht] at this
          exact this)
        have CI : Hid (∀ W, Calls Tryd.prog 28 #[.agg #[.int .i64 o.text.num, .string ⟨o.text.txt.toArray⟩], t.enc] W fun e w' => e = .returned (.bool r) ∧ Below W.heap.size W w') := Lib.hid (fun W => by
          have := is_any o.text t W
          rw [hr] at this
          exact this)
        obtain ⟨te, hte⟩ : ∃ te, t.enc = te := ⟨_, rfl⟩
        have HTE := Lib.hid hte
        rw [hte] at CT CI
        have HD2 : Hid (r = true → ∀ W, Below wr.heap.size wr W → DropSt a0 a1 w0 w T b S now (k + 1) W) := Lib.hid (fun hrt W hW => ⟨P1, by
          have : drop1 (S.tgt k now) (S.st k) = (S.drops now k).st k := by rw [hst]; unfold drop1; rw [ho]; simp [ht, hr, hrt]
          rw [drops_succ, this, upd_self]; exact hS.below hW, hbut.trans (But.of_below (hW.mono (by omega)))⟩)
        have hs0 : wr.drew.cell? ⟨b, 4 + k * 13 + 4, none⟩ = some (.pointer (some ⟨g, 0, none⟩)) ∧ wr.drew.cell? ⟨g, 7, none⟩ = some (.int .i64 o.text.num) ∧ wr.drew.cell? ⟨g, 8, none⟩ = some (.string ⟨o.text.txt.toArray⟩) ∧ Below wr.heap.size wr wr.drew := ⟨s4, g7, g8, (Below.refl _ wr).drew⟩
        have KS := Lib.hid hS; have KB := Lib.hid hbut; have KO := Lib.hid ho; have KT := Lib.hid hst; have KR := Lib.hid hr; have KTT := Lib.hid ht
        obtain ⟨on, hon⟩ : ∃ x, o.text.num = x := ⟨_, rfl⟩
        obtain ⟨ot, hot⟩ : ∃ x, o.text.txt = x := ⟨_, rfl⟩
        rw [hon] at g7 CI hs0
        rw [hot] at g8 CI hs0
        have HS0 := Lib.hid hs0
        have HS4 := Lib.hid s4
        clear hS hbut hst ho hp ht hr hte HD hTg hgb hg hon hot hs0
        go_upto_region 4 with fail
        go_cut [41] (fun c wx => c = .bool r ∧ Hid (Below wr.heap.size wr wx))
        case first =>
          go_region_held3 (fun w' => w'.cell? ⟨b, 4 + k * 13 + 4, none⟩ = some (.pointer (some ⟨g, 0, none⟩)) ∧ w'.cell? ⟨g, 7, none⟩ = some (.int .i64 on) ∧ w'.cell? ⟨g, 8, none⟩ = some (.string ⟨ot.toArray⟩) ∧ Below wr.heap.size wr w')
            (first
              | (with_reducible assumption)
              | (exact keep3 (by with_reducible assumption) (by with_reducible assumption))
              | (with_reducible exact HS0.out))
            (first
              | (go_at_call 29; with_reducible (refine (CT.out _ (by first | with_reducible assumption | exact (And.right (And.right (And.right (by with_reducible assumption)))))).mono ?_); rintro e wn ⟨rfl, hbn⟩)
              | (go_at_call 28; with_reducible (refine (CI.out _).mono ?_); rintro e wn ⟨rfl, hbn⟩)
              | fail)
          have HX := Lib.hid (And.right (And.right (And.right (by with_reducible assumption : wn.cell? ⟨b, 4 + k * 13 + 4, none⟩ = some (.pointer (some ⟨g, 0, none⟩)) ∧ wn.cell? ⟨g, 7, none⟩ = some (.int .i64 on) ∧ wn.cell? ⟨g, 8, none⟩ = some (.string ⟨ot.toArray⟩) ∧ Below wr.heap.size wr wn))))
          go_wp2_with fail
          go_meet
          exact ⟨rfl, HX⟩
        case rest =>
          obtain ⟨rfl, HX⟩ := hcut
          clear s4 g7 g8 CT CI HS0
          have s4 := (HX.out.cell (World.block_lt_of_cell? wr _ HS4.out)).trans HS4.out
          have g9' := (HX.out.cell (World.block_lt_of_cell? wr _ g9)).trans g9
          have SX := KS.out.below HX.out
          have f2 := (SX.at_.story hk64 2 (by omega)).2
          have f3 := (SX.at_.story hk64 3 (by omega)).2
          have f4 := (SX.at_.story hk64 4 (by omega)).2
          obtain ⟨hv, c2⟩ : ∃ v, wc.cell? ⟨b, 4 + k * 13 + 2, none⟩ = some v := ⟨_, (SX.at_.story hk64 2 (by omega)).1⟩
          obtain ⟨hv3, c3⟩ : ∃ v, wc.cell? ⟨b, 4 + k * 13 + 3, none⟩ = some v := ⟨_, (SX.at_.story hk64 3 (by omega)).1⟩
          have HE1 : Hid (r = false → o.sent = false → DropSt a0 a1 w0 w T b S now (k + 1) (wc.setCell ⟨b, 4 + k * 13 + 4, none⟩ (.pointer none))) := Lib.hid (fun hr hso => by
            have h2 := SX.at_.putNone hk64
            have hB : But T w.heap.size w (wc.setCell ⟨b, 4 + k * 13 + 4, none⟩ (.pointer none)) := ((KB.out.trans (But.of_below (HX.out.mono KB.out.size)))).setCell SX.at_.own _
            refine ⟨updP P1 k none, ?_, hB⟩
            have hd : drop1 (S.tgt k now) (S.st k) = { (S.drops now k).st k with out := none } := by
              rw [KT.out]; unfold drop1; rw [KO.out]; simp only; rw [if_neg (by rw [KTT.out, KR.out, hr]; decide), if_neg (by rw [hso]; decide)]
            rw [drops_succ, hd]
            exact SX.of h2 (But.setCell (But.refl _ _ _) SX.at_.own _) (fun k h => .inl h))
          have HE2 : Hid (r = false → o.sent = true → DropSt a0 a1 w0 w T b S now (k + 1) (((wc.setCell ⟨b, 4 + k * 13 + 2, none⟩ (.int .i64 0)).setCell ⟨b, 4 + k * 13 + 3, none⟩ (.string ⟨#[]⟩)).setCell ⟨b, 4 + k * 13 + 4, none⟩ (.pointer none))) := Lib.hid (fun hr hso => by
            have h1 := SX.at_.putHeld hk64 .unk (by simp [Kn.txt])
            have h2 := h1.putNone hk64
            have hB : But T w.heap.size w (((wc.setCell ⟨b, 4 + k * 13 + 2, none⟩ (.int .i64 0)).setCell ⟨b, 4 + k * 13 + 3, none⟩ (.string ⟨#[]⟩)).setCell ⟨b, 4 + k * 13 + 4, none⟩ (.pointer none)) := (((KB.out.trans (But.of_below (HX.out.mono KB.out.size))).setCell SX.at_.own _).setCell SX.at_.own _).setCell SX.at_.own _
            refine ⟨updP P1 k none, ?_, hB⟩
            have hd : drop1 (S.tgt k now) (S.st k) = { (S.drops now k).st k with held := .unk, out := none } := by
              rw [KT.out]; unfold drop1; rw [KO.out]; simp only; rw [if_neg (by rw [KTT.out, KR.out, hr]; decide), if_pos (by rw [hso])]
            rw [drops_succ, hd]
            simp only [upd_same, upd_upd] at h2
            exact SX.of h2 (((But.refl _ _ _).setCell SX.at_.own _).setCell SX.at_.own _ |>.setCell SX.at_.own _) (fun k h => .inl h))
          clear SX
          cases r with
          | true =>
            have HD3 := Lib.hid (HD2.out rfl _ HX.out)
            clear HD2
            go_wp2_with fail
            go_roundw
            case rel => exact ⟨k + 1, by go_num, by omega, HD3⟩
            case measure => simp [intOf]; omega
          | false =>
            clear HD2
            cases hso : o.sent with
            | false =>
              rw [hso] at g9'
              have HD3 := Lib.hid (HE1.out rfl hso)
              clear hso HE1 HE2
              go_wp2_with fail
              go_roundw
              case rel => exact ⟨k + 1, by go_num, by omega, HD3⟩
              case measure => simp [intOf]; omega
            | true =>
              rw [hso] at g9'
              have HD3 := Lib.hid (HE2.out rfl hso)
              clear hso HE1 HE2
              go_wp2_with fail
              go_roundw
              case rel => exact ⟨k + 1, by go_num, by omega, HD3⟩
              case measure => simp [intOf]; omega
    · obtain rfl : k = 64 := by omega
      have hsz := hbut.size
      have SA := selAll hS.at_
      rw [sel_len] at SA
      obtain ⟨D, hD⟩ : ∃ D, S.drops now 64 = D := ⟨_, rfl⟩
      rw [hD] at hS SA
      have KB := Lib.hid hbut; have KS := Lib.hid hS; have HD := Lib.hid hD; have HSA := Lib.hid SA
      clear hbut hS hD SA
      go_wp2_with fail
      refine HSA.out.mono ?_
      rintro e w2 ⟨v, rfl, hrow, hb2⟩
      obtain ⟨va, vc, rfl⟩ := row_form hrow
      have hol := outs_le D
      obtain ⟨n0, hn0⟩ : ∃ n, D.outs = n := ⟨_, rfl⟩
      rw [hn0] at hrow hol ⊢
      have HN0 := Lib.hid hn0
      have HB2 := Lib.hid hb2
      clear hrow hb2 hn0
      go_wp2_with fail
      obtain ⟨w3, hw3⟩ : ∃ w3, w2.alloc (.cells #[.func (.func 37) #[] #[], .func (.func 38) #[] #[], .func (.func 39) #[] #[]] 97) = w3 := ⟨_, rfl⟩
      have hblk : w3.heap[w2.heap.size]? = some (funs w2) := by rw [← hw3]; exact heap_alloc_new w2 _
      have hb3 : Below w2.heap.size w2 w3 := by rw [← hw3]; exact (Below.refl _ w2).alloc (Nat.le_refl _) _
      rw [hw3]
      obtain ⟨F, hF⟩ : ∃ F, w2.heap.size = F := ⟨_, rfl⟩
      have HFS : Hid (FillSt a0 a1 w0 w T b F (D, n0) w3) := Lib.hid (by
        have hb23 : Below wr.heap.size wr w3 := HB2.out.trans (hb3.mono HB2.out.size)
        refine ⟨T, P1, KS.out.below hb23, KB.out.trans (But.of_below (hb23.mono KB.out.size)), fun k h => .inl h, fun h => ?_, by rw [← hF]; exact hblk, hol⟩
        have h1 := KS.out.at_.lt F h
        have h2 := HB2.out.size
        omega)
      rw [hF]
      clear hblk hb3 hw3 hF HB2 KB KS HSA hsz
      go_loopw [65, 9] (fun c n wr2 => ∃ (c' : Nat) (X : Sen × Nat), c = .int .i64 c' ∧ c' ≤ 3 ∧ n = .int .i64 X.2 ∧ Hid (fillK now (D, n0) c' = X) ∧ Hid (FillSt a0 a1 w0 w T b F X wr2)) (fun c _ _ => 3 - (intOf c).toNat)
      case atStart => exact ⟨0, (D, n0), rfl, by omega, rfl, Lib.hid rfl, HFS⟩
      case round =>
        clear HFS
        obtain ⟨c, X0, rfl, hc3, rfl, HX0, HFS⟩ := hrel
        by_cases hclt : c < 3
        · have hci : (c : Int) < 3 := by omega
          obtain ⟨fn, HFN, hfv⟩ := funs_at HFS.out hclt
          go_wp2_with fail
          clear hfv
          obtain ⟨wo, hwo⟩ : ∃ wo : World, wo = wr := ⟨_, rfl⟩
          rw [← hwo]
          have HWO := Lib.hid hwo
          clear hwo
          go_loopw [69, 9] (fun i n wr2 => ∃ (k : Nat) (X : Sen × Nat), i = .int .i64 k ∧ k ≤ 64 ∧ n = .int .i64 X.2 ∧ Hid (fillC now c X0 k = X) ∧ Hid (FillSt a0 a1 w0 w T b F X wr2)) (fun i _ _ => 64 - (intOf i).toNat)
          case atStart => exact ⟨0, X0, rfl, by omega, rfl, Lib.hid rfl, Lib.hid (by
            have e := HWO.out
            subst e
            exact HFS.out.below (by first | exact Below.refl _ _ | exact (Below.refl _ _).drew | exact (Below.refl _ _).drewN _ | trace_state))⟩
          case round =>
            obtain ⟨k, X, rfl, hk, rfl, HX, HF2⟩ := hrel
            by_cases hk64 : k < 64
            · have hki : (k : Int) < 64 := by omega
              obtain ⟨T1, P1, hS, hbut, hT1, hF1, hFb, hX64⟩ := HF2.out
              obtain ⟨t, ht⟩ : ∃ t, X.1.tgt k now = t := ⟨_, rfl⟩
              have hbl1 := hS.at_.blt
              have CT : Hid (∀ W, Below wr.heap.size wr W → Calls Tryd.prog 29 #[.pointer (some ⟨b, 0, none⟩), .int .i64 k, .int .i64 now] W fun e w' => e = .returned (.agg #[.int .i64 t.num, .string ⟨t.txt.toArray⟩]) ∧ Below W.heap.size W w') := Lib.hid (fun W hW => by
                have := target_any (hS.below hW).at_ k hk64 now
                rw [ht] at this
                exact this)
              obtain ⟨tn, htn⟩ : ∃ x, t.num = x := ⟨_, rfl⟩
              obtain ⟨tt, htt⟩ : ∃ x, t.txt = x := ⟨_, rfl⟩
              rw [htn, htt] at CT
              have HTN := Lib.hid htn; have HTT := Lib.hid htt; have HTG := Lib.hid ht
              have HS := Lib.hid hS; have HB := Lib.hid hbut; have HT1 := Lib.hid hT1; have HF1 := Lib.hid hF1; have HFb := Lib.hid hFb
              clear hS hbut hT1 hF1 hFb htn htt ht HF2
              go_upto_region 19 with fail
              go_cut [13, 14] (fun st tp wx => st = .pointer (some ⟨b, 4 + k * 13, none⟩) ∧ ∃ tb, tp = .pointer (some ⟨tb, 0, none⟩) ∧ Hid (Below wr.heap.size wr wx ∧ wr.heap.size ≤ tb ∧ wx.heap[tb]? = some (.cells #[.int .i64 tn, .string ⟨tt.toArray⟩] 74 (0, 0))))
              case first =>
                have hbA : Below wr.heap.size wr (wr.alloc (.cells #[.int .i64 0, .string ⟨#[]⟩] 74)).drew := ((Below.refl _ wr).alloc (Nat.le_refl _) _).drew
                have hbD : Below wr.heap.size wr wr.drew := (Below.refl _ wr).drew
                have KbA := Lib.hid hbA; have KbD := Lib.hid hbD
                clear hbA hbD
                go_region_with (first
                  | (go_at_call 29; with_reducible (refine (CT.out _ KbD.out).mono ?_); rintro e wn ⟨rfl, hbn⟩)
                  | (go_at_call 29; with_reducible (refine (CT.out _ KbA.out).mono ?_); rintro e wn ⟨rfl, hbn⟩; have hq := Lib.hid (two_at hbn); have q0 := hq.out.1; have q1 := hq.out.2.1; have q2 := hq.out.2.2.1; have q3 := hq.out.2.2.2)
                  | fail)
                all_goals
                  first | (clear q0 q1 q2 q3) | skip
                  go_wp2_with fail
                  go_meet
                  first
                    | exact ⟨rfl, _, rfl, Lib.hid (cut_a hbn _ _)⟩
                    | exact ⟨rfl, _, rfl, Lib.hid (cut_b hbn _ _)⟩
              case rest =>
                obtain ⟨rfl, tb, rfl, HC⟩ := hcut
                obtain ⟨wy, hwy⟩ : ∃ wy, wc = wy := ⟨_, rfl⟩
                rw [hwy] at HC ⊢
                clear hwy
                obtain ⟨sk, hsk⟩ : ∃ x, skips now c X k = x := ⟨_, rfl⟩
                have HSK := Lib.hid hsk
                have SX := HS.out.below HC.out.1
                have s2 := (SX.at_.story hk64 2 (by omega)).1
                have s3 := (SX.at_.story hk64 3 (by omega)).1
                have s4 := (SX.at_.story hk64 4 (by omega)).1
                have c2 := (SX.at_.cells 2 (by omega)).1
                have b0 : wy.cell? ⟨tb, 0, none⟩ = some (.int .i64 tn) := by rw [Lib.cell_of_heap HC.out.2.2]; rfl
                have b1 : wy.cell? ⟨tb, 1, none⟩ = some (.string ⟨tt.toArray⟩) := by rw [Lib.cell_of_heap HC.out.2.2]; rfl
                simp only [stoV] at s2 s3 s4
                simp only [senV] at c2
                obtain ⟨hd, hhd⟩ : ∃ x, (X.1.st k).held = x := ⟨_, rfl⟩
                obtain ⟨r1, hr1⟩ : ∃ x, hd.is t = x := ⟨_, rfl⟩
                obtain ⟨r2, hr2⟩ : ∃ x, cls c hd t = x := ⟨_, rfl⟩
                have CI : Hid (∀ W, Calls Tryd.prog 28 #[.agg #[.int .i64 hd.num, .string ⟨hd.txt.toArray⟩], .agg #[.int .i64 t.num, .string ⟨t.txt.toArray⟩]] W fun e w' => e = .returned (.bool r1) ∧ Below W.heap.size W w') := Lib.hid (fun W => by
                  have := is_any hd t W
                  rw [hr1] at this
                  exact this)
                have CC : Hid (∀ W, Calls Tryd.prog fn #[.agg #[.int .i64 hd.num, .string ⟨hd.txt.toArray⟩], .agg #[.int .i64 t.num, .string ⟨t.txt.toArray⟩]] W fun e w' => e = .returned (.bool r2) ∧ Below W.heap.size W w') := Lib.hid (fun W => by
                  have := HFN.out.calls hd t W
                  rw [hr2] at this
                  exact this)
                have heg := HFN.out.enters
                rw [hhd] at s2 s3
                rw [HTN.out, HTT.out] at CI CC
                obtain ⟨cn, hcn⟩ : ∃ x, X.1.counter = x := ⟨_, rfl⟩
                obtain ⟨hn, hhn⟩ : ∃ x, hd.num = x := ⟨_, rfl⟩
                obtain ⟨hx, hhx⟩ : ∃ x, hd.txt = x := ⟨_, rfl⟩
                rw [hcn] at c2
                rw [hhn] at s2 CI CC
                rw [hhx] at s3 CI CC
                have HCN := Lib.hid hcn; have HHD := Lib.hid hhd; have HR1 := Lib.hid hr1; have HR2 := Lib.hid hr2
                clear hsk hcn hhd hr1 hr2 hhn hhx CT
                go_upto_region 20 with fail
                go_cut [114] (fun v wx => v = .bool sk ∧ Hid (Below wy.heap.size wy wx))
                case first =>
                  cases ho : (X.1.st k).out with
                  | some o =>
                    obtain ⟨g, hp, -, -, -⟩ := SX.at_.sout k o hk64 ho
                    obtain rfl : true = sk := by rw [← HSK.out]; exact (skips_out ho).symm
                    rw [hp] at s4
                    simp only [ptrV, Option.map_some] at s4
                    have KR := Lib.hid (Below.refl wy.heap.size wy)
                    clear hp ho SX CI CC
                    go_quiet (fail)
                    go_wp2
                    go_meet
                    exact ⟨rfl, Lib.hid (KR.out.drewN _)⟩
                  | none =>
                    have hp := SX.at_.nout k hk64 ho
                    rw [hp] at s4
                    simp only [ptrV, Option.map_none] at s4
                    have HS0 : Hid (wy.drew.cell? ⟨b, 4 + k * 13 + 4, none⟩ = some (.pointer none) ∧ wy.drew.cell? ⟨b, 4 + k * 13 + 2, none⟩ = some (.int .i64 hn) ∧ wy.drew.cell? ⟨b, 4 + k * 13 + 3, none⟩ = some (.string ⟨hx.toArray⟩) ∧ wy.drew.cell? ⟨tb, 0, none⟩ = some (.int .i64 tn) ∧ wy.drew.cell? ⟨tb, 1, none⟩ = some (.string ⟨tt.toArray⟩) ∧ wy.drew.cell? ⟨b, 2, none⟩ = some (.int .i64 cn) ∧ Below wy.heap.size wy wy.drew) := Lib.hid ⟨s4, s2, s3, b0, b1, c2, (Below.refl _ wy).drew⟩
                    have KO := Lib.hid ho
                    clear hp ho SX
                    cases r1 with
                    | true =>
                      obtain rfl : true = sk := by rw [← HSK.out]; exact (skips_is (by rw [HHD.out, HTG.out]; exact HR1.out)).symm
                      refine wp_region_held_drew (S := (fun w' => w'.cell? ⟨b, 4 + k * 13 + 4, none⟩ = some (.pointer none) ∧ w'.cell? ⟨b, 4 + k * 13 + 2, none⟩ = some (.int .i64 hn) ∧ w'.cell? ⟨b, 4 + k * 13 + 3, none⟩ = some (.string ⟨hx.toArray⟩) ∧ w'.cell? ⟨tb, 0, none⟩ = some (.int .i64 tn) ∧ w'.cell? ⟨tb, 1, none⟩ = some (.string ⟨tt.toArray⟩) ∧ w'.cell? ⟨b, 2, none⟩ = some (.int .i64 cn) ∧ Below wy.heap.size wy w')) (by kernel_rfl) ?_ (fun hHeld => ?_)
                      · ((try dsimp only); (first | (with_reducible assumption) | (exact keep6 (by with_reducible assumption) (by with_reducible assumption)) | (with_reducible exact HS0.out)))
                      refine take_w 0 ⟨_, by simp only [List.getElem?_toArray, List.getElem?_cons_zero]; rfl, by kernel_rfl, by kernel_rfl, by kernel_rfl, ?_⟩
                      refine ⟨?_, fun _ _ _ h => h, Or.inl ⟨by rfl, ?_⟩, by assumption, ?_⟩
                      rotate_left
                      · (intro w hSw; (try dsimp only at hSw); go_simp; try with_reducible rfl)
                      try simp only [Act.put, List.setIfInBounds_toArray, List.set_cons_zero, List.set_cons_succ]
                      refine take_w 1 ⟨_, by simp only [List.getElem?_toArray, List.getElem?_cons_succ, List.getElem?_cons_zero]; rfl, by kernel_rfl, by kernel_rfl, by kernel_rfl, ?_⟩
                      refine ⟨?_, fun _ _ _ h => h, Or.inl ⟨by rfl, ?_⟩, by assumption, ?_⟩
                      rotate_left
                      · (intro w hSw; (try dsimp only at hSw); go_simp; try with_reducible rfl)
                      try simp only [Act.put, List.setIfInBounds_toArray, List.set_cons_zero, List.set_cons_succ]
                      refine take_w 2 ⟨_, by simp only [List.getElem?_toArray, List.getElem?_cons_succ, List.getElem?_cons_zero]; rfl, by kernel_rfl, by kernel_rfl, by kernel_rfl, ?_⟩
                      refine ⟨?_, fun _ _ _ h => h, Or.inl ⟨by rfl, ?_⟩, by assumption, ?_⟩
                      rotate_left
                      · (intro w hSw; (try dsimp only at hSw); go_simp; try with_reducible rfl)
                      try simp only [Act.put, List.setIfInBounds_toArray, List.set_cons_zero, List.set_cons_succ]
                      refine take_w 3 ⟨_, by simp only [List.getElem?_toArray, List.getElem?_cons_succ, List.getElem?_cons_zero]; rfl, by kernel_rfl, by kernel_rfl, by kernel_rfl, ?_⟩
                      refine ⟨?_, fun _ _ _ h => h, Or.inl ⟨by rfl, ?_⟩, by assumption, ?_⟩
                      rotate_left
                      · (intro w hSw; (try dsimp only at hSw); go_simp; try with_reducible rfl)
                      try simp only [Act.put, List.setIfInBounds_toArray, List.set_cons_zero, List.set_cons_succ]
                      refine take_w 4 ⟨_, by simp only [List.getElem?_toArray, List.getElem?_cons_succ, List.getElem?_cons_zero]; rfl, by kernel_rfl, by kernel_rfl, by kernel_rfl, ?_⟩
                      refine ⟨?_, fun _ _ _ h => h, Or.inl ⟨by rfl, ?_⟩, by assumption, ?_⟩
                      rotate_left
                      · (intro w hSw; (try dsimp only at hSw); go_simp; try with_reducible rfl)
                      try simp only [Act.put, List.setIfInBounds_toArray, List.set_cons_zero, List.set_cons_succ]
                      refine take_w 5 ⟨_, by simp only [List.getElem?_toArray, List.getElem?_cons_succ, List.getElem?_cons_zero]; rfl, by kernel_rfl, by kernel_rfl, by kernel_rfl, ?_⟩
                      refine ⟨?_, fun _ _ _ h => h, Or.inl ⟨by rfl, ?_⟩, by assumption, ?_⟩
                      rotate_left
                      · (intro w hSw; (try dsimp only at hSw); go_simp; try with_reducible rfl)
                      try simp only [Act.put, List.setIfInBounds_toArray, List.set_cons_zero, List.set_cons_succ]
                      refine take_w 6 ⟨_, by simp only [List.getElem?_toArray, List.getElem?_cons_succ, List.getElem?_cons_zero]; rfl, by kernel_rfl, by kernel_rfl, by kernel_rfl, ?_⟩
                      refine ⟨?_, fun _ _ _ h => h, Or.inl ⟨by rfl, ?_⟩, by assumption, ?_⟩
                      rotate_left
                      · (intro w hSw; (try dsimp only at hSw); go_simp; try with_reducible rfl)
                      try simp only [Act.put, List.setIfInBounds_toArray, List.set_cons_zero, List.set_cons_succ]
                      refine take_w 7 ⟨_, by simp only [List.getElem?_toArray, List.getElem?_cons_succ, List.getElem?_cons_zero]; rfl, by kernel_rfl, by kernel_rfl, by kernel_rfl, ?_⟩
                      refine ⟨?_, fun _ _ _ h => h, Or.inl ⟨by rfl, ?_⟩, by assumption, ?_⟩
                      rotate_left
                      · (intro w hSw; (try dsimp only at hSw); go_simp; try with_reducible rfl)
                      try simp only [Act.put, List.setIfInBounds_toArray, List.set_cons_zero, List.set_cons_succ]
                      refine take_w 8 ⟨_, by simp only [List.getElem?_toArray, List.getElem?_cons_succ, List.getElem?_cons_zero]; rfl, by kernel_rfl, by kernel_rfl, by kernel_rfl, ?_⟩
                      refine ⟨?_, fun _ _ _ h => h, Or.inl ⟨by rfl, ?_⟩, by assumption, ?_⟩
                      rotate_left
                      · (intro w hSw; (try dsimp only at hSw); go_simp; try with_reducible rfl)
                      try simp only [Act.put, List.setIfInBounds_toArray, List.set_cons_zero, List.set_cons_succ]
                      refine take_w 9 ⟨_, by simp only [List.getElem?_toArray, List.getElem?_cons_succ, List.getElem?_cons_zero]; rfl, by kernel_rfl, by kernel_rfl, by kernel_rfl, ?_⟩
                      refine ⟨?_, fun _ _ _ h => h, Or.inl ⟨by rfl, ?_⟩, by assumption, ?_⟩
                      rotate_left
                      · (intro w hSw; (try dsimp only at hSw); go_simp; try with_reducible rfl)
                      try simp only [Act.put, List.setIfInBounds_toArray, List.set_cons_zero, List.set_cons_succ]
                      refine take_w 10 ⟨_, by simp only [List.getElem?_toArray, List.getElem?_cons_succ, List.getElem?_cons_zero]; rfl, by kernel_rfl, by kernel_rfl, by kernel_rfl, ?_⟩
                      refine ⟨?_, fun _ _ _ h => h, Or.inl ⟨by rfl, ?_⟩, by assumption, ?_⟩
                      rotate_left
                      · (intro w hSw; (try dsimp only at hSw); go_simp; try with_reducible rfl)
                      try simp only [Act.put, List.setIfInBounds_toArray, List.set_cons_zero, List.set_cons_succ]
                      refine call_w 11 ⟨_, by simp only [List.getElem?_toArray, List.getElem?_cons_succ, List.getElem?_cons_zero]; rfl, by kernel_rfl, ?_, ?_⟩
                      · rfl
                      intro K hK
                      go_simp
                      go_at_call 28; with_reducible (refine (CI.out _).mono ?_); rintro e wn ⟨rfl, hbn⟩
                      refine hK.out _ _ ?_ (fun hHeld => ?_)
                      · ((try dsimp only); (first | (with_reducible assumption) | (exact keep6 (by with_reducible assumption) (by with_reducible assumption)) | (with_reducible exact HS0.out)))
                      clear hK K
                      try simp only [Act.put, List.setIfInBounds_toArray, List.set_cons_zero, List.set_cons_succ]
                      refine take_w 12 ⟨_, by simp only [List.getElem?_toArray, List.getElem?_cons_succ, List.getElem?_cons_zero]; rfl, by kernel_rfl, by kernel_rfl, by kernel_rfl, ?_⟩
                      refine ⟨?_, fun _ _ _ h => h, Or.inl ⟨by rfl, ?_⟩, by assumption, ?_⟩
                      rotate_left
                      · (intro w hSw; (try dsimp only at hSw); go_simp; try with_reducible rfl)
                      try simp only [Act.put, List.setIfInBounds_toArray, List.set_cons_zero, List.set_cons_succ]
                      refine take_w 13 ⟨_, by simp only [List.getElem?_toArray, List.getElem?_cons_succ, List.getElem?_cons_zero]; rfl, by kernel_rfl, by kernel_rfl, by kernel_rfl, ?_⟩
                      refine ⟨?_, fun _ _ _ h => h, Or.inl ⟨by rfl, ?_⟩, by assumption, ?_⟩
                      rotate_left
                      · (intro w hSw; (try dsimp only at hSw); go_simp; try with_reducible rfl)
                      try simp only [Act.put, List.setIfInBounds_toArray, List.set_cons_zero, List.set_cons_succ]
                      refine take_w 14 ⟨_, by simp only [List.getElem?_toArray, List.getElem?_cons_succ, List.getElem?_cons_zero]; rfl, by kernel_rfl, by kernel_rfl, by kernel_rfl, ?_⟩
                      refine ⟨undef, fun _ _ _ h => h, Or.inr ⟨by rfl, rfl⟩, by assumption, ?_⟩
                      try simp only [Act.put, List.setIfInBounds_toArray, List.set_cons_zero, List.set_cons_succ]
                      refine take_w 15 ⟨_, by simp only [List.getElem?_toArray, List.getElem?_cons_succ, List.getElem?_cons_zero]; rfl, by kernel_rfl, by kernel_rfl, by kernel_rfl, ?_⟩
                      refine ⟨undef, fun _ _ _ h => h, Or.inr ⟨by rfl, rfl⟩, by assumption, ?_⟩
                      try simp only [Act.put, List.setIfInBounds_toArray, List.set_cons_zero, List.set_cons_succ]
                      refine take_w 16 ⟨_, by simp only [List.getElem?_toArray, List.getElem?_cons_succ, List.getElem?_cons_zero]; rfl, by kernel_rfl, by kernel_rfl, by kernel_rfl, ?_⟩
                      refine ⟨undef, fun _ _ _ h => h, Or.inr ⟨by rfl, rfl⟩, by assumption, ?_⟩
                      try simp only [Act.put, List.setIfInBounds_toArray, List.set_cons_zero, List.set_cons_succ]
                      refine take_w 17 ⟨_, by simp only [List.getElem?_toArray, List.getElem?_cons_succ, List.getElem?_cons_zero]; rfl, by kernel_rfl, by kernel_rfl, by kernel_rfl, ?_⟩
                      refine ⟨undef, fun _ _ _ h => h, Or.inr ⟨by rfl, rfl⟩, by assumption, ?_⟩
                      try simp only [Act.put, List.setIfInBounds_toArray, List.set_cons_zero, List.set_cons_succ]
                      refine take_w 18 ⟨_, by simp only [List.getElem?_toArray, List.getElem?_cons_succ, List.getElem?_cons_zero]; rfl, by kernel_rfl, by kernel_rfl, by kernel_rfl, ?_⟩
                      refine ⟨undef, fun _ _ _ h => h, Or.inr ⟨by rfl, rfl⟩, by assumption, ?_⟩
                      try simp only [Act.put, List.setIfInBounds_toArray, List.set_cons_zero, List.set_cons_succ]
                      refine take_w 19 ⟨_, by simp only [List.getElem?_toArray, List.getElem?_cons_succ, List.getElem?_cons_zero]; rfl, by kernel_rfl, by kernel_rfl, by kernel_rfl, ?_⟩
                      refine ⟨undef, fun _ _ _ h => h, Or.inr ⟨by rfl, rfl⟩, by assumption, ?_⟩
                      try simp only [Act.put, List.setIfInBounds_toArray, List.set_cons_zero, List.set_cons_succ]
                      refine take_w 20 ⟨_, by simp only [List.getElem?_toArray, List.getElem?_cons_succ, List.getElem?_cons_zero]; rfl, by kernel_rfl, by kernel_rfl, by kernel_rfl, ?_⟩
                      refine ⟨undef, fun _ _ _ h => h, Or.inr ⟨by rfl, rfl⟩, by assumption, ?_⟩
                      try simp only [Act.put, List.setIfInBounds_toArray, List.set_cons_zero, List.set_cons_succ]
                      refine take_w 21 ⟨_, by simp only [List.getElem?_toArray, List.getElem?_cons_succ, List.getElem?_cons_zero]; rfl, by kernel_rfl, by kernel_rfl, by kernel_rfl, ?_⟩
                      refine ⟨undef, fun _ _ _ h => h, Or.inr ⟨by rfl, rfl⟩, by assumption, ?_⟩
                      try simp only [Act.put, List.setIfInBounds_toArray, List.set_cons_zero, List.set_cons_succ]
                      refine take_w 22 ⟨_, by simp only [List.getElem?_toArray, List.getElem?_cons_succ, List.getElem?_cons_zero]; rfl, by kernel_rfl, by kernel_rfl, by kernel_rfl, ?_⟩
                      refine ⟨?_, fun _ _ _ h => h, Or.inl ⟨by rfl, ?_⟩, by assumption, ?_⟩
                      rotate_left
                      · (intro w hSw; (try dsimp only at hSw); go_simp; try with_reducible rfl)
                      try simp only [Act.put, List.setIfInBounds_toArray, List.set_cons_zero, List.set_cons_succ]
                      refine take_w 23 ⟨_, by simp only [List.getElem?_toArray, List.getElem?_cons_succ, List.getElem?_cons_zero]; rfl, by kernel_rfl, by kernel_rfl, by kernel_rfl, ?_⟩
                      refine ⟨?_, fun _ _ _ h => h, Or.inl ⟨by rfl, ?_⟩, by assumption, ?_⟩
                      rotate_left
                      · (intro w hSw; (try dsimp only at hSw); go_simp; try with_reducible rfl)
                      try simp only [Act.put, List.setIfInBounds_toArray, List.set_cons_zero, List.set_cons_succ]
                      refine take_w 24 ⟨_, by simp only [List.getElem?_toArray, List.getElem?_cons_succ, List.getElem?_cons_zero]; rfl, by kernel_rfl, by kernel_rfl, by kernel_rfl, ?_⟩
                      refine ⟨undef, fun _ _ _ h => h, Or.inr ⟨by rfl, rfl⟩, by assumption, ?_⟩
                      try simp only [Act.put, List.setIfInBounds_toArray, List.set_cons_zero, List.set_cons_succ]
                      refine take_w 25 ⟨_, by simp only [List.getElem?_toArray, List.getElem?_cons_succ, List.getElem?_cons_zero]; rfl, by kernel_rfl, by kernel_rfl, by kernel_rfl, ?_⟩
                      refine ⟨undef, fun _ _ _ h => h, Or.inr ⟨by rfl, rfl⟩, by assumption, ?_⟩
                      try simp only [Act.put, List.setIfInBounds_toArray, List.set_cons_zero, List.set_cons_succ]
                      refine take_w 26 ⟨_, by simp only [List.getElem?_toArray, List.getElem?_cons_succ, List.getElem?_cons_zero]; rfl, by kernel_rfl, by kernel_rfl, by kernel_rfl, ?_⟩
                      refine ⟨?_, fun _ _ _ h => h, Or.inl ⟨by rfl, ?_⟩, by assumption, ?_⟩
                      rotate_left
                      · (intro w hSw; (try dsimp only at hSw); go_simp; try with_reducible rfl)
                      try simp only [Act.put, List.setIfInBounds_toArray, List.set_cons_zero, List.set_cons_succ]
                      refine take_w 27 ⟨_, by simp only [List.getElem?_toArray, List.getElem?_cons_succ, List.getElem?_cons_zero]; rfl, by kernel_rfl, by kernel_rfl, by kernel_rfl, ?_⟩
                      refine ⟨?_, fun _ _ _ h => h, Or.inl ⟨by rfl, ?_⟩, by assumption, ?_⟩
                      rotate_left
                      · (intro w hSw; (try dsimp only at hSw); go_simp; try with_reducible rfl)
                      try simp only [Act.put, List.setIfInBounds_toArray, List.set_cons_zero, List.set_cons_succ]
                      refine take_w 28 ⟨_, by simp only [List.getElem?_toArray, List.getElem?_cons_succ, List.getElem?_cons_zero]; rfl, by kernel_rfl, by kernel_rfl, by kernel_rfl, ?_⟩
                      refine ⟨undef, fun _ _ _ h => h, Or.inr ⟨by rfl, rfl⟩, by assumption, ?_⟩
                      try simp only [Act.put, List.setIfInBounds_toArray, List.set_cons_zero, List.set_cons_succ]
                      refine take_w 29 ⟨_, by simp only [List.getElem?_toArray, List.getElem?_cons_succ, List.getElem?_cons_zero]; rfl, by kernel_rfl, by kernel_rfl, by kernel_rfl, ?_⟩
                      refine ⟨undef, fun _ _ _ h => h, Or.inr ⟨by rfl, rfl⟩, by assumption, ?_⟩
                      try simp only [Act.put, List.setIfInBounds_toArray, List.set_cons_zero, List.set_cons_succ]
                      refine take_w 30 ⟨_, by simp only [List.getElem?_toArray, List.getElem?_cons_succ, List.getElem?_cons_zero]; rfl, by kernel_rfl, by kernel_rfl, by kernel_rfl, ?_⟩
                      refine ⟨undef, fun _ _ _ h => h, Or.inr ⟨by rfl, rfl⟩, by assumption, ?_⟩
                      try simp only [Act.put, List.setIfInBounds_toArray, List.set_cons_zero, List.set_cons_succ]
                      refine take_w 31 ⟨_, by simp only [List.getElem?_toArray, List.getElem?_cons_succ, List.getElem?_cons_zero]; rfl, by kernel_rfl, by kernel_rfl, by kernel_rfl, ?_⟩
                      refine ⟨undef, fun _ _ _ h => h, Or.inr ⟨by rfl, rfl⟩, by assumption, ?_⟩
                      try simp only [Act.put, List.setIfInBounds_toArray, List.set_cons_zero, List.set_cons_succ]
                      refine take_w 32 ⟨_, by simp only [List.getElem?_toArray, List.getElem?_cons_succ, List.getElem?_cons_zero]; rfl, by kernel_rfl, by kernel_rfl, by kernel_rfl, ?_⟩
                      refine ⟨undef, fun _ _ _ h => h, Or.inr ⟨by rfl, rfl⟩, by assumption, ?_⟩
                      try simp only [Act.put, List.setIfInBounds_toArray, List.set_cons_zero, List.set_cons_succ]
                      refine take_w 33 ⟨_, by simp only [List.getElem?_toArray, List.getElem?_cons_succ, List.getElem?_cons_zero]; rfl, by kernel_rfl, by kernel_rfl, by kernel_rfl, ?_⟩
                      refine ⟨?_, fun _ _ _ h => h, Or.inl ⟨by rfl, ?_⟩, by assumption, ?_⟩
                      rotate_left
                      · (intro w hSw; (try dsimp only at hSw); go_simp; try with_reducible rfl)
                      try simp only [Act.put, List.setIfInBounds_toArray, List.set_cons_zero, List.set_cons_succ]
                      refine wpAnyH_done (by kernel_rfl) ?_ _
                      go_wp2_with fail
                      go_meet
                      exact ⟨rfl, Lib.hid (last7 (by with_reducible assumption))⟩
                    | false =>
                      cases r2 with
                      | false =>
                        obtain rfl : true = sk := by rw [← HSK.out]; exact (skips_cls (by rw [HHD.out, HTG.out]; exact HR2.out)).symm
                        refine wp_region_held_drew (S := (fun w' => w'.cell? ⟨b, 4 + k * 13 + 4, none⟩ = some (.pointer none) ∧ w'.cell? ⟨b, 4 + k * 13 + 2, none⟩ = some (.int .i64 hn) ∧ w'.cell? ⟨b, 4 + k * 13 + 3, none⟩ = some (.string ⟨hx.toArray⟩) ∧ w'.cell? ⟨tb, 0, none⟩ = some (.int .i64 tn) ∧ w'.cell? ⟨tb, 1, none⟩ = some (.string ⟨tt.toArray⟩) ∧ w'.cell? ⟨b, 2, none⟩ = some (.int .i64 cn) ∧ Below wy.heap.size wy w')) (by kernel_rfl) ?_ (fun hHeld => ?_)
                        · ((try dsimp only); (first | (with_reducible assumption) | (exact keep6 (by with_reducible assumption) (by with_reducible assumption)) | (with_reducible exact HS0.out)))
                        refine take_w 0 ⟨_, by simp only [List.getElem?_toArray, List.getElem?_cons_zero]; rfl, by kernel_rfl, by kernel_rfl, by kernel_rfl, ?_⟩
                        refine ⟨?_, fun _ _ _ h => h, Or.inl ⟨by rfl, ?_⟩, by assumption, ?_⟩
                        rotate_left
                        · (intro w hSw; (try dsimp only at hSw); go_simp; try with_reducible rfl)
                        try simp only [Act.put, List.setIfInBounds_toArray, List.set_cons_zero, List.set_cons_succ]
                        refine take_w 1 ⟨_, by simp only [List.getElem?_toArray, List.getElem?_cons_succ, List.getElem?_cons_zero]; rfl, by kernel_rfl, by kernel_rfl, by kernel_rfl, ?_⟩
                        refine ⟨?_, fun _ _ _ h => h, Or.inl ⟨by rfl, ?_⟩, by assumption, ?_⟩
                        rotate_left
                        · (intro w hSw; (try dsimp only at hSw); go_simp; try with_reducible rfl)
                        try simp only [Act.put, List.setIfInBounds_toArray, List.set_cons_zero, List.set_cons_succ]
                        refine take_w 2 ⟨_, by simp only [List.getElem?_toArray, List.getElem?_cons_succ, List.getElem?_cons_zero]; rfl, by kernel_rfl, by kernel_rfl, by kernel_rfl, ?_⟩
                        refine ⟨?_, fun _ _ _ h => h, Or.inl ⟨by rfl, ?_⟩, by assumption, ?_⟩
                        rotate_left
                        · (intro w hSw; (try dsimp only at hSw); go_simp; try with_reducible rfl)
                        try simp only [Act.put, List.setIfInBounds_toArray, List.set_cons_zero, List.set_cons_succ]
                        refine take_w 3 ⟨_, by simp only [List.getElem?_toArray, List.getElem?_cons_succ, List.getElem?_cons_zero]; rfl, by kernel_rfl, by kernel_rfl, by kernel_rfl, ?_⟩
                        refine ⟨?_, fun _ _ _ h => h, Or.inl ⟨by rfl, ?_⟩, by assumption, ?_⟩
                        rotate_left
                        · (intro w hSw; (try dsimp only at hSw); go_simp; try with_reducible rfl)
                        try simp only [Act.put, List.setIfInBounds_toArray, List.set_cons_zero, List.set_cons_succ]
                        refine take_w 4 ⟨_, by simp only [List.getElem?_toArray, List.getElem?_cons_succ, List.getElem?_cons_zero]; rfl, by kernel_rfl, by kernel_rfl, by kernel_rfl, ?_⟩
                        refine ⟨?_, fun _ _ _ h => h, Or.inl ⟨by rfl, ?_⟩, by assumption, ?_⟩
                        rotate_left
                        · (intro w hSw; (try dsimp only at hSw); go_simp; try with_reducible rfl)
                        try simp only [Act.put, List.setIfInBounds_toArray, List.set_cons_zero, List.set_cons_succ]
                        refine take_w 5 ⟨_, by simp only [List.getElem?_toArray, List.getElem?_cons_succ, List.getElem?_cons_zero]; rfl, by kernel_rfl, by kernel_rfl, by kernel_rfl, ?_⟩
                        refine ⟨?_, fun _ _ _ h => h, Or.inl ⟨by rfl, ?_⟩, by assumption, ?_⟩
                        rotate_left
                        · (intro w hSw; (try dsimp only at hSw); go_simp; try with_reducible rfl)
                        try simp only [Act.put, List.setIfInBounds_toArray, List.set_cons_zero, List.set_cons_succ]
                        refine take_w 6 ⟨_, by simp only [List.getElem?_toArray, List.getElem?_cons_succ, List.getElem?_cons_zero]; rfl, by kernel_rfl, by kernel_rfl, by kernel_rfl, ?_⟩
                        refine ⟨?_, fun _ _ _ h => h, Or.inl ⟨by rfl, ?_⟩, by assumption, ?_⟩
                        rotate_left
                        · (intro w hSw; (try dsimp only at hSw); go_simp; try with_reducible rfl)
                        try simp only [Act.put, List.setIfInBounds_toArray, List.set_cons_zero, List.set_cons_succ]
                        refine take_w 7 ⟨_, by simp only [List.getElem?_toArray, List.getElem?_cons_succ, List.getElem?_cons_zero]; rfl, by kernel_rfl, by kernel_rfl, by kernel_rfl, ?_⟩
                        refine ⟨?_, fun _ _ _ h => h, Or.inl ⟨by rfl, ?_⟩, by assumption, ?_⟩
                        rotate_left
                        · (intro w hSw; (try dsimp only at hSw); go_simp; try with_reducible rfl)
                        try simp only [Act.put, List.setIfInBounds_toArray, List.set_cons_zero, List.set_cons_succ]
                        refine take_w 8 ⟨_, by simp only [List.getElem?_toArray, List.getElem?_cons_succ, List.getElem?_cons_zero]; rfl, by kernel_rfl, by kernel_rfl, by kernel_rfl, ?_⟩
                        refine ⟨?_, fun _ _ _ h => h, Or.inl ⟨by rfl, ?_⟩, by assumption, ?_⟩
                        rotate_left
                        · (intro w hSw; (try dsimp only at hSw); go_simp; try with_reducible rfl)
                        try simp only [Act.put, List.setIfInBounds_toArray, List.set_cons_zero, List.set_cons_succ]
                        refine take_w 9 ⟨_, by simp only [List.getElem?_toArray, List.getElem?_cons_succ, List.getElem?_cons_zero]; rfl, by kernel_rfl, by kernel_rfl, by kernel_rfl, ?_⟩
                        refine ⟨?_, fun _ _ _ h => h, Or.inl ⟨by rfl, ?_⟩, by assumption, ?_⟩
                        rotate_left
                        · (intro w hSw; (try dsimp only at hSw); go_simp; try with_reducible rfl)
                        try simp only [Act.put, List.setIfInBounds_toArray, List.set_cons_zero, List.set_cons_succ]
                        refine take_w 10 ⟨_, by simp only [List.getElem?_toArray, List.getElem?_cons_succ, List.getElem?_cons_zero]; rfl, by kernel_rfl, by kernel_rfl, by kernel_rfl, ?_⟩
                        refine ⟨?_, fun _ _ _ h => h, Or.inl ⟨by rfl, ?_⟩, by assumption, ?_⟩
                        rotate_left
                        · (intro w hSw; (try dsimp only at hSw); go_simp; try with_reducible rfl)
                        try simp only [Act.put, List.setIfInBounds_toArray, List.set_cons_zero, List.set_cons_succ]
                        refine call_w 11 ⟨_, by simp only [List.getElem?_toArray, List.getElem?_cons_succ, List.getElem?_cons_zero]; rfl, by kernel_rfl, ?_, ?_⟩
                        · rfl
                        intro K hK
                        go_simp
                        go_at_call 28; with_reducible (refine (CI.out _).mono ?_); rintro e wn ⟨rfl, hbn⟩
                        refine hK.out _ _ ?_ (fun hHeld => ?_)
                        · ((try dsimp only); (first | (with_reducible assumption) | (exact keep6 (by with_reducible assumption) (by with_reducible assumption)) | (with_reducible exact HS0.out)))
                        clear hK K
                        try simp only [Act.put, List.setIfInBounds_toArray, List.set_cons_zero, List.set_cons_succ]
                        refine take_w 12 ⟨_, by simp only [List.getElem?_toArray, List.getElem?_cons_succ, List.getElem?_cons_zero]; rfl, by kernel_rfl, by kernel_rfl, by kernel_rfl, ?_⟩
                        refine ⟨?_, fun _ _ _ h => h, Or.inl ⟨by rfl, ?_⟩, by assumption, ?_⟩
                        rotate_left
                        · (intro w hSw; (try dsimp only at hSw); go_simp; try with_reducible rfl)
                        try simp only [Act.put, List.setIfInBounds_toArray, List.set_cons_zero, List.set_cons_succ]
                        refine take_w 13 ⟨_, by simp only [List.getElem?_toArray, List.getElem?_cons_succ, List.getElem?_cons_zero]; rfl, by kernel_rfl, by kernel_rfl, by kernel_rfl, ?_⟩
                        refine ⟨?_, fun _ _ _ h => h, Or.inl ⟨by rfl, ?_⟩, by assumption, ?_⟩
                        rotate_left
                        · (intro w hSw; (try dsimp only at hSw); go_simp; try with_reducible rfl)
                        try simp only [Act.put, List.setIfInBounds_toArray, List.set_cons_zero, List.set_cons_succ]
                        refine take_w 14 ⟨_, by simp only [List.getElem?_toArray, List.getElem?_cons_succ, List.getElem?_cons_zero]; rfl, by kernel_rfl, by kernel_rfl, by kernel_rfl, ?_⟩
                        refine ⟨?_, fun _ _ _ h => h, Or.inl ⟨by rfl, ?_⟩, by assumption, ?_⟩
                        rotate_left
                        · (intro w hSw; (try dsimp only at hSw); go_simp; try with_reducible rfl)
                        try simp only [Act.put, List.setIfInBounds_toArray, List.set_cons_zero, List.set_cons_succ]
                        refine take_w 15 ⟨_, by simp only [List.getElem?_toArray, List.getElem?_cons_succ, List.getElem?_cons_zero]; rfl, by kernel_rfl, by kernel_rfl, by kernel_rfl, ?_⟩
                        refine ⟨?_, fun _ _ _ h => h, Or.inl ⟨by rfl, ?_⟩, by assumption, ?_⟩
                        rotate_left
                        · (intro w hSw; (try dsimp only at hSw); go_simp; try with_reducible rfl)
                        try simp only [Act.put, List.setIfInBounds_toArray, List.set_cons_zero, List.set_cons_succ]
                        refine take_w 16 ⟨_, by simp only [List.getElem?_toArray, List.getElem?_cons_succ, List.getElem?_cons_zero]; rfl, by kernel_rfl, by kernel_rfl, by kernel_rfl, ?_⟩
                        refine ⟨?_, fun _ _ _ h => h, Or.inl ⟨by rfl, ?_⟩, by assumption, ?_⟩
                        rotate_left
                        · (intro w hSw; (try dsimp only at hSw); go_simp; try with_reducible rfl)
                        try simp only [Act.put, List.setIfInBounds_toArray, List.set_cons_zero, List.set_cons_succ]
                        refine take_w 17 ⟨_, by simp only [List.getElem?_toArray, List.getElem?_cons_succ, List.getElem?_cons_zero]; rfl, by kernel_rfl, by kernel_rfl, by kernel_rfl, ?_⟩
                        refine ⟨?_, fun _ _ _ h => h, Or.inl ⟨by rfl, ?_⟩, by assumption, ?_⟩
                        rotate_left
                        · (intro w hSw; (try dsimp only at hSw); go_simp; try with_reducible rfl)
                        try simp only [Act.put, List.setIfInBounds_toArray, List.set_cons_zero, List.set_cons_succ]
                        refine take_w 18 ⟨_, by simp only [List.getElem?_toArray, List.getElem?_cons_succ, List.getElem?_cons_zero]; rfl, by kernel_rfl, by kernel_rfl, by kernel_rfl, ?_⟩
                        refine ⟨?_, fun _ _ _ h => h, Or.inl ⟨by rfl, ?_⟩, by assumption, ?_⟩
                        rotate_left
                        · (intro w hSw; (try dsimp only at hSw); go_simp; try with_reducible rfl)
                        try simp only [Act.put, List.setIfInBounds_toArray, List.set_cons_zero, List.set_cons_succ]
                        refine take_w 19 ⟨_, by simp only [List.getElem?_toArray, List.getElem?_cons_succ, List.getElem?_cons_zero]; rfl, by kernel_rfl, by kernel_rfl, by kernel_rfl, ?_⟩
                        refine ⟨?_, fun _ _ _ h => h, Or.inl ⟨by rfl, ?_⟩, by assumption, ?_⟩
                        rotate_left
                        · (intro w hSw; (try dsimp only at hSw); go_simp; try with_reducible rfl)
                        try simp only [Act.put, List.setIfInBounds_toArray, List.set_cons_zero, List.set_cons_succ]
                        refine call_w 20 ⟨_, by simp only [List.getElem?_toArray, List.getElem?_cons_succ, List.getElem?_cons_zero]; rfl, by kernel_rfl, ?_, ?_⟩
                        · rfl
                        intro K hK
                        go_simp
                        with_reducible (refine (CC.out _).mono ?_); rintro e wn2 ⟨rfl, hbn2⟩
                        refine hK.out _ _ ?_ (fun hHeld => ?_)
                        · ((try dsimp only); (first | (with_reducible assumption) | (exact keep6 (by with_reducible assumption) (by with_reducible assumption)) | (with_reducible exact HS0.out)))
                        clear hK K
                        try simp only [Act.put, List.setIfInBounds_toArray, List.set_cons_zero, List.set_cons_succ]
                        refine take_w 21 ⟨_, by simp only [List.getElem?_toArray, List.getElem?_cons_succ, List.getElem?_cons_zero]; rfl, by kernel_rfl, by kernel_rfl, by kernel_rfl, ?_⟩
                        refine ⟨?_, fun _ _ _ h => h, Or.inl ⟨by rfl, ?_⟩, by assumption, ?_⟩
                        rotate_left
                        · (intro w hSw; (try dsimp only at hSw); go_simp; try with_reducible rfl)
                        try simp only [Act.put, List.setIfInBounds_toArray, List.set_cons_zero, List.set_cons_succ]
                        refine take_w 22 ⟨_, by simp only [List.getElem?_toArray, List.getElem?_cons_succ, List.getElem?_cons_zero]; rfl, by kernel_rfl, by kernel_rfl, by kernel_rfl, ?_⟩
                        refine ⟨?_, fun _ _ _ h => h, Or.inl ⟨by rfl, ?_⟩, by assumption, ?_⟩
                        rotate_left
                        · (intro w hSw; (try dsimp only at hSw); go_simp; try with_reducible rfl)
                        try simp only [Act.put, List.setIfInBounds_toArray, List.set_cons_zero, List.set_cons_succ]
                        refine take_w 23 ⟨_, by simp only [List.getElem?_toArray, List.getElem?_cons_succ, List.getElem?_cons_zero]; rfl, by kernel_rfl, by kernel_rfl, by kernel_rfl, ?_⟩
                        refine ⟨?_, fun _ _ _ h => h, Or.inl ⟨by rfl, ?_⟩, by assumption, ?_⟩
                        rotate_left
                        · (intro w hSw; (try dsimp only at hSw); go_simp; try with_reducible rfl)
                        try simp only [Act.put, List.setIfInBounds_toArray, List.set_cons_zero, List.set_cons_succ]
                        refine take_w 24 ⟨_, by simp only [List.getElem?_toArray, List.getElem?_cons_succ, List.getElem?_cons_zero]; rfl, by kernel_rfl, by kernel_rfl, by kernel_rfl, ?_⟩
                        refine ⟨undef, fun _ _ _ h => h, Or.inr ⟨by rfl, rfl⟩, by assumption, ?_⟩
                        try simp only [Act.put, List.setIfInBounds_toArray, List.set_cons_zero, List.set_cons_succ]
                        refine take_w 25 ⟨_, by simp only [List.getElem?_toArray, List.getElem?_cons_succ, List.getElem?_cons_zero]; rfl, by kernel_rfl, by kernel_rfl, by kernel_rfl, ?_⟩
                        refine ⟨undef, fun _ _ _ h => h, Or.inr ⟨by rfl, rfl⟩, by assumption, ?_⟩
                        try simp only [Act.put, List.setIfInBounds_toArray, List.set_cons_zero, List.set_cons_succ]
                        refine take_w 26 ⟨_, by simp only [List.getElem?_toArray, List.getElem?_cons_succ, List.getElem?_cons_zero]; rfl, by kernel_rfl, by kernel_rfl, by kernel_rfl, ?_⟩
                        refine ⟨?_, fun _ _ _ h => h, Or.inl ⟨by rfl, ?_⟩, by assumption, ?_⟩
                        rotate_left
                        · (intro w hSw; (try dsimp only at hSw); go_simp; try with_reducible rfl)
                        try simp only [Act.put, List.setIfInBounds_toArray, List.set_cons_zero, List.set_cons_succ]
                        refine take_w 27 ⟨_, by simp only [List.getElem?_toArray, List.getElem?_cons_succ, List.getElem?_cons_zero]; rfl, by kernel_rfl, by kernel_rfl, by kernel_rfl, ?_⟩
                        refine ⟨?_, fun _ _ _ h => h, Or.inl ⟨by rfl, ?_⟩, by assumption, ?_⟩
                        rotate_left
                        · (intro w hSw; (try dsimp only at hSw); go_simp; try with_reducible rfl)
                        try simp only [Act.put, List.setIfInBounds_toArray, List.set_cons_zero, List.set_cons_succ]
                        refine take_w 28 ⟨_, by simp only [List.getElem?_toArray, List.getElem?_cons_succ, List.getElem?_cons_zero]; rfl, by kernel_rfl, by kernel_rfl, by kernel_rfl, ?_⟩
                        refine ⟨undef, fun _ _ _ h => h, Or.inr ⟨by rfl, rfl⟩, by assumption, ?_⟩
                        try simp only [Act.put, List.setIfInBounds_toArray, List.set_cons_zero, List.set_cons_succ]
                        refine take_w 29 ⟨_, by simp only [List.getElem?_toArray, List.getElem?_cons_succ, List.getElem?_cons_zero]; rfl, by kernel_rfl, by kernel_rfl, by kernel_rfl, ?_⟩
                        refine ⟨undef, fun _ _ _ h => h, Or.inr ⟨by rfl, rfl⟩, by assumption, ?_⟩
                        try simp only [Act.put, List.setIfInBounds_toArray, List.set_cons_zero, List.set_cons_succ]
                        refine take_w 30 ⟨_, by simp only [List.getElem?_toArray, List.getElem?_cons_succ, List.getElem?_cons_zero]; rfl, by kernel_rfl, by kernel_rfl, by kernel_rfl, ?_⟩
                        refine ⟨undef, fun _ _ _ h => h, Or.inr ⟨by rfl, rfl⟩, by assumption, ?_⟩
                        try simp only [Act.put, List.setIfInBounds_toArray, List.set_cons_zero, List.set_cons_succ]
                        refine take_w 31 ⟨_, by simp only [List.getElem?_toArray, List.getElem?_cons_succ, List.getElem?_cons_zero]; rfl, by kernel_rfl, by kernel_rfl, by kernel_rfl, ?_⟩
                        refine ⟨undef, fun _ _ _ h => h, Or.inr ⟨by rfl, rfl⟩, by assumption, ?_⟩
                        try simp only [Act.put, List.setIfInBounds_toArray, List.set_cons_zero, List.set_cons_succ]
                        refine take_w 32 ⟨_, by simp only [List.getElem?_toArray, List.getElem?_cons_succ, List.getElem?_cons_zero]; rfl, by kernel_rfl, by kernel_rfl, by kernel_rfl, ?_⟩
                        refine ⟨undef, fun _ _ _ h => h, Or.inr ⟨by rfl, rfl⟩, by assumption, ?_⟩
                        try simp only [Act.put, List.setIfInBounds_toArray, List.set_cons_zero, List.set_cons_succ]
                        refine take_w 33 ⟨_, by simp only [List.getElem?_toArray, List.getElem?_cons_succ, List.getElem?_cons_zero]; rfl, by kernel_rfl, by kernel_rfl, by kernel_rfl, ?_⟩
                        refine ⟨?_, fun _ _ _ h => h, Or.inl ⟨by rfl, ?_⟩, by assumption, ?_⟩
                        rotate_left
                        · (intro w hSw; (try dsimp only at hSw); go_simp; try with_reducible rfl)
                        try simp only [Act.put, List.setIfInBounds_toArray, List.set_cons_zero, List.set_cons_succ]
                        refine wpAnyH_done (by kernel_rfl) ?_ _
                        go_wp2_with fail
                        go_meet
                        exact ⟨rfl, Lib.hid (last7 (by with_reducible assumption))⟩
                      | true =>
                        by_cases h16 : 16 ≤ X.2
                        · obtain rfl : true = sk := by rw [← HSK.out]; exact (skips_n h16).symm
                          have g16 : decide ((16 : Int) ≤ (X.2 : Int)) = true := by rw [decide_eq_true_eq]; omega
                          refine wp_region_held_drew (S := (fun w' => w'.cell? ⟨b, 4 + k * 13 + 4, none⟩ = some (.pointer none) ∧ w'.cell? ⟨b, 4 + k * 13 + 2, none⟩ = some (.int .i64 hn) ∧ w'.cell? ⟨b, 4 + k * 13 + 3, none⟩ = some (.string ⟨hx.toArray⟩) ∧ w'.cell? ⟨tb, 0, none⟩ = some (.int .i64 tn) ∧ w'.cell? ⟨tb, 1, none⟩ = some (.string ⟨tt.toArray⟩) ∧ w'.cell? ⟨b, 2, none⟩ = some (.int .i64 cn) ∧ Below wy.heap.size wy w')) (by kernel_rfl) ?_ (fun hHeld => ?_)
                          · ((try dsimp only); (first | (with_reducible assumption) | (exact keep6 (by with_reducible assumption) (by with_reducible assumption)) | (with_reducible exact HS0.out)))
                          refine take_w 0 ⟨_, by simp only [List.getElem?_toArray, List.getElem?_cons_zero]; rfl, by kernel_rfl, by kernel_rfl, by kernel_rfl, ?_⟩
                          refine ⟨?_, fun _ _ _ h => h, Or.inl ⟨by rfl, ?_⟩, by assumption, ?_⟩
                          rotate_left
                          · (intro w hSw; (try dsimp only at hSw); go_simp; try with_reducible rfl)
                          try simp only [Act.put, List.setIfInBounds_toArray, List.set_cons_zero, List.set_cons_succ]
                          refine take_w 1 ⟨_, by simp only [List.getElem?_toArray, List.getElem?_cons_succ, List.getElem?_cons_zero]; rfl, by kernel_rfl, by kernel_rfl, by kernel_rfl, ?_⟩
                          refine ⟨?_, fun _ _ _ h => h, Or.inl ⟨by rfl, ?_⟩, by assumption, ?_⟩
                          rotate_left
                          · (intro w hSw; (try dsimp only at hSw); go_simp; try with_reducible rfl)
                          try simp only [Act.put, List.setIfInBounds_toArray, List.set_cons_zero, List.set_cons_succ]
                          refine take_w 2 ⟨_, by simp only [List.getElem?_toArray, List.getElem?_cons_succ, List.getElem?_cons_zero]; rfl, by kernel_rfl, by kernel_rfl, by kernel_rfl, ?_⟩
                          refine ⟨?_, fun _ _ _ h => h, Or.inl ⟨by rfl, ?_⟩, by assumption, ?_⟩
                          rotate_left
                          · (intro w hSw; (try dsimp only at hSw); go_simp; try with_reducible rfl)
                          try simp only [Act.put, List.setIfInBounds_toArray, List.set_cons_zero, List.set_cons_succ]
                          refine take_w 3 ⟨_, by simp only [List.getElem?_toArray, List.getElem?_cons_succ, List.getElem?_cons_zero]; rfl, by kernel_rfl, by kernel_rfl, by kernel_rfl, ?_⟩
                          refine ⟨?_, fun _ _ _ h => h, Or.inl ⟨by rfl, ?_⟩, by assumption, ?_⟩
                          rotate_left
                          · (intro w hSw; (try dsimp only at hSw); go_simp; try with_reducible rfl)
                          try simp only [Act.put, List.setIfInBounds_toArray, List.set_cons_zero, List.set_cons_succ]
                          refine take_w 4 ⟨_, by simp only [List.getElem?_toArray, List.getElem?_cons_succ, List.getElem?_cons_zero]; rfl, by kernel_rfl, by kernel_rfl, by kernel_rfl, ?_⟩
                          refine ⟨?_, fun _ _ _ h => h, Or.inl ⟨by rfl, ?_⟩, by assumption, ?_⟩
                          rotate_left
                          · (intro w hSw; (try dsimp only at hSw); go_simp; try with_reducible rfl)
                          try simp only [Act.put, List.setIfInBounds_toArray, List.set_cons_zero, List.set_cons_succ]
                          refine take_w 5 ⟨_, by simp only [List.getElem?_toArray, List.getElem?_cons_succ, List.getElem?_cons_zero]; rfl, by kernel_rfl, by kernel_rfl, by kernel_rfl, ?_⟩
                          refine ⟨?_, fun _ _ _ h => h, Or.inl ⟨by rfl, ?_⟩, by assumption, ?_⟩
                          rotate_left
                          · (intro w hSw; (try dsimp only at hSw); go_simp; try with_reducible rfl)
                          try simp only [Act.put, List.setIfInBounds_toArray, List.set_cons_zero, List.set_cons_succ]
                          refine take_w 6 ⟨_, by simp only [List.getElem?_toArray, List.getElem?_cons_succ, List.getElem?_cons_zero]; rfl, by kernel_rfl, by kernel_rfl, by kernel_rfl, ?_⟩
                          refine ⟨?_, fun _ _ _ h => h, Or.inl ⟨by rfl, ?_⟩, by assumption, ?_⟩
                          rotate_left
                          · (intro w hSw; (try dsimp only at hSw); go_simp; try with_reducible rfl)
                          try simp only [Act.put, List.setIfInBounds_toArray, List.set_cons_zero, List.set_cons_succ]
                          refine take_w 7 ⟨_, by simp only [List.getElem?_toArray, List.getElem?_cons_succ, List.getElem?_cons_zero]; rfl, by kernel_rfl, by kernel_rfl, by kernel_rfl, ?_⟩
                          refine ⟨?_, fun _ _ _ h => h, Or.inl ⟨by rfl, ?_⟩, by assumption, ?_⟩
                          rotate_left
                          · (intro w hSw; (try dsimp only at hSw); go_simp; try with_reducible rfl)
                          try simp only [Act.put, List.setIfInBounds_toArray, List.set_cons_zero, List.set_cons_succ]
                          refine take_w 8 ⟨_, by simp only [List.getElem?_toArray, List.getElem?_cons_succ, List.getElem?_cons_zero]; rfl, by kernel_rfl, by kernel_rfl, by kernel_rfl, ?_⟩
                          refine ⟨?_, fun _ _ _ h => h, Or.inl ⟨by rfl, ?_⟩, by assumption, ?_⟩
                          rotate_left
                          · (intro w hSw; (try dsimp only at hSw); go_simp; try with_reducible rfl)
                          try simp only [Act.put, List.setIfInBounds_toArray, List.set_cons_zero, List.set_cons_succ]
                          refine take_w 9 ⟨_, by simp only [List.getElem?_toArray, List.getElem?_cons_succ, List.getElem?_cons_zero]; rfl, by kernel_rfl, by kernel_rfl, by kernel_rfl, ?_⟩
                          refine ⟨?_, fun _ _ _ h => h, Or.inl ⟨by rfl, ?_⟩, by assumption, ?_⟩
                          rotate_left
                          · (intro w hSw; (try dsimp only at hSw); go_simp; try with_reducible rfl)
                          try simp only [Act.put, List.setIfInBounds_toArray, List.set_cons_zero, List.set_cons_succ]
                          refine take_w 10 ⟨_, by simp only [List.getElem?_toArray, List.getElem?_cons_succ, List.getElem?_cons_zero]; rfl, by kernel_rfl, by kernel_rfl, by kernel_rfl, ?_⟩
                          refine ⟨?_, fun _ _ _ h => h, Or.inl ⟨by rfl, ?_⟩, by assumption, ?_⟩
                          rotate_left
                          · (intro w hSw; (try dsimp only at hSw); go_simp; try with_reducible rfl)
                          try simp only [Act.put, List.setIfInBounds_toArray, List.set_cons_zero, List.set_cons_succ]
                          refine call_w 11 ⟨_, by simp only [List.getElem?_toArray, List.getElem?_cons_succ, List.getElem?_cons_zero]; rfl, by kernel_rfl, ?_, ?_⟩
                          · rfl
                          intro K hK
                          go_simp
                          go_at_call 28; with_reducible (refine (CI.out _).mono ?_); rintro e wn ⟨rfl, hbn⟩
                          refine hK.out _ _ ?_ (fun hHeld => ?_)
                          · ((try dsimp only); (first | (with_reducible assumption) | (exact keep6 (by with_reducible assumption) (by with_reducible assumption)) | (with_reducible exact HS0.out)))
                          clear hK K
                          try simp only [Act.put, List.setIfInBounds_toArray, List.set_cons_zero, List.set_cons_succ]
                          refine take_w 12 ⟨_, by simp only [List.getElem?_toArray, List.getElem?_cons_succ, List.getElem?_cons_zero]; rfl, by kernel_rfl, by kernel_rfl, by kernel_rfl, ?_⟩
                          refine ⟨?_, fun _ _ _ h => h, Or.inl ⟨by rfl, ?_⟩, by assumption, ?_⟩
                          rotate_left
                          · (intro w hSw; (try dsimp only at hSw); go_simp; try with_reducible rfl)
                          try simp only [Act.put, List.setIfInBounds_toArray, List.set_cons_zero, List.set_cons_succ]
                          refine take_w 13 ⟨_, by simp only [List.getElem?_toArray, List.getElem?_cons_succ, List.getElem?_cons_zero]; rfl, by kernel_rfl, by kernel_rfl, by kernel_rfl, ?_⟩
                          refine ⟨?_, fun _ _ _ h => h, Or.inl ⟨by rfl, ?_⟩, by assumption, ?_⟩
                          rotate_left
                          · (intro w hSw; (try dsimp only at hSw); go_simp; try with_reducible rfl)
                          try simp only [Act.put, List.setIfInBounds_toArray, List.set_cons_zero, List.set_cons_succ]
                          refine take_w 14 ⟨_, by simp only [List.getElem?_toArray, List.getElem?_cons_succ, List.getElem?_cons_zero]; rfl, by kernel_rfl, by kernel_rfl, by kernel_rfl, ?_⟩
                          refine ⟨?_, fun _ _ _ h => h, Or.inl ⟨by rfl, ?_⟩, by assumption, ?_⟩
                          rotate_left
                          · (intro w hSw; (try dsimp only at hSw); go_simp; try with_reducible rfl)
                          try simp only [Act.put, List.setIfInBounds_toArray, List.set_cons_zero, List.set_cons_succ]
                          refine take_w 15 ⟨_, by simp only [List.getElem?_toArray, List.getElem?_cons_succ, List.getElem?_cons_zero]; rfl, by kernel_rfl, by kernel_rfl, by kernel_rfl, ?_⟩
                          refine ⟨?_, fun _ _ _ h => h, Or.inl ⟨by rfl, ?_⟩, by assumption, ?_⟩
                          rotate_left
                          · (intro w hSw; (try dsimp only at hSw); go_simp; try with_reducible rfl)
                          try simp only [Act.put, List.setIfInBounds_toArray, List.set_cons_zero, List.set_cons_succ]
                          refine take_w 16 ⟨_, by simp only [List.getElem?_toArray, List.getElem?_cons_succ, List.getElem?_cons_zero]; rfl, by kernel_rfl, by kernel_rfl, by kernel_rfl, ?_⟩
                          refine ⟨?_, fun _ _ _ h => h, Or.inl ⟨by rfl, ?_⟩, by assumption, ?_⟩
                          rotate_left
                          · (intro w hSw; (try dsimp only at hSw); go_simp; try with_reducible rfl)
                          try simp only [Act.put, List.setIfInBounds_toArray, List.set_cons_zero, List.set_cons_succ]
                          refine take_w 17 ⟨_, by simp only [List.getElem?_toArray, List.getElem?_cons_succ, List.getElem?_cons_zero]; rfl, by kernel_rfl, by kernel_rfl, by kernel_rfl, ?_⟩
                          refine ⟨?_, fun _ _ _ h => h, Or.inl ⟨by rfl, ?_⟩, by assumption, ?_⟩
                          rotate_left
                          · (intro w hSw; (try dsimp only at hSw); go_simp; try with_reducible rfl)
                          try simp only [Act.put, List.setIfInBounds_toArray, List.set_cons_zero, List.set_cons_succ]
                          refine take_w 18 ⟨_, by simp only [List.getElem?_toArray, List.getElem?_cons_succ, List.getElem?_cons_zero]; rfl, by kernel_rfl, by kernel_rfl, by kernel_rfl, ?_⟩
                          refine ⟨?_, fun _ _ _ h => h, Or.inl ⟨by rfl, ?_⟩, by assumption, ?_⟩
                          rotate_left
                          · (intro w hSw; (try dsimp only at hSw); go_simp; try with_reducible rfl)
                          try simp only [Act.put, List.setIfInBounds_toArray, List.set_cons_zero, List.set_cons_succ]
                          refine take_w 19 ⟨_, by simp only [List.getElem?_toArray, List.getElem?_cons_succ, List.getElem?_cons_zero]; rfl, by kernel_rfl, by kernel_rfl, by kernel_rfl, ?_⟩
                          refine ⟨?_, fun _ _ _ h => h, Or.inl ⟨by rfl, ?_⟩, by assumption, ?_⟩
                          rotate_left
                          · (intro w hSw; (try dsimp only at hSw); go_simp; try with_reducible rfl)
                          try simp only [Act.put, List.setIfInBounds_toArray, List.set_cons_zero, List.set_cons_succ]
                          refine call_w 20 ⟨_, by simp only [List.getElem?_toArray, List.getElem?_cons_succ, List.getElem?_cons_zero]; rfl, by kernel_rfl, ?_, ?_⟩
                          · rfl
                          intro K hK
                          go_simp
                          with_reducible (refine (CC.out _).mono ?_); rintro e wn2 ⟨rfl, hbn2⟩
                          refine hK.out _ _ ?_ (fun hHeld => ?_)
                          · ((try dsimp only); (first | (with_reducible assumption) | (exact keep6 (by with_reducible assumption) (by with_reducible assumption)) | (with_reducible exact HS0.out)))
                          clear hK K
                          try simp only [Act.put, List.setIfInBounds_toArray, List.set_cons_zero, List.set_cons_succ]
                          refine take_w 21 ⟨_, by simp only [List.getElem?_toArray, List.getElem?_cons_succ, List.getElem?_cons_zero]; rfl, by kernel_rfl, by kernel_rfl, by kernel_rfl, ?_⟩
                          refine ⟨?_, fun _ _ _ h => h, Or.inl ⟨by rfl, ?_⟩, by assumption, ?_⟩
                          rotate_left
                          · (intro w hSw; (try dsimp only at hSw); go_simp; try with_reducible rfl)
                          try simp only [Act.put, List.setIfInBounds_toArray, List.set_cons_zero, List.set_cons_succ]
                          refine take_w 22 ⟨_, by simp only [List.getElem?_toArray, List.getElem?_cons_succ, List.getElem?_cons_zero]; rfl, by kernel_rfl, by kernel_rfl, by kernel_rfl, ?_⟩
                          refine ⟨?_, fun _ _ _ h => h, Or.inl ⟨by rfl, ?_⟩, by assumption, ?_⟩
                          rotate_left
                          · (intro w hSw; (try dsimp only at hSw); go_simp; try with_reducible rfl)
                          try simp only [Act.put, List.setIfInBounds_toArray, List.set_cons_zero, List.set_cons_succ]
                          refine take_w 23 ⟨_, by simp only [List.getElem?_toArray, List.getElem?_cons_succ, List.getElem?_cons_zero]; rfl, by kernel_rfl, by kernel_rfl, by kernel_rfl, ?_⟩
                          refine ⟨?_, fun _ _ _ h => h, Or.inl ⟨by rfl, ?_⟩, by assumption, ?_⟩
                          rotate_left
                          · (intro w hSw; (try dsimp only at hSw); go_simp; try with_reducible rfl)
                          try simp only [Act.put, List.setIfInBounds_toArray, List.set_cons_zero, List.set_cons_succ]
                          refine take_w 24 ⟨_, by simp only [List.getElem?_toArray, List.getElem?_cons_succ, List.getElem?_cons_zero]; rfl, by kernel_rfl, by kernel_rfl, by kernel_rfl, ?_⟩
                          refine ⟨?_, fun _ _ _ h => h, Or.inl ⟨by rfl, ?_⟩, by assumption, ?_⟩
                          rotate_left
                          · (intro w hSw; (try dsimp only at hSw); go_simp; try with_reducible rfl)
                          try simp only [Act.put, List.setIfInBounds_toArray, List.set_cons_zero, List.set_cons_succ]
                          refine take_w 25 ⟨_, by simp only [List.getElem?_toArray, List.getElem?_cons_succ, List.getElem?_cons_zero]; rfl, by kernel_rfl, by kernel_rfl, by kernel_rfl, ?_⟩
                          refine ⟨?_, fun _ _ _ h => h, Or.inl ⟨by rfl, ?_⟩, by assumption, ?_⟩
                          rotate_left
                          · (intro w hSw; (try dsimp only at hSw); go_simp; try with_reducible rfl)
                          try simp only [Act.put, List.setIfInBounds_toArray, List.set_cons_zero, List.set_cons_succ]
                          refine take_w 26 ⟨_, by simp only [List.getElem?_toArray, List.getElem?_cons_succ, List.getElem?_cons_zero]; rfl, by kernel_rfl, by kernel_rfl, by kernel_rfl, ?_⟩
                          refine ⟨?_, fun _ _ _ h => h, Or.inl ⟨by rfl, ?_⟩, by assumption, ?_⟩
                          rotate_left
                          · (intro w hSw; (try dsimp only at hSw); go_simp; try with_reducible rfl)
                          try simp only [Act.put, List.setIfInBounds_toArray, List.set_cons_zero, List.set_cons_succ]
                          refine take_w 27 ⟨_, by simp only [List.getElem?_toArray, List.getElem?_cons_succ, List.getElem?_cons_zero]; rfl, by kernel_rfl, by kernel_rfl, by kernel_rfl, ?_⟩
                          refine ⟨?_, fun _ _ _ h => h, Or.inl ⟨by rfl, ?_⟩, by assumption, ?_⟩
                          rotate_left
                          · (intro w hSw; (try dsimp only at hSw); go_simp; try with_reducible rfl)
                          try simp only [Act.put, List.setIfInBounds_toArray, List.set_cons_zero, List.set_cons_succ]
                          refine take_w 28 ⟨_, by simp only [List.getElem?_toArray, List.getElem?_cons_succ, List.getElem?_cons_zero]; rfl, by kernel_rfl, by kernel_rfl, by kernel_rfl, ?_⟩
                          refine ⟨undef, fun _ _ _ h => h, Or.inr ⟨by rfl, rfl⟩, by assumption, ?_⟩
                          try simp only [Act.put, List.setIfInBounds_toArray, List.set_cons_zero, List.set_cons_succ]
                          refine take_w 29 ⟨_, by simp only [List.getElem?_toArray, List.getElem?_cons_succ, List.getElem?_cons_zero]; rfl, by kernel_rfl, by kernel_rfl, by kernel_rfl, ?_⟩
                          refine ⟨undef, fun _ _ _ h => h, Or.inr ⟨by rfl, rfl⟩, by assumption, ?_⟩
                          try simp only [Act.put, List.setIfInBounds_toArray, List.set_cons_zero, List.set_cons_succ]
                          refine take_w 30 ⟨_, by simp only [List.getElem?_toArray, List.getElem?_cons_succ, List.getElem?_cons_zero]; rfl, by kernel_rfl, by kernel_rfl, by kernel_rfl, ?_⟩
                          refine ⟨undef, fun _ _ _ h => h, Or.inr ⟨by rfl, rfl⟩, by assumption, ?_⟩
                          try simp only [Act.put, List.setIfInBounds_toArray, List.set_cons_zero, List.set_cons_succ]
                          refine take_w 31 ⟨_, by simp only [List.getElem?_toArray, List.getElem?_cons_succ, List.getElem?_cons_zero]; rfl, by kernel_rfl, by kernel_rfl, by kernel_rfl, ?_⟩
                          refine ⟨undef, fun _ _ _ h => h, Or.inr ⟨by rfl, rfl⟩, by assumption, ?_⟩
                          try simp only [Act.put, List.setIfInBounds_toArray, List.set_cons_zero, List.set_cons_succ]
                          refine take_w 32 ⟨_, by simp only [List.getElem?_toArray, List.getElem?_cons_succ, List.getElem?_cons_zero]; rfl, by kernel_rfl, by kernel_rfl, by kernel_rfl, ?_⟩
                          refine ⟨undef, fun _ _ _ h => h, Or.inr ⟨by rfl, rfl⟩, by assumption, ?_⟩
                          try simp only [Act.put, List.setIfInBounds_toArray, List.set_cons_zero, List.set_cons_succ]
                          refine take_w 33 ⟨_, by simp only [List.getElem?_toArray, List.getElem?_cons_succ, List.getElem?_cons_zero]; rfl, by kernel_rfl, by kernel_rfl, by kernel_rfl, ?_⟩
                          refine ⟨?_, fun _ _ _ h => h, Or.inl ⟨by rfl, ?_⟩, by assumption, ?_⟩
                          rotate_left
                          · (intro w hSw; (try dsimp only at hSw); go_simp; try with_reducible rfl)
                          try simp only [Act.put, List.setIfInBounds_toArray, List.set_cons_zero, List.set_cons_succ]
                          refine wpAnyH_done (by kernel_rfl) ?_ _
                          go_wp2_with fail
                          go_meet
                          exact ⟨rfl, Lib.hid (last7 (by first | with_reducible assumption | with_reducible exact HS0.out))⟩
                        · have g16 : decide ((16 : Int) ≤ (X.2 : Int)) = false := by rw [decide_eq_false_iff_not]; omega
                          by_cases hcm : 4611686018427387903 ≤ cn
                          · obtain rfl : true = sk := by rw [← HSK.out]; exact (skips_c (by rw [HCN.out]; exact hcm)).symm
                            have gc : decide ((4611686018427387903 : Int) ≤ cn) = true := by rw [decide_eq_true_eq]; exact hcm
                            clear hcm
                            first
                              | (go_region_held3 (fun w' => w'.cell? ⟨b, 4 + k * 13 + 4, none⟩ = some (.pointer none) ∧ w'.cell? ⟨b, 4 + k * 13 + 2, none⟩ = some (.int .i64 hn) ∧ w'.cell? ⟨b, 4 + k * 13 + 3, none⟩ = some (.string ⟨hx.toArray⟩) ∧ w'.cell? ⟨tb, 0, none⟩ = some (.int .i64 tn) ∧ w'.cell? ⟨tb, 1, none⟩ = some (.string ⟨tt.toArray⟩) ∧ w'.cell? ⟨b, 2, none⟩ = some (.int .i64 cn) ∧ Below wy.heap.size wy w')
                                  (first
                                    | (with_reducible assumption)
                                    | (exact keep6 (by with_reducible assumption) (by with_reducible assumption))
                                    | (with_reducible exact HS0.out))
                                  (first
                                    | (go_at_call 28; with_reducible (refine (CI.out _).mono ?_); rintro e wn ⟨rfl, hbn⟩)
                                    | ((with_reducible (refine (CC.out _).mono ?_)); rintro e wn ⟨rfl, hbn⟩)
                                    | fail))
                              | fail
                            go_wp2_with fail
                            go_meet
                            exact ⟨rfl, Lib.hid (last7 (by first | with_reducible assumption | with_reducible exact HS0.out))⟩
                          · obtain rfl : false = sk := by rw [← HSK.out]; exact (skips_no KO.out (by rw [HHD.out, HTG.out]; exact HR1.out) (by rw [HHD.out, HTG.out]; exact HR2.out) h16 (by rw [HCN.out]; exact hcm)).symm
                            have gc : decide ((4611686018427387903 : Int) ≤ cn) = false := by rw [decide_eq_false_iff_not]; exact hcm
                            clear hcm
                            first
                              | (go_region_held3 (fun w' => w'.cell? ⟨b, 4 + k * 13 + 4, none⟩ = some (.pointer none) ∧ w'.cell? ⟨b, 4 + k * 13 + 2, none⟩ = some (.int .i64 hn) ∧ w'.cell? ⟨b, 4 + k * 13 + 3, none⟩ = some (.string ⟨hx.toArray⟩) ∧ w'.cell? ⟨tb, 0, none⟩ = some (.int .i64 tn) ∧ w'.cell? ⟨tb, 1, none⟩ = some (.string ⟨tt.toArray⟩) ∧ w'.cell? ⟨b, 2, none⟩ = some (.int .i64 cn) ∧ Below wy.heap.size wy w')
                                  (first
                                    | (with_reducible assumption)
                                    | (exact keep6 (by with_reducible assumption) (by with_reducible assumption))
                                    | (with_reducible exact HS0.out))
                                  (first
                                    | (go_at_call 28; with_reducible (refine (CI.out _).mono ?_); rintro e wn ⟨rfl, hbn⟩)
                                    | ((with_reducible (refine (CC.out _).mono ?_)); rintro e wn ⟨rfl, hbn⟩)
                                    | fail))
                              | fail
                            go_wp2_with fail
                            go_meet
                            exact ⟨rfl, Lib.hid (last7 (by first | with_reducible assumption | with_reducible exact HS0.out))⟩
                case rest =>
                  obtain ⟨rfl, HX2⟩ := hcut
                  have HFX : Hid (FillSt a0 a1 w0 w T b F X wc) := Lib.hid (FillSt.below (FillSt.below ⟨T1, P1, HS.out, HB.out, HT1.out, HF1.out, HFb.out, hX64⟩ HC.out.1) HX2.out)
                  clear s2 s3 s4 c2 SX CI CC
                  have b0' : wc.cell? ⟨tb, 0, none⟩ = some (.int .i64 tn) := (HX2.out.cell (World.block_lt_of_cell? wy _ b0)).trans b0
                  have b1' : wc.cell? ⟨tb, 1, none⟩ = some (.string ⟨tt.toArray⟩) := (HX2.out.cell (World.block_lt_of_cell? wy _ b1)).trans b1
                  clear b0 b1
                  cases sk with
                  | true =>
                    have HX' : Hid (fillC now c X0 (k + 1) = X) := Lib.hid (by rw [fillC_succ, HX.out, fill1_skip HSK.out])
                    have HN : Hid (∀ q, FillSt a0 a1 w0 w T b F X (wc.drewN q)) := Lib.hid fun q => HFX.out.below ((Below.refl _ _).drewN q)
                    go_wp2_with fail
                    go_roundw
                    case rel => exact ⟨k + 1, X, by go_num, by omega, rfl, HX', by first | exact HFX | exact Lib.hid (HN.out _)⟩
                    case measure => simp [intOf]; omega
                  | false =>
                    have HX' : Hid (fillC now c X0 (k + 1) = (outNew X.1 now k, X.2 + 1)) := Lib.hid (by rw [fillC_succ, HX.out, fill1_new HSK.out])
                    have CN : Hid (∀ W, Below wc.heap.size wc W → Calls Tryd.prog 41 #[.pointer (some ⟨b, 0, none⟩), .int .i64 k, .agg #[.int .i64 tn, .string ⟨tt.toArray⟩]] W fun e w' => ∃ g, e = .returned (.pointer (some ⟨g, 0, none⟩)) ∧ w'.frozen? ⟨b, 4 + k * 13 + 4, none⟩ = false ∧ (∃ v, w'.cell? ⟨b, 4 + k * 13 + 4, none⟩ = some v) ∧ FillSt a0 a1 w0 w T b F (outNew X.1 now k, X.2 + 1) (w'.setCell ⟨b, 4 + k * 13 + 4, none⟩ (.pointer (some ⟨g, 0, none⟩)))) := Lib.hid (fun W hW => by
                      have := fill_next (HFX.out.below hW) HTB.out hk64 HSK.out
                      rw [HTG.out] at this
                      unfold Kn.enc at this
                      rw [HTN.out, HTT.out] at this
                      exact this)
                    have KR := Lib.hid (Below.refl wc.heap.size wc)
                    have hX16 : (X.2 : Int) < 16 := by have := (skips_false HSK.out).2.2.2.1; omega
                    clear hX64
                    go_wp2_with (first
                      | (go_at_call 41; with_reducible (refine (CN.out _ (by first | exact KR.out | exact KR.out.drew | exact KR.out.drewN _)).mono ?_); rintro e wn ⟨g, rfl, fz, ⟨v0, cv⟩, hFN⟩; have HFN2 := Lib.hid hFN; clear hFN)
                      | fail)
                    go_wp2_with fail
                    go_roundw
                    case rel => exact ⟨k + 1, (outNew X.1 now k, X.2 + 1), by go_num, by omega, by go_num, HX', by first | exact HFN2 | exact Lib.hid (HFN2.out.below ((Below.refl _ _).drewN _))⟩
                    case measure => simp [intOf]; omega
            · obtain rfl : k = 64 := by omega
              have HX' : Hid (fillK now (D, n0) (c + 1) = X) := Lib.hid (by rw [fillK_succ, HX0.out, HX.out])
              go_wp2_with fail
              go_roundw
              case rel => exact ⟨c + 1, X, by go_num, by omega, rfl, HX', by first | exact HF2 | exact Lib.hid (HF2.out.below ((Below.refl _ _).drewN _))⟩
              case measure => simp [intOf]; omega
        · obtain rfl : c = 3 := by omega
          have HP : Hid (S.plan now = X0.1) := Lib.hid (by unfold Sen.plan; rw [HD.out, HN0.out, HX0.out])
          obtain ⟨T1, P1, hS, hbut, hT1, hF1, hFb, hX64⟩ := HFS.out
          have HRES : Hid (∃ (T' : Nat → Prop) (P' : Nat → Option Nat), Snd a0 a1 w0 T' wr b (S.plan now) P' ∧ But T w.heap.size w wr ∧ ∀ k, T' k → T k ∨ w.heap.size ≤ k) := Lib.hid ⟨T1, P1, by rw [HP.out]; exact hS, hbut, hT1⟩
          clear hS hbut hT1 hF1 hFb
          go_wp2_with fail
          exact ⟨rfl, .tuple #[], by simp [results, Tryd.results27, go_sem], rfl, HRES.out⟩
end Go.Proofs.YtefloieanpgnmaaDoor

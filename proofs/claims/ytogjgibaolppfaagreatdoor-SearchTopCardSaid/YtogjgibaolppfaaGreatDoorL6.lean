/- The walk of one law of the sender. Conditions: those that each theorem names. -/
import Derived.Test.YtogjgibaolppfaaGreatDoorK29
import Derived.Deep.QuietTactic
import Derived.BigQuiet
/- The law SearchTop, walked. -/
namespace Go.Proofs.YtogjgibaolppfaaGreatDoor
open Go.RowKit Go.Sort Go.Proofs Go.Maps Go.Lib

set_option maxRecDepth 100000 in
set_option maxHeartbeats 8000000 in
theorem lawTop_any (v : Value) (ds : List Int) (u : Value) (xs : List Int) (n : Int) (hn : I64 n) (w : World) (hv : IntsL w v ds) (hu : IntsL w u xs) (hE : Env w) :
    Calls Tryz.prog 8 #[v, u, .int .i64 n] w fun e w' => e = .returned (.bool true) ∧ Below w.heap.size w w' := by
  have HS := Lib.hid (sane_any w hE)
  have HE := Lib.hid hE
  have HV := Lib.hid hv
  have HU := Lib.hid hu
  obtain ⟨av, cv, hve, -⟩ := hv
  subst hve
  obtain ⟨au, cu, hue, -⟩ := hu
  subst hue
  clear hE
  go_enter Tryz.func8, Tryz.ntmps8
  go_wp2_with (first
    | (go_at_call 12; (with_reducible (refine HS.out.mono ?_)); rintro e w1 ⟨rfl, hb⟩; have HB1 := Lib.hid hb; clear hb; have HMA := Lib.hid (made_law _ ds w1 (HV.out.below HB1.out)))
    | (go_at_call 19; (with_reducible (refine HMA.out.mono ?_)); rintro e w2 ⟨p, y, rfl, hI, hb⟩; have HI2 := Lib.hid hI; have HB2 := Lib.hid (bthen HB1.out hb); clear hI hb; have HPS := Lib.hid (parts_law _ xs w2 (HU.out.below HB2.out)))
    | (go_at_call 15; (with_reducible (refine HPS.out.mono ?_)); rintro e w3 ⟨g, c, P, rfl, hP, hL, hb⟩)
    | fail)
  have HB3 := Lib.hid (bthen HB2.out hb)
  have HI3 := Lib.hid (HI2.out.below hb)
  obtain ⟨l, hl⟩ : ∃ l, P.map (·.1) = l := ⟨_, rfl⟩
  have HPA := Lib.hid hP.at
  rw [hl] at hL HPA
  have HFO := Lib.hid (refForm_any _ l w3 HPA.out hL.ok hL.eight)
  have HPF := Lib.hid hL.parse
  have hfl := hL.len
  have hall := HI3.out.all l
  have HA : Hid (∀ (j : Nat) (x y : Int × Nat), (resD (mD ds (min ds.length 12)) l)[j]? = some x → (resD (mD ds (min ds.length 12)) l)[j + 1]? = some y → HLt x y) := Lib.hid (fun j x y hx hy => by
    obtain ⟨h1, rfl⟩ := List.getElem?_eq_some_iff.1 hx
    obtain ⟨h2, rfl⟩ := List.getElem?_eq_some_iff.1 hy
    exact res_near HI3.out.asc l h2)
  have hr256 := res_le HI3.out.asc HI3.out.ids l
  have HRA := Lib.hid (HI3.out.runF (HE.out.below HB3.out) HPF.out (by omega) 256 (by decide))
  obtain ⟨D, hD⟩ : ∃ D, mD ds (min ds.length 12) = D := ⟨_, rfl⟩
  rw [hD] at hall HA hr256 HRA HI3
  rw [hall] at HRA
  have HRF : Hid (∀ W, Below w3.heap.size w3 W → Calls Tryz.prog 20 #[.pointer (some ⟨p, 0, none⟩), .string ⟨(formL l).toArray⟩, .int .i64 n] W fun e w' => ∃ a c, e = .returned (.tuple #[.slice a ((resD D l).take n.toNat).length c, .int .i64 ((resD D l).length : Int), .int .i64 0]) ∧ HitsAt w' (.slice a ((resD D l).take n.toNat).length c) ((resD D l).take n.toNat) ∧ Below W.heap.size W w') := Lib.hid (fun W hW => (HI3.out.below hW).runF (HE.out.below (bthen HB3.out hW)) HPF.out (by omega) n hn)
  obtain ⟨R, hR⟩ : ∃ R, resD D l = R := ⟨_, rfl⟩
  obtain ⟨F, hF⟩ : ∃ F, formL l = F := ⟨_, rfl⟩
  rw [hR, hF] at HRA HRF
  rw [hR] at HA hr256
  rw [hF] at HFO
  obtain ⟨T, hT⟩ : ∃ T, R.take n.toNat = T := ⟨_, rfl⟩
  have hTl : (T.length : Int) = max 0 (min n (R.length : Int)) := by rw [← hT, List.length_take]; omega
  rw [hT] at HRF
  have HT := Lib.hid hT
  have gT : ((T.length : Int) != max 0 (min n (R.length : Int))) = false := by rw [hTl]; simp
  clear hTl hT hF hR hD hall hL hl hP hb HPF HPA HS HMA HPS HB1 HB2 HI2 HI3 hfl
  go_wp2_with (first
    | (go_at_call 32; (with_reducible (refine HFO.out.mono ?_)); rintro e wx ⟨rfl, rfl⟩)
    | (go_at_call 20; (with_reducible (refine HRA.out.mono ?_)); rintro e w4 ⟨aa, ca, rfl, hh, hb⟩; have HH4 := Lib.hid hh; have HB4 := Lib.hid (bthen HB3.out hb); have HRF4 := Lib.hid (HRF.out w4 hb); clear hh hb)
    | (go_at_call 20; (with_reducible (refine HRF4.out.mono ?_)); rintro e w5 ⟨af, cf, rfl, hh, hb⟩; have HT5 := Lib.hid hh; have HH5 := Lib.hid (HH4.out.below hb); have HB5 := Lib.hid (bthen HB4.out hb); clear hh hb)
    | fail)
  clear HFO HRA HRF HRF4 HH4 HB4 HB3 HE HV HU gT
  go_loopw [7, 17] (fun v7 v17 wr => ∃ j : Nat, v17 = .int .i64 j ∧ j ≤ R.length ∧ v7 = .bool true ∧ ∃ m, wr = w5.drewN m) (fun _ v17 _ => R.length - (intOf v17).toNat)
  case atStart => exact ⟨0, rfl, Nat.zero_le _, rfl, 0, rfl⟩
  case round =>
    obtain ⟨j, rfl, hj, rfl, mm, rfl⟩ := hrel
    by_cases hjl : j < R.length
    · have hji : (j : Int) < (R.length : Int) := by omega
      obtain ⟨a1, c1, e1, -, -, hc⟩ := HH5.out
      injection e1 with e11 _ e13
      subst e11; subst e13
      obtain ⟨b, off, rfl, d0, d1⟩ := hc j hjl
      go_upto_region 11 with fail
      go_cut [7] (fun v wx => v = .bool true ∧ ∃ m, wx = w5.drewN m)
      case first =>
        rcases Nat.eq_zero_or_pos j with h0 | h0
        · subst h0
          clear hc d0 d1 HH5 HT5
          go_quiet (fail)
          go_wp2_with fail
          go_meet
          exact ⟨rfl, _, by first | rfl | simp⟩
        · obtain ⟨i, rfl⟩ : ∃ i, j = i + 1 := ⟨j - 1, by omega⟩
          obtain ⟨b', off', e', c0, c1⟩ := hc i (by omega)
          injection e' with e'
          injection e' with e1 e2
          subst e1; subst e2
          have hl := HA.out i _ _ (List.getElem?_eq_getElem (by omega)) (List.getElem?_eq_getElem hjl)
          obtain ⟨x, hx⟩ : ∃ x, R[i] = x := ⟨_, rfl⟩
          obtain ⟨y', hy⟩ : ∃ y, R[i + 1] = y := ⟨_, rfl⟩
          rw [hx] at c0 c1 hl
          rw [hy] at d0 d1 hl
          clear hx hy hc HH5 HT5
          obtain ⟨x1, x2⟩ := x
          obtain ⟨y1, y2⟩ := y'
          simp only [HLt] at c0 c1 d0 d1 hl
          rw [← Nat.add_assoc] at c1 d1
          have hi0 : (i : Int) < (R.length : Int) := by omega
          have hi1 : (i : Int) + 1 < (R.length : Int) := by omega
          have g0 : (((i + 1 : Nat) : Int) == 0) = false := by rw [beq_eq_false_iff_ne]; omega
          have g0' : ((i : Int) + 1 == 0) = false := by rw [beq_eq_false_iff_ne]; omega
          rcases hl with hl | ⟨rfl, hl2⟩
          · have e1 : decide ((y2 : Int) < (x2 : Int)) = true := decide_eq_true (by omega)
            have e1' : decide (y2 < x2) = true := decide_eq_true hl
            go_quiet (fail)
            go_wp2_with fail
            go_meet
            exact ⟨rfl, _, by first | rfl | simp⟩
          · have e3 : decide (x1 < y1) = true := decide_eq_true hl2
            go_quiet (fail)
            go_wp2_with fail
            go_meet
            exact ⟨rfl, _, by first | rfl | simp⟩
      case rest =>
        obtain ⟨rfl, m2, rfl⟩ := hcut
        by_cases htl : T.length ≤ j
        · have g1 : decide ((T.length : Int) ≤ (j : Int)) = true := decide_eq_true (by omega)
          have g1' : decide (T.length ≤ j) = true := decide_eq_true htl
          clear hc d0 d1 HH5 HT5
          go_wp2_with fail
          go_quiet (fail)
          go_wp2_with fail
          go_roundw
          case rel => exact ⟨j + 1, by go_num, by omega, rfl, _, rfl⟩
          case measure => simp [intOf]; omega
        · have g1 : decide ((T.length : Int) ≤ (j : Int)) = false := decide_eq_false (by omega)
          have g1' : decide (T.length ≤ j) = false := decide_eq_false htl
          obtain ⟨a2, c2, e2, -, -, ht⟩ := HT5.out
          injection e2 with e21 _ e23
          subst e21; subst e23
          obtain ⟨b2, off2, rfl, f0, f1⟩ := ht j (by omega)
          have hTR : T[j]'(by omega) = R[j] := by
            have := HT.out
            subst this
            exact List.getElem_take ..
          rw [hTR] at f0 f1
          rw [← Nat.add_assoc] at f1 d1
          generalize R[j] = x at *
          have hj0 : (0 : Int) ≤ (j : Int) := by omega
          have hjt : (j : Int) < (T.length : Int) := by omega
          clear hc ht HH5 HT5 hTR
          go_wp2_with fail
          go_quiet (fail)
          go_wp2_with fail
          go_roundw
          case rel => exact ⟨j + 1, by go_num, by omega, rfl, _, rfl⟩
          case measure => simp [intOf]; omega
    · obtain rfl : j = R.length := by omega
      go_wp2_with fail
      go_ret
      exact ⟨rfl, HB5.out.drewN _⟩
end Go.Proofs.YtogjgibaolppfaaGreatDoor

/- Facts and contracts for the laws of the sender, part 30. Conditions: those that each theorem names. -/
import Derived.Test.YtogjgibaolppfaaGreatDoorK26
import Derived.Test.YtogjgibaolppfaaGreatDoorK22
import Derived.Test.YtogjgibaolppfaaGreatDoorK19
import Derived.IntWalk
/- search: Suggest of no index. -/
namespace Go.Proofs.YtogjgibaolppfaaGreatDoor
open Go.RowKit Go.Lib Go.Proofs Go.Sort Go.Maps

set_option maxRecDepth 100000 in
set_option maxHeartbeats 4000000 in
theorem sug_nil (w : World) (q : List UInt8) (hq : q.length ≤ 100000) (n : Int) :
    Calls Tryz.prog 25 #[.pointer none, .string ⟨q.toArray⟩, .int .i64 n] w fun e w' => e = .returned (.slice none 0 0) ∧ Below w.heap.size w w' := by
  obtain ⟨i0, hi, hz0, hz1, hz2⟩ := info_parts infoStrP
  have hst := stem_le q
  have hht := head_take q
  have hat := fun k h1 h2 h3 => @stem_at q k h1 h2 h3
  obtain ⟨m, hm⟩ : ∃ m, q.length - (stemF q).length = m := ⟨_, rfl⟩
  rw [hm] at hht
  simp only [hm] at hat
  have hmq : m ≤ q.length := by omega
  have hsl : (stemF q).length = q.length - m := by omega
  have hx1 : (⟨q.toArray⟩ : ByteArray).extract 0 m = ⟨(headF q).toArray⟩ := by
    apply ByteArray.ext; apply Array.ext'
    rw [← hht.1]; simp [ByteArray.data_extract]
  have hx2 : (⟨q.toArray⟩ : ByteArray).extract m q.length = ⟨(stemF q).toArray⟩ := by
    apply ByteArray.ext; apply Array.ext'
    rw [← hht.2]; simp [ByteArray.data_extract]
    exact List.take_of_length_le (by simp)
  have HX1 := Lib.hid hx1; have HX2 := Lib.hid hx2; have HAT := Lib.hid hat
  have hhl : (headF q).length ≤ 100000 := by rw [← hht.1, List.length_take]; omega
  obtain ⟨hd, hhd⟩ : ∃ x, headF q = x := ⟨_, rfl⟩
  obtain ⟨st, hste⟩ : ∃ x, stemF q = x := ⟨_, rfl⟩
  rw [hhd] at HX1 hhl
  rw [hste] at HX2 hsl
  clear hx1 hx2 hat hhd hste hht hst hm
  go_enter Tryz.func25, Tryz.ntmps25
  go_wp2_with fail
  go_loop [7] (fun v7 => ∃ k : Nat, v7 = .int .i64 k ∧ m ≤ k ∧ k ≤ q.length) (fun v7 => (intOf v7).toNat)
  case atStart => exact ⟨q.length, rfl, hmq, Nat.le_refl _⟩
  case round =>
    obtain ⟨k, rfl, hk, hkq⟩ := hrel
    go_upto_region 2 with fail
    go_cut [23] (fun v wx => v = .bool (decide (m < k)) ∧ w = wx)
    case first =>
      by_cases h0 : k = 0
      · subst h0
        have g2 : decide (m < 0) = false := decide_eq_false (by omega)
        go_wp2_with fail
        go_meet
        exact ⟨by rw [g2], rfl⟩
      · obtain ⟨k', rfl⟩ : ∃ k', k = k' + 1 := ⟨k - 1, by omega⟩
        have g1 : decide ((0 : Int) < ((k' + 1 : Nat) : Int)) = true := decide_eq_true (by omega)
        have g1' : decide (0 < k' + 1) = true := decide_eq_true (by omega)
        have hiff := HAT.out (k' + 1) hk hkq (by omega)
        simp only [Nat.add_sub_cancel] at hiff
        have hin := fun W => inWord_any ((⟨q.toArray⟩ : ByteArray)[k']'(by show k' < q.toArray.size; simp; omega)) W
        have hd2 : isPart ((⟨q.toArray⟩ : ByteArray)[k']'(by show k' < q.toArray.size; simp; omega)) = decide (m < k' + 1) := by
          show isPart (q[k']'(by omega)) = _
          rw [Bool.eq_iff_iff, hiff, decide_eq_true_eq]; omega
        rw [hd2] at hin
        obtain ⟨B, hB⟩ : ∃ B, decide (m < k' + 1) = B := ⟨_, rfl⟩
        rw [hB] at hin
        have HBB := Lib.hid hB
        clear hB hd2 hiff
        have hk1 : IntKind.i64.wrap (((k' + 1 : Nat) : Int) - 1) = (k' : Int) := by
          rw [show ((k' + 1 : Nat) : Int) - 1 = (k' : Int) by omega]; exact IntWalk.i64_in _ (by omega)
        have hk2 : (k' : Int) < (q.length : Int) := by omega
        go_wp2_with (first
          | (go_at_call 52; (with_reducible (refine (hin _).mono ?_)); rintro e wx ⟨rfl, rfl⟩)
          | fail)
        go_meet
        exact ⟨by rw [HBB.out], rfl⟩
    case rest =>
      obtain ⟨rfl, rfl⟩ := hcut
      by_cases hmk : m < k
      · have g2 : decide (m < k) = true := decide_eq_true hmk
        rw [g2]
        go_wp2_with fail
        go_round
        case rel => exact ⟨k - 1, by go_num, by omega, by omega⟩
        case measure => simp [intOf]; omega
      · have g2 : decide (m < k) = false := decide_eq_false hmk
        rw [g2]
        obtain rfl : k = m := by omega
        have hex1 := HX1.out
        have hex2 := HX2.out
        go_upto_region 4 with fail
        go_region
        clear hex1 hex2 HX1 HX2 HAT g2 hmk hk
        have hbd : Below w.heap.size w w.drew := (Below.refl _ w).drewN 1
        obtain ⟨wd, hwd⟩ : ∃ wd, w.drew = wd := ⟨_, rfl⟩
        rw [hwd] at hbd ⊢
        have HBD := Lib.hid hbd
        clear hwd hbd
        go_wp2_with fail
        go_ret
        exact ⟨rfl, HBD.out⟩
end Go.Proofs.YtogjgibaolppfaaGreatDoor
/- the reference: Stem. -/
namespace Go.Proofs.YtogjgibaolppfaaGreatDoor
open Go.RowKit Go.Lib Go.Proofs

theorem extract_drop (q : List UInt8) (k : Nat) : (⟨q.toArray⟩ : ByteArray).extract k q.length = ⟨(q.drop k).toArray⟩ := by
  apply ByteArray.ext; apply Array.ext'
  simp [ByteArray.data_extract]
  exact List.take_of_length_le (by simp)
set_option maxRecDepth 100000 in
set_option maxHeartbeats 4000000 in
theorem refStem_any (q : List UInt8) (hq : q.length ≤ 1000000) (w : World) :
    Calls Tryz.prog 36 #[.string ⟨q.toArray⟩] w fun e w' => e = .returned (.string ⟨(stemF q).toArray⟩) ∧ w = w' := by
  have hst := stem_le q
  have HAT := Lib.hid (fun k h1 h2 h3 => @stem_at q k h1 h2 h3)
  have HT := Lib.hid (head_take q).2
  obtain ⟨R, hR⟩ : ∃ R, stemF q = R := ⟨_, rfl⟩
  rw [hR] at HAT HT hst ⊢
  obtain ⟨m, hm⟩ : ∃ m, q.length - R.length = m := ⟨_, rfl⟩
  rw [hm] at HT
  have HAT2 : Hid (∀ k, m ≤ k → ∀ (h2 : k ≤ q.length) (h3 : 0 < k), isPart (q[k - 1]'(by omega)) = true ↔ m ≤ k - 1) := Lib.hid (fun k h1 h2 h3 => by rw [← hm]; exact HAT.out k (by omega) h2 h3)
  have hmq : m ≤ q.length := by omega
  clear hm hR HAT hst
  go_enter Tryz.func36, Tryz.ntmps36
  have hw1 : IntKind.i64.wrap ((q.length : Int) - 1) = (q.length : Int) - 1 := IntWalk.i64_in _ (by omega)
  go_wp2_with fail
  clear hw1
  go_loop [3, 4] (fun v3 v4 => ∃ (k : Nat) (z : Int), v4 = .int .i64 z ∧ z = (k : Int) - 1 ∧ m ≤ k ∧ k ≤ q.length ∧ v3 = .string ⟨(q.drop k).toArray⟩) (fun _ v4 => (intOf v4 + 1).toNat)
  case atStart => exact ⟨q.length, _, rfl, rfl, hmq, Nat.le_refl _, by rw [List.drop_length]⟩
  case round =>
    obtain ⟨k, z, rfl, hz, hk, hkq, rfl⟩ := hrel
    by_cases h0 : k = 0
    · have g0 : ¬ (0 : Int) ≤ z := by omega
      have hm0 : m = 0 := by omega
      have HR : Hid (q.drop k = R) := Lib.hid (by rw [← HT.out, h0, hm0])
      clear hz h0 hm0 hk
      go_wp2_with fail
      go_ret
      exact ⟨by rw [← HR.out]; rfl, rfl⟩
    · obtain ⟨k', rfl⟩ : ∃ k', k = k' + 1 := ⟨k - 1, by omega⟩
      obtain rfl : z = (k' : Int) := by omega
      have g0 : (0 : Int) ≤ (k' : Int) := by omega
      have hk2 : (k' : Int) < (q.length : Int) := by omega
      have hiff := HAT2.out (k' + 1) hk hkq (by omega)
      simp only [Nat.add_sub_cancel] at hiff
      have hbe : (⟨q.toArray⟩ : ByteArray)[k']'(by show k' < q.toArray.size; simp; omega) = q[k']'(by omega) := rfl
      have HIF : Hid (isPart ((⟨q.toArray⟩ : ByteArray)[k']'(by show k' < q.toArray.size; simp; omega)) = true ↔ m ≤ k') := Lib.hid hiff
      clear hz h0 hiff hbe
      go_upto_region 6 with fail
      obtain ⟨c, hc⟩ : ∃ c, (⟨q.toArray⟩ : ByteArray)[k']'(by show k' < q.toArray.size; simp; omega) = c := ⟨_, rfl⟩
      rw [hc] at HIF ⊢
      have HPY : Hid (((97 ≤ c.toNat ∧ c.toNat ≤ 122) ∨ (65 ≤ c.toNat ∧ c.toNat ≤ 90) ∨ (48 ≤ c.toNat ∧ c.toNat ≤ 57)) → isPart c = true) := Lib.hid (fun h => isPart_of h)
      have HPN : Hid (¬ ((97 ≤ c.toNat ∧ c.toNat ≤ 122) ∨ (65 ≤ c.toNat ∧ c.toNat ≤ 90) ∨ (48 ≤ c.toNat ∧ c.toNat ≤ 57)) → isPart c = false) := Lib.hid (fun h => not_isPart_of h)
      have HNO : Hid (isPart c = false → q.drop (k' + 1) = R) := Lib.hid (fun h => by
        have h1 : ¬ m ≤ k' := fun e => by rw [HIF.out.2 e] at h; cases h
        rw [← HT.out, show m = k' + 1 by omega])
      have hc256 := c.toNat_lt
      obtain ⟨n, hn⟩ : ∃ n, c.toNat = n := ⟨_, rfl⟩
      rw [hn] at HPY HPN hc256 ⊢
      have hex := extract_drop q k'
      have h7 : (97 ≤ n ∧ n ≤ 122) ∨ (65 ≤ n ∧ n ≤ 90) ∨ (48 ≤ n ∧ n ≤ 57) ∨ n ≤ 47 ∨ (58 ≤ n ∧ n ≤ 64) ∨ (91 ≤ n ∧ n ≤ 96) ∨ 123 ≤ n := by omega
      have hw2 : IntKind.i64.wrap ((k' : Int) - 1) = (k' : Int) - 1 := IntWalk.i64_in _ (by omega)
      clear hc hn
      rcases h7 with h7 | h7 | h7 | h7 | h7 | h7 | h7
      · have e0 : decide ((97 : Int) ≤ (n : Int)) = true := decide_eq_true (by omega)
        have f0 : decide (97 ≤ n) = true := decide_eq_true (by omega)
        have e1 : decide ((n : Int) ≤ 122) = true := decide_eq_true (by omega)
        have f1 : decide (n ≤ 122) = true := decide_eq_true (by omega)
        have e2 : decide ((65 : Int) ≤ (n : Int)) = true := decide_eq_true (by omega)
        have f2 : decide (65 ≤ n) = true := decide_eq_true (by omega)
        have e3 : decide ((n : Int) ≤ 90) = false := decide_eq_false (by omega)
        have f3 : decide (n ≤ 90) = false := decide_eq_false (by omega)
        have e4 : decide ((n : Int) < 48) = false := decide_eq_false (by omega)
        have f4 : decide (n < 48) = false := decide_eq_false (by omega)
        have e5 : decide ((57 : Int) < (n : Int)) = true := decide_eq_true (by omega)
        have f5 : decide (57 < n) = true := decide_eq_true (by omega)
        have HM := Lib.hid (HIF.out.1 (HPY.out (by omega)))
        clear h7
        go_wp2_with fail
        go_round
        case rel => exact ⟨k', _, rfl, by first | rfl | omega, HM.out, by omega, rfl⟩
        case measure => simp [intOf] <;> omega
      · have e0 : decide ((97 : Int) ≤ (n : Int)) = false := decide_eq_false (by omega)
        have f0 : decide (97 ≤ n) = false := decide_eq_false (by omega)
        have e1 : decide ((n : Int) ≤ 122) = true := decide_eq_true (by omega)
        have f1 : decide (n ≤ 122) = true := decide_eq_true (by omega)
        have e2 : decide ((65 : Int) ≤ (n : Int)) = true := decide_eq_true (by omega)
        have f2 : decide (65 ≤ n) = true := decide_eq_true (by omega)
        have e3 : decide ((n : Int) ≤ 90) = true := decide_eq_true (by omega)
        have f3 : decide (n ≤ 90) = true := decide_eq_true (by omega)
        have e4 : decide ((n : Int) < 48) = false := decide_eq_false (by omega)
        have f4 : decide (n < 48) = false := decide_eq_false (by omega)
        have e5 : decide ((57 : Int) < (n : Int)) = true := decide_eq_true (by omega)
        have f5 : decide (57 < n) = true := decide_eq_true (by omega)
        have HM := Lib.hid (HIF.out.1 (HPY.out (by omega)))
        clear h7
        go_wp2_with fail
        go_round
        case rel => exact ⟨k', _, rfl, by first | rfl | omega, HM.out, by omega, rfl⟩
        case measure => simp [intOf] <;> omega
      · have e0 : decide ((97 : Int) ≤ (n : Int)) = false := decide_eq_false (by omega)
        have f0 : decide (97 ≤ n) = false := decide_eq_false (by omega)
        have e1 : decide ((n : Int) ≤ 122) = true := decide_eq_true (by omega)
        have f1 : decide (n ≤ 122) = true := decide_eq_true (by omega)
        have e2 : decide ((65 : Int) ≤ (n : Int)) = false := decide_eq_false (by omega)
        have f2 : decide (65 ≤ n) = false := decide_eq_false (by omega)
        have e3 : decide ((n : Int) ≤ 90) = true := decide_eq_true (by omega)
        have f3 : decide (n ≤ 90) = true := decide_eq_true (by omega)
        have e4 : decide ((n : Int) < 48) = false := decide_eq_false (by omega)
        have f4 : decide (n < 48) = false := decide_eq_false (by omega)
        have e5 : decide ((57 : Int) < (n : Int)) = false := decide_eq_false (by omega)
        have f5 : decide (57 < n) = false := decide_eq_false (by omega)
        have HM := Lib.hid (HIF.out.1 (HPY.out (by omega)))
        clear h7
        go_wp2_with fail
        go_round
        case rel => exact ⟨k', _, rfl, by first | rfl | omega, HM.out, by omega, rfl⟩
        case measure => simp [intOf] <;> omega
      · have e0 : decide ((97 : Int) ≤ (n : Int)) = false := decide_eq_false (by omega)
        have f0 : decide (97 ≤ n) = false := decide_eq_false (by omega)
        have e1 : decide ((n : Int) ≤ 122) = true := decide_eq_true (by omega)
        have f1 : decide (n ≤ 122) = true := decide_eq_true (by omega)
        have e2 : decide ((65 : Int) ≤ (n : Int)) = false := decide_eq_false (by omega)
        have f2 : decide (65 ≤ n) = false := decide_eq_false (by omega)
        have e3 : decide ((n : Int) ≤ 90) = true := decide_eq_true (by omega)
        have f3 : decide (n ≤ 90) = true := decide_eq_true (by omega)
        have e4 : decide ((n : Int) < 48) = true := decide_eq_true (by omega)
        have f4 : decide (n < 48) = true := decide_eq_true (by omega)
        have e5 : decide ((57 : Int) < (n : Int)) = false := decide_eq_false (by omega)
        have f5 : decide (57 < n) = false := decide_eq_false (by omega)
        have HR : Hid (q.drop (k' + 1) = R) := Lib.hid (HNO.out (HPN.out (by omega)))
        clear h7
        go_wp2_with fail
        go_ret
        exact ⟨by rw [← HR.out]; rfl, rfl⟩
      · have e0 : decide ((97 : Int) ≤ (n : Int)) = false := decide_eq_false (by omega)
        have f0 : decide (97 ≤ n) = false := decide_eq_false (by omega)
        have e1 : decide ((n : Int) ≤ 122) = true := decide_eq_true (by omega)
        have f1 : decide (n ≤ 122) = true := decide_eq_true (by omega)
        have e2 : decide ((65 : Int) ≤ (n : Int)) = false := decide_eq_false (by omega)
        have f2 : decide (65 ≤ n) = false := decide_eq_false (by omega)
        have e3 : decide ((n : Int) ≤ 90) = true := decide_eq_true (by omega)
        have f3 : decide (n ≤ 90) = true := decide_eq_true (by omega)
        have e4 : decide ((n : Int) < 48) = false := decide_eq_false (by omega)
        have f4 : decide (n < 48) = false := decide_eq_false (by omega)
        have e5 : decide ((57 : Int) < (n : Int)) = true := decide_eq_true (by omega)
        have f5 : decide (57 < n) = true := decide_eq_true (by omega)
        have HR : Hid (q.drop (k' + 1) = R) := Lib.hid (HNO.out (HPN.out (by omega)))
        clear h7
        go_wp2_with fail
        go_ret
        exact ⟨by rw [← HR.out]; rfl, rfl⟩
      · have e0 : decide ((97 : Int) ≤ (n : Int)) = false := decide_eq_false (by omega)
        have f0 : decide (97 ≤ n) = false := decide_eq_false (by omega)
        have e1 : decide ((n : Int) ≤ 122) = true := decide_eq_true (by omega)
        have f1 : decide (n ≤ 122) = true := decide_eq_true (by omega)
        have e2 : decide ((65 : Int) ≤ (n : Int)) = true := decide_eq_true (by omega)
        have f2 : decide (65 ≤ n) = true := decide_eq_true (by omega)
        have e3 : decide ((n : Int) ≤ 90) = false := decide_eq_false (by omega)
        have f3 : decide (n ≤ 90) = false := decide_eq_false (by omega)
        have e4 : decide ((n : Int) < 48) = false := decide_eq_false (by omega)
        have f4 : decide (n < 48) = false := decide_eq_false (by omega)
        have e5 : decide ((57 : Int) < (n : Int)) = true := decide_eq_true (by omega)
        have f5 : decide (57 < n) = true := decide_eq_true (by omega)
        have HR : Hid (q.drop (k' + 1) = R) := Lib.hid (HNO.out (HPN.out (by omega)))
        clear h7
        go_wp2_with fail
        go_ret
        exact ⟨by rw [← HR.out]; rfl, rfl⟩
      · have e0 : decide ((97 : Int) ≤ (n : Int)) = true := decide_eq_true (by omega)
        have f0 : decide (97 ≤ n) = true := decide_eq_true (by omega)
        have e1 : decide ((n : Int) ≤ 122) = false := decide_eq_false (by omega)
        have f1 : decide (n ≤ 122) = false := decide_eq_false (by omega)
        have e2 : decide ((65 : Int) ≤ (n : Int)) = true := decide_eq_true (by omega)
        have f2 : decide (65 ≤ n) = true := decide_eq_true (by omega)
        have e3 : decide ((n : Int) ≤ 90) = false := decide_eq_false (by omega)
        have f3 : decide (n ≤ 90) = false := decide_eq_false (by omega)
        have e4 : decide ((n : Int) < 48) = false := decide_eq_false (by omega)
        have f4 : decide (n < 48) = false := decide_eq_false (by omega)
        have e5 : decide ((57 : Int) < (n : Int)) = true := decide_eq_true (by omega)
        have f5 : decide (57 < n) = true := decide_eq_true (by omega)
        have HR : Hid (q.drop (k' + 1) = R) := Lib.hid (HNO.out (HPN.out (by omega)))
        clear h7
        go_wp2_with fail
        go_ret
        exact ⟨by rw [← HR.out]; rfl, rfl⟩
end Go.Proofs.YtogjgibaolppfaaGreatDoor

/- ref19's Diff. -/
import Derived.Test.YtfdholhfdceedaaDoorDifA
import Derived.Test.YtfdholhfdceedaaDoorDelB
namespace Go.Proofs.YtfdholhfdceedaaDoor
open Go.RowKit

theorem insD_len {x : List UInt8} (hx : x.length ≤ 65536) : (insD x).length ≤ 18 + x.length := by
  unfold insD
  split
  · simp
  · have h1 := putInt_len (n := 0) (by decide) (by decide)
    have h2 := putInt_len (n := (x.length : Int)) (by omega) (by omega)
    unfold putStr
    simp only [List.length_append]
    omega

theorem longD_ok (o s : List UInt8) : (longD o s).1 ≤ s.length ∧ (longD o s).2 + (longD o s).1 ≤ o.length ∧ (o.drop (longD o s).2).take (longD o s).1 = s.take (longD o s).1 := longAt_ok o s o.length (Nat.le_refl _)

theorem crcOf_int (x : List UInt8) : -4611686018427387903 ≤ (crcOf x : Int) ∧ (crcOf x : Int) ≤ 4611686018427387903 := by
  have := crcOf_le x
  omega

set_option maxRecDepth 100000 in
set_option maxHeartbeats 4000000 in
theorem refDiff_any (o n : List UInt8) (w : World) (ho : o.length ≤ 9223372036854775000) (hn : n.length ≤ 9223372036854775000) :
    Calls Tryd.prog 13 #[.string ⟨o.toArray⟩, .string ⟨n.toArray⟩] w fun e w' => e = .returned (.string ⟨(diffD o n).toArray⟩) ∧ Below w.heap.size w w' := by
  obtain ⟨R, hR⟩ : ∃ R, diffD o n = R := ⟨_, rfl⟩
  rw [hR]
  have HR := Lib.hid hR; clear hR
  by_cases h1 : 8192 < o.length
  · have g1 : decide ((8192 : Int) < (o.length : Int)) = true := by rw [decide_eq_true_eq]; omega
    go_enter Tryd.func13, Tryd.ntmps13
    go_wp2
    go_ret
    exact ⟨ret_str (by rw [← HR.out, diffD, if_pos (.inl h1)]), Below.refl _ _⟩
  · have g1 : decide ((8192 : Int) < (o.length : Int)) = false := by rw [decide_eq_false_iff_not]; omega
    by_cases h2 : 8192 < n.length
    · have g2 : decide ((8192 : Int) < (n.length : Int)) = true := by rw [decide_eq_true_eq]; omega
      go_enter Tryd.func13, Tryd.ntmps13
      go_wp2
      go_ret
      exact ⟨ret_str (by rw [← HR.out, diffD, if_pos (.inr h2)]), Below.refl _ _⟩
    · have g2 : decide ((8192 : Int) < (n.length : Int)) = false := by rw [decide_eq_false_iff_not]; omega
      have HE : Hid (R = putInt (crcOf o) ++ putInt (crcOf n) ++ opsD o (n.length + 1) n []) := Lib.hid (by rw [← HR.out, diffD, if_neg (by omega)])
      have l1 := putInt_len (crcOf_int o).1 (crcOf_int o).2
      have l2 := putInt_len (crcOf_int n).1 (crcOf_int n).2
      go_enter Tryd.func13, Tryd.ntmps13
      go_wp2_with fail
      refine (refSum_list o _ ho).mono ?_
      rintro e w1 ⟨rfl, rfl⟩
      go_wp2_with fail
      refine (number_any _ _ (crcOf_int o).1 (crcOf_int o).2).mono ?_
      rintro e w1 ⟨rfl, hb1⟩
      go_wp2_with fail
      refine (refSum_list n _ hn).mono ?_
      rintro e w2 ⟨rfl, rfl⟩
      go_wp2_with fail
      refine (number_any _ _ (crcOf_int n).1 (crcOf_int n).2).mono ?_
      rintro e w2 ⟨rfl, hb2⟩
      have hov : ¬ 9223372036854775807 < (putInt (crcOf o)).length + (putInt (crcOf n)).length := by omega
      have HB0 := Lib.hid (below_then hb1 hb2)
      clear hb1 hb2
      go_wp2
      go_loopw [5, 6, 7] (fun a b c wr => ∃ (k f : Nat) (ou fr : List UInt8), c = .int .i64 k ∧ a = .string ⟨ou.toArray⟩ ∧ b = .string ⟨fr.toArray⟩ ∧ k ≤ n.length ∧ n.length < k + f ∧ fr.length ≤ k ∧ ou.length + fr.length ≤ 18 + 100 * k ∧ Hid (R = ou ++ opsD o f (n.drop k) fr) ∧ Hid (Below w.heap.size w wr)) (fun _ _ c _ => n.length - (intOf c).toNat)
      case atStart => exact ⟨0, n.length + 1, putInt (crcOf o) ++ putInt (crcOf n), [], rfl, by rw [str_add], rfl, Nat.zero_le _, by omega, Nat.zero_le _, by simp; omega, HE, HB0⟩
      case round =>
        obtain ⟨k, f, ou, fr, rfl, rfl, rfl, hk, hf, hfr, hou, HO, HW⟩ := hrel
        obtain ⟨f, rfl⟩ : ∃ g, f = g + 1 := ⟨f - 1, by omega⟩
        by_cases hlt : k < n.length
        · obtain ⟨c, t, hct⟩ : ∃ c t, n.drop k = c :: t := ⟨n[k], n.drop (k + 1), by rw [List.drop_eq_getElem_cons hlt]⟩
          have ht : t = n.drop (k + 1) := by
            have := List.drop_eq_getElem_cons hlt
            rw [hct] at this
            exact (List.cons.inj this).2
          have hc1 : (n.drop k).take 1 = [c] := by rw [hct]; rfl
          obtain ⟨b, off, hbo⟩ : ∃ b off, longD o (n.drop k) = (b, off) := ⟨_, _, rfl⟩
          have hok := longD_ok o (n.drop k)
          rw [hbo] at hok
          simp only [List.length_drop] at hok
          have HN : Hid (R = ou ++ if 8 ≤ b then insD fr ++ putInt (b : Int) ++ putInt (off : Int) ++ opsD o f (n.drop (k + b)) [] else opsD o f (n.drop (k + 1)) (fr ++ [c])) := Lib.hid (by
            rw [HO.out, hct, opsD]
            rw [← hct, hbo, ht]
            simp only [List.drop_drop])
          have HC := Lib.hid hc1
          have hbl : b ≤ n.length - k ∧ off + b ≤ o.length := ⟨hok.1, hok.2.1⟩
          clear hct ht hc1 hok
          go_wp2_with fail
          refine (longest_any o n k _ ho hn hk).mono ?_
          rw [hbo]
          clear hbo
          rintro e w3 ⟨rfl, hb3⟩
          have hl3 := insD_len (x := fr) (by omega)
          by_cases h8 : 8 ≤ b
          · have lb := putInt_len (n := (b : Int)) (by omega) (by omega)
            have lo := putInt_len (n := (off : Int)) (by omega) (by omega)
            have ov1 : ¬ 9223372036854775807 < ou.length + (insD fr).length := by omega
            go_wp2_with fail
            refine (ins_any fr _ (by omega)).mono ?_
            rintro e w4 ⟨rfl, hb4⟩
            go_wp2_with fail
            refine (number_any _ _ (by omega) (by omega)).mono ?_
            rintro e w5 ⟨rfl, hb5⟩
            have ov2 : ¬ 9223372036854775807 < ou.length + (insD fr).length + (putInt (b : Int)).length := by omega
            go_wp2_with fail
            refine (number_any _ _ (by omega) (by omega)).mono ?_
            rintro e w6 ⟨rfl, hb6⟩
            have ov3 : ¬ 9223372036854775807 < ou.length + (insD fr).length + (putInt (b : Int)).length + (putInt (off : Int)).length := by omega
            have HB6 := Lib.hid (below_then HW.out (below_then hb3 (below_then hb4 (below_then hb5 hb6))))
            clear hb3 hb4 hb5 hb6
            go_wp2
            go_roundw
            case rel => exact ⟨k + b, f, ou ++ insD fr ++ putInt (b : Int) ++ putInt (off : Int), [], by go_num, by simp only [str_add], rfl, by omega, by omega, by simp, by simp; omega, Lib.hid (by rw [HN.out, if_pos h8]; simp only [List.append_assoc]), HB6.out⟩
            case measure => simp [intOf]; omega
          · have HB6 := Lib.hid (below_then HW.out hb3)
            have ov4 : ¬ 9223372036854775807 < fr.length + 1 := by omega
            go_wp2
            go_roundw
            case rel => exact ⟨k + 1, f, ou, fr ++ [c], by go_num, rfl, by rw [extract_mk, Nat.add_sub_cancel_left, mk_data, HC.out, str_add], by omega, by omega, by simp; omega, by simp; omega, Lib.hid (by rw [HN.out, if_neg h8]), HB6.out⟩
            case measure => simp [intOf]; omega
        · have HF : Hid (R = ou ++ insD fr) := Lib.hid (by rw [HO.out, List.drop_eq_nil_of_le (by omega), opsD])
          have hl3 := insD_len (x := fr) (by omega)
          have ov1 : ¬ 9223372036854775807 < ou.length + (insD fr).length := by omega
          go_wp2_with fail
          refine (ins_any fr _ (by omega)).mono ?_
          rintro e w4 ⟨rfl, hb4⟩
          go_wp2
          go_ret
          exact ⟨ret_str (by rw [HF.out, str_add]), below_then HW.out hb4⟩
end Go.Proofs.YtfdholhfdceedaaDoor

/- ref19's longest and insertion. -/
import Derived.Test.YtfdholhfdceedaaDoorDifM
import Derived.Test.YtfdholhfdceedaaDoorMemL
import Derived.Deep.QuietTactic
import Derived.BigQuiet
namespace Go.Proofs.YtfdholhfdceedaaDoor
open Go.RowKit

theorem wrap_small (x : Int) (h1 : -9223372036854775808 ≤ x) (h2 : x ≤ 9223372036854775807) : IntKind.i64.wrap x = x := by
  unfold IntKind.wrap
  simp [IntKind.bits, IntKind.signed]
  omega

set_option maxRecDepth 100000 in
set_option maxHeartbeats 4000000 in
theorem longest_any (o s : List UInt8) (p : Nat) (w : World) (ho : o.length ≤ 9223372036854775000) (hs : s.length ≤ 9223372036854775000) (hp : p ≤ s.length) :
    Calls Tryd.prog 25 #[.string ⟨o.toArray⟩, .string ⟨s.toArray⟩, .int .i64 (p : Int)] w fun e w' => e = .returned (.tuple #[.int .i64 ((longD o (s.drop p)).1 : Int), .int .i64 ((longD o (s.drop p)).2 : Int)]) ∧ Below w.heap.size w w' := by
  obtain ⟨O, hO⟩ : ∃ O : ByteArray, ⟨o.toArray⟩ = O := ⟨_, rfl⟩
  obtain ⟨S, hS⟩ : ∃ S : ByteArray, ⟨s.toArray⟩ = S := ⟨_, rfl⟩
  have zO : O.size = o.length := by rw [← hO, mk_size]
  have zS : S.size = s.length := by rw [← hS, mk_size]
  have bO : ∀ i (h : i < o.length) (h' : i < O.size), O[i] = o[i] := fun i h h' => by subst hO; rfl
  have bS : ∀ i (h : i < s.length) (h' : i < S.size), S[i] = s[i] := fun i h h' => by subst hS; rfl
  rw [hO, hS]
  clear hO hS
  have HBO := Lib.hid bO; have HBS := Lib.hid bS
  clear bO bS
  go_enter Tryd.func25, Tryd.ntmps25
  go_wp2
  go_loopw [8, 9, 10] (fun b a i wr => ∃ k best off : Nat, i = .int .i64 k ∧ b = .int .i64 best ∧ a = .int .i64 off ∧ k ≤ o.length ∧ best ≤ s.length ∧ Hid (longAt o (s.drop p) k = (best, off)) ∧ Hid (Below w.heap.size w wr)) (fun _ _ i _ => o.length - (intOf i).toNat)
  case atStart => exact ⟨0, 0, 0, rfl, rfl, rfl, Nat.zero_le _, Nat.zero_le _, Lib.hid rfl, Lib.hid (Below.refl _ _)⟩
  case round =>
    obtain ⟨k, best, off, rfl, rfl, rfl, hk, hbs, HL, HW⟩ := hrel
    by_cases hlt : k < o.length
    · obtain ⟨c, hc⟩ : ∃ c, comm (o.drop k) (s.drop p) = c := ⟨_, rfl⟩
      have hcl : c ≤ o.length - k ∧ c ≤ s.length - p := by rw [← hc]; have := comm_le (o.drop k) (s.drop p); simpa using this
      have hmore : ∀ j (h1 : k + j < o.length) (h2 : p + j < s.length), j ≤ c → o[k + j] = s[p + j] → j + 1 ≤ c := by
        intro j h1 h2 hj he
        rw [← hc] at hj ⊢
        exact comm_more _ _ j (by simp; omega) (by simp; omega) hj (by simpa using he)
      have hstop : ∀ j (h1 : k + j < o.length) (h2 : p + j < s.length), j < c → o[k + j] = s[p + j] := by
        intro j h1 h2 hj
        rw [← hc] at hj
        have := comm_eq _ _ j (by simp; omega) (by simp; omega) hj
        simpa using this
      have HC := Lib.hid hc; have HM := Lib.hid hmore; have HSt := Lib.hid hstop
      have HN : Hid (longAt o (s.drop p) (k + 1) = if best < c then (c, k) else (best, off)) := Lib.hid (by rw [longAt, HL.out, hc])
      clear hc hmore hstop
      go_wp2
      go_loopw [11] (fun n wr2 => ∃ j : Nat, n = .int .i64 j ∧ j ≤ c ∧ Hid (Below w.heap.size w wr2)) (fun n _ => c - (intOf n).toNat)
      case atStart => exact ⟨0, rfl, Nat.zero_le _, HW⟩
      case round =>
        obtain ⟨j, rfl, hj, HW2⟩ := hrel
        have hwk : IntKind.i64.wrap ((k : Int) + (j : Int)) = (k : Int) + (j : Int) := wrap_small _ (by omega) (by omega)
        have hwp : IntKind.i64.wrap ((p : Int) + (j : Int)) = (p : Int) + (j : Int) := wrap_small _ (by omega) (by omega)
        by_cases h1 : k + j < o.length
        · have g1 : decide ((k : Int) + (j : Int) < (o.length : Int)) = true := by rw [decide_eq_true_eq]; omega
          by_cases h2 : p + j < s.length
          · have g2 : decide ((p : Int) + (j : Int) < (s.length : Int)) = true := by rw [decide_eq_true_eq]; omega
            have x1 : 0 ≤ (k : Int) + (j : Int) ∧ (k : Int) + (j : Int) < (o.length : Int) := by omega
            have x2 : 0 ≤ (p : Int) + (j : Int) ∧ (p : Int) + (j : Int) < (s.length : Int) := by omega
            have e1 : O[k + j]'(by omega) = o[k + j] := HBO.out _ _ _
            have e2 : S[p + j]'(by omega) = s[p + j] := HBS.out _ _ _
            by_cases h3 : o[k + j] = s[p + j]
            · have hjc := HM.out j h1 h2 hj h3
              go_wp2
              go_quiet (fail)
              go_wp2
              exact ⟨⟨j + 1, by go_num, hjc, Lib.hid (HW2.out.drewN _)⟩, by simp [intOf]; omega⟩
            · have HJ : Hid (j = c) := Lib.hid (by
                rcases Nat.lt_or_ge j c with h | h
                · exact absurd (HSt.out j h1 h2 h) h3
                · exact Nat.le_antisymm hj h)
              have g3 : (((o[k + j].toNat : Nat) : Int) == ((s[p + j].toNat : Nat) : Int)) = false := by
                rw [beq_eq_false_iff_ne]
                intro h
                exact h3 (UInt8.toNat_inj.1 (by omega))
              go_wp2
              go_quiet (fail)
              go_wp2
              all_goals obtain rfl := HJ.out
              all_goals first
                | exact ⟨⟨k + 1, j, k, by go_num, rfl, rfl, by omega, by omega, Lib.hid (by rw [HN.out, if_pos (by assumption)]), Lib.hid (HW2.out.drewN _)⟩, by simp [intOf]; omega⟩
                | exact ⟨⟨k + 1, best, off, by go_num, rfl, rfl, by omega, by omega, Lib.hid (by rw [HN.out, if_neg (by assumption)]), Lib.hid (HW2.out.drewN _)⟩, by simp [intOf]; omega⟩
          · have HJ : Hid (j = c) := Lib.hid (by omega)
            have g2 : decide ((p : Int) + (j : Int) < (s.length : Int)) = false := by rw [decide_eq_false_iff_not]; omega
            go_wp2
            go_quiet (fail)
            go_wp2
            all_goals obtain rfl := HJ.out
            all_goals first
              | exact ⟨⟨k + 1, j, k, by go_num, rfl, rfl, by omega, by omega, Lib.hid (by rw [HN.out, if_pos (by assumption)]), Lib.hid (HW2.out.drewN _)⟩, by simp [intOf]; omega⟩
              | exact ⟨⟨k + 1, best, off, by go_num, rfl, rfl, by omega, by omega, Lib.hid (by rw [HN.out, if_neg (by assumption)]), Lib.hid (HW2.out.drewN _)⟩, by simp [intOf]; omega⟩
        · have HJ : Hid (j = c) := Lib.hid (by omega)
          have g1 : decide ((k : Int) + (j : Int) < (o.length : Int)) = false := by rw [decide_eq_false_iff_not]; omega
          go_wp2
          go_quiet (fail)
          go_wp2
          all_goals obtain rfl := HJ.out
          all_goals first
            | exact ⟨⟨k + 1, j, k, by go_num, rfl, rfl, by omega, by omega, Lib.hid (by rw [HN.out, if_pos (by assumption)]), Lib.hid (HW2.out.drewN _)⟩, by simp [intOf]; omega⟩
            | exact ⟨⟨k + 1, best, off, by go_num, rfl, rfl, by omega, by omega, Lib.hid (by rw [HN.out, if_neg (by assumption)]), Lib.hid (HW2.out.drewN _)⟩, by simp [intOf]; omega⟩
    · go_wp2
      go_ret2
      have hkk : k = o.length := by omega
      exact ⟨by unfold longD; rw [← hkk, HL.out]; rfl, HW.out⟩

theorem ins_any (x : List UInt8) (w : World) (hx : x.length ≤ 65536) :
    Calls Tryd.prog 26 #[.string ⟨x.toArray⟩] w fun e w' => e = .returned (.string ⟨(insD x).toArray⟩) ∧ Below w.heap.size w w' := by
  obtain ⟨R, hR⟩ : ∃ R, insD x = R := ⟨_, rfl⟩
  rw [hR]
  have HR := Lib.hid hR; clear hR
  cases x with
  | nil =>
    go_enter Tryd.func26, Tryd.ntmps26
    go_wp2
    go_ret
    exact ⟨by rw [← HR.out]; rfl, Below.refl _ _⟩
  | cons a l =>
    go_enter Tryd.func26, Tryd.ntmps26
    go_wp2_with fail
    refine (refPutString_any (a :: l) _ hx).mono ?_
    unfold putTup
    rintro e w1 ⟨rfl, hb1⟩
    go_wp2_with fail
    refine (number_any 0 _ (by decide) (by decide)).mono ?_
    rintro e w2 ⟨rfl, hb2⟩
    have hov : ¬ 9223372036854775807 < (putInt 0).length + (putStr (a :: l)).length := by
      have h1 := putInt_len (n := 0) (by decide) (by decide)
      have h2 := putInt_len (n := ((a :: l).length : Int)) (by omega) (by omega)
      unfold putStr
      rw [List.length_append]
      omega
    go_wp2
    go_ret
    exact ⟨ret_str (by rw [← HR.out, insD, if_neg (by simp), str_add]), below_then hb1 hb2⟩
end Go.Proofs.YtfdholhfdceedaaDoor

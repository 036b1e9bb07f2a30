import Derived.Test.YtnhpnipfledihaaDoorDelA
namespace Go.Proofs.YtnhpnipfledihaaDoor
open Go.RowKit

theorem refSum_list (d : List UInt8) (w : World) (hd : d.length ≤ 9223372036854775000) :
    Calls Tryd.prog 29 #[.string ⟨d.toArray⟩] w fun e w' => e = .returned (.int .i64 (crcOf d)) ∧ w = w' := by
  have := refSum_any ⟨d.toArray⟩ w (by rw [mk_size]; omega)
  rwa [mk_data] at this

/-- after the two checksums: what the loop comes to -/
def applyEnd (want : Int) : Except Int (List UInt8) → Except Int (List UInt8)
  | .error e => .error e
  | .ok out => if (crcOf out : Int) = want then .ok out else .error 190

set_option maxRecDepth 100000 in
set_option maxHeartbeats 1000000 in
theorem refApply_any (o d : List UInt8) (w : World) (ho : o.length ≤ 9223372036854775000) (hd : d.length ≤ 9223372036854775000) :
    Calls Tryd.prog 37 #[.string ⟨o.toArray⟩, .string ⟨d.toArray⟩] w fun e w' => e = .returned (exTup (applyD o d)) ∧ Below w.heap.size w w' := by
  obtain ⟨R, hR⟩ : ∃ R, exTup (applyD o d) = R := ⟨_, rfl⟩
  rw [hR]
  have HR := Lib.hid hR; clear hR
  by_cases hlen : 8192 < o.length
  · have HF := Lib.hid (by rw [← HR.out, applyD, if_pos hlen]; rfl : R = .tuple #[.string ⟨#[]⟩, .int .i64 190])
    go_enter Tryd.func37, Tryd.ntmps37
    go_wp2
    go_ret2
    exact ⟨by rw [HF.out]; rfl, Below.refl _ _⟩
  · have h0 : decide ((8192 : Int) < o.length) = false := by rw [decide_eq_false_iff_not]; omega
    go_enter Tryd.func37, Tryd.ntmps37
    go_wp2_with fail
    refine (refInt_list d 0 _ hd (by omega)).mono ?_
    cases hi : intAt d 0 with
    | none =>
      have HF := Lib.hid (by rw [← HR.out, applyD, if_neg hlen, hi]; rfl : R = .tuple #[.string ⟨#[]⟩, .int .i64 10])
      rw [intTup_none]
      rintro e w1 ⟨rfl, hb1⟩
      go_wp2
      go_ret2
      exact ⟨by rw [HF.out]; rfl, hb1⟩
    | some p =>
      obtain ⟨sum, a⟩ := p
      obtain ⟨hk1, hk2, hk3, hk4⟩ := intAt_le (by omega) hi
      have HI := Lib.hid hi; clear hi
      rw [intTup_some]
      rintro e w1 ⟨rfl, hb1⟩
      go_wp2_with fail
      refine (refSum_list o _ ho).mono ?_
      rintro e w2 ⟨rfl, rfl⟩
      by_cases hsum : sum = crcOf o
      · have hsb : ((sum : Int) != (crcOf o : Int)) = false := by rw [hsum]; simp
        have HSM := Lib.hid hsum
        clear hsum
        go_wp2_with fail
        refine (refInt_list d a _ hd hk2).mono ?_
        cases hi2 : intAt d a with
        | none =>
          have HF := Lib.hid (by rw [← HR.out, applyD, if_neg hlen, HI.out]; simp only []; rw [if_pos HSM.out, hi2]; rfl : R = .tuple #[.string ⟨#[]⟩, .int .i64 10])
          rw [intTup_none]
          clear hi2
          rintro e w2 ⟨rfl, hb2⟩
          go_wp2
          go_ret2
          exact ⟨by rw [HF.out]; rfl, below_then hb1 hb2⟩
        | some q =>
          obtain ⟨want, a2⟩ := q
          obtain ⟨hj1, hj2, hj3, hj4⟩ := intAt_le hk2 hi2
          rw [intTup_some]
          have HE := Lib.hid (by rw [← HR.out, applyD, if_neg hlen, HI.out]; simp only []; rw [if_pos HSM.out, hi2]; rfl : R = exTup (applyEnd want (applyGo (d.length + 1) o d a2 [])))
          clear hi2
          rintro e w2 ⟨rfl, hb2⟩
          have hB0 := below_then hb1 hb2
          clear hb1 hb2
          go_wp2
          go_loopw [7, 10] (fun p q wr => ∃ (k f : Nat) (x : List UInt8), p = .int .i64 k ∧ k ≤ d.length ∧ q = .string ⟨x.toArray⟩ ∧ x.length ≤ 8192 ∧ d.length < k + f ∧ Hid (R = exTup (applyEnd want (applyGo f o d k x))) ∧ Below w.heap.size w wr)
            (fun p _ _ => d.length - (intOf p).toNat)
          case atStart => exact ⟨a2, d.length + 1, [], rfl, hj2, rfl, by simp, by omega, HE, hB0⟩
          case round =>
            obtain ⟨k, f, x, rfl, hk, rfl, hx, hf, hR', hB⟩ := hrel
            obtain ⟨f, rfl⟩ : ∃ g, f = g + 1 := ⟨f - 1, by omega⟩
            by_cases hlt : k < d.length
            · go_wp2_with fail
              refine (refOp_any o d k _ ho hd hk).mono ?_
              cases hop : opAt o d k with
              | error er =>
                have HF := Lib.hid (by rw [hR'.out, applyGo, if_neg (by omega), hop]; rfl : R = .tuple #[.string ⟨#[]⟩, .int .i64 er])
                have her := opAt_err hop
                have hne : (er != (0 : Int)) = true := by rw [bne_iff_ne]; omega
                clear hop her
                unfold opTup
                rintro e w3 ⟨rfl, hb3⟩
                go_wp2
                go_ret2
                exact ⟨by rw [HF.out]; rfl, below_then hB hb3⟩
              | ok q =>
                obtain ⟨y, k2⟩ := q
                obtain ⟨hy1, hy2, hy3, hy4⟩ := opAt_le hk hop
                have hyl : y.length ≤ 65536 := by omega
                unfold opTup
                by_cases hroom : x.length + y.length ≤ 8192
                · have HN := Lib.hid (by rw [hR'.out, applyGo, if_neg (by omega), hop]; simp only []; rw [if_pos hroom] : R = exTup (applyEnd want (applyGo f o d k2 (x ++ y))))
                  clear hop
                  rintro e w3 ⟨rfl, hb3⟩
                  go_wp2
                  go_roundw
                  case rel => exact ⟨k2, f, x ++ y, rfl, hy2, by rw [str_add], by simp; omega, by omega, HN, below_then hB hb3⟩
                  case measure => simp [intOf]; omega
                · have HF := Lib.hid (by rw [hR'.out, applyGo, if_neg (by omega), hop]; simp only []; rw [if_neg hroom]; rfl : R = .tuple #[.string ⟨#[]⟩, .int .i64 190])
                  clear hop
                  rintro e w3 ⟨rfl, hb3⟩
                  go_wp2
                  go_ret2
                  exact ⟨by rw [HF.out]; rfl, below_then hB hb3⟩
            · have HE2 := Lib.hid (by rw [hR'.out, applyGo, if_pos (by omega)]; rfl : R = exTup (if (crcOf x : Int) = want then .ok x else .error 190))
              go_wp2_with fail
              refine (refSum_list x _ (by omega)).mono ?_
              rintro e w3 ⟨rfl, rfl⟩
              by_cases hw : (crcOf x : Int) = want
              · have hwb : ((crcOf x : Int) != want) = false := by rw [hw]; simp
                have HF := Lib.hid (by rw [HE2.out, if_pos hw]; rfl : R = .tuple #[.string ⟨x.toArray⟩, .int .i64 0])
                clear hw
                go_wp2
                go_ret2
                exact ⟨by rw [HF.out]; rfl, hB⟩
              · have hwb : ((crcOf x : Int) != want) = true := by rw [bne_iff_ne]; exact hw
                have HF := Lib.hid (by rw [HE2.out, if_neg hw]; rfl : R = .tuple #[.string ⟨#[]⟩, .int .i64 190])
                clear hw
                go_wp2
                go_ret2
                exact ⟨by rw [HF.out]; rfl, hB⟩
      · have hsb : ((sum : Int) != (crcOf o : Int)) = true := by rw [bne_iff_ne]; exact hsum
        have HF := Lib.hid (by rw [← HR.out, applyD, if_neg hlen, HI.out]; simp only []; rw [if_neg hsum]; rfl : R = .tuple #[.string ⟨#[]⟩, .int .i64 190])
        go_wp2
        go_ret2
        exact ⟨by rw [HF.out]; rfl, hb1⟩
end Go.Proofs.YtnhpnipfledihaaDoor

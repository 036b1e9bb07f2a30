import Derived.Test.YtnhpnipfledihaaDoorDelM
import Derived.Test.YtnhpnipfledihaaDoorWireG
namespace Go.Proofs.YtnhpnipfledihaaDoor
open Go.RowKit

theorem intTup_some {n : Int} {k : Nat} : intTup (some (n, k)) = .tuple #[.int .i64 n, .int .i64 (k : Int), .int .i64 0] := rfl
theorem intTup_none : intTup none = .tuple #[.int .i64 0, .int .i64 0, .int .i64 10] := rfl

/-- the reference's Int at a list of bytes, as its callers meet it -/
theorem refInt_list (d : List UInt8) (a : Nat) (w : World) (hd : d.length ≤ 9223372036854775000) (ha : a ≤ d.length) :
    Calls Tryd.prog 41 #[.string ⟨d.toArray⟩, .int .i64 a] w fun e w' => e = .returned (intTup (intAt d a)) ∧ Below w.heap.size w w' := by
  have := refInt_any ⟨d.toArray⟩ a w (by rw [mk_size]; exact hd) (by rw [mk_size]; exact ha)
  rwa [mk_data] at this
theorem refString_list (d : List UInt8) (a : Nat) (w : World) (hd : d.length ≤ 9223372036854775000) (ha : a ≤ d.length) :
    Calls Tryd.prog 55 #[.string ⟨d.toArray⟩, .int .i64 a] w fun e w' => e = .returned (strTup (strAt d a)) ∧ Below w.heap.size w w' := by
  have := refString_any ⟨d.toArray⟩ a w (by rw [mk_size]; exact hd) (by rw [mk_size]; exact ha)
  rwa [mk_data] at this

set_option maxHeartbeats 1000000 in
theorem refOp_any (o d : List UInt8) (a : Nat) (w : World) (ho : o.length ≤ 9223372036854775000) (hd : d.length ≤ 9223372036854775000) (ha : a ≤ d.length) :
    Calls Tryd.prog 42 #[.string ⟨o.toArray⟩, .string ⟨d.toArray⟩, .int .i64 a] w fun e w' => e = .returned (opTup (opAt o d a)) ∧ Below w.heap.size w w' := by
  obtain ⟨R, hR⟩ : ∃ R, opTup (opAt o d a) = R := ⟨_, rfl⟩
  rw [hR]
  have HR := Lib.hid hR; clear hR
  go_enter Tryd.func42, Tryd.ntmps42
  go_wp2_with fail
  refine (refInt_list d a _ hd ha).mono ?_
  cases hi : intAt d a with
  | none =>
    have HF := Lib.hid (by rw [← HR.out, opAt, hi]; rfl : R = .tuple #[.string ⟨#[]⟩, .int .i64 0, .int .i64 10])
    rw [intTup_none]
    rintro e w1 ⟨rfl, hb1⟩
    go_wp2
    go_ret3
    exact ⟨by rw [HF.out]; rfl, hb1⟩
  | some p =>
    obtain ⟨n, k⟩ := p
    obtain ⟨hk1, hk2, hk3, hk4⟩ := intAt_le ha hi
    have HI := Lib.hid hi; clear hi
    rw [intTup_some]
    by_cases hn : n < 0
    · have HF := Lib.hid (by rw [← HR.out, opAt, HI.out]; simp only []; rw [if_pos hn]; rfl : R = .tuple #[.string ⟨#[]⟩, .int .i64 0, .int .i64 190])
      rintro e w1 ⟨rfl, hb1⟩
      go_wp2
      go_ret3
      exact ⟨by rw [HF.out]; rfl, hb1⟩
    · by_cases hn0 : n = 0
      · subst hn0
        rintro e w1 ⟨rfl, hb1⟩
        go_wp2_with fail
        refine (refString_list d k _ hd hk2).mono ?_
        cases hs : strAt d k with
        | none =>
          have HF := Lib.hid (by rw [← HR.out, opAt, HI.out]; simp [hs]; rfl : R = .tuple #[.string ⟨#[]⟩, .int .i64 0, .int .i64 10])
          rw [show strTup none = .tuple #[.string ⟨#[]⟩, .int .i64 0, .int .i64 10] from rfl]
          clear hs
          rintro e w2 ⟨rfl, hb2⟩
          go_wp2
          go_ret3
          exact ⟨by rw [HF.out]; rfl, below_then hb1 hb2⟩
        | some q =>
          obtain ⟨x, k2⟩ := q
          rw [show strTup (some (x, k2)) = .tuple #[.string ⟨x.toArray⟩, .int .i64 (k2 : Int), .int .i64 0] from rfl]
          by_cases hx : x = []
          · have HF := Lib.hid (by rw [← HR.out, opAt, HI.out]; simp [hs, hx]; rfl : R = .tuple #[.string ⟨#[]⟩, .int .i64 0, .int .i64 190])
            have hxe : x.isEmpty = true := by rw [hx]; rfl
            clear hs
            rintro e w2 ⟨rfl, hb2⟩
            go_wp2
            go_ret3
            exact ⟨by rw [HF.out]; rfl, below_then hb1 hb2⟩
          · have HF := Lib.hid (by rw [← HR.out, opAt, HI.out]; simp [hs, hx]; rfl : R = .tuple #[.string ⟨x.toArray⟩, .int .i64 (k2 : Int), .int .i64 0])
            have hxe : x.isEmpty = false := by cases x with | nil => exact absurd rfl hx | cons => rfl
            clear hs hx
            rintro e w2 ⟨rfl, hb2⟩
            go_wp2
            go_ret3
            exact ⟨by rw [HF.out]; rfl, below_then hb1 hb2⟩
      · have hnb : ((n : Int) == 0) = false := by rw [beq_eq_false_iff_ne]; exact hn0
        rintro e w1 ⟨rfl, hb1⟩
        go_wp2_with fail
        refine (refInt_list d k _ hd hk2).mono ?_
        cases hs : intAt d k with
        | none =>
          have HF := Lib.hid (by rw [← HR.out, opAt, HI.out]; simp only []; rw [if_neg (by omega), if_neg hn0, hs]; rfl : R = .tuple #[.string ⟨#[]⟩, .int .i64 0, .int .i64 10])
          rw [intTup_none]
          clear hs
          rintro e w2 ⟨rfl, hb2⟩
          go_wp2
          go_ret3
          exact ⟨by rw [HF.out]; rfl, below_then hb1 hb2⟩
        | some q =>
          obtain ⟨off, k2⟩ := q
          obtain ⟨_, _, ho3, ho4⟩ := intAt_le hk2 hs
          rw [intTup_some]
          by_cases hr : 0 ≤ off ∧ off + n ≤ o.length
          · obtain ⟨m, rfl⟩ := Int.eq_ofNat_of_zero_le hr.1
            obtain ⟨n', rfl⟩ := Int.eq_ofNat_of_zero_le (show 0 ≤ n by omega)
            obtain ⟨_, hr2⟩ := hr
            have HF := Lib.hid (by rw [← HR.out, opAt, HI.out]; simp only []; rw [if_neg (by omega), if_neg hn0, hs]; simp only []; rw [if_pos ⟨by omega, hr2⟩, extract_mk]; simp [opTup] : R = .tuple #[.string ((⟨o.toArray⟩ : ByteArray).extract m (m + n')), .int .i64 (k2 : Int), .int .i64 0])
            clear hs hn hn0
            rintro e w2 ⟨rfl, hb2⟩
            go_wp2
            go_ret3
            exact ⟨by rw [HF.out]; rfl, below_then hb1 hb2⟩
          · have HF := Lib.hid (by rw [← HR.out, opAt, HI.out]; simp only []; rw [if_neg (by omega), if_neg hn0, hs]; simp only []; rw [if_neg hr]; rfl : R = .tuple #[.string ⟨#[]⟩, .int .i64 0, .int .i64 190])
            clear hs hn0
            rintro e w2 ⟨rfl, hb2⟩
            go_wp2
            all_goals go_ret3
            all_goals exact ⟨by rw [HF.out]; rfl, below_then hb1 hb2⟩
end Go.Proofs.YtnhpnipfledihaaDoor

import Derived.Test.YtnhpnipfledihaaDoorWireE
namespace Go.Proofs.YtnhpnipfledihaaDoor
open Go.RowKit

def putStr (x : List UInt8) : List UInt8 := putInt x.length ++ x

theorem putInt_len {n : Int} (h1 : -4611686018427387903 ≤ n) (h2 : n ≤ 4611686018427387903) : 0 < (putInt n).length ∧ (putInt n).length ≤ 9 := by
  have hz := zig_lt h1 h2
  obtain ⟨bs, b, e, hc, hb, hn, hl, hv⟩ := groups_form 8 (zig n) (Nat.lt_trans hz (by decide))
  have e9 : groupsF 9 (zig n) = groupsF 8 (zig n) := by
    have := groups_of_val bs b 9 hc hb hn (by omega)
    rw [hv] at this; rw [this, e]
  rw [putInt, e9, e]; simp; omega

set_option maxHeartbeats 400000 in
theorem refPutString_any (x : List UInt8) (w : World) (hx : x.length ≤ 65536) :
    Calls Tryd.prog 56 #[.string ⟨x.toArray⟩] w fun e w' => e = .returned (putTup (putStr x)) ∧ Below w.heap.size w w' := by
  have hl := putInt_len (n := (x.length : Int)) (by omega) (by omega)
  have hfin : putTup (putStr x) = .tuple #[.string ⟨(putInt x.length ++ x).toArray⟩, .int .i64 0] := rfl
  rw [hfin]
  clear hfin
  obtain ⟨P, hP⟩ : ∃ P, putInt (x.length : Int) = P := ⟨_, rfl⟩
  rw [hP] at hl ⊢
  have HP := Lib.hid hP; clear hP
  obtain ⟨hl1, hl2⟩ := hl
  go_enter Tryd.func56, Tryd.ntmps56
  go_wp2_with fail
  refine (refPutInt_any x.length _ (by omega) (by omega)).mono ?_
  rw [HP.out]
  unfold putTup
  rintro e w' ⟨rfl, hb⟩
  go_wp2
  go_ret2
  exact ⟨by rw [← str_add]; rfl, hb⟩

set_option maxHeartbeats 400000 in
theorem number_any (n : Int) (w : World) (h1 : -4611686018427387903 ≤ n) (h2 : n ≤ 4611686018427387903) :
    Calls Tryd.prog 43 #[.int .i64 n] w fun e w' => e = .returned (.string ⟨(putInt n).toArray⟩) ∧ Below w.heap.size w w' := by
  go_enter Tryd.func43, Tryd.ntmps43
  go_wp2_with fail
  refine (refPutInt_any n _ h1 h2).mono ?_
  unfold putTup
  rintro e w' ⟨rfl, hb⟩
  go_wp2
  go_ret
  exact ⟨rfl, hb⟩

set_option maxHeartbeats 1000000 in
theorem refString_any (s : ByteArray) (a : Nat) (w : World) (hs : s.size ≤ 9223372036854775000) (ha : a ≤ s.size) :
    Calls Tryd.prog 55 #[.string s, .int .i64 a] w fun e w' => e = .returned (strTup (strAt s.data.toList a)) ∧ Below w.heap.size w w' := by
  obtain ⟨R, hR⟩ : ∃ R, strTup (strAt s.data.toList a) = R := ⟨_, rfl⟩
  rw [hR]
  have HR := Lib.hid hR; clear hR
  go_enter Tryd.func55, Tryd.ntmps55
  go_wp2_with fail
  refine (refInt_any s a _ hs ha).mono ?_
  cases hi : intAt s.data.toList a with
  | none =>
    have hfin : R = .tuple #[.string ⟨#[]⟩, .int .i64 0, .int .i64 10] := by rw [← HR.out, strAt, hi]; rfl
    have HF := Lib.hid hfin; clear hfin hi
    unfold intTup
    rintro e w' ⟨rfl, hb⟩
    go_wp2
    go_ret3
    exact ⟨by rw [HF.out]; rfl, hb⟩
  | some p =>
    obtain ⟨n, k⟩ := p
    have hk := intAt_le (by simpa using ha) hi
    rw [Array.length_toList, show s.data.size = s.size from rfl] at hk
    have HI := Lib.hid hi; clear hi
    unfold intTup
    obtain ⟨h1, h2, h3, h4⟩ := hk
    by_cases hn : 0 ≤ n ∧ n ≤ 65536 ∧ (k : Int) + n ≤ s.size
    · obtain ⟨m, rfl⟩ := Int.eq_ofNat_of_zero_le hn.1
      obtain ⟨_, hn2, hn3⟩ := hn
      have hfin : R = .tuple #[.string (s.extract k (k + m)), .int .i64 ((k + m : Nat) : Int), .int .i64 0] := by
        rw [← HR.out, strAt, HI.out, extract_mk]
        simp only []
        rw [if_pos ⟨by omega, hn2, by simp; omega⟩]
        simp [strTup]
      have HF := Lib.hid hfin; clear hfin
      rintro e w' ⟨rfl, hb⟩
      go_wp2
      go_ret3
      exact ⟨by rw [HF.out]; exact tupS3 rfl (by omega) rfl, hb⟩
    · have hfin : R = .tuple #[.string ⟨#[]⟩, .int .i64 0, .int .i64 10] := by
        rw [← HR.out, strAt, HI.out]
        simp only []
        rw [if_neg (by simpa using hn)]; rfl
      have HF := Lib.hid hfin; clear hfin
      rintro e w' ⟨rfl, hb⟩
      go_wp2
      all_goals go_ret3
      all_goals exact ⟨by rw [HF.out]; rfl, hb⟩
end Go.Proofs.YtnhpnipfledihaaDoor

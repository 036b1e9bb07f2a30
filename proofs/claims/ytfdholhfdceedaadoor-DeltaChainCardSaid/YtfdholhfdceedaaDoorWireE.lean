import Derived.Test.YtfdholhfdceedaaDoorWireD
namespace Go.Proofs.YtfdholhfdceedaaDoor
open Go.RowKit

set_option maxHeartbeats 400000 in
theorem refPutInt_out (n : Int) (w : World) (h1 : n < -4611686018427387903 ∨ 4611686018427387903 < n) :
    Calls Tryd.prog 37 #[.int .i64 n] w fun e w' => e = .returned (.tuple #[.string ⟨#[]⟩, .int .i64 10]) ∧ w = w' := by
  rcases h1 with h1 | h1
  · go_enter Tryd.func37, Tryd.ntmps37
    go_wp2
    go_ret2
    exact ⟨rfl, rfl⟩
  · have h2 : ¬ n < -4611686018427387903 := by omega
    go_enter Tryd.func37, Tryd.ntmps37
    go_wp2
    go_ret2
    exact ⟨rfl, rfl⟩

theorem canon_iff {l : List UInt8} {i : Nat} (h : GoOn l i) (hi : i < l.length) (hi9 : i < 9) (hb : l[i].toNat < 128) :
    putInt (unzig (groupVal (l.take (i + 1)))) = l.take (i + 1) ↔ ¬ (l[i].toNat = 0 ∧ 0 < i) := by
  have htk : l.take (i + 1) = l.take i ++ [l[i]] := List.take_succ_eq_append_getElem hi
  have hlen : (l.take i).length = i := by simp; omega
  have hall : ∀ c ∈ l.take i, 128 ≤ c.toNat := by
    intro c hc
    obtain ⟨j, hj, rfl⟩ := List.getElem_of_mem hc
    rw [List.getElem_take]
    rw [hlen] at hj
    exact h.2 j hj (by omega)
  have hz : groupVal (l.take (i + 1)) < 9223372036854775808 := groupVal_take_lt l (i + 1) (by omega)
  unfold putInt
  rw [zig_unzig]
  constructor
  · rintro he ⟨h0, hp⟩
    obtain ⟨bs, b, e, _, _, hn, _, _⟩ := groups_form 9 (groupVal (l.take (i + 1))) (Nat.lt_trans hz (by decide))
    rw [e, htk] at he
    have h1 := congrArg List.length he
    have h2 : b = l[i] := by
      have := List.append_inj_right' he rfl
      simpa using this
    rw [List.length_append, List.length_append, hlen] at h1
    rcases hn with rfl | hn
    · simp at h1; omega
    · rw [h2] at hn; exact hn h0
  · intro hn
    rw [htk]
    exact groups_of_val (l.take i) l[i] 9 hall hb (by
      by_cases h0 : i = 0
      · left; rw [h0]; rfl
      · right; intro h'; exact hn ⟨h', by omega⟩) (by omega)

theorem add_group {l : List UInt8} {i : Nat} (h : i < l.length) (hi : i < 9) {b : UInt8} (hb : b = l[i]) :
    (groupVal (l.take i) : Int) + IntKind.u64.wrap ((b.toNat : Int) % 128 * 2 ^ (7 * i)) = (groupVal (l.take (i + 1)) : Int) := by
  subst hb
  have hp8 : (128 : Nat) ^ i ≤ 128 ^ 8 := Nat.pow_le_pow_right (by omega) (by omega)
  have h8 : (128 : Nat) ^ 8 = 72057594037927936 := by decide
  have hm : l[i].toNat % 128 * 128 ^ i ≤ 127 * 72057594037927936 := Nat.mul_le_mul (by omega) (by omega)
  have hl : (l.take i).length = i := by simp; omega
  have e : ((l[i].toNat : Int) % 128 * 2 ^ (7 * i)) = ((l[i].toNat % 128 * 128 ^ i : Nat) : Int) := by
    rw [← pow_seven]; push_cast; rfl
  have ew : IntKind.u64.wrap ((l[i].toNat % 128 * 128 ^ i : Nat) : Int) = ((l[i].toNat % 128 * 128 ^ i : Nat) : Int) := by
    rw [show IntKind.u64.wrap ((l[i].toNat % 128 * 128 ^ i : Nat) : Int) = ((l[i].toNat % 128 * 128 ^ i : Nat) : Int) % 18446744073709551616 by simp [IntKind.wrap, IntKind.bits, IntKind.signed]]
    omega
  rw [e, ew, List.take_succ_eq_append_getElem h, groupVal_snoc, hl]; omega

theorem unzig_range {Z : Nat} (h : Z < 9223372036854775808) : unzig Z ≤ 4611686018427387903 := by unfold unzig; split <;> omega

end Go.Proofs.YtfdholhfdceedaaDoor

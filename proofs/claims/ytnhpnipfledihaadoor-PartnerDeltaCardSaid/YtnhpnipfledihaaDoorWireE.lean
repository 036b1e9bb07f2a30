import Derived.Test.YtnhpnipfledihaaDoorWireD
namespace Go.Proofs.YtnhpnipfledihaaDoor
open Go.RowKit

set_option maxHeartbeats 400000 in
theorem refPutInt_out (n : Int) (w : World) (h1 : n < -4611686018427387903 ∨ 4611686018427387903 < n) :
    Calls Tryd.prog 54 #[.int .i64 n] w fun e w' => e = .returned (.tuple #[.string ⟨#[]⟩, .int .i64 10]) ∧ w = w' := by
  rcases h1 with h1 | h1
  · go_enter Tryd.func54, Tryd.ntmps54
    go_wp2
    go_ret2
    exact ⟨rfl, rfl⟩
  · have h2 : ¬ n < -4611686018427387903 := by omega
    go_enter Tryd.func54, Tryd.ntmps54
    go_wp2
    go_ret2
    exact ⟨rfl, rfl⟩

theorem canon_iff {l : List UInt8} {i : Nat} (h : GoOn l i) (hi : i < l.length) (hi9 : i < 9) (hb : l[i].toNat < 128) :
    putInt (unzig (groupVal (l.take (i + 1)))) = l.take (i + 1) ↔ ¬ (l[i].toNat = 0 ∧ 0 < i) := by
  have htk : l.take (i + 1) = l.take i ++ [l[i]] := List.take_succ_eq_append_getElem hi
  have hlen : (l.take i).length = i := by simp; omega
  have hall : ∀ c ∈ l.take i, 128 ≤ c.toNat := by
    intro c hc
    obtain ⟨j, hj, rfl⟩ := List.getElem_of_mem hc
    rw [List.getElem_take]
    rw [hlen] at hj
    exact h.2 j hj (by omega)
  have hz : groupVal (l.take (i + 1)) < 9223372036854775808 := groupVal_take_lt l (i + 1) (by omega)
  unfold putInt
  rw [zig_unzig]
  constructor
  · rintro he ⟨h0, hp⟩
    obtain ⟨bs, b, e, _, _, hn, _, _⟩ := groups_form 9 (groupVal (l.take (i + 1))) (Nat.lt_trans hz (by decide))
    rw [e, htk] at he
    have h1 := congrArg List.length he
    have h2 : b = l[i] := by
      have := List.append_inj_right' he rfl
      simpa using this
    rw [List.length_append, List.length_append, hlen] at h1
    rcases hn with rfl | hn
    · simp at h1; omega
    · rw [h2] at hn; exact hn h0
  · intro hn
    rw [htk]
    exact groups_of_val (l.take i) l[i] 9 hall hb (by
      by_cases h0 : i = 0
      · left; rw [h0]; rfl
      · right; intro h'; exact hn ⟨h', by omega⟩) (by omega)

theorem add_group {l : List UInt8} {i : Nat} (h : i < l.length) (hi : i < 9) {b : UInt8} (hb : b = l[i]) :
    (groupVal (l.take i) : Int) + IntKind.u64.wrap ((b.toNat : Int) % 128 * 2 ^ (7 * i)) = (groupVal (l.take (i + 1)) : Int) := by
  subst hb
  have hp8 : (128 : Nat) ^ i ≤ 128 ^ 8 := Nat.pow_le_pow_right (by omega) (by omega)
  have h8 : (128 : Nat) ^ 8 = 72057594037927936 := by decide
  have hm : l[i].toNat % 128 * 128 ^ i ≤ 127 * 72057594037927936 := Nat.mul_le_mul (by omega) (by omega)
  have hl : (l.take i).length = i := by simp; omega
  have e : ((l[i].toNat : Int) % 128 * 2 ^ (7 * i)) = ((l[i].toNat % 128 * 128 ^ i : Nat) : Int) := by
    rw [← pow_seven]; push_cast; rfl
  have ew : IntKind.u64.wrap ((l[i].toNat % 128 * 128 ^ i : Nat) : Int) = ((l[i].toNat % 128 * 128 ^ i : Nat) : Int) := by
    rw [show IntKind.u64.wrap ((l[i].toNat % 128 * 128 ^ i : Nat) : Int) = ((l[i].toNat % 128 * 128 ^ i : Nat) : Int) % 18446744073709551616 by simp [IntKind.wrap, IntKind.bits, IntKind.signed]]
    omega
  rw [e, ew, List.take_succ_eq_append_getElem h, groupVal_snoc, hl]; omega

theorem unzig_range {Z : Nat} (h : Z < 9223372036854775808) : unzig Z ≤ 4611686018427387903 := by unfold unzig; split <;> omega

set_option maxRecDepth 100000 in
set_option maxHeartbeats 1000000 in
theorem refInt_any (s : ByteArray) (a : Nat) (w : World) (hs : s.size ≤ 9223372036854775000) (ha : a ≤ s.size) :
    Calls Tryd.prog 41 #[.string s, .int .i64 a] w fun e w' => e = .returned (intTup (intAt s.data.toList a)) ∧ Below w.heap.size w w' := by
  obtain ⟨l, hl⟩ : ∃ l, s.data.toList.drop a = l := ⟨_, rfl⟩
  have hll : l.length = s.size - a := by rw [← hl]; simp
  have hby : ∀ i (h : i < l.length) (h' : a + i < s.size), s[a + i] = l[i] := fun i h h' => by
    subst hl; rw [List.getElem_drop]; rfl
  obtain ⟨R, hR⟩ : ∃ R, intTup (intAt s.data.toList a) = R := ⟨_, rfl⟩
  have HR : Hid (R = intTup ((intRest l).map fun p => (p.1, a + p.2))) := Lib.hid (by rw [← hR, intAt_rest, hl])
  rw [hR]
  have HB := Lib.hid hby
  have HL := Lib.hid hl
  clear hl hby hR
  have h0 : decide ((a : Int) < 0) = false := by simp
  have h1 : decide (s.size < a) = false := by rw [decide_eq_false_iff_not]; omega
  go_enter Tryd.func41, Tryd.ntmps41
  go_wp2
  go_loop [7, 8] (fun z q => ∃ i Z : Nat, i ≤ 9 ∧ a + i ≤ s.size ∧ q = .int .i64 (i : Int) ∧ z = .int .u64 (Z : Int) ∧ Z < 9223372036854775808 ∧ Hid (Z = groupVal (l.take i)) ∧ Hid (GoOn l i)) (fun _ q => 9 - (intOf q).toNat)
  case atStart => exact ⟨0, 0, by omega, by omega, rfl, rfl, by omega, Lib.hid rfl, Lib.hid ⟨by omega, fun j h => by omega⟩⟩
  case round =>
    obtain ⟨i, Z, hi, hai, rfl, rfl, hZ, hzv, hgo⟩ := hrel
    by_cases hi9 : i < 9
    · by_cases hend : a + i = s.size
      · have hb : ¬ ((a : Int) + (i : Int) < (s.size : Int)) := by omega
        have hfin : R = .tuple #[.int .i64 0, .int .i64 0, .int .i64 10] := by
          rw [HR.out, rest_end (by rw [show l.length = i by omega]; exact hgo.out)]; rfl
        have HF := Lib.hid hfin
        clear hend hfin
        go_wp2
        go_ret3
        exact ⟨by rw [HF.out]; rfl, Below.refl _ _⟩
      · have hlt : a + i < s.size := by omega
        have hil : i < l.length := by omega
        have hbb : (s[a + i].toNat : Int) < 256 := by have := s[a + i].toNat_lt; omega
        obtain ⟨Z2, hZ2⟩ : ∃ Z2, groupVal (l.take (i + 1)) = Z2 := ⟨_, rfl⟩
        have hZ2l : Z2 < 9223372036854775808 := by rw [← hZ2]; exact groupVal_take_lt l (i + 1) (by omega)
        have hadd : (Z : Int) + IntKind.u64.wrap ((s[a + i].toNat : Int) % 128 * 2 ^ (7 * i)) = (Z2 : Int) := by rw [hzv.out, add_group hil hi9 (HB.out i hil hlt), hZ2]
        have HZ2 := Lib.hid hZ2
        clear hend hZ2
        by_cases hc : (128 : Int) ≤ (s[a + i].toNat : Int)
        · have HG := Lib.hid (hgo.out.succ hil (by rw [← HB.out i hil hlt]; omega))
          go_wp2
          go_round
          case rel => exact ⟨i + 1, Z2, by omega, by omega, by go_num, rfl, hZ2l, Lib.hid HZ2.out.symm, HG⟩
          case measure => simp [intOf]; omega
        · have hcan := canon_iff hgo.out hil hi9 (by rw [← HB.out i hil hlt]; omega)
          have HS := Lib.hid (rest_stop hgo.out hil hi9 (by rw [← HB.out i hil hlt]; omega))
          have HE := Lib.hid (HB.out i hil hlt)
          rw [HZ2.out] at hcan
          have HCN := Lib.hid hcan
          clear hcan
          have hur := unzig_range hZ2l
          obtain ⟨U, hU⟩ : ∃ U, unzig Z2 = U := ⟨_, rfl⟩
          rw [hU] at hur
          have HU := Lib.hid hU; clear hU
          by_cases hodd : Z2 % 2 = 1
          · have hob : (((Z2 : Int) % 2) == 1) = true := by rw [beq_iff_eq]; omega
            have hn : -((Z2 : Int) / 2) - 1 = U := by rw [← HU.out]; unfold unzig; rw [if_pos hodd]; omega
            clear hodd
            go_wp2_with fail
            by_cases hlo : U < -4611686018427387903
            · refine (refPutInt_out U _ (.inl hlo)).mono ?_
              rintro e w' ⟨rfl, rfl⟩
              go_wp2
              go_ret3
              exact ⟨by rw [int_bad HR HS HZ2 HE HU (.inr hlo)]; rfl, Below.refl _ _⟩
            · refine (refPutInt_any U _ (by omega) hur).mono ?_
              have hsl : s.extract a (a + i + 1) = ⟨(l.take (i + 1)).toArray⟩ := by
                rw [extract_mk, HL.out, show a + i + 1 - a = i + 1 by omega]
              have hTl : (⟨(l.take (i + 1)).toArray⟩ : ByteArray).size ≤ 9223372036854775000 := by rw [mk_size]; simp; omega
              by_cases hcn : l[i].toNat = 0 ∧ 0 < i
              · have hR := int_bad HR HS HZ2 HE HU (.inl (by rw [HE.out]; exact hcn))
                have hne : (putInt U == l.take (i + 1)) = false := by
                  rw [beq_eq_false_iff_ne, ← HU.out]
                  exact fun h => HCN.out.1 h hcn
                generalize putInt U = P at *
                generalize l.take (i + 1) = T at *
                have hR' := Lib.hid hR
                clear hR hcn HCN
                unfold putTup
                rintro e w' ⟨rfl, hb⟩
                go_wp2
                go_ret3
                exact ⟨by rw [hR'.out]; rfl, hb⟩
              · have hR := int_good HR HS HZ2 HE HU (by rw [HE.out]; exact fun h => h.elim hcn hlo)
                have hne : (putInt U == l.take (i + 1)) = true := by
                  rw [beq_iff_eq, ← HU.out]
                  exact HCN.out.2 hcn
                generalize putInt U = P at *
                generalize l.take (i + 1) = T at *
                have hR' := Lib.hid hR
                clear hR hcn HCN
                unfold putTup
                rintro e w' ⟨rfl, hb⟩
                go_wp2
                go_ret3
                exact ⟨by rw [hR'.out]; exact tup3 rfl (by omega) rfl, hb⟩
          · have hob : (((Z2 : Int) % 2) == 1) = false := by rw [beq_eq_false_iff_ne]; omega
            have hn : (Z2 : Int) / 2 = U := by rw [← HU.out]; unfold unzig; rw [if_neg hodd]; omega
            clear hodd
            go_wp2_with fail
            by_cases hlo : U < -4611686018427387903
            · refine (refPutInt_out U _ (.inl hlo)).mono ?_
              rintro e w' ⟨rfl, rfl⟩
              go_wp2
              go_ret3
              exact ⟨by rw [int_bad HR HS HZ2 HE HU (.inr hlo)]; rfl, Below.refl _ _⟩
            · refine (refPutInt_any U _ (by omega) hur).mono ?_
              have hsl : s.extract a (a + i + 1) = ⟨(l.take (i + 1)).toArray⟩ := by
                rw [extract_mk, HL.out, show a + i + 1 - a = i + 1 by omega]
              have hTl : (⟨(l.take (i + 1)).toArray⟩ : ByteArray).size ≤ 9223372036854775000 := by rw [mk_size]; simp; omega
              by_cases hcn : l[i].toNat = 0 ∧ 0 < i
              · have hR := int_bad HR HS HZ2 HE HU (.inl (by rw [HE.out]; exact hcn))
                have hne : (putInt U == l.take (i + 1)) = false := by
                  rw [beq_eq_false_iff_ne, ← HU.out]
                  exact fun h => HCN.out.1 h hcn
                generalize putInt U = P at *
                generalize l.take (i + 1) = T at *
                have hR' := Lib.hid hR
                clear hR hcn HCN
                unfold putTup
                rintro e w' ⟨rfl, hb⟩
                go_wp2
                go_ret3
                exact ⟨by rw [hR'.out]; rfl, hb⟩
              · have hR := int_good HR HS HZ2 HE HU (by rw [HE.out]; exact fun h => h.elim hcn hlo)
                have hne : (putInt U == l.take (i + 1)) = true := by
                  rw [beq_iff_eq, ← HU.out]
                  exact HCN.out.2 hcn
                generalize putInt U = P at *
                generalize l.take (i + 1) = T at *
                have hR' := Lib.hid hR
                clear hR hcn HCN
                unfold putTup
                rintro e w' ⟨rfl, hb⟩
                go_wp2
                go_ret3
                exact ⟨by rw [hR'.out]; exact tup3 rfl (by omega) rfl, hb⟩
    · have hfin : R = .tuple #[.int .i64 0, .int .i64 0, .int .i64 10] := by
        rw [HR.out, rest_nine (by rw [show (9 : Nat) = i by omega]; exact hgo.out)]; rfl
      have HF := Lib.hid hfin; clear hfin
      go_wp2
      go_ret3
      exact ⟨by rw [HF.out]; rfl, Below.refl _ _⟩
end Go.Proofs.YtnhpnipfledihaaDoor

/- The search of a phrase in a text: the program's matches. -/
import Derived.Test.YtmfnhfkgkdibfaaGreatIWd
namespace Go.Proofs.YtmfnhfkgkdibfaaGreat
open Go.RowKit

/-- v is a slice of integers, zs -/
def NatsAt (W : World) (v : Value) (zs : List Nat) : Prop :=
  ∃ a c, v = .slice a zs.length c ∧ zs.length ≤ c ∧ ∀ j (h : j < zs.length), ∃ b off, a = some ⟨b, off, none⟩ ∧ W.cell? ⟨b, off + j, none⟩ = some (.int .i64 (zs[j] : Int))
theorem NatsAt.below {W W' : World} {v : Value} {zs : List Nat} (h : NatsAt W v zs) (hb : Below W.heap.size W W') : NatsAt W' v zs := by
  obtain ⟨a, c, hv, hle, hc⟩ := h
  refine ⟨a, c, hv, hle, fun j hj => ?_⟩
  obtain ⟨b, off, ha, hcell⟩ := hc j hj
  exact ⟨b, off, ha, (hb.cell (World.block_lt_of_cell? W _ hcell)).trans hcell⟩

set_option maxRecDepth 100000 in
set_option maxHeartbeats 2000000 in
theorem matches_any (v1 v2 v3 : Value) (t p : List Wd) (bk : List Nat) (w : World) (h1 : StrsAt w v1 t) (h2 : StrsAt w v2 p) (h3 : NatsAt w v3 bk) (hp : p ≠ []) (hb : Borders p bk p.length) (hbl : bk.length = p.length) :
    Calls Tryz.prog 47 #[v1, v2, v3] w fun e w' => e = .returned (.int .i64 (occ t p)) ∧ Below w.heap.size w w' := by
  obtain ⟨a1, c1, rfl, hcp1, hl1, hc1⟩ := h1
  obtain ⟨a2, c2, rfl, hcp2, hl2, hc2⟩ := h2
  obtain ⟨a3, c3, rfl, hcp3, hc3⟩ := h3
  rw [hbl] at hcp3 ⊢
  have hp0 : 0 < p.length := List.length_pos_iff.2 hp
  rw [← occ_ends hp]
  obtain ⟨R, hR⟩ : ∃ R, occE t p t.length = R := ⟨_, rfl⟩
  rw [hR]
  have HR := Lib.hid hR; have H1 := Lib.hid hc1; have H2 := Lib.hid hc2; have H3 := Lib.hid hc3; have HBD := Lib.hid hb; have HBL := Lib.hid hbl
  clear hR hc1 hc2 hc3 hb hbl hp
  go_enter Tryz.func47, Tryz.ntmps47
  go_wp2
  go_loop [7, 8, 13] (fun n c i => ∃ k n0 m : Nat, i = .int .i64 k ∧ k ≤ t.length ∧ n = .int .i64 n0 ∧ n0 ≤ p.length ∧ c = .int .i64 m ∧ m ≤ k ∧ Hid (IsL p (t.take k) n0) ∧ Hid (m = occE t p k)) (fun _ _ i => t.length - (intOf i).toNat)
  case atStart => exact ⟨0, 0, 0, rfl, by omega, rfl, by omega, rfl, by omega, Lib.hid (by rw [List.take_zero]; exact IsL.nil p), Lib.hid rfl⟩
  case round =>
    obtain ⟨k, n0, m, rfl, hk, rfl, hn0, rfl, hm, HL, HM⟩ := hrel
    by_cases hlt : k < t.length
    · obtain ⟨b1, o1, rfl, hx⟩ := H1.out k hlt
      have HT := Lib.hid (show t.take (k + 1) = t.take k ++ [t[k]] from List.take_succ_eq_append_getElem hlt)
      unfold encW at hx
      have HF := Lib.hid (Falls.start HL.out t[k])
      have HO := Lib.hid (occE_succ t p k)
      generalize t[k] = x at *
      clear HL
      go_wp2
      go_loop [7] (fun n => ∃ n1 : Nat, n = .int .i64 n1 ∧ n1 ≤ p.length ∧ Hid (Falls p (t.take k) x n1)) (fun n => (intOf n).toNat)
      case atStart => exact ⟨n0, rfl, hn0, HF⟩
      case round =>
        obtain ⟨n1, rfl, hn1, HF1⟩ := hrel
        by_cases hz : 0 < n1
        · obtain ⟨b3, o3, rfl, hbk⟩ := H3.out (n1 - 1) (by have := HBL.out; omega)
          obtain ⟨bd, hbd1, hbd2⟩ := HBD.out n1 hz hn1
          have hbe : bk[n1 - 1]'(by have := HBL.out; omega) = bd := by
            rw [List.getElem?_eq_getElem (by have := HBL.out; omega)] at hbd1
            exact Option.some.inj hbd1
          rw [hbe] at hbk
          clear hbe hbd1
          have hbdl := hbd2.le
          have HBE := Lib.hid hbd2
          clear hbd2
          rw [show o3 + (n1 - 1) = o3 + (n1 - 1) from rfl] at hbk
          obtain ⟨n2, rfl⟩ : ∃ n2, n1 = n2 + 1 := ⟨n1 - 1, by omega⟩
          simp only [Nat.add_sub_cancel] at hbk
          by_cases hfull : n2 + 1 = p.length
          · have HN := Lib.hid (HF1.out.next hz (by rw [hfull]; simp) HBE.out)
            have e1 : (((n2 : Int) + 1) == (p.length : Int)) = true := by rw [beq_iff_eq]; omega
            have hlt2 := HN.out.2
            have HFL := Lib.hid hfull
            clear hfull
            go_wp2
            go_round
            case rel => exact ⟨bd, rfl, by omega, Lib.hid HN.out.1⟩
            case measure => simp [intOf]; omega
          · have hlt1 : n2 + 1 < p.length := by omega
            obtain ⟨b2, o2, rfl, hy⟩ := H2.out (n2 + 1) hlt1
            unfold encW at hy
            have e1 : (((n2 : Int) + 1) == (p.length : Int)) = false := by rw [beq_eq_false_iff_ne]; omega
            have hge : p[n2 + 1]? = some p[n2 + 1] := List.getElem?_eq_getElem hlt1
            generalize p[n2 + 1] = y at *
            by_cases hxy : x = y
            · subst hxy
              have HH := Lib.hid (HF1.out.hit hge)
              have HFU := Lib.hid (HH.out.full)
              have hq : (x == x) = true := by simp
              have hq2 : (x != x) = false := by simp
              clear hge
              by_cases hf2 : n2 + 1 + 1 = p.length
              · have HS : Hid (occE t p (k + 1) = m + 1) := Lib.hid (by rw [HO.out, ← HM.out, HT.out, if_pos (List.isSuffixOf_iff_suffix.2 (HFU.out.1 hf2))])
                have e2 : (((n2 : Int) + 1 + 1) == (p.length : Int)) = true := by rw [beq_iff_eq]; omega
                go_wp2
                go_round
                case rel => exact ⟨k + 1, n2 + 1 + 1, m + 1, by go_num, by omega, by go_num, by omega, by go_num, by omega, Lib.hid (by rw [HT.out]; exact HH.out), Lib.hid HS.out.symm⟩
                case measure => simp [intOf]; omega
              · have HS : Hid (occE t p (k + 1) = m) := Lib.hid (by rw [HO.out, ← HM.out, HT.out, if_neg (fun e => hf2 (HFU.out.2 (List.isSuffixOf_iff_suffix.1 e)))]; rfl)
                have e2 : (((n2 : Int) + 1 + 1) == (p.length : Int)) = false := by rw [beq_eq_false_iff_ne]; omega
                go_wp2
                go_round
                case rel => exact ⟨k + 1, n2 + 1 + 1, m, by go_num, by omega, by go_num, by omega, rfl, by omega, Lib.hid (by rw [HT.out]; exact HH.out), Lib.hid HS.out.symm⟩
                case measure => simp [intOf]; omega
            · have hq : (x == y) = false := by simpa using hxy
              have hq2 : (x != y) = true := by simpa using hxy
              have HN := Lib.hid (HF1.out.next hz (by rw [hge]; exact fun e => hxy (Option.some.inj e).symm) HBE.out)
              have hlt2 := HN.out.2
              clear hge hxy
              go_wp2
              go_round
              case rel => exact ⟨bd, rfl, by omega, Lib.hid HN.out.1⟩
              case measure => simp [intOf]; omega
        · obtain rfl : n1 = 0 := by omega
          obtain ⟨b2, o2, rfl, hy⟩ := H2.out 0 hp0
          unfold encW at hy
          rw [Nat.add_zero] at hy
          have hge : p[0]? = some p[0] := List.getElem?_eq_getElem hp0
          generalize p[0] = y at *
          by_cases hxy : x = y
          · subst hxy
            have HH := Lib.hid (HF1.out.hit hge)
            have HFU := Lib.hid (HH.out.full)
            have hq : (x == x) = true := by simp
            clear hge
            by_cases hf2 : 0 + 1 = p.length
            · have HS : Hid (occE t p (k + 1) = m + 1) := Lib.hid (by rw [HO.out, ← HM.out, HT.out, if_pos (List.isSuffixOf_iff_suffix.2 (HFU.out.1 hf2))])
              have e2 : ((1 : Int) == (p.length : Int)) = true := by rw [beq_iff_eq]; omega
              go_wp2
              go_round
              case rel => exact ⟨k + 1, 0 + 1, m + 1, by go_num, by omega, by go_num, by omega, by go_num, by omega, Lib.hid (by rw [HT.out]; exact HH.out), Lib.hid HS.out.symm⟩
              case measure => simp [intOf]; omega
            · have HS : Hid (occE t p (k + 1) = m) := Lib.hid (by rw [HO.out, ← HM.out, HT.out, if_neg (fun e => hf2 (HFU.out.2 (List.isSuffixOf_iff_suffix.1 e)))]; rfl)
              have e2 : ((1 : Int) == (p.length : Int)) = false := by rw [beq_eq_false_iff_ne]; omega
              go_wp2
              go_round
              case rel => exact ⟨k + 1, 0 + 1, m, by go_num, by omega, by go_num, by omega, rfl, by omega, Lib.hid (by rw [HT.out]; exact HH.out), Lib.hid HS.out.symm⟩
              case measure => simp [intOf]; omega
          · have hq : (x == y) = false := by simpa using hxy
            have HH := Lib.hid (HF1.out.miss (by rw [hge]; exact fun e => hxy (Option.some.inj e).symm))
            have HFU := Lib.hid (HH.out.full)
            have HS : Hid (occE t p (k + 1) = m) := Lib.hid (by rw [HO.out, ← HM.out, HT.out, if_neg (fun e => (by have := HFU.out.2 (List.isSuffixOf_iff_suffix.1 e); omega))]; rfl)
            have e2 : ((0 : Int) == (p.length : Int)) = false := by rw [beq_eq_false_iff_ne]; omega
            clear hge hxy
            go_wp2
            go_round
            case rel => exact ⟨k + 1, 0, m, by go_num, by omega, rfl, by omega, rfl, by omega, Lib.hid (by rw [HT.out]; exact HH.out), Lib.hid HS.out.symm⟩
            case measure => simp [intOf]; omega
    · go_wp2
      go_ret
      have hkt : k = t.length := by omega
      exact ⟨ret_int (by rw [HM.out, ← HR.out, hkt]), Below.refl _ _⟩
end Go.Proofs.YtmfnhfkgkdibfaaGreat

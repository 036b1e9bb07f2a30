/- delta's longest. -/
import Derived.Test.YtfdholhfdceedaaDoorLng
import Derived.Test.YtfdholhfdceedaaDoorDifA
import Derived.Test.YtfdholhfdceedaaDoorGrp
import Derived.Deep.QuietTactic
import Derived.BigQuiet
namespace Go.Proofs.YtfdholhfdceedaaDoor
open Go.RowKit

/-- integers that lie in memory -/
def NatsAt (w : World) (v : Value) (zs : List Nat) : Prop :=
  ∃ A cap, v = .slice A zs.length cap ∧ zs.length ≤ cap ∧ cap ≤ maxLen ∧ ∀ k (hk : k < zs.length), ∃ g, A = some ⟨g, 0, none⟩ ∧ w.cell? ⟨g, k, none⟩ = some (.int .i64 (zs[k] : Int))
theorem nats_of {w : World} {base : Nat} {v : Value} {zs : List Nat} (h : w.ownsInts base 3 .i64 v (natsI zs)) : NatsAt w v zs := by
  have h1 := h.1
  have hl : (natsI zs).length = zs.length := by simp [natsI]
  rw [hl] at h1
  rcases h1.2 with ⟨hv, h0⟩ | ⟨g, cap, cur, hv, hg, hh, hn, hcap, _, _⟩
  · refine ⟨none, 0, by rw [hv, h0], by omega, by decide, fun k hk => by omega⟩
  · refine ⟨some ⟨g, 0, none⟩, cap, hv, hn, hcap, fun k hk => ⟨g, rfl, ?_⟩⟩
    subst hv
    have := h1.cellAt k (by omega)
    rw [this]
    simp [natsI, hk]

set_option maxRecDepth 100000 in
set_option maxHeartbeats 4000000 in
theorem longP_any (o s : List UInt8) (v : Value) (zs : List Nat) (w : World) (ho : o.length ≤ 8192) (hs : s.length ≤ 8192) (hz : ∀ z ∈ zs, z < o.length) (hv : NatsAt w v zs) :
    Calls Tryd.prog 36 #[.string ⟨o.toArray⟩, .string ⟨s.toArray⟩, v] w fun e w' => e = .returned (.tuple #[.int .i64 ((lgo o s zs (0, 0)).1 : Int), .int .i64 ((lgo o s zs (0, 0)).2 : Int)]) ∧ ∃ k, w' = w.drewN k := by
  obtain ⟨A, cap, rfl, hcl, hcm, hcell⟩ := hv
  unfold maxLen at hcm
  obtain ⟨O, hO⟩ : ∃ O : ByteArray, ⟨o.toArray⟩ = O := ⟨_, rfl⟩
  obtain ⟨S, hS⟩ : ∃ S : ByteArray, ⟨s.toArray⟩ = S := ⟨_, rfl⟩
  have zO : O.size = o.length := by rw [← hO, mk_size]
  have zS : S.size = s.length := by rw [← hS, mk_size]
  have bO : ∀ i (h : i < o.length) (h' : i < O.size), O[i] = o[i] := fun i h h' => by subst hO; rfl
  have bS : ∀ i (h : i < s.length) (h' : i < S.size), S[i] = s[i] := fun i h h' => by subst hS; rfl
  obtain ⟨R, hR⟩ : ∃ R, lgo o s zs (0, 0) = R := ⟨_, rfl⟩
  rw [hO, hS, hR]
  obtain ⟨R1, R2⟩ := R
  have HR := Lib.hid hR
  have HZ := Lib.hid hz; have HCE := Lib.hid hcell
  clear hO hS hR hz hcell
  have HBO := Lib.hid bO; have HBS := Lib.hid bS
  clear bO bS
  go_enter Tryd.func36, Tryd.ntmps36
  go_wp2
  go_loopw [8, 9, 15] (fun b a i wr => ∃ k best off q : Nat, i = .int .i64 k ∧ b = .int .i64 best ∧ a = .int .i64 off ∧ k ≤ zs.length ∧ best ≤ s.length ∧ Hid (lgo o s (zs.drop k) (best, off) = (R1, R2)) ∧ wr = w.drewN q) (fun _ _ i _ => zs.length - (intOf i).toNat)
  case atStart => exact ⟨0, 0, 0, 0, rfl, rfl, rfl, Nat.zero_le _, Nat.zero_le _, Lib.hid HR.out, rfl⟩
  case round =>
    obtain ⟨k, best, off, q, rfl, rfl, rfl, hk, hbs, HL, rfl⟩ := hrel
    by_cases hlt : k < zs.length
    · obtain ⟨g, rfl, hc0⟩ := HCE.out k hlt
      have hzo := HZ.out zs[k] (List.getElem_mem hlt)
      have hdr : zs.drop k = zs[k] :: zs.drop (k + 1) := List.drop_eq_getElem_cons hlt
      have hst := HL.out
      rw [hdr, lgo] at hst
      generalize zs[k] = t at *
      have hcq : (w.drewN q).cell? ⟨g, k, none⟩ = some (.int .i64 (t : Int)) := hc0
      have k0 : (0 : Int) ≤ (k : Int) := by omega
      have k1 : (k : Int) < (zs.length : Int) := by omega
      by_cases hbk : o.length - t ≤ best
      · rw [if_pos hbk] at hst
        have hbb : decide ((o.length : Int) - (t : Int) ≤ (best : Int)) = true := by rw [decide_eq_true_eq]; omega
        cases hst
        clear hdr hc0
        go_wp2
        go_ret2
        exact ⟨rfl, _, rfl⟩
      · rw [if_neg hbk] at hst
        have hbb : decide ((o.length : Int) - (t : Int) ≤ (best : Int)) = false := by rw [decide_eq_false_iff_not]; omega
        obtain ⟨c, hc⟩ : ∃ c, comm (o.drop t) s = c := ⟨_, rfl⟩
        have hcl2 : c ≤ o.length - t ∧ c ≤ s.length := by rw [← hc]; have := comm_le (o.drop t) s; simpa using this
        have hmore : ∀ j (h1 : t + j < o.length) (h2 : j < s.length), j ≤ c → s[j] = o[t + j] → j + 1 ≤ c := by
          intro j h1 h2 hj he
          rw [← hc] at hj ⊢
          exact comm_more _ _ j (by simp; omega) h2 hj (by simpa using he.symm)
        have hstop : ∀ j (h1 : t + j < o.length) (h2 : j < s.length), j < c → s[j] = o[t + j] := by
          intro j h1 h2 hj
          rw [← hc] at hj
          have := comm_eq _ _ j (by simp; omega) h2 hj
          simpa using this.symm
        unfold lstep at hst
        rw [hc] at hst
        have HC := Lib.hid hc; have HM := Lib.hid hmore; have HSt := Lib.hid hstop; have HN := Lib.hid hst
        clear hc hmore hstop hst hdr hc0 hbk HL
        go_wp2
        go_loopw [12] (fun n wr2 => ∃ j q2 : Nat, n = .int .i64 j ∧ j ≤ c ∧ wr2 = w.drewN q2) (fun n _ => c - (intOf n).toNat)
        case atStart => exact ⟨0, q, rfl, Nat.zero_le _, rfl⟩
        case round =>
          obtain ⟨j, q2, rfl, hj, rfl⟩ := hrel
          have hwk : IntKind.i64.wrap ((t : Int) + (j : Int)) = (t : Int) + (j : Int) := wrap_small _ (by omega) (by omega)
          by_cases h2 : j < s.length
          · have g2 : decide ((j : Int) < (s.length : Int)) = true := by rw [decide_eq_true_eq]; omega
            by_cases h1 : t + j < o.length
            · have g1 : decide ((t : Int) + (j : Int) < (o.length : Int)) = true := by rw [decide_eq_true_eq]; omega
              have x1 : 0 ≤ (t : Int) + (j : Int) ∧ (t : Int) + (j : Int) < (o.length : Int) := by omega
              have x2 : 0 ≤ (j : Int) ∧ (j : Int) < (s.length : Int) := by omega
              have e1 : O[t + j]'(by omega) = o[t + j] := HBO.out _ _ _
              have e2 : S[j]'(by omega) = s[j] := HBS.out _ _ _
              by_cases h3 : s[j] = o[t + j]
              · have hjc := HM.out j h1 h2 hj h3
                go_wp2
                go_quiet (fail)
                go_wp2
                exact ⟨⟨j + 1, _, by go_num, hjc, rfl⟩, by simp [intOf]; omega⟩
              · have HJ : Hid (j = c) := Lib.hid (by
                  rcases Nat.lt_or_ge j c with h | h
                  · exact absurd (HSt.out j h1 h2 h) h3
                  · exact Nat.le_antisymm hj h)
                have g3 : (((s[j].toNat : Nat) : Int) == ((o[t + j].toNat : Nat) : Int)) = false := by
                  rw [beq_eq_false_iff_ne]
                  intro h
                  exact h3 (UInt8.toNat_inj.1 (by omega))
                go_wp2
                go_quiet (fail)
                go_wp2
                all_goals obtain rfl := HJ.out
                all_goals first
                  | exact ⟨⟨k + 1, j, t, _, by go_num, rfl, rfl, by omega, by omega, Lib.hid (by have := HN.out; rwa [if_pos (by assumption)] at this), rfl⟩, by simp [intOf]; omega⟩
                  | exact ⟨⟨k + 1, best, off, _, by go_num, rfl, rfl, by omega, by omega, Lib.hid (by have := HN.out; rwa [if_neg (by assumption)] at this), rfl⟩, by simp [intOf]; omega⟩
            · have HJ : Hid (j = c) := Lib.hid (by omega)
              have g1 : decide ((t : Int) + (j : Int) < (o.length : Int)) = false := by rw [decide_eq_false_iff_not]; omega
              go_wp2
              go_quiet (fail)
              go_wp2
              all_goals obtain rfl := HJ.out
              all_goals first
                | exact ⟨⟨k + 1, j, t, _, by go_num, rfl, rfl, by omega, by omega, Lib.hid (by have := HN.out; rwa [if_pos (by assumption)] at this), rfl⟩, by simp [intOf]; omega⟩
                | exact ⟨⟨k + 1, best, off, _, by go_num, rfl, rfl, by omega, by omega, Lib.hid (by have := HN.out; rwa [if_neg (by assumption)] at this), rfl⟩, by simp [intOf]; omega⟩
          · have HJ : Hid (j = c) := Lib.hid (by omega)
            have g2 : decide ((j : Int) < (s.length : Int)) = false := by rw [decide_eq_false_iff_not]; omega
            go_wp2
            go_quiet (fail)
            go_wp2
            all_goals obtain rfl := HJ.out
            all_goals first
              | exact ⟨⟨k + 1, j, t, _, by go_num, rfl, rfl, by omega, by omega, Lib.hid (by have := HN.out; rwa [if_pos (by assumption)] at this), rfl⟩, by simp [intOf]; omega⟩
              | exact ⟨⟨k + 1, best, off, _, by go_num, rfl, rfl, by omega, by omega, Lib.hid (by have := HN.out; rwa [if_neg (by assumption)] at this), rfl⟩, by simp [intOf]; omega⟩
    · have hst := HL.out
      rw [List.drop_eq_nil_of_le (by omega), lgo] at hst
      cases hst
      go_wp2
      go_ret2
      exact ⟨rfl, _, rfl⟩
end Go.Proofs.YtfdholhfdceedaaDoor

/- Facts and contracts for the laws of the sender, part 14. Conditions: those that each theorem names. -/
import Derived.Test.YtefloieanpgnmaaDoorK12
/- The law's partner: answer (a delivery against no text). -/
namespace Go.Proofs.YtefloieanpgnmaaDoor
open Go.RowKit

set_option maxRecDepth 100000 in
set_option maxHeartbeats 16000000 in
theorem answer_b {a0 a1 : Addr} {w0 : World} {W : Wld} {vf va : Value} {q : Nat} {w : World} (h : SenF 264 w q (wldV W vf va)) (hq : q < w.heap.size) (hq0 : w0.heap.size ≤ q) (hlw : LW a0 a1 w0 w) (m : Msg) (j : Nat) (hj : 1 ≤ j ∧ j ≤ 64) (hst : m.story = (j : Int)) (hl : (W.p.text j).length ≤ 9223372036854775000) (hd : m.data.length ≤ 9223372036854775000) (hcase : ¬ m.seq ≤ W.p.seq j ∧ m.kind = 1 ∧ m.base = 0) :
    Calls Tryd.prog 19 #[.pointer (some ⟨q, 69, none⟩), m.enc] w (AnsEnd q vf va W w (W.p.answer m).1 (W.p.answer m).2) := by
  obtain ⟨am, p', hA⟩ : ∃ am p', W.p.answer m = (am, p') := ⟨_, _, rfl⟩
  rw [hA]
  obtain ⟨kind, partner, seq, story, base, version, data⟩ := m
  simp only at hst hd hcase
  subst hst
  have HCS := Lib.hid hcase
  clear hcase
  have HA : Hid ((am, p') = if seq ≤ W.p.seq j then (if seq = W.p.seq j then (⟨3, partner, seq, j, 0, W.p.sum j, []⟩, W.p) else (⟨4, partner, W.p.seq j, j, W.p.sum j, 0, []⟩, W.p))
      else if kind = 1 then (match W.p.made ⟨kind, partner, seq, j, base, version, data⟩ with | some t => (⟨3, partner, seq, j, 0, version, []⟩, W.p.take j seq true t) | none => (⟨4, partner, seq, j, W.p.sum j, 0, []⟩, W.p)) else (⟨3, partner, seq, j, 0, 0, []⟩, W.p.take j seq false [])) := Lib.hid (by
    rw [← hA]
    unfold Peer.answer ackOf rejOf
    simp only [Int.toNat_natCast]
    rw [if_neg (by omega)]
    by_cases h1 : seq ≤ W.p.seq j
    · rw [if_pos h1, if_pos h1]
      by_cases h2 : seq = W.p.seq j
      · rw [if_pos h2, if_pos h2, h2]
      · rw [if_neg h2, if_neg h2]
    · rw [if_neg h1, if_neg h1]
      split
      · cases W.p.made ⟨kind, partner, seq, j, base, version, data⟩ <;> rfl
      · rfl)
  have hjs : j < 65 := by omega
  have hj1 : (0 : Int) ≤ (j : Int) := by omega
  have hj65 : (j : Int) < 65 := by omega
  have hjn1 : ¬ (j : Int) < 1 := by omega
  have hjn64 : decide ((64 : Int) < (j : Int)) = false := by rw [decide_eq_false_iff_not]; omega
  have c1 := h (69 + j) (by omega)
  rw [wldV_seq _ _ _ _ hjs] at c1
  obtain ⟨c1, f1⟩ := c1
  have HF := Lib.hid h; have HQ := Lib.hid hlw
  unfold Msg.enc
  clear hA h hlw
  go_enter Tryd.func19, Tryd.ntmps19
  go_upto_region 4 with fail
  obtain ⟨K3, hK3⟩ : ∃ K, w.heap.size = K := ⟨_, rfl⟩
  obtain ⟨wA, hwA⟩ : ∃ wA, (((w.alloc (.cells #[.int .i64 kind, .int .i64 partner, .int .i64 seq, .int .i64 j, .int .i64 base, .int .i64 version, .string ⟨data.toArray⟩] 33)).alloc (.cells #[.int .i64 0, .int .i64 0, .int .i64 0, .int .i64 0, .int .i64 0, .int .i64 0, .string ⟨#[]⟩] 33)).alloc (.cells #[.int .i64 3, .int .i64 partner, .int .i64 seq, .int .i64 j, .int .i64 0, .int .i64 0, .string ⟨#[]⟩] 33)) = wA := ⟨_, rfl⟩
  have hM3 : MAt w.heap.size ⟨kind, partner, seq, j, base, version, data⟩ wA := by
    rw [← hwA]
    unfold MAt
    rw [heap_alloc_old _ _ (by simp; omega), heap_alloc_old _ _ (by simp)]
    exact heap_alloc_new w _
  have hM4 : MAt (w.heap.size + 1) ⟨0, 0, 0, 0, 0, 0, []⟩ wA := by
    rw [← hwA]
    unfold MAt
    rw [heap_alloc_old _ _ (by simp)]
    have := heap_alloc_new (w.alloc (.cells #[.int .i64 kind, .int .i64 partner, .int .i64 seq, .int .i64 j, .int .i64 base, .int .i64 version, .string ⟨data.toArray⟩] 33)) (.cells #[.int .i64 0, .int .i64 0, .int .i64 0, .int .i64 0, .int .i64 0, .int .i64 0, .string ⟨#[]⟩] 33)
    simpa [Msg.cells] using this
  have hM5 : MAt (w.heap.size + 1 + 1) ⟨3, partner, seq, j, 0, 0, []⟩ wA := by
    rw [← hwA]
    unfold MAt
    have := heap_alloc_new ((w.alloc (.cells #[.int .i64 kind, .int .i64 partner, .int .i64 seq, .int .i64 j, .int .i64 base, .int .i64 version, .string ⟨data.toArray⟩] 33)).alloc (.cells #[.int .i64 0, .int .i64 0, .int .i64 0, .int .i64 0, .int .i64 0, .int .i64 0, .string ⟨#[]⟩] 33)) (.cells #[.int .i64 3, .int .i64 partner, .int .i64 seq, .int .i64 j, .int .i64 0, .int .i64 0, .string ⟨#[]⟩] 33)
    simpa [Msg.cells] using this
  have hBA : Below w.heap.size w wA := by rw [← hwA]; exact (((Below.refl _ w).alloc (Nat.le_refl _) _).alloc (by simp) _).alloc (by simp; omega) _
  have hFA : SenF 264 wA q (wldV W vf va) := HF.out.kept (hBA.block q hq)
  rw [hwA]
  have hqA : q < wA.heap.size := Nat.lt_of_lt_of_le hq hBA.size
  have HAS : Hid (AS a0 a1 w0 w q vf va K3 ⟨kind, partner, seq, j, base, version, data⟩ W ⟨3, partner, seq, j, 0, 0, []⟩ wA) := Lib.hid ⟨hFA, by rw [← hK3]; exact hM3, ⟨_, by rw [← hK3]; exact hM4⟩, by rw [← hK3]; exact hM5, HQ.out.below hBA, But.of_below hBA, hK3, by rw [← hK3]; exact hq, hq0⟩
  rw [hK3]
  clear hwA hM3 hM4 hM5 hBA hFA c1 f1 HF HQ
  obtain ⟨c1, f1⟩ := HAS.out.f (69 + j) (by omega)
  rw [wldV_seq _ _ _ _ hjs] at c1
  obtain ⟨m0, m1, m2, m3, m4, m5, m6⟩ := HAS.out.m3.c
  simp only at m0 m1 m2 m3 m4 m5 m6
  by_cases hle : seq ≤ W.p.seq j
  · exact absurd hle HCS.out.1
  · obtain ⟨ps, hps⟩ : ∃ x, W.p.seq j = x := ⟨_, rfl⟩
    rw [hps] at c1 hle HA
    have hleb : decide (seq ≤ ps) = false := decide_eq_false hle
    clear hps
    go_quiet (fail)
    obtain ⟨w2, hw2⟩ : ∃ w2, wA.drewN nq = w2 := ⟨_, rfl⟩
    have HA2 : Hid (AS a0 a1 w0 w q vf va K3 ⟨kind, partner, seq, j, base, version, data⟩ W ⟨3, partner, seq, j, 0, 0, []⟩ w2) := Lib.hid (by rw [← hw2]; exact HAS.out.below ((Below.refl _ _).drewN _))
    rw [hw2]
    clear hw2 HAS c1 f1 m0 m1 m2 m3 m4 m5 m6 hqA
    obtain ⟨m0, m1, m2, m3, m4, m5, m6⟩ := HA2.out.m3.c
    simp only at m0 m1 m2 m3 m4 m5 m6
    by_cases hk : kind = 1
    · subst hk
      have HAK : Hid ((am, p') = match W.p.made ⟨1, partner, seq, j, base, version, data⟩ with | some t => (⟨3, partner, seq, j, 0, version, []⟩, W.p.take j seq true t) | none => (⟨4, partner, seq, j, W.p.sum j, 0, []⟩, W.p)) := Lib.hid (by rw [HA.out, if_neg hle, if_pos rfl])
      by_cases hb0 : base = 0
      · have hbb : (base != 0) = false := by rw [hb0]; rfl
        obtain ⟨o, ho⟩ : ∃ o : List UInt8, o = [] := ⟨[], rfl⟩
        have HMD : Hid (W.p.made ⟨1, partner, seq, j, base, version, data⟩ = match applyD o data with | .ok t => if (crcOf o : Int) = base ∧ (crcOf t : Int) = version then some t else none | .error _ => none) := Lib.hid (by
          unfold Peer.made
          simp only [if_pos hb0, ho]
          cases applyD [] data <;> rfl)
        have hoa : (#[] : Array UInt8) = o.toArray := by rw [ho]
        have hl2 : o.length ≤ 9223372036854775000 := by rw [ho]; simp
        have HOA := Lib.hid hoa
        clear hle hb0 ho hoa
        go_upto_region 16 with fail
        rw [HOA.out]
        clear m0 m1 m2 m3 m4 m5 m6
        have hol : o.length ≤ 9223372036854775000 := hl2
        obtain ⟨r, hr⟩ : ∃ r, applyD o data = r := ⟨_, rfl⟩
        have HAP := Lib.hid (apply_list o data w2 hol hd HA2.out.lw.s HA2.out.lw.h)
        rw [hr] at HAP
        have HR := Lib.hid hr
        have HOL := Lib.hid hol
        obtain ⟨m0, m1, m2, m3, m4, m5, m6⟩ := HA2.out.m3.c
        simp only at m0 m1 m2 m3 m4 m5 m6
        clear hr hol
        cases r with
        | error er =>
          obtain ⟨rfl, rfl⟩ := Prod.mk.inj (show (am, p') = (⟨4, partner, seq, j, W.p.sum j, 0, []⟩, W.p) by rw [HAK.out, HMD.out, HR.out])
          have hern : (er != 0) = true := by rw [bne_iff_ne]; have := applyD_err HR.out; omega
          go_wp2_with (first | (go_at_call 35; refine HAP.out.mono ?_; rintro e w7 ⟨rfl, hb7⟩; unfold exTup; have HA7 := Lib.hid (HA2.out.below hb7)) | fail)
          clear HAP hb7 HA2 m0 m1 m2 m3 m4 m5 m6
          obtain ⟨m0, m1, m2, m3, m4, m5, m6⟩ := HA7.out.m3.c
          simp only at m0 m1 m2 m3 m4 m5 m6
          have HSO := fun n => Lib.hid (sum_l o (w7.drewN n) HOL.out HA7.out.lw.h)
          by_cases hc : (crcOf o : Int) = base
          · have hcb : ((crcOf o : Int) != base) = false := by rw [hc]; simp
            clear hc
            go_quiet ((go_at_call 12; first | (with_reducible exact Calls.quiet_of_same (((HSO _).out).mono fun _ _ h => ⟨h.1, h.2.symm⟩)) | (with_reducible exact Calls.quiet_of_same (((HST _).out).mono fun _ _ h => ⟨h.1, h.2.symm⟩))))
            obtain ⟨w8, hw8⟩ : ∃ w8, w7.drewN nq = w8 := ⟨_, rfl⟩
            have HA8 : Hid (AS a0 a1 w0 w q vf va K3 ⟨1, partner, seq, j, base, version, data⟩ W ⟨3, partner, seq, j, 0, 0, []⟩ w8) := Lib.hid (by rw [← hw8]; exact HA7.out.below ((Below.refl _ _).drewN _))
            rw [hw8]
            clear hw8 HA7 m0 m1 m2 m3 m4 m5 m6
            obtain ⟨sm, hsm⟩ : ∃ x, W.p.sum j = x := ⟨_, rfl⟩
            have HSM2 := Lib.hid hsm
            try rw [hsm]
            clear hsm
            have b0 := HA8.out.m5.c.1
            have g0 := HA8.out.m5.frozen 0
            simp only at b0
            go_upto_region 19 with fail
            obtain ⟨w9, hw9⟩ : ∃ w9, w8.setCell ⟨K3 + 1 + 1, 0, none⟩ (.int .i64 4) = w9 := ⟨_, rfl⟩
            have HA9 : Hid (AS a0 a1 w0 w q vf va K3 ⟨1, partner, seq, j, base, version, data⟩ W ⟨4, partner, seq, j, 0, 0, []⟩ w9) := Lib.hid (by rw [← hw9]; exact HA8.out.put5 (HA8.out.m5.put0 4))
            rw [hw9]
            clear hw9 HA8 b0 g0
            have HSM := Lib.hid (HA9.out.sum j hjs hl)
            rw [HSM2.out] at HSM
            obtain ⟨m0, m1, m2, m3, m4, m5, m6⟩ := HA9.out.m3.c
            have b4 := HA9.out.m5.c.2.2.2.2.1
            have g4 := HA9.out.m5.frozen 4
            simp only at m0 m1 m2 m3 m4 m5 m6 b4
            go_upto_region 20 with (first | (go_at_call 34; refine HSM.out.mono ?_; rintro e w' ⟨rfl, rfl⟩) | fail)
            obtain ⟨w5, hw5⟩ : ∃ w5, w9.setCell ⟨K3 + 1 + 1, 4, none⟩ (.int .i64 sm) = w5 := ⟨_, rfl⟩
            have HA5 : Hid (AS a0 a1 w0 w q vf va K3 ⟨1, partner, seq, j, base, version, data⟩ W ⟨4, partner, seq, j, sm, 0, []⟩ w5) := Lib.hid (by rw [← hw5]; exact HA9.out.put5 (HA9.out.m5.put4 sm))
            rw [hw5]
            clear hw5 HA9 m0 m1 m2 m3 m4 m5 m6 b4 g4 HSM
            obtain ⟨b0, b1, b2, b3, b4, b5, b6⟩ := HA5.out.m5.c
            obtain ⟨x4, hx4⟩ := HA5.out.m4
            obtain ⟨d0, d1, d2, d3, d4, d5, d6⟩ := hx4.c
            have e0 := hx4.frozen 0; have e1 := hx4.frozen 1; have e2 := hx4.frozen 2; have e3 := hx4.frozen 3; have e4 := hx4.frozen 4; have e5 := hx4.frozen 5; have e6 := hx4.frozen 6
            simp only at b0 b1 b2 b3 b4 b5 b6
            obtain ⟨hm4, hf4, hbt4⟩ := HA5.out.end_
            have HF4 := Lib.hid hf4; have HBT4 := Lib.hid hbt4
            obtain ⟨n0, n1, n2, n3, n4, n5, n6⟩ := hm4.c
            obtain ⟨w6, hw6⟩ : ∃ wz, store7 (K3 + 1) ⟨4, partner, seq, j, sm, 0, []⟩ w5 = wz := ⟨_, rfl⟩
            rw [hw6] at HF4 HBT4 n0 n1 n2 n3 n4 n5 n6
            simp only at n0 n1 n2 n3 n4 n5 n6
            unfold store7 at hw6
            simp only at hw6
            clear hx4 hm4 hf4 hbt4 HA5
            go_wp2_with fail
            exact bodyPost_ret (v := Msg.enc ⟨4, partner, seq, j, sm, 0, []⟩) (by simp [results, Tryd.results19, go_sem, Msg.enc, n0, n1, n2, n3, n4, n5, n6]) rfl ⟨by first | rfl | rw [HSM2.out], HF4.out, HBT4.out⟩
          · have hcb : ((crcOf o : Int) != base) = true := by rw [bne_iff_ne]; exact hc
            clear hc
            go_quiet ((go_at_call 12; first | (with_reducible exact Calls.quiet_of_same (((HSO _).out).mono fun _ _ h => ⟨h.1, h.2.symm⟩)) | (with_reducible exact Calls.quiet_of_same (((HST _).out).mono fun _ _ h => ⟨h.1, h.2.symm⟩))))
            obtain ⟨w8, hw8⟩ : ∃ w8, w7.drewN nq = w8 := ⟨_, rfl⟩
            have HA8 : Hid (AS a0 a1 w0 w q vf va K3 ⟨1, partner, seq, j, base, version, data⟩ W ⟨3, partner, seq, j, 0, 0, []⟩ w8) := Lib.hid (by rw [← hw8]; exact HA7.out.below ((Below.refl _ _).drewN _))
            rw [hw8]
            clear hw8 HA7 m0 m1 m2 m3 m4 m5 m6
            obtain ⟨sm, hsm⟩ : ∃ x, W.p.sum j = x := ⟨_, rfl⟩
            have HSM2 := Lib.hid hsm
            try rw [hsm]
            clear hsm
            have b0 := HA8.out.m5.c.1
            have g0 := HA8.out.m5.frozen 0
            simp only at b0
            go_upto_region 19 with fail
            obtain ⟨w9, hw9⟩ : ∃ w9, w8.setCell ⟨K3 + 1 + 1, 0, none⟩ (.int .i64 4) = w9 := ⟨_, rfl⟩
            have HA9 : Hid (AS a0 a1 w0 w q vf va K3 ⟨1, partner, seq, j, base, version, data⟩ W ⟨4, partner, seq, j, 0, 0, []⟩ w9) := Lib.hid (by rw [← hw9]; exact HA8.out.put5 (HA8.out.m5.put0 4))
            rw [hw9]
            clear hw9 HA8 b0 g0
            have HSM := Lib.hid (HA9.out.sum j hjs hl)
            rw [HSM2.out] at HSM
            obtain ⟨m0, m1, m2, m3, m4, m5, m6⟩ := HA9.out.m3.c
            have b4 := HA9.out.m5.c.2.2.2.2.1
            have g4 := HA9.out.m5.frozen 4
            simp only at m0 m1 m2 m3 m4 m5 m6 b4
            go_upto_region 20 with (first | (go_at_call 34; refine HSM.out.mono ?_; rintro e w' ⟨rfl, rfl⟩) | fail)
            obtain ⟨w5, hw5⟩ : ∃ w5, w9.setCell ⟨K3 + 1 + 1, 4, none⟩ (.int .i64 sm) = w5 := ⟨_, rfl⟩
            have HA5 : Hid (AS a0 a1 w0 w q vf va K3 ⟨1, partner, seq, j, base, version, data⟩ W ⟨4, partner, seq, j, sm, 0, []⟩ w5) := Lib.hid (by rw [← hw5]; exact HA9.out.put5 (HA9.out.m5.put4 sm))
            rw [hw5]
            clear hw5 HA9 m0 m1 m2 m3 m4 m5 m6 b4 g4 HSM
            obtain ⟨b0, b1, b2, b3, b4, b5, b6⟩ := HA5.out.m5.c
            obtain ⟨x4, hx4⟩ := HA5.out.m4
            obtain ⟨d0, d1, d2, d3, d4, d5, d6⟩ := hx4.c
            have e0 := hx4.frozen 0; have e1 := hx4.frozen 1; have e2 := hx4.frozen 2; have e3 := hx4.frozen 3; have e4 := hx4.frozen 4; have e5 := hx4.frozen 5; have e6 := hx4.frozen 6
            simp only at b0 b1 b2 b3 b4 b5 b6
            obtain ⟨hm4, hf4, hbt4⟩ := HA5.out.end_
            have HF4 := Lib.hid hf4; have HBT4 := Lib.hid hbt4
            obtain ⟨n0, n1, n2, n3, n4, n5, n6⟩ := hm4.c
            obtain ⟨w6, hw6⟩ : ∃ wz, store7 (K3 + 1) ⟨4, partner, seq, j, sm, 0, []⟩ w5 = wz := ⟨_, rfl⟩
            rw [hw6] at HF4 HBT4 n0 n1 n2 n3 n4 n5 n6
            simp only at n0 n1 n2 n3 n4 n5 n6
            unfold store7 at hw6
            simp only at hw6
            clear hx4 hm4 hf4 hbt4 HA5
            go_wp2_with fail
            exact bodyPost_ret (v := Msg.enc ⟨4, partner, seq, j, sm, 0, []⟩) (by simp [results, Tryd.results19, go_sem, Msg.enc, n0, n1, n2, n3, n4, n5, n6]) rfl ⟨by first | rfl | rw [HSM2.out], HF4.out, HBT4.out⟩
        | ok t =>
          have htl := applyD_len HR.out
          go_wp2_with (first | (go_at_call 35; refine HAP.out.mono ?_; rintro e w7 ⟨rfl, hb7⟩; unfold exTup; have HA7 := Lib.hid (HA2.out.below hb7)) | fail)
          clear HAP hb7 HA2 m0 m1 m2 m3 m4 m5 m6
          obtain ⟨m0, m1, m2, m3, m4, m5, m6⟩ := HA7.out.m3.c
          simp only at m0 m1 m2 m3 m4 m5 m6
          have HSO := fun n => Lib.hid (sum_l o (w7.drewN n) HOL.out HA7.out.lw.h)
          have HST := fun n => Lib.hid (sum_l t (w7.drewN n) (by omega) HA7.out.lw.h)
          by_cases hc : (crcOf o : Int) = base
          · have hcb : ((crcOf o : Int) != base) = false := by rw [hc]; simp
            by_cases hv : (crcOf t : Int) = version
            · have hvb : ((crcOf t : Int) != version) = false := by rw [hv]; simp
              obtain ⟨rfl, rfl⟩ := Prod.mk.inj (show (am, p') = (⟨3, partner, seq, j, 0, version, []⟩, W.p.take j seq true t) by have hmd := HMD.out; rw [HR.out] at hmd; simp only at hmd; rw [if_pos (show (crcOf o : Int) = base ∧ (crcOf t : Int) = version from ⟨hc, hv⟩)] at hmd; rw [HAK.out, hmd])
              clear hc hv HAK HMD
              go_quiet ((go_at_call 12; first | (with_reducible exact Calls.quiet_of_same (((HSO _).out).mono fun _ _ h => ⟨h.1, h.2.symm⟩)) | (with_reducible exact Calls.quiet_of_same (((HST _).out).mono fun _ _ h => ⟨h.1, h.2.symm⟩))))
              obtain ⟨w8, hw8⟩ : ∃ w8, w7.drewN nq = w8 := ⟨_, rfl⟩
              have HA8 : Hid (AS a0 a1 w0 w q vf va K3 ⟨1, partner, seq, j, base, version, data⟩ W ⟨3, partner, seq, j, 0, 0, []⟩ w8) := Lib.hid (by rw [← hw8]; exact HA7.out.below ((Below.refl _ _).drewN _))
              rw [hw8]
              clear hw8 HA7 m0 m1 m2 m3 m4 m5 m6
              obtain ⟨m0, m1, m2, m3, m4, m5, m6⟩ := HA8.out.m3.c
              have b5 := HA8.out.m5.c.2.2.2.2.2.1
              have g5 := HA8.out.m5.frozen 5
              simp only at m0 m1 m2 m3 m4 m5 m6 b5
              go_upto_region 22 with fail
              obtain ⟨w9, hw9⟩ : ∃ w9, w8.setCell ⟨K3 + 1 + 1, 5, none⟩ (.int .i64 version) = w9 := ⟨_, rfl⟩
              have HA9 : Hid (AS a0 a1 w0 w q vf va K3 ⟨1, partner, seq, j, base, version, data⟩ W ⟨3, partner, seq, j, 0, version, []⟩ w9) := Lib.hid (by rw [← hw9]; exact HA8.out.put5 (HA8.out.m5.put5 version))
              rw [hw9]
              clear hw9 HA8 m0 m1 m2 m3 m4 m5 m6 b5 g5
              obtain ⟨m0, m1, m2, m3, m4, m5, m6⟩ := HA9.out.m3.c
              simp only at m0 m1 m2 m3 m4 m5 m6
              obtain ⟨t1, t2⟩ := HA9.out.f (199 + j) (by omega)
              rw [wldV_text _ _ _ _ hjs] at t1
              go_region
              obtain ⟨w3, hw3⟩ : ∃ w3, (w9.setCell ⟨q, 199 + j, none⟩ (.string ⟨t.toArray⟩)).drew = w3 := ⟨_, rfl⟩
              have HA3 : Hid (AS a0 a1 w0 w q vf va K3 ⟨1, partner, seq, j, base, version, data⟩ { W with p := { W.p with text := updF W.p.text j t } } ⟨3, partner, seq, j, 0, version, []⟩ w3) := Lib.hid (by rw [← hw3]; exact (HA9.out.putq (by omega) (put_text _ vf va j hjs t)).below (Below.refl _ _).drew)
              rw [hw3]
              clear hw3 HA9 m0 m1 m2 m3 m4 m5 m6 t1 t2
              obtain ⟨m0, m1, m2, m3, m4, m5, m6⟩ := HA3.out.m3.c
              simp only at m0 m1 m2 m3 m4 m5 m6
              obtain ⟨t1, t2⟩ := HA3.out.f (134 + j) (by omega)
              rw [wldV_has _ _ _ _ hjs] at t1
              go_upto_region 24 with fail
              go_region
              obtain ⟨w4, hw4⟩ : ∃ w4, (w3.setCell ⟨q, 134 + j, none⟩ (.bool true)).drew = w4 := ⟨_, rfl⟩
              have HA4 : Hid (AS a0 a1 w0 w q vf va K3 ⟨1, partner, seq, j, base, version, data⟩ { W with p := { { W.p with text := updF W.p.text j t } with has := updF W.p.has j true } } ⟨3, partner, seq, j, 0, version, []⟩ w4) := Lib.hid (by rw [← hw4]; exact (HA3.out.putq (by omega) (put_has _ vf va j hjs true)).below (Below.refl _ _).drew)
              rw [hw4]
              clear hw4 HA3 m0 m1 m2 m3 m4 m5 m6 t1 t2
              obtain ⟨m0, m1, m2, m3, m4, m5, m6⟩ := HA4.out.m3.c
              simp only at m0 m1 m2 m3 m4 m5 m6
              obtain ⟨t1, t2⟩ := HA4.out.f (69 + j) (by omega)
              rw [wldV_seq _ _ _ _ hjs] at t1
              go_upto_region 25 with fail
              go_region
              obtain ⟨w5, hw5⟩ : ∃ w5, (w4.setCell ⟨q, 69 + j, none⟩ (.int .i64 seq)).drew = w5 := ⟨_, rfl⟩
              have HA5 : Hid (AS a0 a1 w0 w q vf va K3 ⟨1, partner, seq, j, base, version, data⟩ { W with p := W.p.take j seq true t } ⟨3, partner, seq, j, 0, version, []⟩ w5) := Lib.hid (by rw [← hw5]; exact (HA4.out.putq (by omega) (put_seq _ vf va j hjs seq)).below (Below.refl _ _).drew)
              rw [hw5]
              clear hw5 HA4 m0 m1 m2 m3 m4 m5 m6 t1 t2
              obtain ⟨b0, b1, b2, b3, b4, b5, b6⟩ := HA5.out.m5.c
              obtain ⟨x4, hx4⟩ := HA5.out.m4
              obtain ⟨d0, d1, d2, d3, d4, d5, d6⟩ := hx4.c
              have e0 := hx4.frozen 0; have e1 := hx4.frozen 1; have e2 := hx4.frozen 2; have e3 := hx4.frozen 3; have e4 := hx4.frozen 4; have e5 := hx4.frozen 5; have e6 := hx4.frozen 6
              simp only at b0 b1 b2 b3 b4 b5 b6
              obtain ⟨hm4, hf4, hbt4⟩ := HA5.out.end_
              have HF4 := Lib.hid hf4; have HBT4 := Lib.hid hbt4
              obtain ⟨n0, n1, n2, n3, n4, n5, n6⟩ := hm4.c
              obtain ⟨w6, hw6⟩ : ∃ wz, store7 (K3 + 1) ⟨3, partner, seq, j, 0, version, []⟩ w5 = wz := ⟨_, rfl⟩
              rw [hw6] at HF4 HBT4 n0 n1 n2 n3 n4 n5 n6
              simp only at n0 n1 n2 n3 n4 n5 n6
              unfold store7 at hw6
              simp only at hw6
              clear hx4 hm4 hf4 hbt4 HA5
              go_wp2_with fail
              exact bodyPost_ret (v := Msg.enc ⟨3, partner, seq, j, 0, version, []⟩) (by simp [results, Tryd.results19, go_sem, Msg.enc, n0, n1, n2, n3, n4, n5, n6]) rfl ⟨by first | rfl | rw [HSM2.out], HF4.out, HBT4.out⟩
            · have hvb : ((crcOf t : Int) != version) = true := by rw [bne_iff_ne]; exact hv
              obtain ⟨rfl, rfl⟩ := Prod.mk.inj (show (am, p') = (⟨4, partner, seq, j, W.p.sum j, 0, []⟩, W.p) by have hmd := HMD.out; rw [HR.out] at hmd; simp only at hmd; rw [if_neg (fun h => hv h.2)] at hmd; rw [HAK.out, hmd])
              clear hc hv HAK HMD
              go_quiet ((go_at_call 12; first | (with_reducible exact Calls.quiet_of_same (((HSO _).out).mono fun _ _ h => ⟨h.1, h.2.symm⟩)) | (with_reducible exact Calls.quiet_of_same (((HST _).out).mono fun _ _ h => ⟨h.1, h.2.symm⟩))))
              obtain ⟨w8, hw8⟩ : ∃ w8, w7.drewN nq = w8 := ⟨_, rfl⟩
              have HA8 : Hid (AS a0 a1 w0 w q vf va K3 ⟨1, partner, seq, j, base, version, data⟩ W ⟨3, partner, seq, j, 0, 0, []⟩ w8) := Lib.hid (by rw [← hw8]; exact HA7.out.below ((Below.refl _ _).drewN _))
              rw [hw8]
              clear hw8 HA7 m0 m1 m2 m3 m4 m5 m6
              obtain ⟨sm, hsm⟩ : ∃ x, W.p.sum j = x := ⟨_, rfl⟩
              have HSM2 := Lib.hid hsm
              try rw [hsm]
              clear hsm
              have b0 := HA8.out.m5.c.1
              have g0 := HA8.out.m5.frozen 0
              simp only at b0
              go_upto_region 19 with fail
              obtain ⟨w9, hw9⟩ : ∃ w9, w8.setCell ⟨K3 + 1 + 1, 0, none⟩ (.int .i64 4) = w9 := ⟨_, rfl⟩
              have HA9 : Hid (AS a0 a1 w0 w q vf va K3 ⟨1, partner, seq, j, base, version, data⟩ W ⟨4, partner, seq, j, 0, 0, []⟩ w9) := Lib.hid (by rw [← hw9]; exact HA8.out.put5 (HA8.out.m5.put0 4))
              rw [hw9]
              clear hw9 HA8 b0 g0
              have HSM := Lib.hid (HA9.out.sum j hjs hl)
              rw [HSM2.out] at HSM
              obtain ⟨m0, m1, m2, m3, m4, m5, m6⟩ := HA9.out.m3.c
              have b4 := HA9.out.m5.c.2.2.2.2.1
              have g4 := HA9.out.m5.frozen 4
              simp only at m0 m1 m2 m3 m4 m5 m6 b4
              go_upto_region 20 with (first | (go_at_call 34; refine HSM.out.mono ?_; rintro e w' ⟨rfl, rfl⟩) | fail)
              obtain ⟨w5, hw5⟩ : ∃ w5, w9.setCell ⟨K3 + 1 + 1, 4, none⟩ (.int .i64 sm) = w5 := ⟨_, rfl⟩
              have HA5 : Hid (AS a0 a1 w0 w q vf va K3 ⟨1, partner, seq, j, base, version, data⟩ W ⟨4, partner, seq, j, sm, 0, []⟩ w5) := Lib.hid (by rw [← hw5]; exact HA9.out.put5 (HA9.out.m5.put4 sm))
              rw [hw5]
              clear hw5 HA9 m0 m1 m2 m3 m4 m5 m6 b4 g4 HSM
              obtain ⟨b0, b1, b2, b3, b4, b5, b6⟩ := HA5.out.m5.c
              obtain ⟨x4, hx4⟩ := HA5.out.m4
              obtain ⟨d0, d1, d2, d3, d4, d5, d6⟩ := hx4.c
              have e0 := hx4.frozen 0; have e1 := hx4.frozen 1; have e2 := hx4.frozen 2; have e3 := hx4.frozen 3; have e4 := hx4.frozen 4; have e5 := hx4.frozen 5; have e6 := hx4.frozen 6
              simp only at b0 b1 b2 b3 b4 b5 b6
              obtain ⟨hm4, hf4, hbt4⟩ := HA5.out.end_
              have HF4 := Lib.hid hf4; have HBT4 := Lib.hid hbt4
              obtain ⟨n0, n1, n2, n3, n4, n5, n6⟩ := hm4.c
              obtain ⟨w6, hw6⟩ : ∃ wz, store7 (K3 + 1) ⟨4, partner, seq, j, sm, 0, []⟩ w5 = wz := ⟨_, rfl⟩
              rw [hw6] at HF4 HBT4 n0 n1 n2 n3 n4 n5 n6
              simp only at n0 n1 n2 n3 n4 n5 n6
              unfold store7 at hw6
              simp only at hw6
              clear hx4 hm4 hf4 hbt4 HA5
              go_wp2_with fail
              exact bodyPost_ret (v := Msg.enc ⟨4, partner, seq, j, sm, 0, []⟩) (by simp [results, Tryd.results19, go_sem, Msg.enc, n0, n1, n2, n3, n4, n5, n6]) rfl ⟨by first | rfl | rw [HSM2.out], HF4.out, HBT4.out⟩
          · have hcb : ((crcOf o : Int) != base) = true := by rw [bne_iff_ne]; exact hc
            obtain ⟨rfl, rfl⟩ := Prod.mk.inj (show (am, p') = (⟨4, partner, seq, j, W.p.sum j, 0, []⟩, W.p) by have hmd := HMD.out; rw [HR.out] at hmd; simp only at hmd; rw [if_neg (fun h => hc h.1)] at hmd; rw [HAK.out, hmd])
            clear hc HAK HMD
            go_quiet ((go_at_call 12; first | (with_reducible exact Calls.quiet_of_same (((HSO _).out).mono fun _ _ h => ⟨h.1, h.2.symm⟩)) | (with_reducible exact Calls.quiet_of_same (((HST _).out).mono fun _ _ h => ⟨h.1, h.2.symm⟩))))
            obtain ⟨w8, hw8⟩ : ∃ w8, w7.drewN nq = w8 := ⟨_, rfl⟩
            have HA8 : Hid (AS a0 a1 w0 w q vf va K3 ⟨1, partner, seq, j, base, version, data⟩ W ⟨3, partner, seq, j, 0, 0, []⟩ w8) := Lib.hid (by rw [← hw8]; exact HA7.out.below ((Below.refl _ _).drewN _))
            rw [hw8]
            clear hw8 HA7 m0 m1 m2 m3 m4 m5 m6
            obtain ⟨sm, hsm⟩ : ∃ x, W.p.sum j = x := ⟨_, rfl⟩
            have HSM2 := Lib.hid hsm
            try rw [hsm]
            clear hsm
            have b0 := HA8.out.m5.c.1
            have g0 := HA8.out.m5.frozen 0
            simp only at b0
            go_upto_region 19 with fail
            obtain ⟨w9, hw9⟩ : ∃ w9, w8.setCell ⟨K3 + 1 + 1, 0, none⟩ (.int .i64 4) = w9 := ⟨_, rfl⟩
            have HA9 : Hid (AS a0 a1 w0 w q vf va K3 ⟨1, partner, seq, j, base, version, data⟩ W ⟨4, partner, seq, j, 0, 0, []⟩ w9) := Lib.hid (by rw [← hw9]; exact HA8.out.put5 (HA8.out.m5.put0 4))
            rw [hw9]
            clear hw9 HA8 b0 g0
            have HSM := Lib.hid (HA9.out.sum j hjs hl)
            rw [HSM2.out] at HSM
            obtain ⟨m0, m1, m2, m3, m4, m5, m6⟩ := HA9.out.m3.c
            have b4 := HA9.out.m5.c.2.2.2.2.1
            have g4 := HA9.out.m5.frozen 4
            simp only at m0 m1 m2 m3 m4 m5 m6 b4
            go_upto_region 20 with (first | (go_at_call 34; refine HSM.out.mono ?_; rintro e w' ⟨rfl, rfl⟩) | fail)
            obtain ⟨w5, hw5⟩ : ∃ w5, w9.setCell ⟨K3 + 1 + 1, 4, none⟩ (.int .i64 sm) = w5 := ⟨_, rfl⟩
            have HA5 : Hid (AS a0 a1 w0 w q vf va K3 ⟨1, partner, seq, j, base, version, data⟩ W ⟨4, partner, seq, j, sm, 0, []⟩ w5) := Lib.hid (by rw [← hw5]; exact HA9.out.put5 (HA9.out.m5.put4 sm))
            rw [hw5]
            clear hw5 HA9 m0 m1 m2 m3 m4 m5 m6 b4 g4 HSM
            obtain ⟨b0, b1, b2, b3, b4, b5, b6⟩ := HA5.out.m5.c
            obtain ⟨x4, hx4⟩ := HA5.out.m4
            obtain ⟨d0, d1, d2, d3, d4, d5, d6⟩ := hx4.c
            have e0 := hx4.frozen 0; have e1 := hx4.frozen 1; have e2 := hx4.frozen 2; have e3 := hx4.frozen 3; have e4 := hx4.frozen 4; have e5 := hx4.frozen 5; have e6 := hx4.frozen 6
            simp only at b0 b1 b2 b3 b4 b5 b6
            obtain ⟨hm4, hf4, hbt4⟩ := HA5.out.end_
            have HF4 := Lib.hid hf4; have HBT4 := Lib.hid hbt4
            obtain ⟨n0, n1, n2, n3, n4, n5, n6⟩ := hm4.c
            obtain ⟨w6, hw6⟩ : ∃ wz, store7 (K3 + 1) ⟨4, partner, seq, j, sm, 0, []⟩ w5 = wz := ⟨_, rfl⟩
            rw [hw6] at HF4 HBT4 n0 n1 n2 n3 n4 n5 n6
            simp only at n0 n1 n2 n3 n4 n5 n6
            unfold store7 at hw6
            simp only at hw6
            clear hx4 hm4 hf4 hbt4 HA5
            go_wp2_with fail
            exact bodyPost_ret (v := Msg.enc ⟨4, partner, seq, j, sm, 0, []⟩) (by simp [results, Tryd.results19, go_sem, Msg.enc, n0, n1, n2, n3, n4, n5, n6]) rfl ⟨by first | rfl | rw [HSM2.out], HF4.out, HBT4.out⟩
      · exact absurd HCS.out.2.2 hb0
    · exact absurd HCS.out.2.1 hk
end Go.Proofs.YtefloieanpgnmaaDoor

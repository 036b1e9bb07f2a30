/- Facts and contracts for the laws of the sender, part 13. Conditions: those that each theorem names. -/
import Derived.Test.YtefloieanpgnmaaDoorK12
/- The law's partner: answer (what has been, what is no delivery). -/
namespace Go.Proofs.YtefloieanpgnmaaDoor
open Go.RowKit

set_option maxRecDepth 100000 in
set_option maxHeartbeats 16000000 in
theorem answer_a {a0 a1 : Addr} {w0 : World} {W : Wld} {vf va : Value} {q : Nat} {w : World} (h : SenF 264 w q (wldV W vf va)) (hq : q < w.heap.size) (hq0 : w0.heap.size ≤ q) (hlw : LW a0 a1 w0 w) (m : Msg) (j : Nat) (hj : 1 ≤ j ∧ j ≤ 64) (hst : m.story = (j : Int)) (hl : (W.p.text j).length ≤ 9223372036854775000) (hd : m.data.length ≤ 9223372036854775000) (hcase : ¬ (¬ m.seq ≤ W.p.seq j ∧ m.kind = 1)) :
    Calls Tryd.prog 19 #[.pointer (some ⟨q, 69, none⟩), m.enc] w (AnsEnd q vf va W w (W.p.answer m).1 (W.p.answer m).2) := by
  obtain ⟨am, p', hA⟩ : ∃ am p', W.p.answer m = (am, p') := ⟨_, _, rfl⟩
  rw [hA]
  obtain ⟨kind, partner, seq, story, base, version, data⟩ := m
  simp only at hst hd hcase
  subst hst
  have HCS := Lib.hid hcase
  clear hcase
  have HA : Hid ((am, p') = if seq ≤ W.p.seq j then (if seq = W.p.seq j then (⟨3, partner, seq, j, 0, W.p.sum j, []⟩, W.p) else (⟨4, partner, W.p.seq j, j, W.p.sum j, 0, []⟩, W.p))
      else if kind = 1 then (match W.p.made ⟨kind, partner, seq, j, base, version, data⟩ with | some t => (⟨3, partner, seq, j, 0, version, []⟩, W.p.take j seq true t) | none => (⟨4, partner, seq, j, W.p.sum j, 0, []⟩, W.p)) else (⟨3, partner, seq, j, 0, 0, []⟩, W.p.take j seq false [])) := Lib.hid (by
    rw [← hA]
    unfold Peer.answer ackOf rejOf
    simp only [Int.toNat_natCast]
    rw [if_neg (by omega)]
    by_cases h1 : seq ≤ W.p.seq j
    · rw [if_pos h1, if_pos h1]
      by_cases h2 : seq = W.p.seq j
      · rw [if_pos h2, if_pos h2, h2]
      · rw [if_neg h2, if_neg h2]
    · rw [if_neg h1, if_neg h1]
      split
      · cases W.p.made ⟨kind, partner, seq, j, base, version, data⟩ <;> rfl
      · rfl)
  have hjs : j < 65 := by omega
  have hj1 : (0 : Int) ≤ (j : Int) := by omega
  have hj65 : (j : Int) < 65 := by omega
  have hjn1 : ¬ (j : Int) < 1 := by omega
  have hjn64 : decide ((64 : Int) < (j : Int)) = false := by rw [decide_eq_false_iff_not]; omega
  have c1 := h (69 + j) (by omega)
  rw [wldV_seq _ _ _ _ hjs] at c1
  obtain ⟨c1, f1⟩ := c1
  have HF := Lib.hid h; have HQ := Lib.hid hlw
  unfold Msg.enc
  clear hA h hlw
  go_enter Tryd.func19, Tryd.ntmps19
  go_upto_region 4 with fail
  obtain ⟨K3, hK3⟩ : ∃ K, w.heap.size = K := ⟨_, rfl⟩
  obtain ⟨wA, hwA⟩ : ∃ wA, (((w.alloc (.cells #[.int .i64 kind, .int .i64 partner, .int .i64 seq, .int .i64 j, .int .i64 base, .int .i64 version, .string ⟨data.toArray⟩] 33)).alloc (.cells #[.int .i64 0, .int .i64 0, .int .i64 0, .int .i64 0, .int .i64 0, .int .i64 0, .string ⟨#[]⟩] 33)).alloc (.cells #[.int .i64 3, .int .i64 partner, .int .i64 seq, .int .i64 j, .int .i64 0, .int .i64 0, .string ⟨#[]⟩] 33)) = wA := ⟨_, rfl⟩
  have hM3 : MAt w.heap.size ⟨kind, partner, seq, j, base, version, data⟩ wA := by
    rw [← hwA]
    unfold MAt
    rw [heap_alloc_old _ _ (by simp; omega), heap_alloc_old _ _ (by simp)]
    exact heap_alloc_new w _
  have hM4 : MAt (w.heap.size + 1) ⟨0, 0, 0, 0, 0, 0, []⟩ wA := by
    rw [← hwA]
    unfold MAt
    rw [heap_alloc_old _ _ (by simp)]
    have := heap_alloc_new (w.alloc (.cells #[.int .i64 kind, .int .i64 partner, .int .i64 seq, .int .i64 j, .int .i64 base, .int .i64 version, .string ⟨data.toArray⟩] 33)) (.cells #[.int .i64 0, .int .i64 0, .int .i64 0, .int .i64 0, .int .i64 0, .int .i64 0, .string ⟨#[]⟩] 33)
    simpa [Msg.cells] using this
  have hM5 : MAt (w.heap.size + 1 + 1) ⟨3, partner, seq, j, 0, 0, []⟩ wA := by
    rw [← hwA]
    unfold MAt
    have := heap_alloc_new ((w.alloc (.cells #[.int .i64 kind, .int .i64 partner, .int .i64 seq, .int .i64 j, .int .i64 base, .int .i64 version, .string ⟨data.toArray⟩] 33)).alloc (.cells #[.int .i64 0, .int .i64 0, .int .i64 0, .int .i64 0, .int .i64 0, .int .i64 0, .string ⟨#[]⟩] 33)) (.cells #[.int .i64 3, .int .i64 partner, .int .i64 seq, .int .i64 j, .int .i64 0, .int .i64 0, .string ⟨#[]⟩] 33)
    simpa [Msg.cells] using this
  have hBA : Below w.heap.size w wA := by rw [← hwA]; exact (((Below.refl _ w).alloc (Nat.le_refl _) _).alloc (by simp) _).alloc (by simp; omega) _
  have hFA : SenF 264 wA q (wldV W vf va) := HF.out.kept (hBA.block q hq)
  rw [hwA]
  have hqA : q < wA.heap.size := Nat.lt_of_lt_of_le hq hBA.size
  have HAS : Hid (AS a0 a1 w0 w q vf va K3 ⟨kind, partner, seq, j, base, version, data⟩ W ⟨3, partner, seq, j, 0, 0, []⟩ wA) := Lib.hid ⟨hFA, by rw [← hK3]; exact hM3, ⟨_, by rw [← hK3]; exact hM4⟩, by rw [← hK3]; exact hM5, HQ.out.below hBA, But.of_below hBA, hK3, by rw [← hK3]; exact hq, hq0⟩
  rw [hK3]
  clear hwA hM3 hM4 hM5 hBA hFA c1 f1 HF HQ
  obtain ⟨c1, f1⟩ := HAS.out.f (69 + j) (by omega)
  rw [wldV_seq _ _ _ _ hjs] at c1
  obtain ⟨m0, m1, m2, m3, m4, m5, m6⟩ := HAS.out.m3.c
  simp only at m0 m1 m2 m3 m4 m5 m6
  by_cases hle : seq ≤ W.p.seq j
  · obtain ⟨ps, hps⟩ : ∃ x, W.p.seq j = x := ⟨_, rfl⟩
    rw [hps] at c1 hle HA HCS
    clear hps
    go_quiet (fail)
    obtain ⟨w2, hw2⟩ : ∃ w2, wA.drewN nq = w2 := ⟨_, rfl⟩
    have HA2 : Hid (AS a0 a1 w0 w q vf va K3 ⟨kind, partner, seq, j, base, version, data⟩ W ⟨3, partner, seq, j, 0, 0, []⟩ w2) := Lib.hid (by rw [← hw2]; exact HAS.out.below ((Below.refl _ _).drewN _))
    have c1' : w2.cell? ⟨q, 69 + j, none⟩ = some (.int .i64 ps) := by rw [← hw2]; exact c1
    rw [hw2]
    clear hw2 HAS c1 f1 m0 m1 m2 m3 m4 m5 m6 hqA
    obtain ⟨m0, m1, m2, m3, m4, m5, m6⟩ := HA2.out.m3.c
    have a2 := HA2.out.m5.c.2.2.1
    have g2 := HA2.out.m5.frozen 2
    simp only at m0 m1 m2 m3 m4 m5 m6 a2
    go_upto_region 5 with fail
    go_region
    obtain ⟨w3, hw3⟩ : ∃ w3, (w2.setCell ⟨K3 + 1 + 1, 2, none⟩ (.int .i64 ps)).drew = w3 := ⟨_, rfl⟩
    have HA3 : Hid (AS a0 a1 w0 w q vf va K3 ⟨kind, partner, seq, j, base, version, data⟩ W ⟨3, partner, ps, j, 0, 0, []⟩ w3) := Lib.hid (by rw [← hw3]; exact (HA2.out.put5 (HA2.out.m5.put2 ps)).below (Below.refl _ _).drew)
    rw [hw3]
    clear hw3 HA2 c1' m0 m1 m2 m3 m4 m5 m6 a2 g2
    obtain ⟨m0, m1, m2, m3, m4, m5, m6⟩ := HA3.out.m3.c
    obtain ⟨b0, b1, b2, b3, b4, b5, b6⟩ := HA3.out.m5.c
    have gg := HA3.out.m5.frozen
    simp only at m0 m1 m2 m3 m4 m5 m6 b0 b1 b2 b3 b4 b5 b6
    have HSM := Lib.hid (HA3.out.sum j hjs hl)
    obtain ⟨sm, hsm⟩ : ∃ x, W.p.sum j = x := ⟨_, rfl⟩
    rw [hsm] at HSM HA
    have HSM2 := Lib.hid hsm
    clear hsm
    by_cases heq : seq = ps
    · subst heq
      have heb : (seq == seq) = true := by simp
      obtain ⟨rfl, rfl⟩ := Prod.mk.inj (show (am, p') = (⟨3, partner, seq, j, 0, sm, []⟩, W.p) by rw [HA.out, if_pos hle, if_pos rfl])
      clear HA hle
      have g5 := gg 5
      go_upto_region 8 with (first | (go_at_call 34; refine HSM.out.mono ?_; rintro e w' ⟨rfl, rfl⟩) | fail)
      obtain ⟨w4, hw4⟩ : ∃ w4, w3.setCell ⟨K3 + 1 + 1, 5, none⟩ (.int .i64 sm) = w4 := ⟨_, rfl⟩
      have HA4 : Hid (AS a0 a1 w0 w q vf va K3 ⟨kind, partner, seq, j, base, version, data⟩ W ⟨3, partner, seq, j, 0, sm, []⟩ w4) := Lib.hid (by rw [← hw4]; exact HA3.out.put5 (HA3.out.m5.put5 sm))
      rw [hw4]
      clear hw4 HA3 m0 m1 m2 m3 m4 m5 m6 b0 b1 b2 b3 b4 b5 b6 g5 gg HSM
      obtain ⟨b0, b1, b2, b3, b4, b5, b6⟩ := HA4.out.m5.c
      obtain ⟨x4, hx4⟩ := HA4.out.m4
      obtain ⟨d0, d1, d2, d3, d4, d5, d6⟩ := hx4.c
      have e0 := hx4.frozen 0; have e1 := hx4.frozen 1; have e2 := hx4.frozen 2; have e3 := hx4.frozen 3; have e4 := hx4.frozen 4; have e5 := hx4.frozen 5; have e6 := hx4.frozen 6
      simp only at b0 b1 b2 b3 b4 b5 b6
      obtain ⟨hm4, hf4, hbt4⟩ := HA4.out.end_
      have HF4 := Lib.hid hf4; have HBT4 := Lib.hid hbt4
      obtain ⟨n0, n1, n2, n3, n4, n5, n6⟩ := hm4.c
      obtain ⟨w5, hw5⟩ : ∃ wz, store7 (K3 + 1) ⟨3, partner, seq, j, 0, sm, []⟩ w4 = wz := ⟨_, rfl⟩
      rw [hw5] at HF4 HBT4 n0 n1 n2 n3 n4 n5 n6
      simp only at n0 n1 n2 n3 n4 n5 n6
      unfold store7 at hw5
      simp only at hw5
      clear hx4 hm4 hf4 hbt4 HA4
      go_wp2_with fail
      exact bodyPost_ret (v := Msg.enc ⟨3, partner, seq, j, 0, sm, []⟩) (by simp [results, Tryd.results19, go_sem, Msg.enc, n0, n1, n2, n3, n4, n5, n6]) rfl ⟨by first | rfl | rw [HSM2.out], HF4.out, HBT4.out⟩
    · have heb : (seq == ps) = false := by rw [beq_eq_false_iff_ne]; exact heq
      obtain ⟨rfl, rfl⟩ := Prod.mk.inj (show (am, p') = (⟨4, partner, ps, j, sm, 0, []⟩, W.p) by rw [HA.out, if_pos hle, if_neg heq])
      clear HA hle heq HSM
      have g0 := gg 0
      go_upto_region 10 with fail
      obtain ⟨w4, hw4⟩ : ∃ w4, w3.setCell ⟨K3 + 1 + 1, 0, none⟩ (.int .i64 4) = w4 := ⟨_, rfl⟩
      have HA4 : Hid (AS a0 a1 w0 w q vf va K3 ⟨kind, partner, seq, j, base, version, data⟩ W ⟨4, partner, ps, j, 0, 0, []⟩ w4) := Lib.hid (by rw [← hw4]; exact HA3.out.put5 (HA3.out.m5.put0 4))
      rw [hw4]
      clear hw4 HA3 m0 m1 m2 m3 m4 m5 m6 b0 b1 b2 b3 b4 b5 b6 g0 gg
      have HSM := Lib.hid (HA4.out.sum j hjs hl)
      rw [HSM2.out] at HSM
      obtain ⟨m0, m1, m2, m3, m4, m5, m6⟩ := HA4.out.m3.c
      have b4 := HA4.out.m5.c.2.2.2.2.1
      have g4 := HA4.out.m5.frozen 4
      simp only at m0 m1 m2 m3 m4 m5 m6 b4
      go_upto_region 11 with (first | (go_at_call 34; refine HSM.out.mono ?_; rintro e w' ⟨rfl, rfl⟩) | fail)
      obtain ⟨w5, hw5⟩ : ∃ w5, w4.setCell ⟨K3 + 1 + 1, 4, none⟩ (.int .i64 sm) = w5 := ⟨_, rfl⟩
      have HA5 : Hid (AS a0 a1 w0 w q vf va K3 ⟨kind, partner, seq, j, base, version, data⟩ W ⟨4, partner, ps, j, sm, 0, []⟩ w5) := Lib.hid (by rw [← hw5]; exact HA4.out.put5 (HA4.out.m5.put4 sm))
      rw [hw5]
      clear hw5 HA4 m0 m1 m2 m3 m4 m5 m6 b4 g4 HSM
      obtain ⟨b0, b1, b2, b3, b4, b5, b6⟩ := HA5.out.m5.c
      obtain ⟨x4, hx4⟩ := HA5.out.m4
      obtain ⟨d0, d1, d2, d3, d4, d5, d6⟩ := hx4.c
      have e0 := hx4.frozen 0; have e1 := hx4.frozen 1; have e2 := hx4.frozen 2; have e3 := hx4.frozen 3; have e4 := hx4.frozen 4; have e5 := hx4.frozen 5; have e6 := hx4.frozen 6
      simp only at b0 b1 b2 b3 b4 b5 b6
      obtain ⟨hm4, hf4, hbt4⟩ := HA5.out.end_
      have HF4 := Lib.hid hf4; have HBT4 := Lib.hid hbt4
      obtain ⟨n0, n1, n2, n3, n4, n5, n6⟩ := hm4.c
      obtain ⟨w6, hw6⟩ : ∃ wz, store7 (K3 + 1) ⟨4, partner, ps, j, sm, 0, []⟩ w5 = wz := ⟨_, rfl⟩
      rw [hw6] at HF4 HBT4 n0 n1 n2 n3 n4 n5 n6
      simp only at n0 n1 n2 n3 n4 n5 n6
      unfold store7 at hw6
      simp only at hw6
      clear hx4 hm4 hf4 hbt4 HA5
      go_wp2_with fail
      exact bodyPost_ret (v := Msg.enc ⟨4, partner, ps, j, sm, 0, []⟩) (by simp [results, Tryd.results19, go_sem, Msg.enc, n0, n1, n2, n3, n4, n5, n6]) rfl ⟨by first | rfl | rw [HSM2.out], HF4.out, HBT4.out⟩
  · obtain ⟨ps, hps⟩ : ∃ x, W.p.seq j = x := ⟨_, rfl⟩
    rw [hps] at c1 hle HA HCS
    have hleb : decide (seq ≤ ps) = false := decide_eq_false hle
    clear hps
    go_quiet (fail)
    obtain ⟨w2, hw2⟩ : ∃ w2, wA.drewN nq = w2 := ⟨_, rfl⟩
    have HA2 : Hid (AS a0 a1 w0 w q vf va K3 ⟨kind, partner, seq, j, base, version, data⟩ W ⟨3, partner, seq, j, 0, 0, []⟩ w2) := Lib.hid (by rw [← hw2]; exact HAS.out.below ((Below.refl _ _).drewN _))
    rw [hw2]
    clear hw2 HAS c1 f1 m0 m1 m2 m3 m4 m5 m6 hqA
    obtain ⟨m0, m1, m2, m3, m4, m5, m6⟩ := HA2.out.m3.c
    simp only at m0 m1 m2 m3 m4 m5 m6
    by_cases hk : kind = 1
    · exact absurd ⟨hle, hk⟩ HCS.out
    · have hkb : (kind == 1) = false := by rw [beq_eq_false_iff_ne]; exact hk
      obtain ⟨rfl, rfl⟩ := Prod.mk.inj (show (am, p') = (⟨3, partner, seq, j, 0, 0, []⟩, W.p.take j seq false []) by rw [HA.out, if_neg hle, if_neg hk])
      clear HA hle hk
      obtain ⟨t1, t2⟩ := HA2.out.f (199 + j) (by omega)
      rw [wldV_text _ _ _ _ hjs] at t1
      go_upto_region 23 with fail
      go_region
      obtain ⟨w3, hw3⟩ : ∃ w3, (w2.setCell ⟨q, 199 + j, none⟩ (.string ⟨#[]⟩)).drew = w3 := ⟨_, rfl⟩
      have HA3 : Hid (AS a0 a1 w0 w q vf va K3 ⟨kind, partner, seq, j, base, version, data⟩ { W with p := { W.p with text := updF W.p.text j [] } } ⟨3, partner, seq, j, 0, 0, []⟩ w3) := Lib.hid (by rw [← hw3]; exact (HA2.out.putq (by omega) (put_text _ vf va j hjs [])).below (Below.refl _ _).drew)
      rw [hw3]
      clear hw3 HA2 m0 m1 m2 m3 m4 m5 m6 t1 t2
      obtain ⟨m0, m1, m2, m3, m4, m5, m6⟩ := HA3.out.m3.c
      simp only at m0 m1 m2 m3 m4 m5 m6
      obtain ⟨t1, t2⟩ := HA3.out.f (134 + j) (by omega)
      rw [wldV_has _ _ _ _ hjs] at t1
      go_upto_region 24 with fail
      go_region
      obtain ⟨w4, hw4⟩ : ∃ w4, (w3.setCell ⟨q, 134 + j, none⟩ (.bool false)).drew = w4 := ⟨_, rfl⟩
      have HA4 : Hid (AS a0 a1 w0 w q vf va K3 ⟨kind, partner, seq, j, base, version, data⟩ { W with p := { { W.p with text := updF W.p.text j [] } with has := updF W.p.has j false } } ⟨3, partner, seq, j, 0, 0, []⟩ w4) := Lib.hid (by rw [← hw4]; exact (HA3.out.putq (by omega) (put_has _ vf va j hjs false)).below (Below.refl _ _).drew)
      rw [hw4]
      clear hw4 HA3 m0 m1 m2 m3 m4 m5 m6 t1 t2
      obtain ⟨m0, m1, m2, m3, m4, m5, m6⟩ := HA4.out.m3.c
      simp only at m0 m1 m2 m3 m4 m5 m6
      obtain ⟨t1, t2⟩ := HA4.out.f (69 + j) (by omega)
      rw [wldV_seq _ _ _ _ hjs] at t1
      go_upto_region 25 with fail
      go_region
      obtain ⟨w5, hw5⟩ : ∃ w5, (w4.setCell ⟨q, 69 + j, none⟩ (.int .i64 seq)).drew = w5 := ⟨_, rfl⟩
      have HA5 : Hid (AS a0 a1 w0 w q vf va K3 ⟨kind, partner, seq, j, base, version, data⟩ { W with p := W.p.take j seq false [] } ⟨3, partner, seq, j, 0, 0, []⟩ w5) := Lib.hid (by rw [← hw5]; exact (HA4.out.putq (by omega) (put_seq _ vf va j hjs seq)).below (Below.refl _ _).drew)
      rw [hw5]
      clear hw5 HA4 m0 m1 m2 m3 m4 m5 m6 t1 t2
      obtain ⟨b0, b1, b2, b3, b4, b5, b6⟩ := HA5.out.m5.c
      obtain ⟨x4, hx4⟩ := HA5.out.m4
      obtain ⟨d0, d1, d2, d3, d4, d5, d6⟩ := hx4.c
      have e0 := hx4.frozen 0; have e1 := hx4.frozen 1; have e2 := hx4.frozen 2; have e3 := hx4.frozen 3; have e4 := hx4.frozen 4; have e5 := hx4.frozen 5; have e6 := hx4.frozen 6
      simp only at b0 b1 b2 b3 b4 b5 b6
      obtain ⟨hm4, hf4, hbt4⟩ := HA5.out.end_
      have HF4 := Lib.hid hf4; have HBT4 := Lib.hid hbt4
      obtain ⟨n0, n1, n2, n3, n4, n5, n6⟩ := hm4.c
      obtain ⟨w6, hw6⟩ : ∃ wz, store7 (K3 + 1) ⟨3, partner, seq, j, 0, 0, []⟩ w5 = wz := ⟨_, rfl⟩
      rw [hw6] at HF4 HBT4 n0 n1 n2 n3 n4 n5 n6
      simp only at n0 n1 n2 n3 n4 n5 n6
      unfold store7 at hw6
      simp only at hw6
      clear hx4 hm4 hf4 hbt4 HA5
      go_wp2_with fail
      exact bodyPost_ret (v := Msg.enc ⟨3, partner, seq, j, 0, 0, []⟩) (by simp [results, Tryd.results19, go_sem, Msg.enc, n0, n1, n2, n3, n4, n5, n6]) rfl ⟨by first | rfl | rw [HSM2.out], HF4.out, HBT4.out⟩
end Go.Proofs.YtefloieanpgnmaaDoor

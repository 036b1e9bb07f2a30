/- IndexCanonical. -/
import Derived.Test.YtmfnhfkgkdibfaaGreatIEqu
import Derived.Test.YtmfnhfkgkdibfaaGreatILfP
namespace Go.Proofs.YtmfnhfkgkdibfaaGreat
open Go.RowKit Go.Sort Go.Proofs Go.Maps

theorem queries_small (l : List (List UInt8)) : (queriesL l).length ≤ 5 ∧ ∀ s ∈ queriesL l, s.length ≤ 40 := by
  unfold queriesL
  refine ⟨by rw [List.length_map, List.length_take]; omega, fun s hs => ?_⟩
  obtain ⟨x, _, rfl⟩ := List.mem_map.1 hs
  rw [List.length_take]; omega

set_option maxRecDepth 1000000 in
set_option maxHeartbeats 8000000 in
theorem law8_any (v : Value) (ops : List Op3) (vq : Value) (qs : List (List UInt8)) (n : Int) (w : World) (h : OpsAt w v ops) (hok : ∀ o ∈ ops, okOp o) (hlen : ∀ o ∈ ops, o.2.2.length ≤ 9223372036854775807) (hq : StrsL w vq qs) (hqs : ∀ s ∈ qs, s.length ≤ 9223372036854775807) (hn0 : -9223372036854775808 ≤ n) (hn1 : n ≤ 9223372036854775807) :
    Calls Tryz.prog 4 #[v, vq, .int .i64 n] w fun e w' => e = .returned (.bool true) ∧ Below w.heap.size w w' := by
  have HOK := Lib.hid (few_ok hok)
  have HL := Lib.hid hlen
  have HOP := Lib.hid h
  have HQ := Lib.hid hq; have HQS := Lib.hid hqs
  have hfl := few_len ops
  obtain ⟨hq5, hq40⟩ := queries_small qs
  have HQ40 := Lib.hid hq40
  clear h hok hlen hq hqs hq40
  go_enter Tryz.func4, Tryz.ntmps4
  go_wp2_with fail
  refine (sane_any w).mono ?_
  rintro e w1 ⟨rfl, hb1⟩
  go_wp2_with fail
  refine (few_any v ops w1 (HOP.out.below hb1) HL.out).mono ?_
  rintro e w2 ⟨vf, rfl, hf, hb2⟩
  have HB2 := Lib.hid (bthen hb1 hb2)
  have HOF := Lib.hid (opsAt_of_owns hf (by omega))
  clear hb1 hb2 hf
  go_wp2_with fail
  refine (run_any vf (fewL ops) w2 HOF.out (by omega) HOK.out).mono ?_
  rintro e w3 ⟨p, S, rfl, hI, -, hb3⟩
  have HB3 := Lib.hid (bthen HB2.out hb3)
  have HI3 := Lib.hid hI; have HOF3 := Lib.hid (HOF.out.below hb3)
  clear hb3 hI HOF HB2
  go_wp2_with fail
  refine (left_any vf (fewL ops) w3 HOF3.out (by omega)).mono ?_
  rintro e w4 ⟨vl, rfl, hl, hb4⟩
  have hll := leftK_len (fewL ops) 256
  have hol := opsAt_of_owns hl (by unfold leftL; omega)
  have HB4 := Lib.hid (bthen HB3.out hb4)
  have HI4 := Lib.hid (HI3.out.below hb4)
  have hrun := run_any vl (leftL (fewL ops)) w4 hol hll (left_ok HOK.out)
  rw [run_left] at hrun
  clear hb4 hl hol HI3 HB3
  go_wp2_with fail
  refine hrun.mono ?_
  rintro e w5 ⟨p', S', rfl, hJ5, -, hb5⟩
  have HB5 := Lib.hid (bthen HB4.out hb5)
  have HI5 := Lib.hid (HI4.out.below hb5); have HJ5 := Lib.hid hJ5
  clear hJ5 hb5 hrun HI4 HB4
  go_wp2_with fail
  refine (queries_any vq qs w5 (HQ.out.below HB5.out) HQS.out).mono ?_
  rintro e w6 ⟨v6, rfl, ho6, hb6⟩
  have HB6 := Lib.hid (bthen HB5.out hb6)
  have hst := strsAt_of_owns ho6 (by omega)
  have heq := equal_any w6 (HI5.out.below hb6) (HJ5.out.below hb6) (by omega) (by omega) v6 (queriesL qs) hst hq5 HQ40.out n hn0 hn1
  clear hb6 ho6 hst HI5 HJ5
  go_wp2_with fail
  refine heq.mono ?_
  rintro e w7 ⟨rfl, hb7⟩
  have HB7 := Lib.hid (bthen HB6.out hb7)
  clear hb7 heq
  go_wp2
  go_ret
  exact ⟨rfl, HB7.out⟩
end Go.Proofs.YtmfnhfkgkdibfaaGreat

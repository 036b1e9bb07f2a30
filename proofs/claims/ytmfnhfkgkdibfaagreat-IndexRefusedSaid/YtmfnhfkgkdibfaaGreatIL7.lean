/- IndexRefused. -/
import Derived.Test.YtmfnhfkgkdibfaaGreatIL8
import Derived.Laws.IdiomStrings
namespace Go.Proofs.YtmfnhfkgkdibfaaGreat
open Go.RowKit Go.Sort Go.Proofs Go.Maps

theorem infoU8c : (Tryz.prog.info? 5).map (fun i => (i.zero, i.size, i.bytes)) = some (some (.int .u8 0), 1, 1) := by kernel_rfl

set_option maxRecDepth 1000000 in
set_option maxHeartbeats 8000000 in
/-- from the refusal on -/
theorem law7_any (v : Value) (ops : List Op3) (vq : Value) (qs : List (List UInt8)) (id : Int) (long : Bool) (w : World) (h : OpsAt w v ops) (hok : ∀ o ∈ ops, okOp o) (hlen : ∀ o ∈ ops, o.2.2.length ≤ 9223372036854775807) (hq : StrsL w vq qs) (hqs : ∀ s ∈ qs, s.length ≤ 9223372036854775807) :
    Calls Tryz.prog 9 #[v, vq, .int .i64 id, .bool long] w fun e w' => e = .returned (.bool true) ∧ Below w.heap.size w w' := by
  have HOK := Lib.hid (few_ok hok)
  have HL := Lib.hid hlen
  have HOP := Lib.hid h
  have HQ := Lib.hid hq; have HQS := Lib.hid hqs
  have hfl := few_len ops
  obtain ⟨hq5, hq40⟩ := queries_small qs
  have HQ40 := Lib.hid hq40
  clear h hok hlen hq hqs hq40
  obtain ⟨i0, hi, hz0, hz1, hz2⟩ := info_parts infoU8c
  -- the end: Put of what is refused, and the comparison
  have hend : ∀ (p : Nat) (S : Nat → Prop) (vf : Value) (W : World) (t : List UInt8), IdxAt S (fun _ => False) 300000 W p (runD (fewL ops)) → Below w.heap.size w W → OpsAt W vf (fewL ops) → (id < 1 ∨ 256 < id ∨ 65536 < t.length) →
      Hid (Calls Tryz.prog 15 #[.pointer (some ⟨p, 0, none⟩), .int .i64 id, .string ⟨t.toArray⟩] W fun e w' => e = .returned (.int .i64 170) ∧ w' = W) ∧
      Hid (Calls Tryz.prog 33 #[vf] W fun e w' => ∃ p' S', e = .returned (.pointer (some ⟨p', 0, none⟩)) ∧ (IdxAt S (fun _ => False) 300000 w' p (runD (fewL ops)) ∧ IdxAt S' (fun _ => False) 300000 w' p' (runD (fewL ops))) ∧ Below W.heap.size W w') := fun p S vf W t hI hb hO hr =>
    ⟨Lib.hid (put_refused W hI id t hr), Lib.hid ((run_any vf (fewL ops) W hO (by omega) HOK.out).mono fun e w' ⟨p', S', h1, h2, _, h3⟩ => ⟨p', S', h1, ⟨hI.below h3, h2⟩, h3⟩)⟩
  have HEND := Lib.hid hend
  clear hend
  go_enter Tryz.func9, Tryz.ntmps9
  go_wp2_with fail
  refine (sane_any w).mono ?_
  rintro e w1 ⟨rfl, hb1⟩
  go_wp2_with fail
  refine (few_any v ops w1 (HOP.out.below hb1) HL.out).mono ?_
  rintro e w2 ⟨vf, rfl, hf, hb2⟩
  have HB2 := Lib.hid (bthen hb1 hb2)
  have HOF := Lib.hid (opsAt_of_owns hf (by omega))
  clear hb1 hb2 hf
  go_wp2_with fail
  refine (run_any vf (fewL ops) w2 HOF.out (by omega) HOK.out).mono ?_
  rintro e w3 ⟨p, S, rfl, hI, -, hb3⟩
  have HB3 := Lib.hid (bthen HB2.out hb3)
  have HI3 := Lib.hid hI; have HOF3 := Lib.hid (HOF.out.below hb3)
  clear hb3 hI HOF HB2
  cases long with
  | true =>
    obtain ⟨t, ht⟩ : ∃ t, t = List.replicate 65537 (0 : UInt8) := ⟨_, rfl⟩
    have HT : Hid (t.length = 65537) := Lib.hid (by rw [ht, List.length_replicate])
    have HTC : Hid (∀ j (hj : j < t.length), t[j] = 0) := Lib.hid (fun j hj => (List.eq_replicate_iff.1 ht).2 _ (List.getElem_mem hj))
    clear ht
    go_wp2_with (at_make; refine wpList_make_full _ rfl _ _ 61 rfl w3.heap.size 5 i0 _ 1 Tryz.underlying61 hi hz0 hz1 .i64 .i64 _ _ 65537 rfl rfl rfl rfl ?b2 ?b3 ?b4 ?_)
    case b2 => rw [hz2]; omega
    case b3 => unfold maxLen; omega
    case b4 => omega
    intro wm hom hgm
    have hbm : Below w3.heap.size w3 wm := (Below.refl _ w3).grown hgm (Nat.le_refl _) (fun j hj => by cases hj)
    have hconv : (convert 61 9 (.slice (some ⟨w3.heap.size, 0, none⟩) 65537 65537)).run Tryz.prog wm = .ok (.string ⟨t.toArray⟩) wm := by
      have := run_convert_bytes_back (P := Tryz.prog) wm 61 9 5 ⟨w3.heap.size, 0, none⟩ 65537 t Tryz.underlying61 Tryz.underlying5 Tryz.underlying9 (fun j hj => by
        rw [HTC.out j hj]
        have hj2 : j < 65537 := by rw [← HT.out]; exact hj
        exact World.ownsRow.cells hom rfl j (.int .u8 0) (by
          show ((madeCells #[.int .u8 0] (65537 * 1)).toList)[j]? = _
          rw [toList_madeCells_one, List.getElem?_replicate, if_pos (by omega)]))
      rw [HT.out] at this
      exact this
    have HBm := Lib.hid (bthen HB3.out hbm)
    obtain ⟨HP, HR⟩ := HEND.out p S vf wm t (HI3.out.below hbm) HBm.out (HOF3.out.below hbm) (by rw [HT.out]; omega)
    clear hom hgm hbm
    go_wp2_with fail
    refine HP.out.mono ?_
    rintro e w4 ⟨rfl, hw⟩
    subst w4
    go_wp2_with fail
    refine HR.out.mono ?_
    rintro e w5 ⟨p', S', rfl, ⟨hI5, hJ5⟩, hb5⟩
    have HB5 := Lib.hid (HBm.out.trans (hb5.mono HBm.out.size))
    have HI5 := Lib.hid hI5; have HJ5 := Lib.hid hJ5
    clear hI5 hJ5 hb5
    go_wp2_with fail
    refine (queries_any vq qs w5 (HQ.out.below HB5.out) HQS.out).mono ?_
    rintro e w6 ⟨v6, rfl, ho6, hb6⟩
    have HB6 := Lib.hid (bthen HB5.out hb6)
    have hst := strsAt_of_owns ho6 (by omega)
    have heq := equal_any w6 (HI5.out.below hb6) (HJ5.out.below hb6) (by omega) (by omega) v6 (queriesL qs) hst hq5 HQ40.out 20 (by omega) (by omega)
    clear hb6 ho6 hst HI5 HJ5
    go_wp2_with fail
    refine heq.mono ?_
    rintro e w7 ⟨rfl, hb7⟩
    have HB7 := Lib.hid (bthen HB6.out hb7)
    clear hb7 heq
    go_wp2
    go_ret
    exact ⟨rfl, HB7.out⟩
  | false =>
    by_cases h1 : 1 ≤ id
    · have g1 : decide (1 ≤ id) = true := by simpa using h1
      by_cases h2 : id ≤ 256
      · have g2 : decide (id ≤ 256) = true := by simpa using h2
        go_wp2
        all_goals first | (exfalso; omega) | (go_ret; exact ⟨rfl, HB3.out⟩)
      · have g2 : decide (id ≤ 256) = false := by simpa using h2
        obtain ⟨HP, HR⟩ := HEND.out p S vf w3 [114, 97, 105, 110, 32, 99, 105, 116, 121] HI3.out HB3.out HOF3.out (by omega)
        clear h1 h2
        go_wp2_with fail
        refine HP.out.mono ?_
        rintro e w4 ⟨rfl, hw⟩
        subst w4
        go_wp2_with fail
        refine HR.out.mono ?_
        rintro e w5 ⟨p', S', rfl, ⟨hI5, hJ5⟩, hb5⟩
        have HB5 := Lib.hid (HB3.out.trans (hb5.mono HB3.out.size))
        have HI5 := Lib.hid hI5; have HJ5 := Lib.hid hJ5
        clear hI5 hJ5 hb5
        go_wp2_with fail
        refine (queries_any vq qs w5 (HQ.out.below HB5.out) HQS.out).mono ?_
        rintro e w6 ⟨v6, rfl, ho6, hb6⟩
        have HB6 := Lib.hid (bthen HB5.out hb6)
        have hst := strsAt_of_owns ho6 (by omega)
        have heq := equal_any w6 (HI5.out.below hb6) (HJ5.out.below hb6) (by omega) (by omega) v6 (queriesL qs) hst hq5 HQ40.out 20 (by omega) (by omega)
        clear hb6 ho6 hst HI5 HJ5
        go_wp2_with fail
        refine heq.mono ?_
        rintro e w7 ⟨rfl, hb7⟩
        have HB7 := Lib.hid (bthen HB6.out hb7)
        clear hb7 heq
        go_wp2
        go_ret
        exact ⟨rfl, HB7.out⟩
    · have g1 : decide (1 ≤ id) = false := by simpa using h1
      obtain ⟨HP, HR⟩ := HEND.out p S vf w3 [114, 97, 105, 110, 32, 99, 105, 116, 121] HI3.out HB3.out HOF3.out (by omega)
      clear h1
      go_wp2_with fail
      refine HP.out.mono ?_
      rintro e w4 ⟨rfl, hw⟩
      subst w4
      go_wp2_with fail
      refine HR.out.mono ?_
      rintro e w5 ⟨p', S', rfl, ⟨hI5, hJ5⟩, hb5⟩
      have HB5 := Lib.hid (HB3.out.trans (hb5.mono HB3.out.size))
      have HI5 := Lib.hid hI5; have HJ5 := Lib.hid hJ5
      clear hI5 hJ5 hb5
      go_wp2_with fail
      refine (queries_any vq qs w5 (HQ.out.below HB5.out) HQS.out).mono ?_
      rintro e w6 ⟨v6, rfl, ho6, hb6⟩
      have HB6 := Lib.hid (bthen HB5.out hb6)
      have hst := strsAt_of_owns ho6 (by omega)
      have heq := equal_any w6 (HI5.out.below hb6) (HJ5.out.below hb6) (by omega) (by omega) v6 (queriesL qs) hst hq5 HQ40.out 20 (by omega) (by omega)
      clear hb6 ho6 hst HI5 HJ5
      go_wp2_with fail
      refine heq.mono ?_
      rintro e w7 ⟨rfl, hb7⟩
      have HB7 := Lib.hid (bthen HB6.out hb7)
      clear hb7 heq
      go_wp2
      go_ret
      exact ⟨rfl, HB7.out⟩
end Go.Proofs.YtmfnhfkgkdibfaaGreat

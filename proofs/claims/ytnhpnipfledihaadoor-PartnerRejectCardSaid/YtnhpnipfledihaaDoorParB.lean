/- The program's partner: Receive. -/
import Derived.Test.YtnhpnipfledihaaDoorParB0
import Derived.Deep.RegionHeld3
import Derived.StillTailTactics
namespace Go.Proofs.YtnhpnipfledihaaDoor
open Go.RowKit

set_option maxRecDepth 100000 in
set_option maxHeartbeats 4000000 in
theorem receive_any {a0 a1 : Addr} (p b1 b2 : Nat) (id : Int) (L : List Ent) (N : Nat) (m : Msg) (w : World) (hid : 1 ≤ id) (hN : N ≤ 1000) (hd : m.data.length ≤ 9223372036854775000) (hS : Sents a0 a1 w) (hsh : ShiftsAt w) (hP : PAt p b1 b2 id L N w) :
    Calls Tryd.prog 18 #[.pointer (some ⟨p, 0, none⟩), m.enc] w (RecEnd p b1 b2 id N w (recv id L m).1 (recv id L m).2) := by
  obtain ⟨ms, L', hR⟩ : ∃ ms L', recv id L m = (ms, L') := ⟨_, _, rfl⟩
  rw [hR]
  have hB : Below w.heap.size w (w.alloc (.cells m.cells 33)) := (Below.refl _ w).alloc (Nat.le_refl _) _
  have hmw : MAt w.heap.size m (w.alloc (.cells m.cells 33)) := heap_alloc_new w _
  have HR := Lib.hid hR; have HM := Lib.hid hmw; have HB := Lib.hid hB; have HS := Lib.hid (hS.below hB); have HSH := Lib.hid (shifts_under hsh hB); have HP := Lib.hid (hP.below hB)
  have hidb : ((id : Int) == 0) = false := by rw [beq_eq_false_iff_ne]; omega
  clear hR hS hsh hB hmw hP
  go_enter Tryd.func18, Tryd.ntmps18
  unfold Msg.enc
  go_wp2_with fail
  obtain ⟨w1, hw1⟩ : ∃ w1, w.alloc (.cells m.cells 33) = w1 := ⟨_, rfl⟩
  rw [hw1] at HM HB HS HSH HP
  unfold Msg.cells at hw1
  rw [hw1]
  clear hw1
  have pc : w1.cell? ⟨p, 0, none⟩ = some (.int .i64 id) := by rw [Lib.cell_of_heap HP.out.cells]; rfl
  obtain ⟨c0, c1, c2, c3, c4, c5, c6⟩ := HM.out.cells
  by_cases hv : m.valid = true
  · go_region_held3 (fun w' => w'.cell? ⟨p, 0, none⟩ = some (.int .i64 id) ∧ w'.cell? ⟨w.heap.size, 0, none⟩ = some (.int .i64 m.kind) ∧ w'.cell? ⟨w.heap.size, 1, none⟩ = some (.int .i64 m.partner) ∧ w'.cell? ⟨w.heap.size, 2, none⟩ = some (.int .i64 m.seq) ∧ w'.cell? ⟨w.heap.size, 3, none⟩ = some (.int .i64 m.story) ∧ w'.cell? ⟨w.heap.size, 4, none⟩ = some (.int .i64 m.base) ∧ w'.cell? ⟨w.heap.size, 5, none⟩ = some (.int .i64 m.version) ∧ w'.cell? ⟨w.heap.size, 6, none⟩ = some (.string ⟨m.data.toArray⟩))
      (first | assumption | go_keep)
      (first | (go_at_call 31; refine (valid_held p w.heap.size id m _ hd (by assumption)).mono ?_; rw [hv]; rintro e w2 ⟨rfl, hb2, hcc⟩))
    have hb12 : Below w1.heap.size w1 w2 := ((Below.refl _ w1).drew).trans hb2
    have HM2 := Lib.hid (HM.out.below hb12); have HB2 := Lib.hid (below_then HB.out hb12); have HS2 := Lib.hid (HS.out.below hb12); have HSH2 := Lib.hid (shifts_under HSH.out hb12); have HP2 := Lib.hid (HP.out.below hb12)
    clear hb2 hb12 c0 c1 c2 c3 c4 c5 c6 pc HM HB HS HSH HP
    by_cases hpi : m.partner = id
    · have hpb : ((m.partner : Int) != id) = false := by rw [hpi]; simp
      by_cases hk12 : m.kind = 1 ∨ m.kind = 2
      · have HR2 : Hid ((ms, L') = if m.seq < (entOf L m.story).seq then ([rejOf id (entOf L m.story).seq m.story (crcOf (entOf L m.story).text)], L) else if m.seq = (entOf L m.story).seq then ([ackOf id m.seq m.story (crcOf (entOf L m.story).text)], L) else if m.kind = 2 then ([ackOf id m.seq m.story 0], keepGo ⟨m.story, m.seq, false, []⟩ false L) else match applied m (entOf L m.story).text with | some t => ([ackOf id m.seq m.story m.version], keepGo ⟨m.story, m.seq, true, t⟩ false L) | none => ([rejOf id m.seq m.story (crcOf (entOf L m.story).text)], L)) := Lib.hid (by
          rw [← HR.out, recv, if_pos ⟨hv, hpi, hk12⟩]; rfl)
        have HV := Lib.hid ((Msg.valid_iff m).1 hv)
        obtain ⟨_, _, hq1, hq2, hs1, hs2, _⟩ := HV.out
        have HPI := Lib.hid hpi
        clear hpi
        have hkb : ((m.kind : Int) != 1) = false ∨ ((m.kind : Int) != 1) = true ∧ ((m.kind : Int) != 2) = false := by
          rcases hk12 with h | h
          · left; simp [h]
          · right; simp [h]
        have HK := Lib.hid hk12
        obtain ⟨c0, c1, c2, c3, c4, c5, c6⟩ := HM2.out.cells
        have hmf : ∀ (fn : Fn) (first cap : Array Value) (w : World), (Instr.makeFunc fn first cap).run Tryd.prog w = .ok (.func fn first cap) w := fun _ _ _ _ => rfl
        obtain ⟨n1, hn1, hI⟩ := HP2.out.seqs
        obtain ⟨n2, hn2, hC⟩ := HP2.out.copies
        have p1 : w2.cell? ⟨p, 1, none⟩ = some (.map (some b1)) := by rw [Lib.cell_of_heap HP2.out.cells]; rfl
        have p2 : w2.cell? ⟨p, 2, none⟩ = some (.map (some b2)) := by rw [Lib.cell_of_heap HP2.out.cells]; rfl
        have l1 : ∀ n, (Instr.lookup 68 (.map (some b1)) (.int .i64 m.story) false).run Tryd.prog (w2.drewN n) = .ok (.int .i64 (seqF L m.story)) (w2.drewN n) := fun n => (hI.kept (w' := w2.drewN n) rfl).get (by omega) (by omega)
        have l2 : ∀ n, (Instr.lookup 69 (.map (some b2)) (.int .i64 m.story) false).run Tryd.prog (w2.drewN n) = .ok (.string ⟨((copyF L m.story).getD []).toArray⟩) (w2.drewN n) := fun n => (hC.kept (w' := w2.drewN n) rfl).get (by omega) (by omega)
        have htx := copyF_get HP2.out.kept m.story
        have hen := HP2.out.kept.ent m.story
        obtain ⟨tx, hx1⟩ : ∃ tx, (copyF L m.story).getD [] = tx := ⟨_, rfl⟩
        obtain ⟨sq, hx2⟩ : ∃ sq, seqF L m.story = sq := ⟨_, rfl⟩
        have hx3 : (entOf L m.story).seq = sq := hx2
        rw [hx1] at htx l2
        rw [hx2] at l1
        rw [← htx, hx3] at hen HR2
        obtain ⟨hsq0, hsq1, _, htl⟩ := hen
        have HTX := Lib.hid htx
        clear hI hC htx hx1 hx2 hx3 hk12
        rcases hkb with hkb | ⟨hkb, hkb2⟩
        all_goals
          go_wp2_with fail
          go_quiet (fail)
          obtain ⟨w3, hw3⟩ : ∃ w3, w2.drewN nq = w3 := ⟨_, rfl⟩
          have hb3 : Below w2.heap.size w2 w3 := by rw [← hw3]; exact (Below.refl _ _).drewN _
          have HM3 := Lib.hid (HM2.out.below hb3); have HB3 := Lib.hid (below_then HB2.out hb3); have HS3 := Lib.hid (HS2.out.below hb3); have HSH3 := Lib.hid (shifts_under HSH2.out hb3); have HP3 := Lib.hid (HP2.out.below hb3)
          rw [hw3]
          clear hw3 hb3 l1 l2 p1 p2 c0 c1 c2 c3 c4 c5 c6 HM2 HB2 HS2 HSH2 HP2
          go_wp2_with fail
          refine (sum_list tx _ (by omega) HSH3.out).mono ?_
          rintro e w4 ⟨rfl, rfl⟩
          obtain ⟨c0, c1, c2, c3, c4, c5, c6⟩ := HM3.out.cells
          by_cases hlt : m.seq < sq
          · obtain ⟨rfl, rfl⟩ := Prod.mk.inj (show (ms, L') = ([rejOf id sq m.story (crcOf tx)], L) by rw [HR2.out, if_pos hlt])
            clear HR2 HR
            go_wp2_with fail
            refine (answer_any 4 sq (crcOf tx) 0 w.heap.size m _ HM3.out).mono ?_
            rintro e w5 ⟨rfl, hma, hb5⟩
            have HMA := Lib.hid hma; have HB5 := Lib.hid hb5
            clear hma hb5
            go_wp2
            go_ret
            exact RecEnd.ans (HP3.out.mono (Nat.le_succ N)) (ButTwo.of_below HB3.out) HMA.out HB5.out (by rw [HPI.out]; rfl)
          · by_cases heq : m.seq = sq
            · obtain ⟨rfl, rfl⟩ := Prod.mk.inj (show (ms, L') = ([ackOf id m.seq m.story (crcOf tx)], L) by rw [HR2.out, if_neg hlt, if_pos heq])
              have heb : ((m.seq : Int) == sq) = true := by rw [heq]; simp
              clear HR2 HR heq
              go_wp2_with fail
              refine (answer_any 3 m.seq 0 (crcOf tx) w.heap.size m _ HM3.out).mono ?_
              rintro e w5 ⟨rfl, hma, hb5⟩
              have HMA := Lib.hid hma; have HB5 := Lib.hid hb5
              clear hma hb5
              go_wp2
              go_ret
              exact RecEnd.ans (HP3.out.mono (Nat.le_succ N)) (ButTwo.of_below HB3.out) HMA.out HB5.out (by rw [HPI.out]; rfl)
            · have heb : ((m.seq : Int) == sq) = false := by rw [beq_eq_false_iff_ne]; exact heq
              have p1 : w3.cell? ⟨p, 1, none⟩ = some (.map (some b1)) := by rw [Lib.cell_of_heap HP3.out.cells]; rfl
              have p2 : w3.cell? ⟨p, 2, none⟩ = some (.map (some b2)) := by rw [Lib.cell_of_heap HP3.out.cells]; rfl
              by_cases hk2 : m.kind = 2
              · obtain ⟨rfl, rfl⟩ := Prod.mk.inj (show (ms, L') = ([ackOf id m.seq m.story 0], keepGo ⟨m.story, m.seq, false, []⟩ false L) by rw [HR2.out, if_neg hlt, if_neg heq, if_pos hk2])
                have hkk : ((m.kind : Int) == 2) = true := by rw [hk2]; rfl
                have HK2 := Lib.hid hk2
                clear HR2 HR heq hk2
                go_wp2_with fail
                first
                  | (go_still_tail 6, (by kernel_rfl))
                  | fail
                change wpList _ _ _ _ _ w3.drew
                obtain ⟨w4, hw4⟩ : ∃ w4, w3.drew = w4 := ⟨_, rfl⟩
                have hb4 : ButTwo w3.heap.size b1 b2 w3 w4 := by rw [← hw4]; exact ButTwo.drew _
                have hP4 : PHalf p b1 b2 id (seqF L) (copyF L) N N w4 := by rw [← hw4]; exact HP3.out.half.drew
                obtain ⟨w5, hdel, hP5, hb5⟩ := hP4.del hs1 hs2 0
                have hM5 := hP4.msg (HP3.out.half.msg HM3.out hb4) hb5
                have HB5 := Lib.hid ((ButTwo.of_below (b1 := b1) (b2 := b2) HB3.out).then (hb4.then hb5)); have HP5 := Lib.hid hP5; have HM5 := Lib.hid hM5; have HKP := Lib.hid HP3.out.kept
                rw [hw4]
                clear hw4 hb4 hP4 hP5 hb5 hM5 c0 c1 c2 c3 c4 c5 c6 p1 p2 HM3 HB3 HS3 HSH3 HP3
                obtain ⟨_, p1, p2⟩ := HP5.out.pcells
                obtain ⟨c0, c1, c2, c3, c4, c5, c6⟩ := HM5.out.cells
                go_wp2_with fail
                clear hdel
                first
                  | (go_still_tail 8, (by kernel_rfl))
                  | fail
                change wpList _ _ _ _ _ w5.drew
                obtain ⟨w6, hw6⟩ : ∃ w6, w5.drew = w6 := ⟨_, rfl⟩
                have hb6 : ButTwo w5.heap.size b1 b2 w5 w6 := by rw [← hw6]; exact ButTwo.drew _
                have hP6 := HP5.out.drew
                rw [hw6] at hP6
                obtain ⟨w7, hput, hP7, hb7⟩ := hP6.puts hN hs1 hs2 hq1 hq2
                have hM7 := hP6.msg (HP5.out.msg HM5.out hb6) hb7
                have HB7 := Lib.hid (HB5.out.then (hb6.then hb7)); have HM7 := Lib.hid hM7
                have HP7 : Hid (PAt p b1 b2 id (keepGo ⟨m.story, m.seq, false, []⟩ false L) (N + 1) w7) := Lib.hid (hP7.at (seqF_put _ _ _ _ _) (copyF_kill _ _ _) (HKP.out.keep (x := ⟨m.story, m.seq, false, []⟩) ⟨hs1, hs2⟩ ⟨hq1, hq2⟩ (fun _ => rfl) (by simp)) (Nat.le_refl _) (Nat.le_succ N))
                rw [hw6]
                clear hw6 hb6 hP6 hP7 hb7 hM7 c0 c1 c2 c3 c4 c5 c6 p1 p2 HM5 HB5 HP5
                obtain ⟨c0, c1, c2, c3, c4, c5, c6⟩ := HM7.out.cells
                go_wp2_with fail
                clear hput
                refine (answer_any 3 m.seq 0 0 w.heap.size m _ HM7.out).mono ?_
                rintro e w8 ⟨rfl, hma, hb8⟩
                have HMA := Lib.hid hma; have HB8 := Lib.hid hb8
                clear hma hb8
                go_wp2
                go_ret
                exact RecEnd.ans HP7.out HB7.out HMA.out HB8.out (by rw [HPI.out]; rfl)
              · have hkk : ((m.kind : Int) == 2) = false := by rw [beq_eq_false_iff_ne]; exact hk2
                have HR3 : Hid ((ms, L') = match applied m tx with | some t => ([ackOf id m.seq m.story m.version], keepGo ⟨m.story, m.seq, true, t⟩ false L) | none => ([rejOf id m.seq m.story (crcOf tx)], L)) := Lib.hid (by rw [HR2.out, if_neg hlt, if_neg heq, if_neg hk2, HTX.out])
                clear HR2 HR heq hk2
                go_wp2_with fail
                refine (applied_any tx m _ htl hd HS3.out HSH3.out).mono ?_
                cases hap : applied m tx with
                | none =>
                  obtain ⟨rfl, rfl⟩ := Prod.mk.inj (show (ms, L') = ([rejOf id m.seq m.story (crcOf tx)], L) by rw [HR3.out, hap])
                  clear HR3 hap
                  rintro e w5 ⟨⟨x, rfl⟩, hb5⟩
                  have HM5 := Lib.hid (HM3.out.below hb5); have HB5 := Lib.hid (below_then HB3.out hb5); have HP5 := Lib.hid (HP3.out.below hb5)
                  clear hb5 c0 c1 c2 c3 c4 c5 c6 p1 p2 HM3 HB3 HS3 HSH3 HP3
                  obtain ⟨c0, c1, c2, c3, c4, c5, c6⟩ := HM5.out.cells
                  go_wp2_with fail
                  refine (answer_any 4 m.seq (crcOf tx) 0 w.heap.size m _ HM5.out).mono ?_
                  rintro e w8 ⟨rfl, hma, hb8⟩
                  have HMA := Lib.hid hma; have HB8 := Lib.hid hb8
                  clear hma hb8
                  go_wp2
                  go_ret
                  exact RecEnd.ans (HP5.out.mono (Nat.le_succ N)) (ButTwo.of_below HB5.out) HMA.out HB8.out (by rw [HPI.out]; rfl)
                | some t =>
                  obtain ⟨rfl, rfl⟩ := Prod.mk.inj (show (ms, L') = ([ackOf id m.seq m.story m.version], keepGo ⟨m.story, m.seq, true, t⟩ false L) by rw [HR3.out, hap])
                  have hts := applied_short hap
                  clear HR3 hap
                  rintro e w5 ⟨rfl, hb5⟩
                  have HM5 := Lib.hid (HM3.out.below hb5); have HB5 := Lib.hid (below_then HB3.out hb5); have HP5 := Lib.hid (HP3.out.below hb5)
                  clear hb5 c0 c1 c2 c3 c4 c5 c6 p1 p2 HM3 HB3 HS3 HSH3 HP3
                  obtain ⟨c0, c1, c2, c3, c4, c5, c6⟩ := HM5.out.cells
                  obtain ⟨_, p1, p2⟩ := HP5.out.half.pcells
                  go_wp2_with fail
                  first
                    | (go_still_tail 7, (by kernel_rfl))
                    | fail
                  change wpList _ _ _ _ _ w5.drew
                  obtain ⟨w6, hw6⟩ : ∃ w6, w5.drew = w6 := ⟨_, rfl⟩
                  have hb6 : ButTwo w5.heap.size b1 b2 w5 w6 := by rw [← hw6]; exact ButTwo.drew _
                  have hP6 := HP5.out.half.drew
                  rw [hw6] at hP6
                  obtain ⟨w7, hput, hP7, hb7⟩ := hP6.putc hN hs1 hs2 hts
                  have hM7 := hP6.msg (HP5.out.half.msg HM5.out hb6) hb7
                  have HB7 := Lib.hid ((ButTwo.of_below (b1 := b1) (b2 := b2) HB5.out).then (hb6.then hb7)); have HM7 := Lib.hid hM7; have HP7 := Lib.hid hP7; have HKP := Lib.hid HP5.out.kept
                  rw [hw6]
                  clear hw6 hb6 hP6 hP7 hb7 hM7 c0 c1 c2 c3 c4 c5 c6 p1 p2 HM5 HB5 HP5
                  obtain ⟨_, p1, p2⟩ := HP7.out.pcells
                  obtain ⟨c0, c1, c2, c3, c4, c5, c6⟩ := HM7.out.cells
                  go_wp2_with fail
                  clear hput
                  first
                    | (go_still_tail 8, (by kernel_rfl))
                    | fail
                  change wpList _ _ _ _ _ w7.drew
                  obtain ⟨w8, hw8⟩ : ∃ w8, w7.drew = w8 := ⟨_, rfl⟩
                  have hb8 : ButTwo w7.heap.size b1 b2 w7 w8 := by rw [← hw8]; exact ButTwo.drew _
                  have hP8 := HP7.out.drew
                  rw [hw8] at hP8
                  obtain ⟨w9, hput, hP9, hb9⟩ := hP8.puts hN hs1 hs2 hq1 hq2
                  have hM9 := hP8.msg (HP7.out.msg HM7.out hb8) hb9
                  have HB9 := Lib.hid (HB7.out.then (hb8.then hb9)); have HM9 := Lib.hid hM9
                  have HP9 : Hid (PAt p b1 b2 id (keepGo ⟨m.story, m.seq, true, t⟩ false L) (N + 1) w9) := Lib.hid (hP9.at (seqF_put _ _ _ _ _) (copyF_put _ _ _ _) (HKP.out.keep (x := ⟨m.story, m.seq, true, t⟩) ⟨hs1, hs2⟩ ⟨hq1, hq2⟩ (fun h => by cases h) hts) (Nat.le_refl _) (Nat.le_refl _))
                  rw [hw8]
                  clear hw8 hb8 hP8 hP9 hb9 hM9 c0 c1 c2 c3 c4 c5 c6 p1 p2 HM7 HB7 HP7
                  obtain ⟨c0, c1, c2, c3, c4, c5, c6⟩ := HM9.out.cells
                  go_wp2_with fail
                  clear hput
                  refine (answer_any 3 m.seq 0 m.version w.heap.size m _ HM9.out).mono ?_
                  rintro e w10 ⟨rfl, hma, hb10⟩
                  have HMA := Lib.hid hma; have HB10 := Lib.hid hb10
                  clear hma hb10
                  go_wp2
                  go_ret
                  exact RecEnd.ans HP9.out HB9.out HMA.out HB10.out (by rw [HPI.out]; rfl)
      · have hk1 : ((m.kind : Int) != 1) = true := by rw [bne_iff_ne]; exact fun h => hk12 (.inl h)
        have hk2 : ((m.kind : Int) != 2) = true := by rw [bne_iff_ne]; exact fun h => hk12 (.inr h)
        have HRi : Hid (([], L) = (ms, L')) := Lib.hid (by rw [← HR.out, recv, if_neg (fun h => hk12 h.2.2)])
        obtain ⟨c0, c1, c2, c3, c4, c5, c6⟩ := HM2.out.cells
        clear hk12 hpi
        go_wp2
        go_ret
        exact RecEnd.idle HP2.out HB2.out HRi.out
    · have hpb : ((m.partner : Int) != id) = true := by rw [bne_iff_ne]; exact hpi
      have HRi : Hid (([], L) = (ms, L')) := Lib.hid (by rw [← HR.out, recv, if_neg (fun h => hpi h.2.1)])
      clear hpi
      go_wp2
      go_ret
      exact RecEnd.idle HP2.out HB2.out HRi.out
  · have hv' : m.valid = false := by simpa using hv
    have HRi : Hid (([], L) = (ms, L')) := Lib.hid (by rw [← HR.out, recv, if_neg (fun h => hv h.1)])
    have HVC : ∀ w, Hid (Calls Tryd.prog 31 #[m.enc] w fun e w' => e = .returned (.bool false) ∧ Below w.heap.size w w') := fun w => Lib.hid (by have := valid_any m w hd; rwa [hv'] at this)
    clear hv hv'
    first
      | (go_region_with (go_at_call 31; refine (HVC _).out.mono ?_; rintro e w2 ⟨rfl, hb2⟩))
      | fail
    all_goals
      have hb12 : Below w1.heap.size w1 w2 := ((Below.refl _ w1).drew).trans hb2
      have HB2 := Lib.hid (below_then HB.out hb12); have HP2 := Lib.hid (HP.out.below hb12)
      clear hb2 hb12 c0 c1 c2 c3 c4 c5 c6 pc HM HB HS HSH HP
      go_wp2
      go_ret
      exact RecEnd.idle HP2.out HB2.out HRi.out
end Go.Proofs.YtnhpnipfledihaaDoor

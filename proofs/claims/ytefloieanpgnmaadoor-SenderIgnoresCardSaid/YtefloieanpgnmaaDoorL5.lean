/- The walk of one law of the sender. Conditions: those that each theorem names. -/
import Derived.Test.YtefloieanpgnmaaDoorK34
import Derived.Test.YtefloieanpgnmaaDoorK35
import Derived.Deep.DeepCutAuto
import Derived.Deep.CutBlock
/- SenderIgnores: the walk. -/
namespace Go.Proofs.YtefloieanpgnmaaDoor
open Go.RowKit

def Ig0 (a0 a1 : Addr) (w0 : World) (b q : Nat) (w : World) : Prop := ∃ col, St2 a0 a1 w0 col w b q wld0 startS ∧ ∀ k, col k ≠ 3 ∧ col k ≠ 4
def Ig1 (a0 a1 : Addr) (w0 : World) (b b2 q : Nat) (w : World) : Prop := ∃ col, St2 a0 a1 w0 col w b q wld0 startS ∧ Sn a0 a1 w0 col 3 w b2 startS
def Ig2 (a0 a1 : Addr) (w0 : World) (b b2 q M : Nat) (W : Wld) (S : Sen) (m : Msg) (w : World) : Prop := ∃ col, IgSt a0 a1 w0 col w b b2 q M W S S m
theorem ig_start1 {a0 a1 : Addr} {w0 w : World} (hlw : LW a0 a1 w0 w) : Calls Tryd.prog 7 #[] w fun e w' => ∃ b q, e = .returned (.tuple #[.pointer (some ⟨b, 0, none⟩), .pointer (some ⟨q, 0, none⟩)]) ∧ Ig0 a0 a1 w0 b q w' := by
  refine (start_c (col := fun _ => 0) hlw (fun _ _ => rfl) 1 2 (by decide) (by decide) (by decide) (fun _ => ⟨(by show (0 : Nat) ≠ 1; decide), (by show (0 : Nat) ≠ 2; decide)⟩)).mono ?_
  rintro e w' ⟨b, q, col', rfl, h1, h2, -, h3, h4, h5⟩
  refine ⟨b, q, rfl, col', ⟨h3, h1, h2⟩, fun k => ?_⟩
  by_cases hk : k < w.heap.size
  · rw [h4 k hk]; exact ⟨(by show (0 : Nat) ≠ 3; decide), (by show (0 : Nat) ≠ 4; decide)⟩
  · rcases h5 k (by omega) with h | h | h <;> rw [h] <;> exact ⟨by decide, by decide⟩
theorem ig_start2 {a0 a1 : Addr} {w0 w : World} {b q : Nat} (h : Ig0 a0 a1 w0 b q w) : Calls Tryd.prog 7 #[] w fun e w' => ∃ b2 q2, e = .returned (.tuple #[.pointer (some ⟨b2, 0, none⟩), .pointer (some ⟨q2, 0, none⟩)]) ∧ Ig1 a0 a1 w0 b b2 q w' := by
  obtain ⟨col, hs, hc⟩ := h
  refine (start_c hs.sn.lw hs.cl 3 4 (by decide) (by decide) (by decide) hc).mono ?_
  rintro e w' ⟨b2, q2, col', rfl, h1, -, hb, h3, h4, h5⟩
  have hn : ∀ k, w.heap.size ≤ k → col' k ≠ 1 ∧ col' k ≠ 2 := fun k hk => by
    rcases h5 k hk with h | h | h <;> rw [h] <;> exact ⟨by decide, by decide⟩
  exact ⟨b2, q2, rfl, col', ⟨h3, hs.sn.recol hb h4 fun k hk => (hn k hk).1, hs.wo.recol hb h4 fun k hk => (hn k hk).2⟩, h1⟩
theorem Ig1.with {a0 a1 : Addr} {w0 w w' : World} {b b2 q : Nat} (h : Ig1 a0 a1 w0 b b2 q w) {M : Nat} {m : Msg} (hb : Below w.heap.size w w') (hM : w.heap.size ≤ M) (hm : MAt M m w') : Ig2 a0 a1 w0 b b2 q M wld0 startS m w' := by
  obtain ⟨col, h1, h2⟩ := h
  exact ⟨col, h1.below hb, h2.below hb, hm, h1.cl M hM⟩

/-- the loop's state: k steps are done -/
structure IgL (a0 a1 : Addr) (W : World) (b b2 q M : Nat) (m : Msg) (L : List Op3) (k : Nat) (col : Nat → Nat) (w : World) : Prop where
  ig : IgSt a0 a1 W col w b b2 q M (runD false (wld0, startS) (L.take k)).1 (runD false (wld0, startS) (L.take k)).2 (runD false (wld0, startS) (L.take k)).2 m
  ri : RI k (runD false (wld0, startS) (L.take k)).1 (runD false (wld0, startS) (L.take k)).2
set_option maxRecDepth 100000 in
set_option maxHeartbeats 16000000 in
theorem lawIgnores_any (v : Value) (l : List Op3) (kd st : Int) {a0 a1 : Addr} (W : World) (hS : Sents a0 a1 W) (hH : ShiftsAt W) (hops : OpsL W v l) (hok : ∀ o ∈ l, okO o) (hkd : -9223372036854775808 ≤ kd ∧ kd ≤ 9223372036854775807) (hst : -9223372036854775808 ≤ st ∧ st ≤ 9223372036854775807) :
    Calls Tryd.prog 5 #[v, .int .i64 kd, .int .i64 st] W fun e w' => e = .returned (.bool true) ∧ Below W.heap.size W w' := by
  have HLW : Hid (LW a0 a1 W W) := Lib.hid ⟨hS, hH, Below.refl _ _⟩
  have HSA := Lib.hid (sane_any HLW.out)
  have C64 := fun W => Lib.hid (pick_any st 64 W hst.1 hst.2 (by omega) (by omega))
  have C4 := fun W => Lib.hid (pick_any kd 4 W hkd.1 hkd.2 (by omega) (by omega))
  have hr64 := pick_range st (n := 64) (by omega)
  have hr4 := pick_range kd (n := 4) (by omega)
  have HIG : Hid (∀ k4, pickD kd 4 = k4 → ignM kd st = if k4 = 0 then ⟨4, 3, 900000000, 1 + pickD st 64, 0, 0, []⟩ else if k4 = 1 then ⟨2, 2, 900000000, 1 + pickD st 64, 0, 0, []⟩ else if k4 = 2 then ⟨4, 2, 900000000, 65, 0, 0, []⟩ else ⟨3, 2, 900000000, 1 + pickD st 64, 0, 0, []⟩) := Lib.hid (fun k4 h => by subst h; rfl)
  obtain ⟨p64, hp64⟩ : ∃ x, pickD st 64 = x := ⟨_, rfl⟩
  obtain ⟨p4, hp4⟩ : ∃ x, pickD kd 4 = x := ⟨_, rfl⟩
  have HI2 := Lib.hid (HIG.out p4 hp4)
  have HP : Hid (∀ (now : Int) (Q : Nat → List UInt8 → Prop) (B : Int) (p : Peer) (S : Sen), SP Q B p S → B < 900000000 → S.recv now (ignM kd st) = S) := Lib.hid (fun now Q B p S h hB => ign_recv h hB now kd st)
  have HMD : Hid ((ignM kd st).data = []) := Lib.hid (by
    unfold ignM
    split
    · rfl
    · split
      · rfl
      · split <;> rfl)
  obtain ⟨m, hm⟩ : ∃ m, ignM kd st = m := ⟨_, rfl⟩
  rw [hp64] at hr64
  rw [hp4] at hr4
  simp only [hp64] at C64 HI2
  simp only [hp4] at C4
  rw [hm] at HP HMD HI2
  have HOP := Lib.hid hops
  have HOK := Lib.hid hok
  clear hS hH hops hok hkd hst HIG hp64 hp4 hm
  obtain ⟨n4, rfl⟩ : ∃ a : Nat, p4 = a := ⟨p4.toNat, by omega⟩
  have hn4 : n4 = 0 ∨ n4 = 1 ∨ n4 = 2 ∨ n4 = 3 := by omega
  clear hr4
  have hb4 : ∀ j : Nat, ((n4 : Int) == (j : Int)) = decide (n4 = j) := fun j => by rw [Bool.eq_iff_iff]; simp; omega
  go_enter Tryd.func5, Tryd.ntmps5
  go_upto_region 4 with (first
    | (go_at_call 6; (with_reducible (refine HSA.out.mono ?_)); rintro e w1 ⟨rfl, hb1⟩; have H1 := Lib.hid (HLW.out.below hb1); clear hb1)
    | (go_at_call 7; first
        | (refine (ig_start2 H2.out).mono ?_; rintro e w3 ⟨b2, q2, rfl, h3⟩; have H3 := Lib.hid h3; clear h3)
        | (refine (ig_start1 H1.out).mono ?_; rintro e w2 ⟨b, q, rfl, h2⟩; have H2 := Lib.hid h2; clear h2))
    | fail)
  clear hb4
  go_upto_block 0 with (first
    | (go_at_call 14; first
        | (with_reducible (refine (C64 _).out.mono ?_); rintro e wm ⟨rfl, rfl⟩)
        | (with_reducible (refine (C4 _).out.mono ?_); rintro e wm ⟨rfl, rfl⟩))
    | fail)
  obtain ⟨M, hM⟩ : ∃ M, w3.heap.size = M := ⟨_, rfl⟩
  have HMM := Lib.hid hM
  rw [hM]
  clear hM
  go_cut [] (fun wx => Hid (Ig2 a0 a1 W b b2 q M wld0 startS m wx))
  case first =>
    have HEND : ∀ (wx : World) (m' : Msg), m = m' → Below w3.heap.size w3 wx → MAt M m' wx → Hid (Ig2 a0 a1 W b b2 q M wld0 startS m wx) := fun wx m' h1 h2 h3 => Lib.hid (H3.out.with h2 (by rw [HMM.out]; exact Nat.le_refl _) (by rw [h1]; exact h3))
    have hM := HMM.out
    subst hM
    clear HMM
    rcases hn4 with rfl | rfl | rfl | rfl
    all_goals
      go_wp2_with fail
      go_meet
      first
        | exact HEND _ ⟨4, 3, 900000000, 1 + p64, 0, 0, []⟩ (by have h := HI2.out; simpa using h) ((Below.refl _ w3).alloc (Nat.le_refl _) _) (heap_alloc_new w3 _)
        | exact HEND _ ⟨2, 2, 900000000, 1 + p64, 0, 0, []⟩ (by have h := HI2.out; simpa using h) ((Below.refl _ w3).alloc (Nat.le_refl _) _) (heap_alloc_new w3 _)
        | exact HEND _ ⟨4, 2, 900000000, 65, 0, 0, []⟩ (by have h := HI2.out; simpa using h) ((Below.refl _ w3).alloc (Nat.le_refl _) _) (heap_alloc_new w3 _)
        | exact HEND _ ⟨3, 2, 900000000, 1 + p64, 0, 0, []⟩ (by have h := HI2.out; simpa using h) ((Below.refl _ w3).alloc (Nat.le_refl _) _) (heap_alloc_new w3 _)
  case rest =>
    have HG := hcut
    clear H3 HMM C64 C4 H1 H2 HI2 HSA hr64 hn4
    have HFEW : Hid (Calls Tryd.prog 8 #[v] wc fun e w' => ∃ v', e = .returned v' ∧ OpsL W v' (l.take 60) ∧ wc = w') := Lib.hid (few2 v l wc W (HOP.out.below (by obtain ⟨col, h⟩ := HG.out; exact h.st.sn.lw.bel)) HOP.out)
    go_upto_region 18 with (first
      | (go_at_call 8; (with_reducible (refine HFEW.out.mono ?_)); rintro e wf ⟨v', rfl, hv', rfl⟩)
      | fail)
    obtain ⟨L, hL⟩ : ∃ L, l.take 60 = L := ⟨_, rfl⟩
    have hL60 : L.length ≤ 60 := by rw [← hL, List.length_take]; omega
    have HOL : Hid (∀ o ∈ L, okO o) := Lib.hid (fun o ho => HOK.out o (List.mem_of_mem_take (by rw [hL]; exact ho)))
    rw [hL] at hv'
    obtain ⟨va, vc, rfl, hvc, -, hcel⟩ := hv'
    have HCE := Lib.hid hcel
    have HST : Hid (∃ col, IgL a0 a1 W b b2 q M m L 0 col wc) := Lib.hid (by
      obtain ⟨col, h⟩ := HG.out
      exact ⟨col, h, RI.run hL60 false 0 (Nat.zero_le _)⟩)
    clear hcel hL HFEW HG HOK HOP hcut
    go_loopw [14] (fun i wr => ∃ k : Nat, i = .int .i64 k ∧ k ≤ L.length ∧ Hid (∃ col, IgL a0 a1 W b b2 q M m L k col wr)) (fun i _ => L.length - (intOf i).toNat)
    case atStart => exact ⟨0, rfl, Nat.zero_le _, HST⟩
    case round =>
      clear HST
      obtain ⟨k, rfl, hk, HS⟩ := hrel
      by_cases hlt : k < L.length
      · have hki : (k : Int) < (L.length : Int) := by omega
        obtain ⟨ob, oo, rfl, d0, d1, d2⟩ := HCE.out k hlt
        have HBW : Hid (Below W.heap.size W wr) := Lib.hid (by obtain ⟨col, h⟩ := HS.out; exact h.ig.st.sn.lw.bel)
        have hoo := HOL.out _ (List.getElem_mem hlt)
        have hsu := runD_succ false (wld0, startS) L hlt
        obtain ⟨o, ho⟩ : ∃ o, L[k] = o := ⟨_, rfl⟩
        rw [ho] at d0 d1 d2 hoo hsu
        have oc0 := (HBW.out.cell (World.block_lt_of_cell? W _ d0)).trans d0
        have oc1 := (HBW.out.cell (World.block_lt_of_cell? W _ d1)).trans d1
        have oc2 := (HBW.out.cell (World.block_lt_of_cell? W _ d2)).trans d2
        obtain ⟨col, hI⟩ := HS.out
        obtain ⟨hig, hri⟩ := hI
        obtain ⟨W1, S1, hX⟩ : ∃ W1 S1, runD false (wld0, startS) (L.take k) = (W1, S1) := ⟨_, _, rfl⟩
        rw [hX] at hig hri hsu
        simp only at hig hri
        have HNX := Lib.hid (hig.next hri (by omega) o hoo)
        have HRN := Lib.hid (hri.step (by omega) false o)
        have HRI := Lib.hid hri
        have HSU := Lib.hid hsu
        have HIT : Hid (∀ col w vi c, c ≠ 0 → ItF col w vi (W1.next o).1 → CalOk (fun k => col k = c) w vi (W1.next o).1) := Lib.hid (fun col w vi c h0 hi => hi.ok HRI.out (by omega) o h0)
        have HST1 : Hid (step1 false (W1, S1) o = ({ (W1.next o).2 with flight := (W1.next o).2.flight ++ ((W1.next o).1.perform S1).1 }, ((W1.next o).1.perform S1).2)) := Lib.hid rfl
        obtain ⟨cal, W2, hN⟩ : ∃ cal W2, W1.next o = (cal, W2) := ⟨_, _, rfl⟩
        rw [hN] at HNX HIT HST1
        simp only at HNX HIT HST1
        have HSP : Hid (S1.recv W2.now m = S1) := Lib.hid (HP.out _ _ _ _ _ HRI.out.wi.sp (by omega))
        have HNW : Hid (-9223372036854775808 ≤ W2.now ∧ W2.now ≤ 9223372036854775807) := Lib.hid (by
          have h1 := HRN.out.now
          rw [HST1.out] at h1
          simp only at h1
          omega)
        obtain ⟨ms, S2, hPf⟩ : ∃ ms S2, cal.perform S1 = (ms, S2) := ⟨_, _, rfl⟩
        have HPF := Lib.hid hPf
        rw [hPf] at HST1
        simp only at HST1
        clear hig hri hsu hX hN hPf d0 d1 d2 HS HBW ho hoo
        go_upto_region 21 with (first
          | (go_at_call 9; (with_reducible (refine HNX.out.mono ?_)); rintro e wN ⟨vi, colN, t, ca, cn, cc, cu, hcv, rfl, hig, hit⟩; have HCV := Lib.hid hcv; have HIG := Lib.hid hig; have HIF := Lib.hid hit; clear hcv hig hit)
          | fail)
        clear oc0 oc1 oc2
        obtain ⟨wC, hwC⟩ : ∃ wC, wN.alloc (.cells #[.int .i64 cal.num, .int .i64 t, .slice ca cn cc, .int .i64 cu, .int .i64 cal.msg.kind, .int .i64 cal.msg.partner, .int .i64 cal.msg.seq, .int .i64 cal.msg.story, .int .i64 cal.msg.base, .int .i64 cal.msg.version, .string ⟨cal.msg.data.toArray⟩] 35) = wC := ⟨_, rfl⟩
        obtain ⟨C, hC⟩ : ∃ C, wN.heap.size = C := ⟨_, rfl⟩
        have HIC : Hid (IgC a0 a1 W colN wC b b2 q M C W2 S1 S1 m #[.int .i64 cal.num, .int .i64 t, .slice ca cn cc, .int .i64 cu, .int .i64 cal.msg.kind, .int .i64 cal.msg.partner, .int .i64 cal.msg.seq, .int .i64 cal.msg.story, .int .i64 cal.msg.base, .int .i64 cal.msg.version, .string ⟨cal.msg.data.toArray⟩] vi cal) := Lib.hid (by
          rw [← hwC, ← hC]
          have hb : Below wN.heap.size wN (wN.alloc (.cells #[.int .i64 cal.num, .int .i64 t, .slice ca cn cc, .int .i64 cu, .int .i64 cal.msg.kind, .int .i64 cal.msg.partner, .int .i64 cal.msg.seq, .int .i64 cal.msg.story, .int .i64 cal.msg.base, .int .i64 cal.msg.version, .string ⟨cal.msg.data.toArray⟩] 35)) := (Below.refl _ wN).alloc (Nat.le_refl _) _
          exact ⟨HIG.out.below hb, heap_alloc_new wN _, HIG.out.st.cl _ (Nat.le_refl _), HIF.out.below hb⟩)
        rw [hwC, hC]
        clear hwC hC HIG HIF HNX
        have n0 : wC.cell? ⟨q, 0, none⟩ = some (.int .i64 W2.now) := by obtain ⟨vf, va, h⟩ := HIC.out.ig.st.wo.cell; exact (h 0 (by omega)).1
        obtain ⟨j0, j1, j2, j3, j4, j5, j6⟩ := HIC.out.ig.m.c
        have HID : Hid (IgC a0 a1 W colN wC.drew b b2 q M C W2 S1 S1 m #[.int .i64 cal.num, .int .i64 t, .slice ca cn cc, .int .i64 cu, .int .i64 cal.msg.kind, .int .i64 cal.msg.partner, .int .i64 cal.msg.seq, .int .i64 cal.msg.story, .int .i64 cal.msg.base, .int .i64 cal.msg.version, .string ⟨cal.msg.data.toArray⟩] vi cal) := Lib.hid (HIC.out.below (Below.refl _ _).drew)
        have HRC := Lib.hid (HID.out.receive W2.now HNW.out (by rw [HMD.out]; exact Nat.zero_le _) HSP.out)
        go_region_held3 (fun w' => w'.cell? ⟨q, 0, none⟩ = some (.int .i64 W2.now) ∧ w'.cell? ⟨M, 0, none⟩ = some (.int .i64 m.kind) ∧ w'.cell? ⟨M, 1, none⟩ = some (.int .i64 m.partner) ∧ w'.cell? ⟨M, 2, none⟩ = some (.int .i64 m.seq) ∧ w'.cell? ⟨M, 3, none⟩ = some (.int .i64 m.story) ∧ w'.cell? ⟨M, 4, none⟩ = some (.int .i64 m.base) ∧ w'.cell? ⟨M, 5, none⟩ = some (.int .i64 m.version) ∧ w'.cell? ⟨M, 6, none⟩ = some (.string ⟨m.data.toArray⟩))
          (first | (refine ⟨?_, ?_, ?_, ?_, ?_, ?_, ?_, ?_⟩ <;> assumption) | go_keep)
          (first
            | (go_at_call 15; (with_reducible (refine HRC.out.mono ?_)); rintro e wD ⟨rfl, colD, hD⟩; have HD := Lib.hid hD; have n9 : wD.cell? ⟨q, 0, none⟩ = some (.int .i64 W2.now) := (by obtain ⟨vf, va, h⟩ := hD.ig.st.wo.cell; exact (h 0 (by omega)).1); obtain ⟨i0, i1, i2, i3, i4, i5, i6⟩ := hD.ig.m.c; clear hD)
            | fail)
        clear n9 i0 i1 i2 i3 i4 i5 i6
        clear n0 j0 j1 j2 j3 j4 j5 j6 HRC HID HIC HSP
        have k0 : wD.cell? ⟨C, 0, none⟩ = some (.int .i64 cal.num) := by rw [Lib.cell_of_heap HD.out.c]; rfl
        have k1 : wD.cell? ⟨C, 1, none⟩ = some (.int .i64 t) := by rw [Lib.cell_of_heap HD.out.c]; rfl
        have k2 : wD.cell? ⟨C, 2, none⟩ = some (.slice ca cn cc) := by rw [Lib.cell_of_heap HD.out.c]; rfl
        have k3 : wD.cell? ⟨C, 3, none⟩ = some (.int .i64 cu) := by rw [Lib.cell_of_heap HD.out.c]; rfl
        have k4 : wD.cell? ⟨C, 4, none⟩ = some (.int .i64 cal.msg.kind) := by rw [Lib.cell_of_heap HD.out.c]; rfl
        have k5 : wD.cell? ⟨C, 5, none⟩ = some (.int .i64 cal.msg.partner) := by rw [Lib.cell_of_heap HD.out.c]; rfl
        have k6 : wD.cell? ⟨C, 6, none⟩ = some (.int .i64 cal.msg.seq) := by rw [Lib.cell_of_heap HD.out.c]; rfl
        have k7 : wD.cell? ⟨C, 7, none⟩ = some (.int .i64 cal.msg.story) := by rw [Lib.cell_of_heap HD.out.c]; rfl
        have k8 : wD.cell? ⟨C, 8, none⟩ = some (.int .i64 cal.msg.base) := by rw [Lib.cell_of_heap HD.out.c]; rfl
        have k9 : wD.cell? ⟨C, 9, none⟩ = some (.int .i64 cal.msg.version) := by rw [Lib.cell_of_heap HD.out.c]; rfl
        have k10 : wD.cell? ⟨C, 10, none⟩ = some (.string ⟨cal.msg.data.toArray⟩) := by rw [Lib.cell_of_heap HD.out.c]; rfl
        have HP1 := Lib.hid (HD.out.perf1 (HIT.out _ _ _ _ (by decide) HD.out.it) HCV.out)
        rw [HPF.out] at HP1
        simp only at HP1
        go_upto_region 23 with (first
          | (go_at_call 10; (with_reducible (refine HP1.out.mono ?_)); rintro e wE ⟨a1', c1', colE, rfl, hml, hE⟩; have HE := Lib.hid hE; have HM1 := Lib.hid hml; clear hE hml)
          | fail)
        clear k0 k1 k2 k3 k4 k5 k6 k7 k8 k9 k10 HD HP1
        have k0 : wE.cell? ⟨C, 0, none⟩ = some (.int .i64 cal.num) := by rw [Lib.cell_of_heap HE.out.c]; rfl
        have k1 : wE.cell? ⟨C, 1, none⟩ = some (.int .i64 t) := by rw [Lib.cell_of_heap HE.out.c]; rfl
        have k2 : wE.cell? ⟨C, 2, none⟩ = some (.slice ca cn cc) := by rw [Lib.cell_of_heap HE.out.c]; rfl
        have k3 : wE.cell? ⟨C, 3, none⟩ = some (.int .i64 cu) := by rw [Lib.cell_of_heap HE.out.c]; rfl
        have k4 : wE.cell? ⟨C, 4, none⟩ = some (.int .i64 cal.msg.kind) := by rw [Lib.cell_of_heap HE.out.c]; rfl
        have k5 : wE.cell? ⟨C, 5, none⟩ = some (.int .i64 cal.msg.partner) := by rw [Lib.cell_of_heap HE.out.c]; rfl
        have k6 : wE.cell? ⟨C, 6, none⟩ = some (.int .i64 cal.msg.seq) := by rw [Lib.cell_of_heap HE.out.c]; rfl
        have k7 : wE.cell? ⟨C, 7, none⟩ = some (.int .i64 cal.msg.story) := by rw [Lib.cell_of_heap HE.out.c]; rfl
        have k8 : wE.cell? ⟨C, 8, none⟩ = some (.int .i64 cal.msg.base) := by rw [Lib.cell_of_heap HE.out.c]; rfl
        have k9 : wE.cell? ⟨C, 9, none⟩ = some (.int .i64 cal.msg.version) := by rw [Lib.cell_of_heap HE.out.c]; rfl
        have k10 : wE.cell? ⟨C, 10, none⟩ = some (.string ⟨cal.msg.data.toArray⟩) := by rw [Lib.cell_of_heap HE.out.c]; rfl
        have HP3 := Lib.hid (HE.out.perf3 (HIT.out _ _ _ _ (by decide) HE.out.it) HCV.out HM1.out)
        rw [HPF.out] at HP3
        simp only at HP3
        go_upto_region 24 with (first
          | (go_at_call 10; (with_reducible (refine HP3.out.mono ?_)); rintro e wF ⟨a2', c2', colF, rfl, hml2, hml1, hF⟩; have HF := Lib.hid hF; have HM2 := Lib.hid hml2; have HM3 := Lib.hid hml1; clear hF hml1 hml2)
          | fail)
        clear k0 k1 k2 k3 k4 k5 k6 k7 k8 k9 k10 HE HP3 HM1
        obtain ⟨nw, hnw⟩ : ∃ x, W2.now = x := ⟨_, rfl⟩
        obtain ⟨R, hR⟩ : ∃ R, S2.settled W2.now = R := ⟨_, rfl⟩
        rw [hnw] at hR
        have n0 : wF.cell? ⟨q, 0, none⟩ = some (.int .i64 nw) := by obtain ⟨vf, va, h⟩ := HF.out.ig.st.wo.cell; rw [← hnw]; exact (h 0 (by omega)).1
        have HSE : Hid (∀ wx bx, (bx = b ∨ bx = b2) → wx.cell? ⟨q, 0, none⟩ = some (.int .i64 nw) → Below wF.heap.size wF wx → Calls Tryd.prog 16 #[.pointer (some ⟨bx, 0, none⟩), .int .i64 nw] wx fun e w' => e = .returned (.bool R) ∧ w'.cell? ⟨q, 0, none⟩ = some (.int .i64 nw) ∧ Below wF.heap.size wF w') := Lib.hid (fun wx bx hbx hn hb => by
          rw [← hR]
          rcases hbx with rfl | rfl
          · exact (settled_c (HF.out.ig.st.sn.below hb) nw).mono fun e w' h => ⟨h.1, (h.2.cell (World.block_lt_of_cell? wx _ hn)).trans hn, below_then hb h.2⟩
          · exact (settled_c (HF.out.ig.sn3.below hb) nw).mono fun e w' h => ⟨h.1, (h.2.cell (World.block_lt_of_cell? wx _ hn)).trans hn, below_then hb h.2⟩)
        have hb0 : Below wF.heap.size wF wF.drew := (Below.refl _ _).drew
        have n1 : wF.drew.cell? ⟨q, 0, none⟩ = some (.int .i64 nw) := n0
        have hR2 : (R != R) = false := by cases R <;> rfl
        have hL2 : ((ms.length : Int) != (ms.length : Int)) = false := by simp
        clear hnw hR
        go_cut [97] (fun x wx => x = .bool false ∧ Hid (Below wF.heap.size wF wx))
        case first =>
          go_region_held3 (fun w' => w'.cell? ⟨q, 0, none⟩ = some (.int .i64 nw) ∧ Below wF.heap.size wF w')
            (first | (refine ⟨?_, ?_⟩ <;> assumption) | go_keep)
            (first
              | (go_at_call 16; first
                  | (with_reducible (refine (HSE.out _ b (Or.inl rfl) (by assumption) (by assumption)).mono ?_); rintro e wG ⟨rfl, hn9, hb9⟩)
                  | (with_reducible (refine (HSE.out _ b2 (Or.inr rfl) (by assumption) (by assumption)).mono ?_); rintro e wG ⟨rfl, hn9, hb9⟩))
              | fail)
          go_wp2_with fail
          go_meet
          exact ⟨rfl, Lib.hid (by assumption)⟩
        case rest =>
          obtain ⟨rfl, HBG⟩ := hcut
          clear HSE hb0 n1 hR2 hL2 n0
          have hms : ms.length ≤ 100000 := by
            have h1 := HRN.out.flen
            rw [HST1.out] at h1
            simp only [List.length_append] at h1
            omega
          go_wp2_with fail
          go_loopw [18] (fun i wx => ∃ j : Nat, i = .int .i64 j ∧ j ≤ ms.length ∧ Hid (Below wF.heap.size wF wx)) (fun i _ => ms.length - (intOf i).toNat)
          case atStart => exact ⟨0, rfl, Nat.zero_le _, HBG⟩
          case round =>
            clear HBG
            obtain ⟨j, rfl, hj, HJ⟩ := hrel
            by_cases hjl : j < ms.length
            · have hji : (j : Int) < (ms.length : Int) := by omega
              obtain ⟨m9, hm9⟩ : ∃ m9, ms[j] = m9 := ⟨_, rfl⟩
              obtain ⟨g1, o1, rfl, -, hc1, h1⟩ := (HM3.out.below HJ.out).at hjl
              obtain ⟨g2, o2, rfl, -, hc2, h2⟩ := (HM2.out.below HJ.out).at hjl
              have x0 := h1 0 (.int .i64 m9.kind) (by omega) (by rw [hm9]; rfl)
              have x1 := h1 1 (.int .i64 m9.partner) (by omega) (by rw [hm9]; rfl)
              have x2 := h1 2 (.int .i64 m9.seq) (by omega) (by rw [hm9]; rfl)
              have x3 := h1 3 (.int .i64 m9.story) (by omega) (by rw [hm9]; rfl)
              have x4 := h1 4 (.int .i64 m9.base) (by omega) (by rw [hm9]; rfl)
              have x5 := h1 5 (.int .i64 m9.version) (by omega) (by rw [hm9]; rfl)
              have x6 := h1 6 (.string ⟨m9.data.toArray⟩) (by omega) (by rw [hm9]; rfl)
              have y0 := h2 0 (.int .i64 m9.kind) (by omega) (by rw [hm9]; rfl)
              have y1 := h2 1 (.int .i64 m9.partner) (by omega) (by rw [hm9]; rfl)
              have y2 := h2 2 (.int .i64 m9.seq) (by omega) (by rw [hm9]; rfl)
              have y3 := h2 3 (.int .i64 m9.story) (by omega) (by rw [hm9]; rfl)
              have y4 := h2 4 (.int .i64 m9.base) (by omega) (by rw [hm9]; rfl)
              have y5 := h2 5 (.int .i64 m9.version) (by omega) (by rw [hm9]; rfl)
              have y6 := h2 6 (.string ⟨m9.data.toArray⟩) (by omega) (by rw [hm9]; rfl)
              simp only [Nat.add_zero] at x0 y0
              have hcc1 : (ms.length : Int) ≤ (c1' : Int) := by omega
              have hcc2 : (ms.length : Int) ≤ (c2' : Int) := by omega
              clear h1 h2 hm9
              go_wp2_with fail
              go_quiet (fail)
              have HJ2 : Hid (Below wF.heap.size wF (wr.drewN nq)) := Lib.hid (HJ.out.drewN nq)
              go_wp2_with fail
              go_roundw
              case rel => exact ⟨j + 1, by go_num, by omega, HJ2⟩
              case measure => simp [intOf]; omega
            · have hIG := (HF.out.below HJ.out).ig
              have HM := Lib.hid ((HM3.out.below HJ.out).1)
              have HIG := Lib.hid hIG
              obtain ⟨vf, va', hA, hl⟩ := hIG.st.wo
              obtain ⟨fa, fc, hvf, -, -⟩ := hA.flight.form
              subst hvf
              have c67 : wr.cell? ⟨q, 67, none⟩ = some (.slice fa W2.flight.length fc) := (hA.cells 67 (by omega)).1
              have f67 := (hA.cells 67 (by omega)).2
              have hqr : q < wr.heap.size := hA.lt q hA.own
              have HA := Lib.hid hA
              have HL := Lib.hid hl
              have HFL : Hid (W2.flight.length + ms.length ≤ 100000) := Lib.hid (by
                have h1 := HRN.out.flen
                rw [HST1.out] at h1
                simp only [List.length_append] at h1
                omega)
              clear hIG hA hl
              go_wp2_with (first
                | (at_builtin; refine wpList_flow _ (by rfl) _ _ (by rfl) (by rfl) (by rfl) HA.out.flight HM.out HFL.out hqr ?_)
                | fail)
              intro v9 w9 hr9 hg9 hat9
              obtain ⟨a9, c9, hv9, -, -⟩ := hr9.form
              rw [List.length_append] at hv9
              have hbq : w9.heap[q]? = wr.heap[q]? := hg9.block q hqr fun e => (HA.out.flight.own q e.symm).2 rfl
              have d67 := cell_same hbq c67
              have e67 := frozen_same hbq f67
              have HEND : Hid (∃ col', IgL a0 a1 W b b2 q M m L (k + 1) col' (w9.setCell ⟨q, 67, none⟩ v9)) := Lib.hid (by
                obtain ⟨col', h1, f⟩ := HIG.out.st.flowed HA.out HL.out hr9 hg9 hat9
                refine ⟨col', ?_, ?_⟩
                · rw [HSU.out, HST1.out]
                  exact ⟨h1, HIG.out.sn3.fr f HIG.out.st.cl (by decide) (by decide), (HIG.out.m.fr f (by decide) HIG.out.m0).1, (HIG.out.m.fr f (by decide) HIG.out.m0).2⟩
                · rw [HSU.out]
                  exact HRN.out)
              subst hv9
              clear hbq c67 f67 hr9 hg9 hat9
              go_wp2_with fail
              go_roundw
              case rel => exact ⟨k + 1, by go_num, by omega, HEND⟩
              case measure => simp [intOf]; omega
      · obtain rfl : k = L.length := by omega
        have HBW : Hid (Below W.heap.size W wr) := Lib.hid (by obtain ⟨col, h⟩ := HS.out; exact h.ig.st.sn.lw.bel)
        go_wp2_with fail
        go_ret
        exact ⟨rfl, HBW.out⟩
end Go.Proofs.YtefloieanpgnmaaDoor
/- SenderIgnores: the walk, at the arguments as they lie. -/
namespace Go.Proofs.YtefloieanpgnmaaDoor
open Go.RowKit

theorem lawIgnores_raw (A : Option Addr) (n c : Nat) (kd st : Int) {a0 a1 : Addr} (W : World) (h : RawStps W A n c) (hkd : InI64 kd) (hst : InI64 st) (S : Sents a0 a1 W) (H : ShiftsAt W) :
    Calls Tryd.prog 5 #[.slice A n c, .int .i64 kd, .int .i64 st] W fun e w' => e = .returned (.bool true) ∧ Below W.heap.size W w' := by
  obtain ⟨l, h1, h2⟩ := ops_of h
  exact lawIgnores_any _ l kd st W S H h1 (fun o ho => h2 o ho) hkd hst
end Go.Proofs.YtefloieanpgnmaaDoor

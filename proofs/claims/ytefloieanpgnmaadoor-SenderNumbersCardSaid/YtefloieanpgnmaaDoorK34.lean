/- Facts and contracts for the laws of the sender, part 34. Conditions: those that each theorem names. -/
import Derived.Test.YtefloieanpgnmaaDoorK33
import Derived.Test.YtefloieanpgnmaaDoorK07
import Derived.Test.YtefloieanpgnmaaDoorK01
import Derived.Test.YtefloieanpgnmaaDoorCards
import Derived.Test.YtefloieanpgnmaaDoorTie
import Derived.Deep.DeepHandedRow
import Derived.Deep.DeepWitnessRowRef
import Derived.Lib.LaidTab
import Derived.Stop.LaidTwo
import Derived.LaidLaws
import Derived.WalkKit
import Derived.ProofKit
import Derived.OpenShut
import Derived.ShutString
import Derived.JoinedCond
/- The law's fixed example. -/
namespace Go.Proofs.YtefloieanpgnmaaDoor
open Go.RowKit

theorem answer_data (p : Peer) (m : Msg) : (p.answer m).1.data = [] := by
  unfold Peer.answer
  split
  · rfl
  · split
    · split <;> rfl
    · split
      · cases p.made m <;> rfl
      · rfl
/-- the partner and the sender after k of the first messages -/
def sanK (k : Nat) : Peer × Sen := (sanX.take k).foldl (give1 0) (peer0, sanP.sends 0 sanL)
theorem sanX_len : sanX.length = 16 := by unfold sanX; rw [List.length_map]; rfl
theorem sanK_succ {k : Nat} (hk : k < sanX.length) : sanK (k + 1) = (((sanK k).1.answer sanX[k]).2, (sanK k).2.recv 0 ((sanK k).1.answer sanX[k]).1) := by
  unfold sanK
  rw [List.take_succ_eq_append_getElem hk, List.foldl_append]
  rfl
theorem sanK_all : sanK 16 = sanG := by
  unfold sanK sanG
  rw [List.take_of_length_le (by rw [sanX_len]; exact Nat.le_refl _)]
theorem sanX_msg {k : Nat} (hk : k < sanX.length) : (1 ≤ sanX[k].story ∧ sanX[k].story ≤ 64) ∧ sanX[k].data.length ≤ 9223372036854775000 := by
  have h1 : sanX[k] ∈ sanX := List.getElem_mem hk
  unfold sanX at h1
  obtain ⟨i, hi, h2⟩ := List.mem_map.1 h1
  have hi := mem_sanL.1 hi
  rw [← show _ = sanX[k] from h2]
  unfold sanM
  split
  · have := diffD_len [] [97]
    refine ⟨⟨by simp only; omega, by simp only; omega⟩, ?_⟩
    simp only
    have h3 : ([97] : List UInt8).length = 1 := rfl
    omega
  · refine ⟨⟨by simp only; omega, by simp only; omega⟩, ?_⟩
    simp only
    exact Nat.zero_le _
/-- sane under way -/
def SanSt (a0 a1 : Addr) (w : World) (b q M : Nat) (v : Value) (k : Nat) (wr : World) : Prop :=
  ∃ col, Cl col wr ∧ Sn a0 a1 w col 1 wr b (sanK k).2 ∧ Wo w col 2 wr q { wld0 with p := (sanK k).1 } ∧ PT (sanK k).1 ∧ MsgsL wr v sanX ∧ (∀ j, v.ownBlock = some j → col j = 0 ∧ j < wr.heap.size) ∧ MAt M (sanM 6) wr ∧ col M = 0
def San2 (a0 a1 : Addr) (w : World) (b M : Nat) (S : Sen) (wr : World) : Prop := ∃ col, Cl col wr ∧ Sn a0 a1 w col 1 wr b S ∧ MAt M (sanM 6) wr ∧ col M = 0
theorem San2.below {a0 a1 : Addr} {w wr wx : World} {b M : Nat} {S : Sen} (h : San2 a0 a1 w b M S wr) (hb : Below wr.heap.size wr wx) : San2 a0 a1 w b M S wx := by
  obtain ⟨col, h1, h2, h3, h4⟩ := h
  exact ⟨col, h1.below hb.size, h2.below hb, h3.below hb, h4⟩
theorem SanSt.below {a0 a1 : Addr} {w wr wx : World} {b q M : Nat} {v : Value} {k : Nat} (h : SanSt a0 a1 w b q M v k wr) (hb : Below wr.heap.size wr wx) : SanSt a0 a1 w b q M v k wx := by
  obtain ⟨col, h1, h2, h3, h4, h5, h6, h7, h8⟩ := h
  exact ⟨col, h1.below hb.size, h2.below hb, h3.below hb, h4, h5.below hb, fun j hj => ⟨(h6 j hj).1, Nat.lt_of_lt_of_le (h6 j hj).2 hb.size⟩, h7.below hb, h8⟩
/-- the answer has been made -/
def SanA (a0 a1 : Addr) (w : World) (b q M : Nat) (v : Value) (S : Sen) (p : Peer) (wr : World) : Prop :=
  ∃ col, Cl col wr ∧ Sn a0 a1 w col 1 wr b S ∧ Wo w col 2 wr q { wld0 with p := p } ∧ PT p ∧ MsgsL wr v sanX ∧ (∀ j, v.ownBlock = some j → col j = 0 ∧ j < wr.heap.size) ∧ MAt M (sanM 6) wr ∧ col M = 0
theorem MAt.fr {w0 : World} {c : Nat} {col col' : Nat → Nat} {w w' : World} {M : Nat} {m : Msg} (h : MAt M m w) (f : Fr w0 c col col' w w') (h0 : c ≠ 0) (hM : col M = 0) : MAt M m w' ∧ col' M = 0 :=
  ⟨(f.loc h0 hM h.lt).1.trans h, (f.loc h0 hM h.lt).2⟩
theorem SanSt.answer {a0 a1 : Addr} {w wr : World} {b q M : Nat} {v : Value} {k : Nat} (h : SanSt a0 a1 w b q M v k wr) (hk : k < sanX.length) :
    Calls Tryd.prog 19 #[.pointer (some ⟨q, 69, none⟩), sanX[k].enc] wr fun e w' => e = .returned ((sanK k).1.answer sanX[k]).1.enc ∧ SanA a0 a1 w b q M v (sanK k).2 ((sanK k).1.answer sanX[k]).2 w' := by
  obtain ⟨col, h1, h2, h3, h4, h5, h6, h7, h8⟩ := h
  have hm := sanX_msg hk
  refine (answer_w h3 h1 h2.lw sanX[k] hm.1 h4 hm.2).mono ?_
  rintro e w' ⟨rfl, h9, f⟩
  have h10 := h5.fr f (by decide) (fun j hj => (h6 j hj).1)
  have h11 := h7.fr f (by decide) h8
  exact ⟨rfl, col, f.cl, h2.fr f h1 (by decide) (by decide), h9, h4.answer _, h10.1, fun j hj => ⟨h10.2 (fun j hj => (h6 j hj).2) j hj, Nat.lt_of_lt_of_le (h6 j hj).2 f.but.size⟩, h11⟩
theorem SanA.receive {a0 a1 : Addr} {w wr : World} {b q M : Nat} {v : Value} {k : Nat} (hk : k < sanX.length) (h : SanA a0 a1 w b q M v (sanK k).2 ((sanK k).1.answer sanX[k]).2 wr) :
    Calls Tryd.prog 15 #[.pointer (some ⟨b, 0, none⟩), .int .i64 0, ((sanK k).1.answer sanX[k]).1.enc] wr fun e w' => e = .returned (.tuple #[]) ∧ SanSt a0 a1 w b q M v (k + 1) w' := by
  obtain ⟨col, h1, h2, h3, h4, h5, h6, h7, h8⟩ := h
  refine (receive_c h2 (by decide) 0 (by decide) _ (by rw [answer_data]; exact Nat.zero_le _)).mono ?_
  rintro e w' ⟨rfl, col', h9, f⟩
  have h10 := h5.fr f (by decide) (fun j hj => (h6 j hj).1)
  have h11 := h7.fr f (by decide) h8
  refine ⟨rfl, col', f.cl, ?_, ?_, ?_, h10.1, fun j hj => ⟨h10.2 (fun j hj => (h6 j hj).2) j hj, Nat.lt_of_lt_of_le (h6 j hj).2 f.but.size⟩, h11⟩
  · rw [sanK_succ hk]; exact h9
  · rw [sanK_succ hk]; exact h3.fr f h1 (by decide) (by decide)
  · rw [sanK_succ hk]; exact h4
theorem SanSt.tick {a0 a1 : Addr} {w wr : World} {b q M : Nat} {v : Value} (h : SanSt a0 a1 w b q M v 16 wr) :
    Calls Tryd.prog 18 #[.pointer (some ⟨b, 0, none⟩), .int .i64 1] wr fun e w' => ∃ a c, e = .returned (.slice a 16 c) ∧ San2 a0 a1 w b M (sanG.2.tick 1).2 w' := by
  obtain ⟨col, h1, h2, h3, h4, h5, h6, h7, h8⟩ := h
  rw [sanK_all] at h2
  refine (tick_c h2 (by decide) 1 (by decide)).mono ?_
  rintro e w' ⟨v2, col', rfl, ⟨a, c, rfl, -⟩, -, h9, f⟩
  exact ⟨a, c, by rw [san_again.1], col', f.cl, h9, h7.fr f (by decide) h8⟩
theorem San2.held {a0 a1 : Addr} {w wr : World} {b M : Nat} (h : San2 a0 a1 w b M (sanG.2.tick 1).2 wr) :
    Calls Tryd.prog 20 #[.pointer (some ⟨b, 0, none⟩)] wr fun e w' => ∃ g cap, e = .returned (.slice (some ⟨g, 0, none⟩) 1 cap) ∧ w'.cell? ⟨g, 0, none⟩ = some (.int .i64 7) ∧ w'.cell? ⟨g, 1, none⟩ = some (.string ⟨#[97]⟩) ∧ San2 a0 a1 w b M (sanG.2.tick 1).2 w' := by
  have hh := h
  obtain ⟨col, h1, h2, h7, h8⟩ := h
  refine (held_c h2).mono ?_
  rintro e w' ⟨v, rfl, hrow, hb⟩
  rw [san_again.2.1] at hrow
  obtain ⟨g, cap, rfl, -, -⟩ := hrow.form (by decide)
  have hc := hrow.cells (g := g) rfl
  have c0 := hc 0 (.int .i64 7) rfl
  have c1 := hc 1 (.string ⟨#[97]⟩) rfl
  rw [Addr.add_lit] at c0 c1
  exact ⟨g, cap, rfl, c0, c1, hh.below hb⟩
theorem San2.settled {a0 a1 : Addr} {w wr : World} {b M : Nat} (h : San2 a0 a1 w b M (sanG.2.tick 1).2 wr) :
    Calls Tryd.prog 16 #[.pointer (some ⟨b, 0, none⟩), .int .i64 1] wr fun e w' => e = .returned (.bool false) ∧ Below w.heap.size w w' := by
  obtain ⟨col, h1, h2, h7, h8⟩ := h
  refine (settled_c h2 1).mono ?_
  rintro e w' ⟨rfl, hb⟩
  exact ⟨by rw [san_again.2.2], below_then h2.lw.bel hb⟩
/-- sane after Tick(0) -/
def SanT (a0 a1 : Addr) (w : World) (b q : Nat) (v : Value) (wr : World) : Prop :=
  ∃ col, Cl col wr ∧ Sn a0 a1 w col 1 wr b (sanK 0).2 ∧ Wo w col 2 wr q wld0 ∧ MsgsL wr v sanX ∧ (∀ j, v.ownBlock = some j → col j = 0 ∧ j < wr.heap.size)
theorem SanT.alloc {a0 a1 : Addr} {w wr : World} {b q : Nat} {v : Value} (h : SanT a0 a1 w b q v wr) : SanSt a0 a1 w b q wr.heap.size v 0 (wr.alloc (.cells (sanM 6).cells 33)) := by
  obtain ⟨col, h1, h2, h3, h5, h6⟩ := h
  have hb : Below wr.heap.size wr (wr.alloc (.cells (sanM 6).cells 33)) := (Below.refl _ wr).alloc (Nat.le_refl _) _
  exact ⟨col, h1.below hb.size, h2.below hb, h3.below hb, fun j => Nat.zero_le _, h5.below hb, fun j hj => ⟨(h6 j hj).1, Nat.lt_of_lt_of_le (h6 j hj).2 hb.size⟩, heap_alloc_new wr _, h1 _ (Nat.le_refl _)⟩
def SanW (a0 a1 : Addr) (w : World) (b q : Nat) (S : Sen) (wr : World) : Prop := ∃ col, Cl col wr ∧ Sn a0 a1 w col 1 wr b S ∧ Wo w col 2 wr q wld0
theorem SanW.start {a0 a1 : Addr} {w : World} (hlw : LW a0 a1 w w) : Calls Tryd.prog 7 #[] w fun e w' => ∃ b q, e = .returned (.tuple #[.pointer (some ⟨b, 0, none⟩), .pointer (some ⟨q, 0, none⟩)]) ∧ SanW a0 a1 w b q startS w' := by
  refine (start_c (col := fun _ => 0) hlw (fun _ _ => rfl) 1 2 (by decide) (by decide) (by decide) (fun _ => ⟨by decide, by decide⟩)).mono ?_
  rintro e w' ⟨b, q, col', rfl, h1, h2, -, h3, -⟩
  exact ⟨b, q, rfl, col', h3, h1, h2⟩
theorem SanW.want {a0 a1 : Addr} {w wr : World} {b q : Nat} (h : SanW a0 a1 w b q startS wr) : Calls Tryd.prog 17 #[.pointer (some ⟨b, 0, none⟩), .int .i64 0, .slice (some ⟨wr.heap.size, 0, none⟩) 1 1] (wr.alloc (.cells #[.int .i64 7, .string ⟨#[97]⟩] 60)) fun e w' => e = .returned (.int .i64 0) ∧ SanW a0 a1 w b q (sanS.plan 0) w' := by
  obtain ⟨col, h1, h2, h3⟩ := h
  have hb : Below wr.heap.size wr (wr.alloc (.cells #[.int .i64 7, .string ⟨#[97]⟩] 60)) := (Below.refl _ wr).alloc (Nat.le_refl _) _
  have hn := heap_alloc_new wr (.cells #[.int .i64 7, .string ⟨#[97]⟩] 60)
  refine (want_c (h2.below hb) (by decide) 0 (by decide) [(7, [97])] ⟨?_, ?_⟩ (.slice (some ⟨wr.heap.size, 0, none⟩) 1 1) ⟨_, _, rfl, Nat.le_refl _, by decide, fun k hk => ?_⟩ (fun bb off n cc e => ?_)).mono ?_
  · intro x hx
    rw [List.mem_singleton] at hx
    subst hx
    exact ⟨by decide, by decide, by decide⟩
  · exact List.pairwise_singleton _ _
  · obtain rfl : k = 0 := by simpa using hk
    refine ⟨wr.heap.size, 0, rfl, by simp, ?_, ?_⟩
    · rw [Lib.cell_of_heap hn]; rfl
    · rw [Lib.cell_of_heap hn]; rfl
  · injection e with e
    injection e with e
    injection e with e
    rw [← e]
    exact h1 _ (Nat.le_refl _)
  · rintro e w' ⟨rfl, col', h4, f⟩
    exact ⟨rfl, col', f.cl, h4, (h3.below hb).fr f (h1.below hb.size) (by decide) (by decide)⟩
theorem SanW.tick {a0 a1 : Addr} {w wr : World} {b q : Nat} (h : SanW a0 a1 w b q (sanS.plan 0) wr) : Calls Tryd.prog 18 #[.pointer (some ⟨b, 0, none⟩), .int .i64 0] wr fun e w' => ∃ g off c, e = .returned (.slice (some ⟨g, off, none⟩) 16 c) ∧ 16 ≤ c ∧ (∀ j u, (sanX.flatMap msgC)[j]? = some u → w'.cell? ⟨g, off + j, none⟩ = some u) ∧ SanT a0 a1 w b q (.slice (some ⟨g, off, none⟩) 16 c) w' := by
  obtain ⟨col, h1, h2, h3⟩ := h
  refine (tick_c h2 (by decide) 0 (by decide)).mono ?_
  rintro e w' ⟨v2, col', rfl, hm, hv, h9, f⟩
  rw [san_tick] at hm h9
  simp only at hm h9
  have hm2 := hm
  obtain ⟨a, c, rfl, hc, -, h4⟩ := hm
  obtain ⟨g, off, rfl, h5⟩ := h4 (fun e => by have := sanX_len; rw [e] at this; cases this)
  rw [sanX_len] at hc hv hm2 ⊢
  exact ⟨g, off, c, rfl, hc, h5, col', f.cl, h9, h3.fr f h1 (by decide) (by decide), hm2, fun j hj => ⟨(hv j hj).1, (hv j hj).2.2⟩⟩
theorem sum_a (w : World) (hsh : ShiftsAt w) : Calls Tryd.prog 12 #[.string ⟨#[97]⟩] w fun e w' => e = .returned (.int .i64 (crcOf [97])) ∧ w = w' := sum_l [97] w (by decide) hsh

set_option maxRecDepth 100000 in
set_option maxHeartbeats 8000000 in
theorem sane_any {a0 a1 : Addr} {w0 w : World} (hlw : LW a0 a1 w0 w) : Calls Tryd.prog 6 #[] w fun e w' => e = .returned (.bool true) ∧ Below w.heap.size w w' := by
  have HLW : Hid (LW a0 a1 w w) := Lib.hid ⟨hlw.s, hlw.h, Below.refl _ _⟩
  have HST := Lib.hid (SanW.start HLW.out)
  obtain ⟨z, hz⟩ : ∃ z : Nat, crcOf [97] = z := ⟨_, rfl⟩
  have HZ := Lib.hid hz
  clear hlw hz
  go_enter Tryd.func6, Tryd.ntmps6
  go_upto_region 4 with (first
    | (go_at_call 7; refine HST.out.mono ?_; rintro e w1 ⟨b, q, rfl, h1⟩; have H1 := Lib.hid h1; clear h1)
    | fail)
  go_upto_region 8 with (first
    | (go_at_call 17; refine (SanW.want H1.out).mono ?_; rintro e w2 ⟨rfl, h2⟩; have H2 := Lib.hid h2; clear h2)
    | (go_at_call 18; refine (SanW.tick H2.out).mono ?_; rintro e w3 ⟨g, off, c, rfl, hc, h3, h4⟩; have HC := Lib.hid h3; have H3 := Lib.hid h4; clear h3 h4)
    | fail)
  have hcc : (16 : Int) ≤ (c : Int) := by omega
  have m0 : ∀ i u, i < 7 → (msgC (sanM 6))[i]? = some u → w3.cell? ⟨g, off + i, none⟩ = some u := fun i u hi hu => HC.out i u (by
    have h := msgs_at sanX 0 i (by rw [sanX_len]; decide) hi
    rw [Nat.zero_mul, Nat.zero_add] at h
    rw [h]; exact hu)
  obtain ⟨dd, hdd⟩ : ∃ d, diffD [] [97] = d := ⟨_, rfl⟩
  have e0 := m0 0 (.int .i64 1) (by omega) rfl
  have e1 := m0 1 (.int .i64 2) (by omega) rfl
  have e2 := m0 2 (.int .i64 1) (by omega) rfl
  have e3 := m0 3 (.int .i64 7) (by omega) rfl
  have e4 := m0 4 (.int .i64 0) (by omega) rfl
  have e5 := m0 5 (.int .i64 z) (by omega) (by rw [← HZ.out]; rfl)
  have e6 := m0 6 (.string ⟨dd.toArray⟩) (by omega) (by rw [← hdd]; rfl)
  have HCL : Hid ((sanM 6).cells = #[.int .i64 1, .int .i64 2, .int .i64 1, .int .i64 7, .int .i64 0, .int .i64 z, .string ⟨dd.toArray⟩]) := Lib.hid (by rw [← hdd, ← HZ.out]; rfl)
  clear m0 hdd
  simp only [Nat.add_zero] at e0
  go_upto_region 9 with fail
  obtain ⟨wM, hwM⟩ : ∃ wM, w3.alloc (.cells #[.int .i64 1, .int .i64 2, .int .i64 1, .int .i64 7, .int .i64 0, .int .i64 z, .string ⟨dd.toArray⟩] 33) = wM := ⟨_, rfl⟩
  obtain ⟨M, hM⟩ : ∃ M, w3.heap.size = M := ⟨_, rfl⟩
  have HSS : Hid (SanSt a0 a1 w b q M (.slice (some ⟨g, off, none⟩) 16 c) 0 wM) := Lib.hid (by
    have h := H3.out.alloc
    rw [HCL.out, hwM, hM] at h
    exact h)
  have HBM : Hid (Below w3.heap.size w3 wM) := Lib.hid (by rw [← hwM]; exact (Below.refl _ w3).alloc (Nat.le_refl _) _)
  rw [hwM, hM]
  clear hwM hM e0 e1 e2 e3 e4 e5 e6 H3 H2
  have hmat : MAt M (sanM 6) wM := by obtain ⟨col, -, -, -, -, -, -, h, -⟩ := HSS.out; exact h
  have hmat2 : wM.heap[M]? = some (.cells #[.int .i64 1, .int .i64 2, .int .i64 1, .int .i64 7, .int .i64 0, .int .i64 z, .string ⟨dd.toArray⟩] 33 (0, 0)) := by rw [← HCL.out]; exact hmat
  have k0 : wM.cell? ⟨M, 0, none⟩ = some (.int .i64 1) := by rw [Lib.cell_of_heap hmat2]; rfl
  have k1 : wM.cell? ⟨M, 1, none⟩ = some (.int .i64 2) := by rw [Lib.cell_of_heap hmat2]; rfl
  have k2 : wM.cell? ⟨M, 2, none⟩ = some (.int .i64 1) := by rw [Lib.cell_of_heap hmat2]; rfl
  have k3 : wM.cell? ⟨M, 3, none⟩ = some (.int .i64 7) := by rw [Lib.cell_of_heap hmat2]; rfl
  have k4 : wM.cell? ⟨M, 4, none⟩ = some (.int .i64 0) := by rw [Lib.cell_of_heap hmat2]; rfl
  have k5 : wM.cell? ⟨M, 5, none⟩ = some (.int .i64 z) := by rw [Lib.cell_of_heap hmat2]; rfl
  have m15 : ∀ i u, i < 7 → (msgC (sanM 15))[i]? = some u → wM.cell? ⟨g, off + 105 + i, none⟩ = some u := fun i u hi hu => by
    have h := msgs_at sanX 15 i (by rw [sanX_len]; decide) hi
    have h2 := HC.out (15 * 7 + i) u (by rw [h]; exact hu)
    have h3 := (HBM.out.cell (World.block_lt_of_cell? w3 _ h2)).trans h2
    rwa [show off + (15 * 7 + i) = off + 105 + i by omega] at h3
  have e0 := m15 0 (.int .i64 2) (by omega) rfl
  have e1 := m15 1 (.int .i64 2) (by omega) rfl
  have e2 := m15 2 (.int .i64 16) (by omega) rfl
  have e3 := m15 3 (.int .i64 16) (by omega) rfl
  have e4 := m15 4 (.int .i64 0) (by omega) rfl
  have e5 := m15 5 (.int .i64 0) (by omega) rfl
  have e6 := m15 6 (.string ⟨#[]⟩) (by omega) rfl
  simp only [Nat.add_zero] at e0
  have HSUM : ∀ n, Hid (Calls Tryd.prog 12 #[.string ⟨#[97]⟩] (wM.drewN n) fun e w' => e = .returned (.int .i64 z) ∧ wM.drewN n = w') := fun n => Lib.hid (by
    rw [← HZ.out]
    exact sum_a _ (by obtain ⟨col, -, h, -⟩ := HSS.out; exact (h.lw.below ((Below.refl _ wM).drewN n)).h))
  clear hmat hmat2 m15
  go_quiet ((go_at_call 12; with_reducible exact Calls.quiet_of_same (((HSUM _).out).mono fun _ _ h => ⟨h.1, h.2.symm⟩)))
  have HSK : Hid (SanSt a0 a1 w b q M (.slice (some ⟨g, off, none⟩) 16 c) 0 (wM.drewN nq)) := Lib.hid (HSS.out.below ((Below.refl _ _).drewN nq))
  clear k0 k1 k2 k3 k4 k5 e0 e1 e2 e3 e4 e5 e6 HSUM HSS HBM HC HCL HLW
  go_wp2_with fail
  go_loopw [7] (fun i wr => ∃ k : Nat, i = .int .i64 k ∧ k ≤ 16 ∧ Hid (SanSt a0 a1 w b q M (.slice (some ⟨g, off, none⟩) 16 c) k wr)) (fun i _ => 16 - (intOf i).toNat)
  case atStart => exact ⟨0, rfl, by omega, HSK⟩
  case round =>
    clear HSK
    obtain ⟨k, rfl, hk, HS⟩ := hrel
    by_cases hlt : k < 16
    · have hki : (k : Int) < 16 := by omega
      have hkl : k < sanX.length := by rw [sanX_len]; exact hlt
      obtain ⟨m9, hm9⟩ : ∃ m9, sanX[k] = m9 := ⟨_, rfl⟩
      have hcel : ∀ i u, i < 7 → (msgC m9)[i]? = some u → wr.cell? ⟨g, off + k * 7 + i, none⟩ = some u := fun i u hi hu => by
        obtain ⟨col, -, -, -, -, hm, -⟩ := HS.out
        obtain ⟨a', c', h1, -, -, h4⟩ := hm
        obtain ⟨b', off', h5, h6⟩ := h4 (fun e => by have := sanX_len; rw [e] at this; cases this)
        injection h1 with e1 e2 e3
        rw [h5] at e1
        injection e1 with e1
        injection e1 with e1 e4
        subst e1
        subst e4
        rw [Nat.add_assoc]
        exact h6 _ u (by rw [msgs_at sanX k i hkl hi, hm9]; exact hu)
      have x0 := hcel 0 (.int .i64 m9.kind) (by omega) rfl
      have x1 := hcel 1 (.int .i64 m9.partner) (by omega) rfl
      have x2 := hcel 2 (.int .i64 m9.seq) (by omega) rfl
      have x3 := hcel 3 (.int .i64 m9.story) (by omega) rfl
      have x4 := hcel 4 (.int .i64 m9.base) (by omega) rfl
      have x5 := hcel 5 (.int .i64 m9.version) (by omega) rfl
      have x6 := hcel 6 (.string ⟨m9.data.toArray⟩) (by omega) rfl
      simp only [Nat.add_zero] at x0
      have HAN : Hid (∀ wx, SanSt a0 a1 w b q M (.slice (some ⟨g, off, none⟩) 16 c) k wx → Calls Tryd.prog 19 #[.pointer (some ⟨q, 69, none⟩), .agg #[.int .i64 m9.kind, .int .i64 m9.partner, .int .i64 m9.seq, .int .i64 m9.story, .int .i64 m9.base, .int .i64 m9.version, .string ⟨m9.data.toArray⟩]] wx fun e w' => e = .returned ((sanK k).1.answer m9).1.enc ∧ SanA a0 a1 w b q M (.slice (some ⟨g, off, none⟩) 16 c) (sanK k).2 ((sanK k).1.answer m9).2 w') := Lib.hid (fun wx h => by
        have h2 := h.answer hkl
        rw [hm9] at h2
        exact h2)
      have HRC : Hid (∀ wx, SanA a0 a1 w b q M (.slice (some ⟨g, off, none⟩) 16 c) (sanK k).2 ((sanK k).1.answer m9).2 wx → Calls Tryd.prog 15 #[.pointer (some ⟨b, 0, none⟩), .int .i64 0, ((sanK k).1.answer m9).1.enc] wx fun e w' => e = .returned (.tuple #[]) ∧ SanSt a0 a1 w b q M (.slice (some ⟨g, off, none⟩) 16 c) (k + 1) w') := Lib.hid (fun wx h => by
        rw [← hm9] at h ⊢
        exact SanA.receive hkl h)
      obtain ⟨am, ham⟩ : ∃ am, ((sanK k).1.answer m9).1 = am := ⟨_, rfl⟩
      rw [ham] at HAN HRC
      have hcc2 : (16 : Int) ≤ (c : Int) := by omega
      have HSD : Hid (SanSt a0 a1 w b q M (.slice (some ⟨g, off, none⟩) 16 c) k wr.drew) := Lib.hid (HS.out.below (Below.refl _ _).drew)
      clear hcel hm9 ham hkl
      go_upto_region 13 with fail
      go_region_with (first
        | (go_at_call 19; (with_reducible (refine (HAN.out _ HSD.out).mono ?_)); rintro e wx ⟨rfl, hx⟩; have HX := Lib.hid hx; clear hx)
        | (go_at_call 15; (with_reducible (refine (HRC.out _ HX.out).mono ?_)); rintro e wy ⟨rfl, hy⟩; have HY := Lib.hid hy; clear hy)
        | fail)
      go_wp2_with fail
      go_roundw
      case rel => exact ⟨k + 1, by go_num, by omega, HY⟩
      case measure => simp [intOf]; omega
    · obtain rfl : k = 16 := by omega
      go_upto_region 16 with (first
        | (go_at_call 18; refine HS.out.tick.mono ?_; rintro e wt ⟨ta, tc, rfl, ht⟩; have HT := Lib.hid ht; clear ht)
        | (go_at_call 20; refine HT.out.held.mono ?_; rintro e wh ⟨hg, hcap, rfl, h0, h1, hh⟩; have HH := Lib.hid hh; have HH0 := Lib.hid (And.intro h0 h1); clear hh h0 h1)
        | fail)
      obtain ⟨m6, hm6⟩ : ∃ m6, sanM 6 = m6 := ⟨_, rfl⟩
      have HMT : Hid (MAt M m6 wh) := Lib.hid (by rw [← hm6]; obtain ⟨col, -, -, h, -⟩ := HH.out; exact h)
      obtain ⟨j0, j1, j2, j3, j4, j5, j6⟩ := HMT.out.c
      have HRN : Hid (∀ wx, Calls Tryd.prog 15 #[.pointer none, .int .i64 0, .agg #[.int .i64 m6.kind, .int .i64 m6.partner, .int .i64 m6.seq, .int .i64 m6.story, .int .i64 m6.base, .int .i64 m6.version, .string ⟨m6.data.toArray⟩]] wx fun e w' => e = .returned (.tuple #[]) ∧ Below wx.heap.size wx w') := Lib.hid (fun wx => receive_nil 0 m6 wx)
      clear hm6
      go_upto_region 21 with (first
        | (go_at_call 21; (with_reducible (refine (new_no _).mono ?_)); rintro e wp ⟨rfl, rfl⟩)
        | (go_at_call 22; (with_reducible (refine (lease_nil _ _).mono ?_)); rintro e wp ⟨rfl, rfl⟩)
        | (go_at_call 15; (with_reducible (refine (HRN.out _).mono ?_)); rintro e wp ⟨rfl, hb1⟩; have HB1 := Lib.hid hb1; clear hb1)
        | (go_at_call 17; (with_reducible (refine (want_nil _ _ _).mono ?_)); rintro e wp2 ⟨rfl, rfl⟩)
        | (go_at_call 18; (with_reducible (refine (tick_nil _ _).mono ?_)); rintro e wu ⟨rfl, hb2⟩; have HB2 := Lib.hid (below_then HB1.out hb2); clear hb2)
        | (go_at_call 20; (with_reducible (refine (held_nil _).mono ?_)); rintro e wp3 ⟨rfl, rfl⟩)
        | (go_at_call 16; (with_reducible (refine (settled_nil _ _).mono ?_)); rintro e wp4 ⟨rfl, rfl⟩)
        | fail)
      clear j0 j1 j2 j3 j4 j5 j6 HMT HRN HB1
      have hc0 := (HB2.out.cell (World.block_lt_of_cell? wh _ HH0.out.1)).trans HH0.out.1
      have hc1 := (HB2.out.cell (World.block_lt_of_cell? wh _ HH0.out.2)).trans HH0.out.2
      have HSE := Lib.hid (HH.out.below HB2.out).settled
      go_wp2_with (first
        | (go_at_call 16; (with_reducible (refine HSE.out.mono ?_)); rintro e wv ⟨rfl, hb3⟩; have HB3 := Lib.hid hb3; clear hb3)
        | fail)
      go_ret
      exact ⟨rfl, HB3.out⟩
end Go.Proofs.YtefloieanpgnmaaDoor
/- SenderIgnores: what the law's steps keep. -/
namespace Go.Proofs.YtefloieanpgnmaaDoor
open Go.RowKit

/-- a list of messages that is nobody's -/
def ML (col : Nat → Nat) (w : World) (v : Value) (l : List Msg) : Prop := MsgsL w v l ∧ ∀ j, v.ownBlock = some j → j < w.heap.size ∧ col j = 0
theorem ML.fr {w0 : World} {c : Nat} {col col' : Nat → Nat} {w w' : World} {v : Value} {l : List Msg} (h : ML col w v l) (f : Fr w0 c col col' w w') (h0 : c ≠ 0) : ML col' w' v l := by
  obtain ⟨h1, h2⟩ := h.1.fr f h0 fun j hj => (h.2 j hj).2
  exact ⟨h1, fun j hj => ⟨Nat.lt_of_lt_of_le (h.2 j hj).1 f.but.size, h2 (fun j hj => (h.2 j hj).1) j hj⟩⟩
theorem ML.below {col : Nat → Nat} {w w' : World} {v : Value} {l : List Msg} (h : ML col w v l) (hb : Below w.heap.size w w') : ML col w' v l := ⟨h.1.below hb, fun j hj => ⟨Nat.lt_of_lt_of_le (h.2 j hj).1 hb.size, (h.2 j hj).2⟩⟩
/-- the cells of an element -/
theorem ML.at {col : Nat → Nat} {w : World} {a : Option Addr} {n c : Nat} {l : List Msg} (h : ML col w (.slice a n c) l) {j : Nat} (hj : j < l.length) : ∃ b off, a = some ⟨b, off, none⟩ ∧ n = l.length ∧ l.length ≤ c ∧ ∀ i u, i < 7 → (msgC l[j])[i]? = some u → w.cell? ⟨b, off + j * 7 + i, none⟩ = some u := by
  obtain ⟨a', c', h1, h2, h3, h4⟩ := h.1
  injection h1 with e1 e2 e3
  subst e1
  subst e2
  subst e3
  obtain ⟨b, off, h5, h6⟩ := h4 (fun e => by rw [e] at hj; simp at hj)
  refine ⟨b, off, h5, rfl, h2, fun i u hi hu => ?_⟩
  rw [Nat.add_assoc]
  exact h6 _ u (by rw [msgs_at l j i hj hi]; exact hu)
theorem runD_succ (t : Bool) (X : Wld × Sen) (L : List Op3) {k : Nat} (hk : k < L.length) : runD t X (L.take (k + 1)) = step1 t (runD t X (L.take k)) L[k] := by
  unfold runD
  rw [List.take_succ_eq_append_getElem hk, List.foldl_append]
  rfl
theorem RI.run {L : List Op3} (h60 : L.length ≤ 60) (t : Bool) : ∀ k, k ≤ L.length → RI k (runD t (wld0, startS) (L.take k)).1 (runD t (wld0, startS) (L.take k)).2
  | 0, _ => RI.start
  | k + 1, hk => by
    rw [runD_succ t _ L (by omega)]
    exact (RI.run h60 t k (by omega)).step (by omega) t _

theorem few2 (v : Value) (l : List Op3) (w w0 : World) (h : OpsL w v l) (h0 : OpsL w0 v l) :
    Calls Tryd.prog 8 #[v] w fun e w' => ∃ v', e = .returned v' ∧ OpsL w0 v' (l.take 60) ∧ w = w' := by
  obtain ⟨a, c, rfl, hle, hm, hc⟩ := id h
  have HH := Lib.hid (h0.take 60)
  clear h hc h0
  have HH1 : Hid (l.length ≤ 60 → OpsL w0 (.slice a l.length c) (l.take 60)) := Lib.hid (fun h => by have := HH.out; rwa [Nat.min_eq_left h] at this)
  have HH2 : Hid (60 ≤ l.length → OpsL w0 (.slice a 60 c) (l.take 60)) := Lib.hid (fun h => by have := HH.out; rwa [Nat.min_eq_right h] at this)
  rcases Nat.le_total l.length 60 with hl | hl
  · have h1 : min (l.length : Int) 60 = (l.length : Int) := by omega
    have h2 : (min (l.length : Int) 60).toNat = l.length := by omega
    have H2 := Lib.hid h2
    clear h1 h2
    go_enter Tryd.func8, Tryd.ntmps8
    go_wp2_with fail
    go_ret
    refine ⟨_, rfl, ?_, rfl⟩
    show OpsL w0 (.slice a (min (l.length : Int) 60).toNat c) _
    rw [H2.out]
    exact HH1.out hl
  · have h2 : (min (l.length : Int) 60).toNat = 60 := by omega
    have H2 := Lib.hid h2
    clear h2
    go_enter Tryd.func8, Tryd.ntmps8
    go_wp2_with fail
    go_ret
    refine ⟨_, rfl, ?_, rfl⟩
    show OpsL w0 (.slice a (min (l.length : Int) 60).toNat c) _
    rw [H2.out]
    exact HH2.out hl
/-- two senders, of colours 1 and 3, a world of colour 2, a message -/
structure IgSt (a0 a1 : Addr) (w0 : World) (col : Nat → Nat) (w : World) (b b2 q M : Nat) (W : Wld) (S S3 : Sen) (m : Msg) : Prop where
  st : St2 a0 a1 w0 col w b q W S
  sn3 : Sn a0 a1 w0 col 3 w b2 S3
  m : MAt M m w
  m0 : col M = 0
section
variable {a0 a1 : Addr} {w0 : World} {col : Nat → Nat} {w : World} {b b2 q M : Nat} {W : Wld} {S S3 : Sen} {m : Msg}
theorem IgSt.below (h : IgSt a0 a1 w0 col w b b2 q M W S S3 m) {w' : World} (hb : Below w.heap.size w w') : IgSt a0 a1 w0 col w' b b2 q M W S S3 m := ⟨h.st.below hb, h.sn3.below hb, h.m.below hb, h.m0⟩
/-- the call's block -/
structure IgC (a0 a1 : Addr) (w0 : World) (col : Nat → Nat) (w : World) (b b2 q M C : Nat) (W : Wld) (S S3 : Sen) (m : Msg) (cs : Array Value) (vi : Value) (cal : Cal) : Prop where
  ig : IgSt a0 a1 w0 col w b b2 q M W S S3 m
  c : w.heap[C]? = some (.cells cs 35 (0, 0))
  c0 : col C = 0
  it : ItF col w vi cal
variable {C : Nat} {cs : Array Value} {vi : Value} {cal : Cal}
theorem IgC.clt (h : IgC a0 a1 w0 col w b b2 q M C W S S3 m cs vi cal) : C < w.heap.size := (Array.getElem?_eq_some_iff.1 h.c).1
theorem IgC.below (h : IgC a0 a1 w0 col w b b2 q M C W S S3 m cs vi cal) {w' : World} (hb : Below w.heap.size w w') : IgC a0 a1 w0 col w' b b2 q M C W S S3 m cs vi cal := ⟨h.ig.below hb, (hb.block C h.clt).trans h.c, h.c0, h.it.below hb⟩
theorem IgSt.next (h : IgSt a0 a1 w0 col w b b2 q M W S S3 m) {k : Nat} (hr : RI k W S) (hk : k ≤ 1000) (o : Op3) (ho : okO o) :
    Calls Tryd.prog 9 #[.pointer (some ⟨q, 0, none⟩), .agg #[.int .i64 o.kind, .int .i64 o.story, .int .i64 o.n]] w fun e w' => ∃ (vi : Value) (col' : Nat → Nat) (t : Int) (a : Option Addr) (n c : Nat) (u : Int), callV (W.next o).1 vi = .agg #[.int .i64 (W.next o).1.num, .int .i64 t, .slice a n c, .int .i64 u, .int .i64 (W.next o).1.msg.kind, .int .i64 (W.next o).1.msg.partner, .int .i64 (W.next o).1.msg.seq, .int .i64 (W.next o).1.msg.story, .int .i64 (W.next o).1.msg.base, .int .i64 (W.next o).1.msg.version, .string ⟨(W.next o).1.msg.data.toArray⟩] ∧
      e = .returned (.agg #[.int .i64 (W.next o).1.num, .int .i64 t, .slice a n c, .int .i64 u, .int .i64 (W.next o).1.msg.kind, .int .i64 (W.next o).1.msg.partner, .int .i64 (W.next o).1.msg.seq, .int .i64 (W.next o).1.msg.story, .int .i64 (W.next o).1.msg.base, .int .i64 (W.next o).1.msg.version, .string ⟨(W.next o).1.msg.data.toArray⟩]) ∧
      IgSt a0 a1 w0 col' w' b b2 q M (W.next o).2 S S3 m ∧ ItF col' w' vi (W.next o).1 := by
  refine (h.st.next hr hk o ho).mono ?_
  rintro e w' ⟨vi, col', rfl, h1, f, h2⟩
  obtain ⟨t, a, n, c, u, hf⟩ := callV_form h2
  exact ⟨vi, col', t, a, n, c, u, hf, by rw [hf], ⟨h1, h.sn3.fr f h.st.cl (by decide) (by decide), (h.m.fr f (by decide) h.m0).1, (h.m.fr f (by decide) h.m0).2⟩, h2⟩
theorem IgC.receive (h : IgC a0 a1 w0 col w b b2 q M C W S S3 m cs vi cal) (now : Int) (hnow : -9223372036854775808 ≤ now ∧ now ≤ 9223372036854775807) (hd : m.data.length ≤ 9223372036854775000) (hi : S3.recv now m = S3) :
    Calls Tryd.prog 15 #[.pointer (some ⟨b2, 0, none⟩), .int .i64 now, .agg #[.int .i64 m.kind, .int .i64 m.partner, .int .i64 m.seq, .int .i64 m.story, .int .i64 m.base, .int .i64 m.version, .string ⟨m.data.toArray⟩]] w fun e w' => e = .returned (.tuple #[]) ∧ ∃ col', IgC a0 a1 w0 col' w' b b2 q M C W S S3 m cs vi cal := by
  refine (receive_c h.ig.sn3 (by decide) now hnow m hd).mono ?_
  rintro e w' ⟨rfl, col', h1, f⟩
  rw [hi] at h1
  have hC := f.loc (by decide) h.c0 h.clt
  exact ⟨rfl, col', ⟨h.ig.st.fr3 f (by decide) (by decide), h1, (h.ig.m.fr f (by decide) h.ig.m0).1, (h.ig.m.fr f (by decide) h.ig.m0).2⟩, hC.1.trans h.c, hC.2, h.it.fr f (by decide)⟩
theorem IgC.perf1 (h : IgC a0 a1 w0 col w b b2 q M C W S S3 m cs vi cal) (hc : CalOk (fun k => col k = 1) w vi cal) {cv : Value} (hcv : callV cal vi = cv) :
    Calls Tryd.prog 10 #[cv, .pointer (some ⟨b, 0, none⟩)] w fun e w' => ∃ a c col', e = .returned (.slice a (cal.perform S).1.length c) ∧ ML col' w' (.slice a (cal.perform S).1.length c) (cal.perform S).1 ∧ IgC a0 a1 w0 col' w' b b2 q M C W (cal.perform S).2 S3 m cs vi cal := by
  rw [← hcv]
  refine (h.ig.st.perform cal vi hc).mono ?_
  rintro e w' ⟨a, c, col', rfl, hm, hv, hs, f⟩
  have hC := f.loc (by decide) h.c0 h.clt
  exact ⟨a, c, col', rfl, ⟨hm, hv⟩, ⟨hs, h.ig.sn3.fr f h.ig.st.cl (by decide) (by decide), (h.ig.m.fr f (by decide) h.ig.m0).1, (h.ig.m.fr f (by decide) h.ig.m0).2⟩, hC.1.trans h.c, hC.2, h.it.fr f (by decide)⟩
theorem IgC.perf3 (h : IgC a0 a1 w0 col w b b2 q M C W S S3 m cs vi cal) (hc : CalOk (fun k => col k = 3) w vi cal) {cv : Value} (hcv : callV cal vi = cv) {v : Value} {l : List Msg} (hv : ML col w v l) :
    Calls Tryd.prog 10 #[cv, .pointer (some ⟨b2, 0, none⟩)] w fun e w' => ∃ a c col', e = .returned (.slice a (cal.perform S3).1.length c) ∧ ML col' w' (.slice a (cal.perform S3).1.length c) (cal.perform S3).1 ∧ ML col' w' v l ∧ IgC a0 a1 w0 col' w' b b2 q M C W S (cal.perform S3).2 m cs vi cal := by
  rw [← hcv]
  refine (perform_c h.ig.sn3 (by decide) cal vi hc).mono ?_
  rintro e w' ⟨v2, col', rfl, hm, hv2, hs, f⟩
  have hm2 := hm
  obtain ⟨a, c, rfl, -⟩ := hm
  have hC := f.loc (by decide) h.c0 h.clt
  exact ⟨a, c, col', rfl, ⟨hm2, fun j hj => ⟨(hv2 j hj).2.2, (hv2 j hj).1⟩⟩, hv.fr f (by decide), ⟨h.ig.st.fr3 f (by decide) (by decide), hs, (h.ig.m.fr f (by decide) h.ig.m0).1, (h.ig.m.fr f (by decide) h.ig.m0).2⟩, hC.1.trans h.c, hC.2, h.it.fr f (by decide)⟩
end
end Go.Proofs.YtefloieanpgnmaaDoor
/- From a walk to a law's row, for whatever parameter types: the law returns true and what lay before the call lies as it lay. -/
namespace Go.Proofs.YtefloieanpgnmaaDoor
open Go.RowKit Go.WideShapes Go.ChangeShapes Go.ChangeAt

section
variable {H : Type} {enc : TypeId × Value → H} {P : Program}

theorem trodAll_below (hl : laidOutB P = true) {W W' : World} (hb : Below W.heap.size W W') {sp : Nat → Bool} :
    ∀ {ts : List TypeId} {vs : List Value} {ds : List (DataW H)} {p : List MemPlace}, ts.all (fun t => P.readableRec t && decide (t < P.types.size)) = true →
      DataW.TrodAll enc P W 0 (fun _ => true) true ts vs ds p → (∀ x ∈ p, x.block < W.heap.size) → (∀ x ∈ p, sp x.block = true) → DataW.TrodAll enc P W' 0 sp true ts vs ds p
  | [], _, _, _, _, h, _, _ => by
    obtain ⟨rfl, rfl, rfl⟩ := trodAll_nil h
    exact trodAll_mk0
  | t :: ts, _, _, _, hr, h, hlt, hs => by
    obtain ⟨v, vs, d, ds, p, q, rfl, rfl, rfl, h1, h2⟩ := trodAll_cons h
    rw [List.all_cons, Bool.and_eq_true, Bool.and_eq_true, decide_eq_true_iff] at hr
    exact trodAll_cons_mk (WideElems.Trod_stays hl hr.1.1 hr.1.2 h1 (fun x hx => hb.same (hlt x (by simp [hx]))) (fun x hx => hs x (by simp [hx])))
      (trodAll_below hl hb hr.2 h2 (fun x hx => hlt x (by simp [hx])) (fun x hx => hs x (by simp [hx])))

theorem law_post {f : Func} {s : ChangeSpec} {apart fresh handsOn again : Bool} {W W' : World} {args : Array Value} {ds gs : List (DataW H)} {before : List MemPlace} {tb : TypeId}
    (hl : laidOutB P = true) (hr : f.params.toList.all (fun t => P.readableRec t && decide (t < P.types.size)) = true)
    (hrt : f.resultTypes = #[tb]) (ht : P.underlying tb = some .bool) (hv : s.vars = [])
    (hs : s.fn H (ds ++ gs) = { results := [.lit (.bool true)], args := ds })
    (hW : DataW.Whole enc P f.params.toList s.vars apart W args.toList ds gs before) (hb : Below W.heap.size W W') :
    s.post enc P f apart fresh handsOn again W args (.bool true) W' := by
  have hlt : ∀ p ∈ before, p.block < W.heap.size := fun p hp => hW.lt p hp
  have hold : ∀ p ∈ before, (fun b => decide (b < W.heap.size)) p.block = true := fun p hp => by simpa using hlt p hp
  have hW' := hW
  obtain ⟨p, q, hA, hV, hpq, hz, hn⟩ := hW
  rw [hv] at hV
  obtain ⟨rfl, rfl⟩ := trodVars_none hV
  obtain rfl : before = p := by rw [hpq, List.append_nil]
  have hargs : ∀ sp : Nat → Bool, (∀ x ∈ before, sp x.block = true) → DataW.TrodAll enc P W' 0 sp true f.params.toList args.toList (s.fn H (ds ++ [])).args before :=
    fun sp hsp => by rw [hs]; exact trodAll_below hl hb hr hA hlt hsp
  have hres : ∀ (b : Nat) (sp : Nat → Bool) (hd : Bool), DataW.TrodAll enc P W' b sp hd f.resultTypes.toList ((Value.bool true).resultList f.resultTypes.size) (s.fn H (ds ++ [])).results [] :=
    fun b sp hd => by rw [hs, hrt]; exact trodAll_cons_mk (shut_bool ht true) trodAll_mk0
  have hvars : ∀ sp : Nat → Bool, (∀ x ∈ before, sp x.block = true) → DataW.TrodVars enc P W' sp s.vars (s.fn H (ds ++ [])).vars [] :=
    fun sp _ => by rw [hs, hv]; rfl
  refine ⟨ds, [], before, [], before, [], hW', hres _ _ _, hargs _ hold, hvars _ hold, World.keptBut_mono (fun x hx => ⟨hx, ?_⟩) (hb.frame (· ∈ before)), fun _ => ?_⟩
  · exact Or.inr (Or.inl hx)
  · refine ⟨ok_one hrt rfl (okWide_bool_mk ht true), _, _, ([] ++ before) ++ [], ⟨[] ++ before, [], trodAll_append (hargs _ (fun _ _ => rfl)) (hres _ _ _), hvars _ (fun _ _ => rfl), rfl, ?_, ?_⟩, ?_⟩
    · intro b off hp
      have hin : MemPlace.cell b off ∈ before := by simpa using hp
      rw [hb.frozen (hlt _ hin)]
      exact hz b off hin
    · intro ha
      simpa using hn ha
    · intro x hx _
      simpa using hx
end

theorem byte_of {n : Int} (h : (Lit.int .u8 n).wf = true) : ∃ c : UInt8, n = c.toNat := by
  have hx : 0 ≤ n ∧ n ≤ 255 := by simpa [Lit.wf, IntKind.min, IntKind.max, IntKind.signed, IntKind.bits] using h
  exact ⟨UInt8.ofNat n.toNat, by rw [UInt8.toNat_ofNat']; omega⟩

theorem own : ownKnob Tryd.prog.godebug = none := by kernel_rfl
theorem laidOut : laidOutB Tryd.prog = true := by kernel_rfl

/-! ### the variables that the rows list -/
theorem gShifts : Tryd.prog.globalNamed "copydesk/wire.shifts" = some 0 := by kernel_rfl
theorem gWire : Tryd.prog.globalNamed "copydesk/delta.errWire" = some 1 := by kernel_rfl
theorem gDelta : Tryd.prog.globalNamed "copydesk/delta.errDelta" = some 2 := by kernel_rfl
theorem gShiftsT : (Tryd.prog.globals[0]?).map (·.type) = some 70 := by kernel_rfl
theorem gWireT : (Tryd.prog.globals[1]?).map (·.type) = some 103 := by kernel_rfl
theorem gDeltaT : (Tryd.prog.globals[2]?).map (·.type) = some 103 := by kernel_rfl
theorem cellsShifts : Tryd.prog.cellsOf 70 = 16 := by kernel_rfl
theorem cellsU32 : Tryd.prog.cellsOf 68 = 1 := by kernel_rfl
theorem cellsErrS : Tryd.prog.cellsOf 204 = 1 := by kernel_rfl
theorem cellsStr : Tryd.prog.cellsOf 9 = 1 := by kernel_rfl
theorem starErr : "*" ++ "errors.errorString" = "*errors.errorString" := by decide
theorem rowErr (u : TypeId) (h : Tryd.prog.typeName? 3 u = some "*errors.errorString") : u = 181 :=
  typeName_ptr_named (nm := "errors.errorString") (by rw [starErr]; kernel_rfl) (by kernel_rfl) (by decide) u (by rw [starErr]; exact h)

def shiftL : List Int := [0, 274646895, 549293790, 820201905, 1098587580, 1361435347, 1640403810, 1905808397, 2197175160, 2460548119, 2722870694, 2987750089, 3280807620, 3553878443, 3811616794, 4084100981]
theorem shiftL_at : ∀ i, i < 16 → shiftL.getD i 0 = (shiftT i : Int) := by decide

def laid3 : List (String × DataW Unit) := [("copydesk/wire.shifts", Rows.laid_copydesk_wire_shifts), ("copydesk/delta.errWire", Rows.laid_copydesk_delta_errWire), ("copydesk/delta.errDelta", Rows.laid_copydesk_delta_errDelta)]

theorem laid_shifts {W : World} (h : laidMet Tryd.prog laid3 W) : ShiftsAt W := by
  have ht : Lib.TabIs Tryd.prog W "copydesk/wire.shifts" .u32 shiftL := Lib.tabIs_of_head gShifts gShiftsT Tryd.underlying70 Tryd.underlying68 cellsU32 cellsShifts h
  intro i hi
  have := ht.cell gShifts i hi
  rw [shiftL_at i hi] at this
  exact this

theorem laid_sents {W : World} (h : laidMet Tryd.prog laid3 W) : ∃ a0 a1, Sents a0 a1 W := by
  obtain ⟨a0, a1, s0, s1, c0, c1, t0, t1, hv0, hv1, hc0, hs0, hz0, hc1, hs1, hz1, hne, hb0, hb1⟩ := laid_sentinels2 (laidMet.tail h) gWire gWireT gDelta gDeltaT Tryd.underlying103 rowErr Tryd.underlying181 Tryd.underlying204 rfl rfl Tryd.underlying9 cellsErrS cellsStr
  have g0 := World.var?_cell gWire hv0 0
  have g1 := World.var?_cell gDelta hv1 0
  exact ⟨a0, a1, by simpa using g0, by simpa using g1, hne, ⟨_, _, hb0⟩, ⟨_, _, hb1⟩⟩

abbrev wireS : ByteArray := { data := #[100, 101, 108, 116, 97, 58, 32, 110, 111, 116, 32, 97, 110, 32, 101, 110, 99, 111, 100, 105, 110, 103] }
abbrev deltaS : ByteArray := { data := #[100, 101, 108, 116, 97, 58, 32, 110, 111, 116, 32, 97, 32, 100, 101, 108, 116, 97, 32, 111, 102, 32, 116, 104, 105, 115, 32, 116, 101, 120, 116] }
noncomputable def low : Nat := (World.holding Tryd.prog default ⟨#[], #[], []⟩).heap.size
/-- a world for the witness: the variables hold what their initialisers lay -/
noncomputable def laidWorld (os : Os) : World :=
  let w0 := World.holding Tryd.prog os ⟨#[.cells #[.string wireS] 204, .cells #[.string deltaS] 204], #[], []⟩
  { w0 with heap := ((w0.heap.modify 1 fun
      | .cells _ t frozen => .cells #[.iface 181 (.pointer (some ⟨low, 0, none⟩))] t frozen
      | o => o).modify 2 fun
      | .cells _ t frozen => .cells #[.iface 181 (.pointer (some ⟨low + 1, 0, none⟩))] t frozen
      | o => o).modify 0 fun
      | .cells _ t frozen => .cells (shiftL.map fun z => Value.int .u32 z).toArray t frozen
      | o => o }
theorem laid_met (os : Os) (args : Array Value) : laidMet Tryd.prog laid3 ((laidWorld os).forCall (fun _ _ => 0) ⟨#[], args, []⟩).memory :=
  laidMet_of_run' 8 (by kernel_rfl) (by kernel_rfl)
end Go.Proofs.YtefloieanpgnmaaDoor

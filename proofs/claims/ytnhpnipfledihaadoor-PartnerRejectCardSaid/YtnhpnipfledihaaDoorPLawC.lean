/- The law's sane. -/
import Derived.Test.YtnhpnipfledihaaDoorPLawA
import Derived.Test.YtnhpnipfledihaaDoorParB
import Derived.Test.YtnhpnipfledihaaDoorParG
import Derived.KernelRfl
namespace Go.Proofs.YtnhpnipfledihaaDoor
open Go.RowKit

/-- while a law runs: the variables of the packages lie as they lay, and so does what lay before -/
structure LW (a0 a1 : Addr) (w0 w : World) : Prop where
  S : Sents a0 a1 w0
  H : ShiftsAt w0
  bel : Below w0.heap.size w0 w
theorem LW.s {a0 a1 : Addr} {w0 w : World} (h : LW a0 a1 w0 w) : Sents a0 a1 w := h.S.below h.bel
theorem LW.h {a0 a1 : Addr} {w0 w : World} (h : LW a0 a1 w0 w) : ShiftsAt w := shifts_under h.H h.bel
theorem LW.below {a0 a1 : Addr} {w0 w w' : World} (h : LW a0 a1 w0 w) (hb : Below w.heap.size w w') : LW a0 a1 w0 w' := ⟨h.S, h.H, below_then h.bel hb⟩
theorem LW.two {a0 a1 : Addr} {w0 w w' : World} {b1 b2 : Nat} (h : LW a0 a1 w0 w) (hb : ButTwo w.heap.size b1 b2 w w') (h1 : w0.heap.size ≤ b1) (h2 : w0.heap.size ≤ b2) : LW a0 a1 w0 w' := ⟨h.S, h.H, h.bel.trans (hb.below h.bel.size h1 h2)⟩
theorem LW.but {a0 a1 : Addr} {w0 w w' : World} {r : Nat} (h : LW a0 a1 w0 w) (hb : ButAt w.heap.size r w w') (h1 : w0.heap.size ≤ r) : LW a0 a1 w0 w' := ⟨h.S, h.H, h.bel.trans (hb.below h.bel.size h1)⟩

/-- what Receive leaves, in a law -/
def LRecEnd (a0 a1 : Addr) (p b1 b2 : Nat) (id : Int) (N : Nat) (w0 w : World) (ms : List Msg) (L : List Ent) (e : Ending) (w' : World) : Prop :=
  ∃ v, e = .returned v ∧ MsgsAt w.heap.size v ms w' ∧ PAt p b1 b2 id L (N + 1) w' ∧ LW a0 a1 w0 w' ∧ ButTwo w.heap.size b1 b2 w w'

theorem lrec {a0 a1 : Addr} (p b1 b2 : Nat) (id : Int) (L : List Ent) (N : Nat) (m : Msg) (w0 w : World) (hid : 1 ≤ id) (hN : N ≤ 1000) (hd : m.data.length ≤ 9223372036854775000) (hL : LW a0 a1 w0 w) (h1 : w0.heap.size ≤ b1) (h2 : w0.heap.size ≤ b2) (hP : PAt p b1 b2 id L N w) {ms : List Msg} {L' : List Ent} (hr : recv id L m = (ms, L')) :
    Calls Tryd.prog 18 #[.pointer (some ⟨p, 0, none⟩), m.enc] w (LRecEnd a0 a1 p b1 b2 id N w0 w ms L') := by
  refine (receive_any p b1 b2 id L N m w hid hN hd hL.s hL.h hP).mono ?_
  rintro e w' ⟨v, he, hm, hp, hb⟩
  rw [hr] at hm hp
  exact ⟨v, he, hm, hp, hL.two hb h1 h2, hb⟩

def abc : List UInt8 := [97, 98, 99]
def sm0 : Msg := deliverOf 2 3 7 [] abc
def sL1 : List Ent := (recv 2 [] sm0).2
def sL2 : List Ent := (recv 2 sL1 ⟨2, 2, 4, 7, 0, 0, []⟩).2
theorem s1 : recv 2 [] sm0 = ([ackOf 2 3 7 (crcOf abc)], sL1) := by kernel_rfl
theorem s2 : recv 2 sL1 sm0 = ([ackOf 2 3 7 (crcOf abc)], sL1) := by kernel_rfl
theorem s3 : recv 2 sL1 ⟨1, 2, 4, 7, 5, 0, sm0.data⟩ = ([rejOf 2 4 7 (crcOf abc)], sL1) := by kernel_rfl
theorem s4 : recv 2 sL1 ⟨2, 2, 4, 7, 0, 0, []⟩ = ([ackOf 2 4 7 0], sL2) := by kernel_rfl
theorem s5 : recv 2 sL2 sm0 = ([rejOf 2 4 7 0], sL2) := by kernel_rfl
theorem s6 : copyF sL1 7 = some abc := by kernel_rfl
theorem s7 : copyF sL2 7 = none := by kernel_rfl
theorem s8 : itemsL sL2 = [] := by kernel_rfl
theorem sm0_len : sm0.data.length ≤ 100000 := by have := diffD_len [] abc; simp [sm0, deliverOf, abc] at *; omega

theorem msgsAt_new (n : Nat) (a : Msg) (w : World) (hn : n ≤ w.heap.size) : MsgsAt n (.slice (some ⟨w.heap.size, 0, none⟩) 1 1) [a] (w.alloc (.cells a.cells 33)) := .inr ⟨a, _, rfl, rfl, hn, heap_alloc_new _ _⟩
theorem MsgsAt.below {n : Nat} {v : Value} {ms : List Msg} {w w' : World} (h : MsgsAt n v ms w) (hb : Below w.heap.size w w') : MsgsAt n v ms w' := h.kept fun k _ hk => hb.block k hk
theorem MsgsAt.two {n b1 b2 : Nat} {v : Value} {ms : List Msg} {w w' : World} {p : Nat} {id : Int} {L : List Ent} {N : Nat} (h : MsgsAt n v ms w) (hP : PAt p b1 b2 id L N w) (hb : ButTwo w.heap.size b1 b2 w w') : MsgsAt n v ms w' := by
  rcases h with h | ⟨m, g, h1, h2, h3, h4⟩
  · exact .inl h
  · exact .inr ⟨m, g, h1, h2, h3, hP.half.msg h4 hb⟩

set_option maxRecDepth 100000 in
set_option maxHeartbeats 8000000 in
theorem sane_any {a0 a1 : Addr} (w : World) (hS : Sents a0 a1 w) (hsh : ShiftsAt w) :
    Calls Tryd.prog 12 #[] w fun e w' => e = .returned (.bool true) ∧ Below w.heap.size w w' := by
  have HL0 := Lib.hid (LW.mk hS hsh (Below.refl _ _) : LW a0 a1 w w)
  clear hS hsh
  obtain ⟨p, hp⟩ : ∃ p, w.heap.size + 2 = p := ⟨_, rfl⟩
  obtain ⟨b2, hb2⟩ : ∃ b, w.heap.size + 1 = b := ⟨_, rfl⟩
  have hN := new_in 2 w (by omega) (by omega)
  rw [hp, hb2] at hN
  have HN := Lib.hid hN
  have l2 : w.heap.size ≤ b2 := by omega
  have hq2 : p ≠ 0 := by omega
  clear hN hp hb2
  have HS1 := Lib.hid s1; have HS2 := Lib.hid s2; have HS3 := Lib.hid s3; have HS4 := Lib.hid s4; have HS5 := Lib.hid s5; have HS6 := Lib.hid s6; have HS7 := Lib.hid s7; have HS8 := Lib.hid s8
  have hml := sm0_len
  have HDL : ∀ wy, Hid (Calls Tryd.prog 24 #[.int .i64 2, .int .i64 3, .int .i64 7, .string ⟨#[]⟩, .string ⟨#[97, 98, 99]⟩] wy fun e w' => e = .returned sm0.enc ∧ Below wy.heap.size wy w') := fun wy => Lib.hid (deliver_any 2 3 7 [] abc wy (by simp) (by simp [abc]))
  have HSM : ∀ wy, Hid (Calls Tryd.prog 29 #[.string ⟨#[97, 98, 99]⟩] wy fun e w' => e = .returned (.int .i64 (crcOf abc)) ∧ wy = w') := fun wy => Lib.hid (refSum_list abc wy (by simp [abc]))
  generalize sm0 = m0 at *
  generalize sL1 = L1 at *
  generalize sL2 = L2 at *
  generalize (crcOf abc : Int) = c at *
  have hml2 : m0.data.length ≤ 9223372036854775000 := by omega
  have HS1 := Lib.hid s1; have HS2 := Lib.hid s2; have HS3 := Lib.hid s3; have HS4 := Lib.hid s4; have HS5 := Lib.hid s5; have HS6 := Lib.hid s6; have HS7 := Lib.hid s7; have HS8 := Lib.hid s8
  have hml := sm0_len
  have HDL : ∀ wy, Hid (Calls Tryd.prog 24 #[.int .i64 2, .int .i64 3, .int .i64 7, .string ⟨#[]⟩, .string ⟨#[97, 98, 99]⟩] wy fun e w' => e = .returned sm0.enc ∧ Below wy.heap.size wy w') := fun wy => Lib.hid (deliver_any 2 3 7 [] abc wy (by simp) (by simp [abc]))
  have HSM : ∀ wy, Hid (Calls Tryd.prog 29 #[.string ⟨#[97, 98, 99]⟩] wy fun e w' => e = .returned (.int .i64 (crcOf abc)) ∧ wy = w') := fun wy => Lib.hid (refSum_list abc wy (by simp [abc]))
  generalize sm0 = m0 at *
  generalize sL1 = L1 at *
  generalize sL2 = L2 at *
  generalize (crcOf abc : Int) = c at *
  have hml2 : m0.data.length ≤ 9223372036854775000 := by omega
  go_enter Tryd.func12, Tryd.ntmps12
  go_wp2_with fail
  refine HN.out.mono ?_
  rintro e w1 ⟨rfl, hp1, hb1⟩
  have HP1 := Lib.hid hp1; have HL1 := Lib.hid (HL0.out.below hb1)
  clear hp1 hb1 HN
  go_wp2_with fail
  refine (new_out 9 _ (.inr (by omega))).mono ?_
  rintro e w2 ⟨rfl, rfl⟩
  go_wp2_with fail
  refine (HDL _).out.mono ?_
  rintro e w2 ⟨rfl, hb2⟩
  have HP2 := Lib.hid (HP1.out.below hb2); have HL2 := Lib.hid (HL1.out.below hb2)
  obtain ⟨w3, hw3⟩ : ∃ w3, w2.alloc (.cells #[.int .i64 m0.kind, .int .i64 m0.partner, .int .i64 m0.seq, .int .i64 m0.story, .int .i64 m0.base, .int .i64 m0.version, .string ⟨m0.data.toArray⟩] 33) = w3 := ⟨_, rfl⟩
  have hb3 : Below w2.heap.size w2 w3 := by rw [← hw3]; exact (Below.refl _ _).alloc (Nat.le_refl _) _
  have hm3 : MAt w2.heap.size m0 w3 := by rw [← hw3]; exact heap_alloc_new _ _
  have HP3 := Lib.hid (HP2.out.below hb3); have HL3 := Lib.hid (HL2.out.below hb3); have HM3 := Lib.hid hm3
  clear hb2 hb3 hm3 HP1 HL1 HP2 HL2
  unfold Msg.enc
  go_wp2_with fail
  clear hw3
  generalize w2.heap.size = M at *
  refine (HSM _).out.mono ?_
  rintro e w4 ⟨rfl, rfl⟩
  obtain ⟨w4, hw4⟩ : ∃ w4, w3.alloc (.cells #[.int .i64 3, .int .i64 2, .int .i64 3, .int .i64 7, .int .i64 0, .int .i64 c, .string ⟨#[]⟩] 33) = w4 := ⟨_, rfl⟩
  have hb4 : Below w3.heap.size w3 w4 := by rw [← hw4]; exact (Below.refl _ _).alloc (Nat.le_refl _) _
  have hk4 : MsgsAt w3.heap.size (.slice (some ⟨w3.heap.size, 0, none⟩) 1 1) [ackOf 2 3 7 c] w4 := by rw [← hw4]; exact msgsAt_new _ (ackOf 2 3 7 c) w3 (Nat.le_refl _)
  have HP4 := Lib.hid (HP3.out.below hb4); have HL4 := Lib.hid (HL3.out.below hb4); have HM4 := Lib.hid (HM3.out.below hb4); have HK4 := Lib.hid hk4
  obtain ⟨c0, c1, c2, c3, c4, c5, c6⟩ := HM4.out.cells
  clear hb4 hk4 HP3 HL3 HM3
  go_wp2_with fail
  clear hw4
  generalize w3.heap.size = Z at *
  refine (lrec p w.heap.size b2 2 [] 0 m0 w _ (by omega) (by omega) hml2 HL4.out (Nat.le_refl _) l2 HP4.out HS1.out).mono ?_
  rintro e w5 ⟨v5, rfl, hm5, hp5, hl5, hb5⟩
  have HV5 := Lib.hid hm5; have HP5 := Lib.hid hp5; have HL5 := Lib.hid hl5; have HM5 := Lib.hid (HP4.out.half.msg HM4.out hb5)
  have HK5 := Lib.hid (HK4.out.two HP4.out hb5)
  clear hm5 hp5 hl5 hb5 HP4 HL4 HM4 c0 c1 c2 c3 c4 c5 c6
  obtain ⟨c0, c1, c2, c3, c4, c5, c6⟩ := HM5.out.cells
  go_wp2_with fail
  refine (same_msgs _ _ _ _ _ _ HV5.out HK5.out).mono ?_
  rintro e w6 ⟨rfl, hb6⟩
  have HP6 := Lib.hid (HP5.out.below hb6); have HL6 := Lib.hid (HL5.out.below hb6); have HM6 := Lib.hid (HM5.out.below hb6)
  have HK6 := Lib.hid (HK5.out.below hb6)
  clear hb6 HP5 HL5 HM5 c0 c1 c2 c3 c4 c5 c6
  obtain ⟨c0, c1, c2, c3, c4, c5, c6⟩ := HM6.out.cells
  go_wp2_with fail
  refine (lrec p w.heap.size b2 2 L1 1 m0 w _ (by omega) (by omega) hml2 HL6.out (Nat.le_refl _) l2 HP6.out HS2.out).mono ?_
  rintro e w7 ⟨v7, rfl, hm7, hp7, hl7, hb7⟩
  have HV7 := Lib.hid hm7; have HP7 := Lib.hid hp7; have HL7 := Lib.hid hl7; have HM7 := Lib.hid (HP6.out.half.msg HM6.out hb7)
  have HK7 := Lib.hid (HK6.out.two HP6.out hb7)
  clear hm7 hp7 hl7 hb7 HP6 HL6 HM6 c0 c1 c2 c3 c4 c5 c6
  obtain ⟨c0, c1, c2, c3, c4, c5, c6⟩ := HM7.out.cells
  go_wp2_with fail
  refine (same_msgs _ _ _ _ _ _ HV7.out HK7.out).mono ?_
  rintro e w8 ⟨rfl, hb8⟩
  have HP8 := Lib.hid (HP7.out.below hb8); have HL8 := Lib.hid (HL7.out.below hb8); have HM8 := Lib.hid (HM7.out.below hb8)
  clear hb8 HP7 HL7 HM7 c0 c1 c2 c3 c4 c5 c6
  obtain ⟨c0, c1, c2, c3, c4, c5, c6⟩ := HM8.out.cells
  go_wp2_with fail
  refine (text_any p w.heap.size b2 2 L1 2 7 _ (by omega) (by omega) HP8.out).mono ?_
  rw [HS6.out]
  rintro e wt ⟨rfl, rfl⟩
  simp only [Option.getD_some, Option.isSome_some]
  go_wp2_with fail
  refine (lrec p w.heap.size b2 2 L1 2 ⟨1, 2, 4, 7, 5, 0, m0.data⟩ w _ (by omega) (by omega) hml2 HL8.out (Nat.le_refl _) l2 HP8.out HS3.out).mono ?_
  rintro e w9 ⟨v9, rfl, hm9, hp9, hl9, hb9⟩
  have HV9 := Lib.hid hm9; have HP9 := Lib.hid hp9; have HL9 := Lib.hid hl9; have HM9 := Lib.hid (HP8.out.half.msg HM8.out hb9)
  clear hm9 hp9 hl9 hb9 HP8 HL8 HM8 c0 c1 c2 c3 c4 c5 c6
  obtain ⟨c0, c1, c2, c3, c4, c5, c6⟩ := HM9.out.cells
  obtain ⟨w10, hw10⟩ : ∃ w10, w9.alloc (.cells #[.int .i64 4, .int .i64 2, .int .i64 4, .int .i64 7, .int .i64 c, .int .i64 0, .string ⟨#[]⟩] 33) = w10 := ⟨_, rfl⟩
  have hb10 : Below w9.heap.size w9 w10 := by rw [← hw10]; exact (Below.refl _ _).alloc (Nat.le_refl _) _
  have hk10 : MsgsAt w9.heap.size (.slice (some ⟨w9.heap.size, 0, none⟩) 1 1) [rejOf 2 4 7 c] w10 := by rw [← hw10]; exact msgsAt_new _ (rejOf 2 4 7 c) w9 (Nat.le_refl _)
  have HP10 := Lib.hid (HP9.out.below hb10); have HL10 := Lib.hid (HL9.out.below hb10); have HM10 := Lib.hid (HM9.out.below hb10); have HV10 := Lib.hid (HV9.out.below hb10); have HK10 := Lib.hid hk10
  clear hb10 hk10 HP9 HL9 HM9 c0 c1 c2 c3 c4 c5 c6
  obtain ⟨c0, c1, c2, c3, c4, c5, c6⟩ := HM10.out.cells
  go_wp2_with fail
  clear hw10
  refine (same_msgs _ _ _ _ _ _ HV10.out HK10.out).mono ?_
  rintro e w11 ⟨rfl, hb11⟩
  have HP11 := Lib.hid (HP10.out.below hb11); have HL11 := Lib.hid (HL10.out.below hb11); have HM11 := Lib.hid (HM10.out.below hb11)
  clear hb11 HP10 HL10 HM10 HV10 HK10 c0 c1 c2 c3 c4 c5 c6
  obtain ⟨c0, c1, c2, c3, c4, c5, c6⟩ := HM11.out.cells
  go_wp2_with fail
  refine (kill_any 2 4 7 _).mono ?_
  rintro e w12 ⟨rfl, hb12⟩
  have HP12 := Lib.hid (HP11.out.below hb12); have HL12 := Lib.hid (HL11.out.below hb12); have HM12 := Lib.hid (HM11.out.below hb12)
  clear hb12 HP11 HL11 HM11 c0 c1 c2 c3 c4 c5 c6
  obtain ⟨c0, c1, c2, c3, c4, c5, c6⟩ := HM12.out.cells
  go_wp2_with fail
  refine (lrec p w.heap.size b2 2 L1 3 ⟨2, 2, 4, 7, 0, 0, []⟩ w _ (by omega) (by omega) (Nat.zero_le _) HL12.out (Nat.le_refl _) l2 HP12.out HS4.out).mono ?_
  rintro e w13 ⟨v13, rfl, hm13, hp13, hl13, hb13⟩
  have HV13 := Lib.hid hm13; have HP13 := Lib.hid hp13; have HL13 := Lib.hid hl13; have HM13 := Lib.hid (HP12.out.half.msg HM12.out hb13)
  clear hm13 hp13 hl13 hb13 HP12 HL12 HM12 c0 c1 c2 c3 c4 c5 c6
  obtain ⟨c0, c1, c2, c3, c4, c5, c6⟩ := HM13.out.cells
  obtain ⟨w14, hw14⟩ : ∃ w14, w13.alloc (.cells #[.int .i64 3, .int .i64 2, .int .i64 4, .int .i64 7, .int .i64 0, .int .i64 0, .string ⟨#[]⟩] 33) = w14 := ⟨_, rfl⟩
  have hb14 : Below w13.heap.size w13 w14 := by rw [← hw14]; exact (Below.refl _ _).alloc (Nat.le_refl _) _
  have hk14 : MsgsAt w13.heap.size (.slice (some ⟨w13.heap.size, 0, none⟩) 1 1) [ackOf 2 4 7 0] w14 := by rw [← hw14]; exact msgsAt_new _ (ackOf 2 4 7 0) w13 (Nat.le_refl _)
  have HP14 := Lib.hid (HP13.out.below hb14); have HL14 := Lib.hid (HL13.out.below hb14); have HM14 := Lib.hid (HM13.out.below hb14); have HV14 := Lib.hid (HV13.out.below hb14); have HK14 := Lib.hid hk14
  clear hb14 hk14 HP13 HL13 HM13 c0 c1 c2 c3 c4 c5 c6
  obtain ⟨c0, c1, c2, c3, c4, c5, c6⟩ := HM14.out.cells
  go_wp2_with fail
  clear hw14
  refine (same_msgs _ _ _ _ _ _ HV14.out HK14.out).mono ?_
  rintro e w15 ⟨rfl, hb15⟩
  have HP15 := Lib.hid (HP14.out.below hb15); have HL15 := Lib.hid (HL14.out.below hb15); have HM15 := Lib.hid (HM14.out.below hb15)
  clear hb15 HP14 HL14 HM14 HV14 HK14 c0 c1 c2 c3 c4 c5 c6
  obtain ⟨c0, c1, c2, c3, c4, c5, c6⟩ := HM15.out.cells
  go_wp2_with fail
  refine (lrec p w.heap.size b2 2 L2 4 m0 w _ (by omega) (by omega) hml2 HL15.out (Nat.le_refl _) l2 HP15.out HS5.out).mono ?_
  rintro e w16 ⟨v16, rfl, hm16, hp16, hl16, hb16⟩
  have HV16 := Lib.hid hm16; have HP16 := Lib.hid hp16; have HL16 := Lib.hid hl16; have HM16 := Lib.hid (HP15.out.half.msg HM15.out hb16)
  clear hm16 hp16 hl16 hb16 HP15 HL15 HM15 c0 c1 c2 c3 c4 c5 c6
  obtain ⟨c0, c1, c2, c3, c4, c5, c6⟩ := HM16.out.cells
  obtain ⟨w17, hw17⟩ : ∃ w17, w16.alloc (.cells #[.int .i64 4, .int .i64 2, .int .i64 4, .int .i64 7, .int .i64 0, .int .i64 0, .string ⟨#[]⟩] 33) = w17 := ⟨_, rfl⟩
  have hb17 : Below w16.heap.size w16 w17 := by rw [← hw17]; exact (Below.refl _ _).alloc (Nat.le_refl _) _
  have hk17 : MsgsAt w16.heap.size (.slice (some ⟨w16.heap.size, 0, none⟩) 1 1) [rejOf 2 4 7 0] w17 := by rw [← hw17]; exact msgsAt_new _ (rejOf 2 4 7 0) w16 (Nat.le_refl _)
  have HP17 := Lib.hid (HP16.out.below hb17); have HL17 := Lib.hid (HL16.out.below hb17); have HM17 := Lib.hid (HM16.out.below hb17); have HV17 := Lib.hid (HV16.out.below hb17); have HK17 := Lib.hid hk17
  clear hb17 hk17 HP16 HL16 HM16 c0 c1 c2 c3 c4 c5 c6
  obtain ⟨c0, c1, c2, c3, c4, c5, c6⟩ := HM17.out.cells
  go_wp2_with fail
  clear hw17
  refine (same_msgs _ _ _ _ _ _ HV17.out HK17.out).mono ?_
  rintro e w18 ⟨rfl, hb18⟩
  have HP18 := Lib.hid (HP17.out.below hb18); have HL18 := Lib.hid (HL17.out.below hb18); have HM18 := Lib.hid (HM17.out.below hb18)
  clear hb18 HP17 HL17 HM17 HV17 HK17 c0 c1 c2 c3 c4 c5 c6
  obtain ⟨c0, c1, c2, c3, c4, c5, c6⟩ := HM18.out.cells
  go_wp2_with fail
  refine (text_any p w.heap.size b2 2 L2 5 7 _ (by omega) (by omega) HP18.out).mono ?_
  rw [HS7.out]
  rintro e wt ⟨rfl, rfl⟩
  simp only [Option.getD_none, Option.isSome_none]
  have habc : (abc == [97, 98, 99]) = true := by decide
  go_wp2_with fail
  have HIT := Lib.hid (items_any p w.heap.size b2 2 L2 5 _ HP18.out)
  refine HIT.out.mono ?_
  rintro e w19 ⟨vi, rfl, hit, hbi⟩
  rw [HS8.out] at hit
  obtain ⟨A, cap, rfl, _, _, _⟩ := hit.slice
  have HFIN := Lib.hid (HL18.out.below hbi).bel
  clear hit hbi c0 c1 c2 c3 c4 c5 c6
  go_wp2
  go_ret
  exact ⟨rfl, HFIN.out⟩
end Go.Proofs.YtnhpnipfledihaaDoor

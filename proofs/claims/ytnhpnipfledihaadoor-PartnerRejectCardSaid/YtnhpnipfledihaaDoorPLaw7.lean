/- The law PartnerReject. -/
import Derived.Test.YtnhpnipfledihaaDoorPLaw6
namespace Go.Proofs.YtnhpnipfledihaaDoor
open Go.RowKit

set_option maxRecDepth 100000 in
set_option maxHeartbeats 16000000 in
theorem lawReject_any {a0 a1 : Addr} (id : Int) (A : Option Addr) (n c : Nat) (x0 x1 x2 : Int) (w0 : World) (hid : InI64 id) (hops : RawOps w0 A n c) (hx : InI64 x0 ∧ InI64 x1 ∧ InI64 x2) (hS : Sents a0 a1 w0) (hsh : ShiftsAt w0) :
    Calls Tryd.prog 8 #[.int .i64 id, .slice A n c, .agg #[.int .i64 x0, .int .i64 x1, .int .i64 x2]] w0 fun e w' => e = .returned (.bool true) ∧ Below w0.heap.size w0 w' := by
  obtain ⟨wa, hwa⟩ : ∃ wa, w0.alloc (.cells #[.int .i64 x0, .int .i64 x1, .int .i64 x2] 63) = wa := ⟨_, rfl⟩
  have hba : Below w0.heap.size w0 wa := by rw [← hwa]; exact (Below.refl _ _).alloc (Nat.le_refl _) _
  have hXa : wa.heap[w0.heap.size]? = some (.cells #[.int .i64 x0, .int .i64 x1, .int .i64 x2] 63 (0, 0)) := by rw [← hwa]; exact heap_alloc_new _ _
  have HXA := Lib.hid hXa
  have HLA := Lib.hid (LW.mk (hS.below hba) (shifts_under hsh hba) (Below.refl _ _) : LW a0 a1 wa wa)
  have HOA := Lib.hid (hops.below hba)
  have HX := Lib.hid hx
  have HSN := Lib.hid (sane_any wa (hS.below hba) (shifts_under hsh hba))
  have HFIN : ∀ wz, LW a0 a1 wa wz → Hid (Below w0.heap.size w0 wz) := fun wz h => Lib.hid (below_then hba h.bel)
  have hxl : w0.heap.size < wa.heap.size := some_lt hXa
  clear hba hXa hS hsh hops hx
  go_enter Tryd.func8, Tryd.ntmps8
  go_wp2_with fail
  clear hwa
  refine HSN.out.mono ?_
  rintro e w1 ⟨rfl, hb1⟩
  have HMD := Lib.hid (made_any id A n c wa w1 hid HOA.out (HLA.out.below hb1))
  clear hb1 HSN
  go_wp2_with fail
  refine HMD.out.mono ?_
  rintro e w2 ⟨p, b1, b2, r, L, rfl, hst⟩
  generalize 1 + pickI id 8 = q at *
  have HST := Lib.hid hst
  have HXF : ∀ wy, Below w2.heap.size w2 wy → Hid (wy.cell? ⟨w0.heap.size, 0, none⟩ = some (.int .i64 x0) ∧ wy.cell? ⟨w0.heap.size, 1, none⟩ = some (.int .i64 x1) ∧ wy.cell? ⟨w0.heap.size, 2, none⟩ = some (.int .i64 x2)) := fun wy hb => Lib.hid (by
    have hxc := (hst.W.bel.block _ hxl).trans HXA.out
    have hxy := (hb.block _ (some_lt hxc)).trans hxc
    refine ⟨?_, ?_, ?_⟩ <;> (rw [Lib.cell_of_heap hxy]; rfl))
  have HRF : ∀ wy, Below w2.heap.size w2 wy → Hid (wy.cell? ⟨r, 0, none⟩ = some (.int .i64 q)) := fun wy hb => Lib.hid (by
    obtain ⟨vr, hvr⟩ := hst.R
    rw [Lib.cell_of_heap (hvr.below hb).cells]; rfl)
  obtain ⟨y0, y1, y2⟩ := (HXF w2 (Below.refl _ _)).out
  obtain ⟨hx0, hx1, hx2⟩ := HX.out
  clear hst HMD
  go_wp2_with fail
  refine (pick_any x0 4 _ hx0.1 hx0.2 (by omega) (by omega)).mono ?_
  rintro e w3 ⟨rfl, rfl⟩
  have rs := pickI_range (c := x0) (n := 4) (by omega)
  generalize pickI x0 4 = s at *
  have htx : ∀ (N : Nat) (wy : World), PAt p b1 b2 q L N wy → Calls Tryd.prog 23 #[.pointer (some ⟨p, 0, none⟩), .int .i64 (1 + s)] wy fun e w' => e = .returned (.tuple #[.string ⟨(entOf L (1 + s)).text.toArray⟩, .bool (copyF L (1 + s)).isSome]) ∧ wy = w' := fun N wy h => by
    have := text_any p b1 b2 q L N (1 + s) wy (by omega) (by omega) h
    rwa [copyF_get h.kept] at this
  obtain ⟨L', hrc, hcp⟩ := recv_fresh (id := q) (s := 1 + s) (L := L) (n := wordsI x2) HST.out.P.kept HST.out.T HST.out.i1 HST.out.i2 (by omega) (by omega) (wordsI_in x2)
  have hrw := recv_wrong (id := q) (s := 1 + s) (L := L) (x := wordsI x1) (n := wordsI x2) HST.out.P.kept HST.out.T HST.out.i1 HST.out.i2 (by omega) (by omega) (wordsI_in x1) (wordsI_in x2)
  have hsq := HST.out.P.kept.ent (1 + s)
  have htk := (HST.out.T (1 + s)).2
  have hol := (HST.out.T (1 + s)).1.len
  obtain ⟨hq0, _, _, _⟩ := hsq
  have hnl := (wordsI_in x2).len
  have hwl := (wordsI_in x1).len
  have hml : (deliverOf q ((entOf L (1 + s)).seq + 1) (1 + s) [] (wordsI x2)).data.length ≤ 100000 := by have := diffD_len [] (wordsI x2); simp [deliverOf]; omega
  have hml2 : (deliverOf q ((entOf L (1 + s)).seq + 1) (1 + s) (wordsI x1 ++ [63]) (wordsI x2)).data.length ≤ 100000 := by have := diffD_len (wordsI x1 ++ [63]) (wordsI x2); simp [deliverOf]; omega
  have HDV := fun wy => Lib.hid (deliver_any q ((entOf L (1 + s)).seq + 1) (1 + s) [] (wordsI x2) wy (by simp) (by omega))
  have HDW := fun wy => Lib.hid (deliver_any q ((entOf L (1 + s)).seq + 1) (1 + s) (wordsI x1 ++ [63]) (wordsI x2) wy (by simp; omega) (by omega))
  have HEN := fun (wy : World) (vr : Value) (h : RAt r q L vr wy) => Lib.hid (entry_any r q L vr (1 + s) wy h)
  have HW1 := fun wy => Lib.hid (words_any x1 wy hx1.1 hx1.2)
  have HW2 := fun wy => Lib.hid (words_any x2 wy hx2.1 hx2.2)
  have HSM := fun wy => Lib.hid (refSum_list (entOf L (1 + s)).text wy (by omega))
  generalize (copyF L (1 + s)).isSome = hs at *
  generalize deliverOf q ((entOf L (1 + s)).seq + 1) (1 + s) [] (wordsI x2) = m at *
  generalize deliverOf q ((entOf L (1 + s)).seq + 1) (1 + s) (wordsI x1 ++ [63]) (wordsI x2) = mw at *
  generalize wordsI x2 = nx at *
  generalize wordsI x1 = ox at *
  have hst := entOf_story L (1 + s)
  generalize entOf L (1 + s) = E at *
  obtain ⟨es, eq, eh, et⟩ := E
  simp only [] at hst hq0 htk hol hrc hrw htx HDV HDW HSM
  subst hst
  have hfd : ∀ w : World, (Instr.field 59 (.agg #[.int .i64 (1 + s), .int .i64 eq, .bool eh, .string ⟨et.toArray⟩]) 1).run Tryd.prog w = .ok (.int .i64 eq) w := fun _ => by kernel_rfl
  have HRC := Lib.hid hrc; have HCP := Lib.hid hcp; have HRW := Lib.hid hrw
  have HTX : ∀ (N : Nat) (wy : World), Hid (PAt p b1 b2 q L N wy) → Hid (Calls Tryd.prog 23 #[.pointer (some ⟨p, 0, none⟩), .int .i64 (1 + s)] wy fun e w' => e = .returned (.tuple #[.string ⟨et.toArray⟩, .bool hs]) ∧ wy = w') := fun N wy h => Lib.hid (htx N wy h.out)
  have HP2 := Lib.hid HST.out.P
  have hov : ¬ 9223372036854775807 < ox.length + 1 := by omega
  clear htx hrc hcp hrw
  go_wp2_with fail
  refine (HTX _ _ HP2).out.mono ?_
  rintro e w3 ⟨rfl, rfl⟩
  clear HP2
  go_wp2_with fail
  refine (HW1 _).out.mono ?_
  rintro e w3 ⟨rfl, hb3⟩
  obtain ⟨y0, y1, y2⟩ := (HXF _ hb3).out
  have HS3 := Lib.hid (HST.out.below hb3); have HB3 := Lib.hid hb3
  clear hb3
  go_wp2_with fail
  refine (HW2 _).out.mono ?_
  rintro e w4 ⟨rfl, hb4⟩
  have HS4 := Lib.hid (HS3.out.below hb4); have HB4 := Lib.hid (below_then HB3.out hb4)
  obtain ⟨vr, hvr⟩ := HS4.out.R
  have HEV := Lib.hid (HEN _ vr hvr).out
  clear hb4 hvr y0 y1 y2 HXF HEN HW1 HW2 HST HOA HS3 HB3
  go_wp2_with fail
  refine HEV.out.mono ?_
  unfold Ent.enc
  rintro e w5 ⟨rfl, hb5⟩
  have HS5 := Lib.hid (HS4.out.below hb5); have HB5 := Lib.hid (below_then HB4.out hb5)
  have pc := (HRF _ HB5.out).out
  clear hb5 HS4 HB4 HEV
  go_wp2_with fail
  try simp only [str_add]
  refine (HDW _).out.mono ?_
  rintro e w6 ⟨rfl, hb6⟩
  have HS6 := Lib.hid (HS5.out.below hb6); have HB6 := Lib.hid (below_then HB5.out hb6)
  clear hb6 HS5 HB5 pc HDW
  go_wp2_with fail
  refine (lrec p b1 b2 q L 24 mw wa _ HS6.out.i1 (by omega) (by omega) HS6.out.W HS6.out.h1 HS6.out.h2 HS6.out.P HRW.out).mono ?_
  rintro e w7 ⟨v7, rfl, hm7, hp7, hl7, hb7⟩
  obtain ⟨vr, hvr⟩ := HS6.out.ra hb7
  obtain ⟨g, rfl, HM7, HP7, HL7⟩ := DSt.mk' hm7 hp7 hl7
  obtain ⟨k0, k1, k2, k3, k4, k5, k6⟩ := HM7.out.cells
  have pc : w7.cell? ⟨r, 0, none⟩ = some (.int .i64 q) := by rw [Lib.cell_of_heap hvr.cells]; rfl
  simp only [rejOf] at k0 k1 k2 k3 k4 k5 k6
  clear hm7 hp7 hl7 hb7 hvr
  go_wp2_with fail
  refine (HTX _ _ HP7).out.mono ?_
  rintro e w8 ⟨rfl, rfl⟩
  go_wp2_with fail
  first
    | (go_quiet ((go_at_call 29; exact Calls.quiet_of_same (((HSM _).out).mono fun _ _ h => ⟨h.1, h.2.symm⟩))))
    | fail
  obtain ⟨w9, hw9⟩ : ∃ w9, w7.drewN nq = w9 := ⟨_, rfl⟩
  have hb9 : Below w7.heap.size w7 w9 := by rw [← hw9]; exact (Below.refl _ _).drewN _
  have HP9 := Lib.hid (HP7.out.below hb9); have HL9 := Lib.hid (HL7.out.below hb9)
  have pc9 := (hb9.cell (p := ⟨r, 0, none⟩) (World.block_lt_of_cell? w7 _ pc)).trans pc
  clear k0 k1 k2 k3 k4 k5 k6 HM7 HP7 HL7
  rw [hw9]
  clear hw9 hb9 pc
  go_wp2_with fail
  refine (HDV _).out.mono ?_
  rintro e w10 ⟨rfl, hb10⟩
  have HP10 := Lib.hid (HP9.out.below hb10); have HL10 := Lib.hid (HL9.out.below hb10)
  clear hb10 HP9 HL9 pc9 HDV
  go_wp2_with fail
  refine (lrec p b1 b2 q L 25 m wa _ HS6.out.i1 (by omega) (by omega) HL10.out HS6.out.h1 HS6.out.h2 HP10.out HRC.out).mono ?_
  rintro e w11 ⟨v11, rfl, hm11, hp11, hl11, _⟩
  obtain ⟨g2, rfl, HM11, HP11, HL11⟩ := DSt.mk' hm11 hp11 hl11
  obtain ⟨k0, k1, k2, k3, k4, k5, k6⟩ := HM11.out.cells
  simp only [ackOf] at k0 k1 k2 k3 k4 k5 k6
  have htx := text_any p b1 b2 q L' 26 (1 + s) _ (by omega) (by omega) HP11.out
  rw [HCP.out] at htx
  simp only [Option.getD_some, Option.isSome_some] at htx
  have HTX2 := Lib.hid htx
  have HF := HFIN _ HL11.out
  clear hm11 hp11 hl11 htx HP10 HL10
  go_wp2_with fail
  refine HTX2.out.mono ?_
  rintro e w12 ⟨rfl, rfl⟩
  clear HTX2
  go_wp2
  go_ret
  exact ⟨rfl, HF.out⟩
end Go.Proofs.YtnhpnipfledihaaDoor

/- The law PartnerMatchesReference. -/
import Derived.Test.YtnhpnipfledihaaDoorPLawD
import Derived.Deep.RegionWith
namespace Go.Proofs.YtnhpnipfledihaaDoor
open Go.RowKit

theorem St.drew {a0 a1 : Addr} {p b1 b2 r N : Nat} {id : Int} {L : List Ent} {w0 w : World} (h : St a0 a1 p b1 b2 r id L N w0 w) : St a0 a1 p b1 b2 r id L N w0 w.drew := h.below ((Below.refl _ w).drew)
theorem St.rlt {a0 a1 : Addr} {p b1 b2 r N : Nat} {id : Int} {L : List Ent} {w0 w : World} (h : St a0 a1 p b1 b2 r id L N w0 w) : r < w.heap.size := by
  obtain ⟨v, hv⟩ := h.R; exact hv.lt

set_option maxRecDepth 100000 in
set_option maxHeartbeats 16000000 in
theorem lawMatches_any {a0 a1 : Addr} (id : Int) (A : Option Addr) (n c : Nat) (w0 : World) (hid : InI64 id) (hops : RawOps w0 A n c) (hS : Sents a0 a1 w0) (hsh : ShiftsAt w0) :
    Calls Tryd.prog 3 #[.int .i64 id, .slice A n c] w0 fun e w' => e = .returned (.bool true) ∧ Below w0.heap.size w0 w' := by
  have HL := Lib.hid (LW.mk hS hsh (Below.refl _ _) : LW a0 a1 w0 w0); have HO := Lib.hid hops
  have HSN := Lib.hid (sane_any w0 hS hsh)
  have HPK := fun w => Lib.hid (pick_any id 8 w hid.1 hid.2 (by omega) (by omega))
  have hr := pickI_range (c := id) (n := 8) (by omega)
  obtain ⟨hnc, hcm, _⟩ := hops
  clear hS hsh
  generalize pickI id 8 = q at *
  go_enter Tryd.func3, Tryd.ntmps3
  go_wp2_with fail
  refine HSN.out.mono ?_
  rintro e w ⟨rfl, hb0⟩
  have HLw := Lib.hid (HL.out.below hb0)
  clear hb0 HSN
  go_wp2_with fail
  refine (HPK _).out.mono ?_
  rintro e w1 ⟨rfl, rfl⟩
  go_wp2_with fail
  refine (new_in (1 + q) _ (by omega) (by omega)).mono ?_
  rintro e w1 ⟨rfl, hp1, hb1⟩
  have HP1 := Lib.hid hp1; have HL1 := Lib.hid (HLw.out.below hb1)
  have hz0 := HLw.out.bel.size
  have hpl := hp1.lts
  clear hp1 hb1
  go_wp2_with fail
  refine (rnew_in (1 + q) _ (by omega) (by omega)).mono ?_
  rintro e w2 ⟨rfl, hr2, hb2⟩
  have hst : St a0 a1 (w.heap.size + 2) w.heap.size (w.heap.size + 1) w1.heap.size (1 + q) [] 0 w0 w2 := ⟨HP1.out.below hb2, ⟨_, hr2⟩, textsOk_nil, HL1.out.below hb2, hz0, by omega, hpl.1, hpl.2.1, hpl.2.2, by omega, by omega, by omega⟩
  have HST := Lib.hid hst
  clear hst hr2 hb2 HP1 HL1 hpl hz0
  go_wp2_with fail
  generalize w.heap.size + 2 = p at *
  generalize w.heap.size + 1 = b2 at *
  generalize w.heap.size = b1 at *
  generalize w1.heap.size = r at *
  go_loopw [9] (fun i wr => ∃ (k : Nat) (L : List Ent), i = .int .i64 k ∧ k ≤ 24 ∧ Hid (St a0 a1 p b1 b2 r (1 + q) L k w0 wr)) (fun i _ => 24 - (intOf i).toNat)
  case atStart => exact ⟨0, [], rfl, by omega, HST⟩
  case round =>
    obtain ⟨k, L, rfl, hk, HS⟩ := hrel
    by_cases hkn : k < n
    · by_cases hk24 : k < 24
      · obtain ⟨b, off, rfl, f, hf⟩ := HO.out.2.2 k hkn
        have hbw := HS.out.W.bel
        have hcell : ∀ i, i < 6 → wr.cell? ⟨b, off + (k * 6 + i), none⟩ = some (.int .i64 (f i)) := fun i hi => (hbw.cell (p := ⟨b, _, none⟩) (World.block_lt_of_cell? w0 _ (hf i hi).2)).trans (hf i hi).2
        have e0 := hcell 0 (by omega); have e1 := hcell 1 (by omega); have e2 := hcell 2 (by omega); have e3 := hcell 3 (by omega); have e4 := hcell 4 (by omega); have e5 := hcell 5 (by omega)
        simp only [Nat.add_zero, ← Nat.add_assoc] at e0 e1 e2 e3 e4 e5
        obtain ⟨vr, hvr⟩ := HS.out.R
        have HBD := Lib.hid (build_any r (1 + q) L vr (f 0) (f 1) (f 2) (f 3) (f 4) (f 5) wr (hf 0 (by omega)).1 (hf 1 (by omega)).1 (hf 2 (by omega)).1 (hf 3 (by omega)).1 (hf 4 (by omega)).1 (hf 5 (by omega)).1 hvr HS.out.T)
        generalize f 0 = x0 at *
        generalize f 1 = x1 at *
        generalize f 2 = x2 at *
        generalize f 3 = x3 at *
        generalize f 4 = x4 at *
        generalize f 5 = x5 at *
        clear hf hcell hbw hvr
        go_wp2_with fail
        refine HBD.out.mono ?_
        rintro e w3 ⟨m, rfl, hml, hmo, hb3⟩
        have HS3 := Lib.hid (HS.out.below hb3)
        obtain ⟨w4, hw4⟩ : ∃ w4, w3.alloc (.cells #[.int .i64 m.kind, .int .i64 m.partner, .int .i64 m.seq, .int .i64 m.story, .int .i64 m.base, .int .i64 m.version, .string ⟨m.data.toArray⟩] 33) = w4 := ⟨_, rfl⟩
        have hb4 : Below w3.heap.size w3 w4 := by rw [← hw4]; exact (Below.refl _ _).alloc (Nat.le_refl _) _
        have hm4 : MAt w3.heap.size m w4 := by rw [← hw4]; exact heap_alloc_new _ _
        have hrM : w3.heap.size ≠ r := by have := HS3.out.rlt; omega
        have HS4 := Lib.hid (HS3.out.below hb4).drew; have HM4 : Hid (MAt w3.heap.size m w4.drew) := Lib.hid hm4
        have hrl : r < w4.drew.heap.size := HS4.out.rlt
        obtain ⟨c0, c1, c2, c3, c4, c5, c6⟩ := hm4.cells
        obtain ⟨ms, L', hrc⟩ : ∃ ms L', recv (1 + q) L m = (ms, L') := ⟨_, _, rfl⟩
        have hT' : TextsOk L' := by have := textsOk_recv (id := 1 + q) (m := m) HS.out.T hmo; rwa [hrc] at this
        have HRC := Lib.hid hrc; have HT' := Lib.hid hT'
        clear hb3 hb4 hm4 hmo hrc hT' e0 e1 e2 e3 e4 e5 HBD HS3
        unfold Msg.enc
        go_wp2_with fail
        clear hw4
        generalize w3.heap.size = M at *
        have K1 := Lib.hid (lrec p b1 b2 (1 + q) L k m w0 w4.drew HS4.out.i1 (by omega) (by omega) HS4.out.W HS4.out.h1 HS4.out.h2 HS4.out.P HRC.out)
        have K2 : ∀ w5, ButTwo w4.drew.heap.size b1 b2 w4.drew w5 → Hid (Calls Tryd.prog 19 #[.pointer (some ⟨r, 0, none⟩), m.enc] w5 (RRecEnd r (1 + q) w5 ms L')) := fun w5 hb5 => Lib.hid (by
          obtain ⟨vr5, hvr5⟩ := HS4.out.ra hb5
          have := rreceive_any r (1 + q) L vr5 m w5 (by omega) hvr5
          rwa [HRC.out] at this)
        have KM : ∀ w5, ButTwo w4.drew.heap.size b1 b2 w4.drew w5 → Hid (MAt M m w5) := fun w5 hb5 => Lib.hid (HS4.out.P.half.msg HM4.out hb5)
        first
          | (go_region_with (first
              | (go_at_call 18; refine K1.out.mono ?_; rintro e w5 ⟨v5, rfl, hm5, hp5, hl5, hb5⟩; obtain ⟨d0, d1, d2, d3, d4, d5, d6⟩ := (KM _ hb5).out.cells)
              | (go_at_call 19; refine (K2 _ hb5).out.mono ?_; rintro e w6 ⟨v6, rfl, hm6, hr6, hb6⟩; have HS6 := Lib.hid (HS4.out.both HT'.out hp5 hl5 hr6 hb6); have hm56 := hm5.kept fun k hk hlt => hb6.block k hlt (by omega))
              | (go_at_call 17; refine (same_msgs _ _ _ _ _ _ hm56 hm6).mono ?_; rintro e w7 ⟨rfl, hb7⟩; have HS7 := Lib.hid (HS6.out.below hb7))
              | (go_at_call 21; refine (items_any p b1 b2 (1 + q) L' (k + 1) _ HS7.out.P).mono ?_; rintro e w8 ⟨vi, rfl, hit, hb8⟩; have HS8 := Lib.hid (HS7.out.below hb8); obtain ⟨vr8, hvr8⟩ := HS8.out.R)
              | (go_at_call 22; refine (ritems_any r (1 + q) L' vr8 _ hvr8).mono ?_; rintro e w9 ⟨vj, rfl, hjt, hb9⟩; have HS9 := Lib.hid (HS8.out.below hb9))
              | (go_at_call 20; refine (same_items _ _ _ _ _ _ (hit.below hb9 (Nat.le_refl _)) hjt).mono ?_; rintro e w10 ⟨rfl, hb10⟩; have HS10 := Lib.hid (HS9.out.below hb10))))
          | fail
        all_goals
          go_wp2
          go_roundw
          case rel => exact ⟨k + 1, L', by go_num, by omega, HS10⟩
          case measure => simp [intOf]; omega
      · have hk24b : ¬ ((k : Int) < 24) := by omega
        have HF := Lib.hid HS.out.W.bel
        go_wp2
        go_ret
        exact ⟨rfl, HF.out⟩
    · have HF := Lib.hid HS.out.W.bel
      go_wp2
      go_ret
      exact ⟨rfl, HF.out⟩
end Go.Proofs.YtnhpnipfledihaaDoor

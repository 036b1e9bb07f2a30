/- The law's made. -/
import Derived.Test.YtnhpnipfledihaaDoorPLawB
import Derived.Test.YtnhpnipfledihaaDoorPLawC
import Derived.Test.YtnhpnipfledihaaDoorParF
import Derived.Test.YtnhpnipfledihaaDoorPOpen
namespace Go.Proofs.YtnhpnipfledihaaDoor
open Go.RowKit

theorem textsOk_nil : TextsOk [] := fun _ => ⟨inW_nil, by show (0 : Int) ≤ 3000; decide⟩
theorem textsOk_keep {L : List Ent} (h : TextsOk L) {x : Ent} (hx : InW x.text ∧ x.seq ≤ 3000) : TextsOk (keepGo x false L) := fun s => by
  by_cases hs : s = x.story
  · subst hs; rw [entOf_keep_same]; exact hx
  · rw [entOf_keep_other x L s hs]; exact h s
theorem applied_in {m : Msg} {o t : List UInt8} (ho : InW o) (hd : OkData m.data) (h : applied m o = some t) : InW t := by
  obtain ⟨_, h2, _⟩ := applied_some h
  refine hd _ ?_ _ h2
  by_cases h0 : m.base = 0
  · rw [if_pos h0]; exact inW_nil
  · rw [if_neg h0]; exact ho
theorem textsOk_recv {id : Int} {L : List Ent} {m : Msg} (h : TextsOk L) (hd : OkMsg m) : TextsOk (recv id L m).2 := by
  unfold recv
  split
  · simp only []
    split
    · exact h
    · split
      · exact h
      · split
        · exact textsOk_keep h ⟨inW_nil, hd.2⟩
        · split
          · rename_i t ht
            exact textsOk_keep h ⟨applied_in (h _).1 hd.1 ht, hd.2⟩
          · exact h
  · exact h

/-- a partner of the program and one of the reference, that keep the same -/
structure St (a0 a1 : Addr) (p b1 b2 r : Nat) (id : Int) (L : List Ent) (N : Nat) (w0 w : World) : Prop where
  P : PAt p b1 b2 id L N w
  R : ∃ v, RAt r id L v w
  T : TextsOk L
  W : LW a0 a1 w0 w
  h1 : w0.heap.size ≤ b1
  h2 : w0.heap.size ≤ b2
  hp : p < r
  hb1 : b1 < r
  hb2 : b2 < r
  hr : w0.heap.size ≤ r
  i1 : 1 ≤ id
  i2 : id ≤ 8

theorem St.below {a0 a1 : Addr} {p b1 b2 r N : Nat} {id : Int} {L : List Ent} {w0 w w' : World} (h : St a0 a1 p b1 b2 r id L N w0 w) (hb : Below w.heap.size w w') : St a0 a1 p b1 b2 r id L N w0 w' :=
  ⟨h.P.below hb, h.R.imp fun _ hr => hr.below hb, h.T, h.W.below hb, h.h1, h.h2, h.hp, h.hb1, h.hb2, h.hr, h.i1, h.i2⟩

theorem St.mono {a0 a1 : Addr} {p b1 b2 r N M : Nat} {id : Int} {L : List Ent} {w0 w : World} (h : St a0 a1 p b1 b2 r id L N w0 w) (hm : N ≤ M) : St a0 a1 p b1 b2 r id L M w0 w :=
  ⟨h.P.mono hm, h.R, h.T, h.W, h.h1, h.h2, h.hp, h.hb1, h.hb2, h.hr, h.i1, h.i2⟩

/-- between the two calls of Receive -/
theorem St.both {a0 a1 : Addr} {p b1 b2 r N : Nat} {id : Int} {L L' : List Ent} {w0 w wa wb : World} (h : St a0 a1 p b1 b2 r id L N w0 w) (hT : TextsOk L') (hPa : PAt p b1 b2 id L' (N + 1) wa) (hLa : LW a0 a1 w0 wa) (hRb : ∃ v, RAt r id L' v wb) (hb : ButAt wa.heap.size r wa wb) : St a0 a1 p b1 b2 r id L' (N + 1) w0 wb := by
  obtain ⟨l1, l2, l3⟩ := hPa.lts
  have := h.hp; have := h.hb1; have := h.hb2
  exact ⟨hPa.keep (hb.block _ l1 (by omega)) (hb.block _ l2 (by omega)) (hb.block _ l3 (by omega)), hRb, hT, hLa.but hb h.hr, h.h1, h.h2, h.hp, h.hb1, h.hb2, h.hr, h.i1, h.i2⟩
theorem St.ra {a0 a1 : Addr} {p b1 b2 r N : Nat} {id : Int} {L : List Ent} {w0 w wa : World} (h : St a0 a1 p b1 b2 r id L N w0 w) (hb : ButTwo w.heap.size b1 b2 w wa) : ∃ v, RAt r id L v wa :=
  h.R.imp fun _ hr => hr.two hb fun _ _ _ _ hk => h.P.half.other hk

/-- what made leaves -/
def MadeEnd (a0 a1 : Addr) (id : Int) (w0 : World) (e : Ending) (w' : World) : Prop :=
  ∃ p b1 b2 r L, e = .returned (.tuple #[.pointer (some ⟨p, 0, none⟩), .pointer (some ⟨r, 0, none⟩)]) ∧ St a0 a1 p b1 b2 r id L 24 w0 w'

set_option maxRecDepth 100000 in
set_option maxHeartbeats 8000000 in
theorem made_any {a0 a1 : Addr} (id : Int) (A : Option Addr) (n c : Nat) (w0 w : World) (hid : InI64 id) (hops : RawOps w0 A n c) (hL : LW a0 a1 w0 w) :
    Calls Tryd.prog 25 #[.int .i64 id, .slice A n c] w (MadeEnd a0 a1 (1 + pickI id 8) w0) := by
  have HL := Lib.hid hL; have HO := Lib.hid hops
  have HPK := fun w => Lib.hid (pick_any id 8 w hid.1 hid.2 (by omega) (by omega))
  have hr := pickI_range (c := id) (n := 8) (by omega)
  obtain ⟨hnc, hcm, _⟩ := hops
  clear hL
  generalize pickI id 8 = q at *
  go_enter Tryd.func25, Tryd.ntmps25
  go_wp2_with fail
  refine (HPK _).out.mono ?_
  rintro e w1 ⟨rfl, rfl⟩
  go_wp2_with fail
  refine (new_in (1 + q) _ (by omega) (by omega)).mono ?_
  rintro e w1 ⟨rfl, hp1, hb1⟩
  have HP1 := Lib.hid hp1; have HL1 := Lib.hid (HL.out.below hb1)
  have hz0 := HL.out.bel.size
  have hpl := hp1.lts
  clear hp1 hb1
  go_wp2_with fail
  refine (rnew_in (1 + q) _ (by omega) (by omega)).mono ?_
  rintro e w2 ⟨rfl, hr2, hb2⟩
  have hst : St a0 a1 (w.heap.size + 2) w.heap.size (w.heap.size + 1) w1.heap.size (1 + q) [] 0 w0 w2 := ⟨HP1.out.below hb2, ⟨_, hr2⟩, textsOk_nil, HL1.out.below hb2, hz0, by omega, hpl.1, hpl.2.1, hpl.2.2, by omega, by omega, by omega⟩
  have HST := Lib.hid hst
  clear hst hr2 hb2 HP1 HL1 hpl hz0
  go_wp2_with fail
  generalize w.heap.size + 2 = p at *
  generalize w.heap.size + 1 = b2 at *
  generalize w.heap.size = b1 at *
  generalize w1.heap.size = r at *
  go_loopw [10] (fun i wr => ∃ (k : Nat) (L : List Ent), i = .int .i64 k ∧ k ≤ 24 ∧ Hid (St a0 a1 p b1 b2 r (1 + q) L k w0 wr)) (fun i _ => 24 - (intOf i).toNat)
  case atStart => exact ⟨0, [], rfl, by omega, HST⟩
  case round =>
    obtain ⟨k, L, rfl, hk, HS⟩ := hrel
    have HEND : Hid (MadeEnd a0 a1 (1 + q) w0 (.returned (.tuple #[.pointer (some ⟨p, 0, none⟩), .pointer (some ⟨r, 0, none⟩)])) wr) := Lib.hid ⟨p, b1, b2, r, L, rfl, HS.out.mono hk⟩
    by_cases hkn : k < n
    · by_cases hk24 : k < 24
      · obtain ⟨b, off, rfl, f, hf⟩ := HO.out.2.2 k hkn
        have hbw := HS.out.W.bel
        have hcell : ∀ i, i < 6 → wr.cell? ⟨b, off + (k * 6 + i), none⟩ = some (.int .i64 (f i)) := fun i hi => (hbw.cell (p := ⟨b, _, none⟩) (World.block_lt_of_cell? w0 _ (hf i hi).2)).trans (hf i hi).2
        have e0 := hcell 0 (by omega); have e1 := hcell 1 (by omega); have e2 := hcell 2 (by omega); have e3 := hcell 3 (by omega); have e4 := hcell 4 (by omega); have e5 := hcell 5 (by omega)
        simp only [Nat.add_zero, ← Nat.add_assoc] at e0 e1 e2 e3 e4 e5
        obtain ⟨vr, hvr⟩ := HS.out.R
        have HBD := Lib.hid (build_any r (1 + q) L vr (f 0) (f 1) (f 2) (f 3) (f 4) (f 5) wr (hf 0 (by omega)).1 (hf 1 (by omega)).1 (hf 2 (by omega)).1 (hf 3 (by omega)).1 (hf 4 (by omega)).1 (hf 5 (by omega)).1 hvr HS.out.T)
        generalize f 0 = x0 at *
        generalize f 1 = x1 at *
        generalize f 2 = x2 at *
        generalize f 3 = x3 at *
        generalize f 4 = x4 at *
        generalize f 5 = x5 at *
        clear hf hcell hbw hvr
        go_wp2_with fail
        refine HBD.out.mono ?_
        rintro e w3 ⟨m, rfl, hml, hmo, hb3⟩
        have HS3 := Lib.hid (HS.out.below hb3)
        obtain ⟨w4, hw4⟩ : ∃ w4, w3.alloc (.cells #[.int .i64 m.kind, .int .i64 m.partner, .int .i64 m.seq, .int .i64 m.story, .int .i64 m.base, .int .i64 m.version, .string ⟨m.data.toArray⟩] 33) = w4 := ⟨_, rfl⟩
        have hb4 : Below w3.heap.size w3 w4 := by rw [← hw4]; exact (Below.refl _ _).alloc (Nat.le_refl _) _
        have hm4 : MAt w3.heap.size m w4 := by rw [← hw4]; exact heap_alloc_new _ _
        have HS4 := Lib.hid (HS3.out.below hb4); have HM4 := Lib.hid hm4
        obtain ⟨c0, c1, c2, c3, c4, c5, c6⟩ := hm4.cells
        obtain ⟨ms, L', hrc⟩ : ∃ ms L', recv (1 + q) L m = (ms, L') := ⟨_, _, rfl⟩
        have hT' : TextsOk L' := by have := textsOk_recv (id := 1 + q) (m := m) HS.out.T hmo; rwa [hrc] at this
        have HRC := Lib.hid hrc; have HT' := Lib.hid hT'
        clear hb3 hb4 hm4 hmo hrc hT' e0 e1 e2 e3 e4 e5 HBD HS3
        unfold Msg.enc
        go_wp2_with fail
        clear hw4
        generalize w3.heap.size = M at *
        refine (lrec p b1 b2 (1 + q) L k m w0 _ HS4.out.i1 (by omega) (by omega) HS4.out.W HS4.out.h1 HS4.out.h2 HS4.out.P HRC.out).mono ?_
        rintro e w5 ⟨v5, rfl, _, hp5, hl5, hb5⟩
        have HP5 := Lib.hid hp5; have HL5 := Lib.hid hl5; have HM5 := Lib.hid (HS4.out.P.half.msg HM4.out hb5); have HR5 := Lib.hid (HS4.out.ra hb5)
        clear hp5 hl5 hb5 c0 c1 c2 c3 c4 c5 c6
        obtain ⟨c0, c1, c2, c3, c4, c5, c6⟩ := HM5.out.cells
        obtain ⟨vr5, hvr5⟩ := HR5.out
        have HRR := Lib.hid (rreceive_any r (1 + q) L vr5 m w5 (by omega) hvr5)
        clear hvr5
        go_wp2_with fail
        refine HRR.out.mono ?_
        rintro e w6 ⟨v6, rfl, _, hr6, hb6⟩
        rw [HRC.out] at hr6
        have HS6 := Lib.hid (HS4.out.both HT'.out HP5.out HL5.out hr6 hb6)
        clear hr6 hb6 c0 c1 c2 c3 c4 c5 c6 HP5 HL5 HM5 HR5 HRR
        go_wp2
        go_roundw
        case rel => exact ⟨k + 1, L', by go_num, by omega, HS6⟩
        case measure => simp [intOf]; omega
      · have hk24b : ¬ ((k : Int) < 24) := by omega
        go_wp2
        go_ret2
        exact HEND.out
    · go_wp2
      go_ret2
      exact HEND.out
end Go.Proofs.YtnhpnipfledihaaDoor

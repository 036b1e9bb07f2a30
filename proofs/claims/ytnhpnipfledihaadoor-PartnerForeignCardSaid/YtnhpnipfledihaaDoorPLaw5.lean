/- The law PartnerForeign. -/
import Derived.Test.YtnhpnipfledihaaDoorPLawD
import Derived.Test.YtnhpnipfledihaaDoorPOpen2
import Derived.Test.YtnhpnipfledihaaDoorPLaw3
import Derived.Deep.RegionWith
import Derived.Deep.QuietTactic
import Derived.BigQuiet
namespace Go.Proofs.YtnhpnipfledihaaDoor
open Go.RowKit

/-- a message that is no news for a partner -/
def Off (id : Int) (m : Msg) : Prop := ¬ (m.valid = true ∧ m.partner = id ∧ (m.kind = 1 ∨ m.kind = 2))
theorem recv_off {id : Int} {m : Msg} (h : Off id m) (L : List Ent) : recv id L m = ([], L) := by
  unfold recv; rw [if_neg h]
theorem off_kind {id : Int} {m : Msg} (h : 3 ≤ m.kind) : Off id m := fun ⟨_, _, hk⟩ => by omega
theorem off_partner {id : Int} {m : Msg} (h : m.partner ≠ id) : Off id m := fun ⟨_, hp, _⟩ => h hp
theorem off_story {id : Int} {m : Msg} (h : 64 < m.story) : Off id m := fun ⟨hv, _, _⟩ => by have := (Msg.valid_iff m).1 hv; omega
theorem off_seq {id : Int} {m : Msg} (h : m.seq < 1) : Off id m := fun ⟨hv, _, _⟩ => by have := (Msg.valid_iff m).1 hv; omega
theorem off_version {id : Int} {m : Msg} (h : m.version < 0) : Off id m := fun ⟨hv, _, _⟩ => by have := (Msg.valid_iff m).1 hv; omega

/-- the message m stands in a block of its own -/
def MSt (m : Msg) (w2 : World) (v : Value) (w : World) : Prop := ∃ K, v = .pointer (some ⟨K, 0, none⟩) ∧ w2.heap.size ≤ K ∧ Hid (MAt K m w) ∧ Hid (Below w2.heap.size w2 w)
/-- the block K holds such a message -/
def OffIn (K : Nat) (id : Int) (w : World) : Prop := ∃ m : Msg, MAt K m w ∧ m.data.length ≤ 100000 ∧ Off id m

set_option maxRecDepth 100000 in
set_option maxHeartbeats 16000000 in
theorem lawForeign_any {a0 a1 : Addr} (id : Int) (A : Option Addr) (n c : Nat) (x0 x1 : Int) (w0 : World) (hid : InI64 id) (hops : RawOps w0 A n c) (hx : InI64 x0 ∧ InI64 x1) (hS : Sents a0 a1 w0) (hsh : ShiftsAt w0) :
    Calls Tryd.prog 9 #[.int .i64 id, .slice A n c, .agg #[.int .i64 x0, .int .i64 x1]] w0 fun e w' => e = .returned (.bool true) ∧ Below w0.heap.size w0 w' := by
  obtain ⟨wa, hwa⟩ : ∃ wa, w0.alloc (.cells #[.int .i64 x0, .int .i64 x1] 54) = wa := ⟨_, rfl⟩
  have hba : Below w0.heap.size w0 wa := by rw [← hwa]; exact (Below.refl _ _).alloc (Nat.le_refl _) _
  have hXa : wa.heap[w0.heap.size]? = some (.cells #[.int .i64 x0, .int .i64 x1] 54 (0, 0)) := by rw [← hwa]; exact heap_alloc_new _ _
  have HXA := Lib.hid hXa
  have HLA := Lib.hid (LW.mk (hS.below hba) (shifts_under hsh hba) (Below.refl _ _) : LW a0 a1 wa wa)
  have HOA := Lib.hid (hops.below hba)
  have HX := Lib.hid hx
  have HSN := Lib.hid (sane_any wa (hS.below hba) (shifts_under hsh hba))
  have HFIN : ∀ wz, LW a0 a1 wa wz → Hid (Below w0.heap.size w0 wz) := fun wz h => Lib.hid (below_then hba h.bel)
  have hxl : w0.heap.size < wa.heap.size := some_lt hXa
  clear hba hXa hS hsh hops hx
  go_enter Tryd.func9, Tryd.ntmps9
  go_wp2_with fail
  clear hwa
  refine HSN.out.mono ?_
  rintro e w1 ⟨rfl, hb1⟩
  have HMD := Lib.hid (made_any id A n c wa w1 hid HOA.out (HLA.out.below hb1))
  clear hb1 HSN
  go_wp2_with fail
  refine HMD.out.mono ?_
  rintro e w2 ⟨p, b1, b2, r, L, rfl, hst⟩
  have hq : 1 ≤ 1 + pickI id 8 ∧ 1 + pickI id 8 ≤ 8 := ⟨hst.i1, hst.i2⟩
  generalize 1 + pickI id 8 = q at *
  have HST := Lib.hid hst
  have HXF : ∀ wy, Below w2.heap.size w2 wy → Hid (wy.cell? ⟨w0.heap.size, 0, none⟩ = some (.int .i64 x0) ∧ wy.cell? ⟨w0.heap.size, 1, none⟩ = some (.int .i64 x1) ∧ wy.cell? ⟨r, 0, none⟩ = some (.int .i64 q) ∧ r < w2.heap.size) := fun wy hb => Lib.hid (by
    have hxc := (hst.W.bel.block _ hxl).trans HXA.out
    have hxy := (hb.block _ (some_lt hxc)).trans hxc
    obtain ⟨vr, hvr⟩ := hst.R
    refine ⟨?_, ?_, ?_, hvr.lt⟩
    · rw [Lib.cell_of_heap hxy]; rfl
    · rw [Lib.cell_of_heap hxy]; rfl
    · rw [Lib.cell_of_heap (hvr.below hb).cells]; rfl)
  obtain ⟨y0, y1, pc, hrl⟩ := (HXF w2 (Below.refl _ _)).out
  obtain ⟨hx0, hx1⟩ := HX.out
  have HQ := Lib.hid hq
  clear hst HMD hq
  go_wp2_with fail
  have HW := fun wy => Lib.hid (words_any x0 wy hx0.1 hx0.2)
  have HD := fun wy => Lib.hid (deliver_any q 1000 2 [] (wordsI x0) wy (by simp) (by have := (wordsI_in x0).len; omega))
  have hmg : (deliverOf q 1000 2 [] (wordsI x0)).data.length ≤ 100000 := by have := diffD_len [] (wordsI x0); have := (wordsI_in x0).len; simp [deliverOf]; omega
  generalize deliverOf q 1000 2 [] (wordsI x0) = m at *
  generalize wordsI x0 = b5 at *
  have HMG := Lib.hid hmg
  have h02 : w0.heap.size < w2.heap.size := Nat.lt_of_lt_of_le hxl HST.out.W.bel.size
  have HA : ∀ w6, Below w2.drew.heap.size w2.drew w6 → Hid (w6.cell? ⟨r, 0, none⟩ = some (.int .i64 q) ∧ Below w2.heap.size w2 w6) := fun w6 h => Lib.hid ⟨(h.cell (p := ⟨r, 0, none⟩) (World.block_lt_of_cell? w2 _ pc)).trans pc, (Below.refl _ w2).drew.trans h⟩
  have HB : ∀ w6, Below (w2.drew.alloc (.cells #[.int .i64 0, .int .i64 0, .int .i64 0, .int .i64 0, .int .i64 0, .int .i64 0, .string ⟨#[]⟩] 33)).heap.size (w2.drew.alloc (.cells #[.int .i64 0, .int .i64 0, .int .i64 0, .int .i64 0, .int .i64 0, .int .i64 0, .string ⟨#[]⟩] 33)) w6 → Hid (w6.cell? ⟨r, 0, none⟩ = some (.int .i64 q) ∧ Below w2.heap.size w2 w6 ∧ MAt w2.heap.size ⟨0, 0, 0, 0, 0, 0, []⟩ w6) := fun w6 h => Lib.hid (by
    have h1 : Below w2.heap.size w2 (w2.drew.alloc (.cells #[.int .i64 0, .int .i64 0, .int .i64 0, .int .i64 0, .int .i64 0, .int .i64 0, .string ⟨#[]⟩] 33)) := (Below.refl _ w2).drew.alloc (Nat.le_refl _) _
    have h2 : Below w2.heap.size w2 w6 := below_then h1 h
    exact ⟨(h2.cell (p := ⟨r, 0, none⟩) (World.block_lt_of_cell? w2 _ pc)).trans pc, h2, (show MAt w2.heap.size ⟨0, 0, 0, 0, 0, 0, []⟩ (w2.drew.alloc (.cells #[.int .i64 0, .int .i64 0, .int .i64 0, .int .i64 0, .int .i64 0, .int .i64 0, .string ⟨#[]⟩] 33)) from heap_alloc_new w2.drew (.cells #[.int .i64 0, .int .i64 0, .int .i64 0, .int .i64 0, .int .i64 0, .int .i64 0, .string ⟨#[]⟩] 33)).below h⟩)
  have HC2 : ∀ w6 w7, Below w2.drew.heap.size w2.drew w6 → Below (w6.alloc (.cells #[.int .i64 0, .int .i64 0, .int .i64 0, .int .i64 0, .int .i64 0, .int .i64 0, .string ⟨#[]⟩] 33)).heap.size (w6.alloc (.cells #[.int .i64 0, .int .i64 0, .int .i64 0, .int .i64 0, .int .i64 0, .int .i64 0, .string ⟨#[]⟩] 33)) w7 → Hid (Below w2.heap.size w2 w7 ∧ MAt w6.heap.size ⟨0, 0, 0, 0, 0, 0, []⟩ w7 ∧ w2.heap.size ≤ w6.heap.size) := fun w6 w7 h1 h2 => Lib.hid (by
    have h3 := (HA w6 h1).out.2
    have h4 : Below w2.heap.size w2 (w6.alloc (.cells #[.int .i64 0, .int .i64 0, .int .i64 0, .int .i64 0, .int .i64 0, .int .i64 0, .string ⟨#[]⟩] 33)) := h3.alloc h3.size _
    exact ⟨below_then h4 h2, (show MAt w6.heap.size ⟨0, 0, 0, 0, 0, 0, []⟩ (w6.alloc (.cells #[.int .i64 0, .int .i64 0, .int .i64 0, .int .i64 0, .int .i64 0, .int .i64 0, .string ⟨#[]⟩] 33)) from heap_alloc_new _ _).below h2, h3.size⟩)
  have HC1 : ∀ w6 w7, Below (w2.drew.alloc (.cells #[.int .i64 0, .int .i64 0, .int .i64 0, .int .i64 0, .int .i64 0, .int .i64 0, .string ⟨#[]⟩] 33)).heap.size (w2.drew.alloc (.cells #[.int .i64 0, .int .i64 0, .int .i64 0, .int .i64 0, .int .i64 0, .int .i64 0, .string ⟨#[]⟩] 33)) w6 → Below w6.heap.size w6 w7 → Hid (Below w2.heap.size w2 w7 ∧ MAt w2.heap.size ⟨0, 0, 0, 0, 0, 0, []⟩ w7 ∧ w2.heap.size ≤ w2.heap.size) := fun w6 w7 h1 h2 => Lib.hid ⟨below_then (HB w6 h1).out.2.1 h2, (HB w6 h1).out.2.2.below h2, Nat.le_refl _⟩
  have HC3 : ∀ w6 w7, Below w2.drew.heap.size w2.drew w6 → Below w6.heap.size w6 w7 → Hid (Below w2.heap.size w2 w7) := fun w6 w7 h1 h2 => Lib.hid (below_then (HA w6 h1).out.2 h2)
  clear hmg
  have hBd : Below w2.heap.size w2 (w2.drew.alloc (.cells #[.int .i64 0, .int .i64 0, .int .i64 0, .int .i64 0, .int .i64 0, .int .i64 0, .string ⟨#[]⟩] 33)) := (Below.refl _ w2).drew.alloc (Nat.le_refl _) _
  obtain ⟨z0, _, z2, _⟩ := (HXF _ hBd).out
  clear hBd
  go_upto_region 3 with fail
  go_cut [10] (fun sm wx => MSt m w2 sm wx)
  case first =>
    first
      | (go_region_with (first
        | (go_at_call 27; go_loud (refine (HW _).out.mono ?_; rintro e w6 ⟨rfl, hb6⟩; (first | (have hB6 := (HA _ hb6).out.2) | (have hB6 := (HB _ hb6).out.2.1)); have g1 := (HXF _ hB6).out.2.2.1; have g3 := (HXF _ (hB6.alloc hB6.size (.cells #[.int .i64 0, .int .i64 0, .int .i64 0, .int .i64 0, .int .i64 0, .int .i64 0, .string ⟨#[]⟩] 33))).out.2.2.1))
        | (go_at_call 24; go_loud (refine (HD _).out.mono ?_; unfold Msg.enc; rintro e w7 ⟨rfl, hb7⟩; first | (have HC := HC2 _ _ hb6 hb7; obtain ⟨n0, n1, n2, n3, n4, n5, n6⟩ := HC.out.2.1.cells; have fn := HC.out.2.1.frozen) | (have HC := HC1 _ _ hb6 hb7; obtain ⟨n0, n1, n2, n3, n4, n5, n6⟩ := HC.out.2.1.cells; have fn := HC.out.2.1.frozen) | (have HC := HC3 _ _ hb6 hb7)))))
      | fail
    all_goals
      clear y0 y1 pc z0 z2 g1 g3 hB6 hb6 hb7
      go_wp2_with fail
      go_meet
      first
        | exact ⟨w6.heap.size, rfl, HC.out.2.2, Lib.hid (HC.out.2.1.put m), Lib.hid (below_put HC.out.1 HC.out.2.2 _ _ _ _ _ _ _)⟩
        | exact ⟨w2.heap.size, rfl, HC.out.2.2, Lib.hid (HC.out.2.1.put m), Lib.hid (below_put HC.out.1 HC.out.2.2 _ _ _ _ _ _ _)⟩
        | exact ⟨w7.heap.size, rfl, HC.out.size, Lib.hid (heap_alloc_new _ _), Lib.hid (HC.out.alloc HC.out.size _)⟩
  case rest =>
    obtain ⟨K, hk10, hkl, HK8, HB8⟩ := hcut
    clear y0 y1 pc z0 z2 HA HB HC1 HC2 HC3
    subst hk10
    obtain ⟨y0, y1, pc, _⟩ := (HXF _ HB8.out).out
    go_wp2_with fail
    refine (pick_any x1 7 _ hx1.1 hx1.2 (by omega) (by omega)).mono ?_
    rintro e w9 ⟨rfl, rfl⟩
    generalize pickI x1 7 = s at *
    go_upto_block 0 with fail
    go_cut [] (fun wx => Hid (OffIn K q wx) ∧ Hid (Below w2.heap.size w2 wx))
    case first =>
      have HEND : ∀ (wx : World) (m' : Msg), MAt K m' wx → m'.data.length ≤ 100000 → Off q m' → Below w2.heap.size w2 wx → Hid (OffIn K q wx) ∧ Hid (Below w2.heap.size w2 wx) := fun wx m' h1 h2 h3 h4 => ⟨Lib.hid ⟨m', h1, h2, h3⟩, Lib.hid h4⟩
      obtain ⟨k0, k1, k2, k3, k4, k5, k6⟩ := HK8.out.cells
      have fk := HK8.out.frozen
      by_cases q0 : s = 0
      · subst q0
        obtain ⟨h1, h2⟩ := HQ.out
        obtain rfl | rfl | rfl | rfl | rfl | rfl | rfl | rfl : q = 1 ∨ q = 2 ∨ q = 3 ∨ q = 4 ∨ q = 5 ∨ q = 6 ∨ q = 7 ∨ q = 8 := by omega
        all_goals
          go_wp2_with fail
          go_meet
          exact HEND _ _ (HK8.out.put1 _) HMG.out (off_partner (by simp)) (HB8.out.setCell (p := ⟨K, 1, none⟩) hkl _)
      by_cases q1 : s = 1
      · subst q1
        go_wp2_with fail
        go_meet
        exact HEND _ ⟨3, q, 1000, 2, 0, 7, []⟩ (HK8.out.put ⟨3, q, 1000, 2, 0, 7, []⟩) (Nat.zero_le _) (off_kind (by show (3 : Int) ≤ 3; decide)) (below_put HB8.out hkl _ _ _ _ _ _ _)
      by_cases q2 : s = 2
      · subst q2
        go_wp2_with fail
        go_meet
        exact HEND _ ⟨4, q, 1000, 2, 7, 0, []⟩ (HK8.out.put ⟨4, q, 1000, 2, 7, 0, []⟩) (Nat.zero_le _) (off_kind (by show (3 : Int) ≤ 4; decide)) (below_put HB8.out hkl _ _ _ _ _ _ _)
      by_cases q3 : s = 3
      · subst q3
        go_wp2_with fail
        go_meet
        exact HEND _ _ (HK8.out.put0 5) HMG.out (off_kind (by show (3 : Int) ≤ 5; decide)) (HB8.out.setCell (p := ⟨K, 0, none⟩) hkl _)
      by_cases q4 : s = 4
      · subst q4
        go_wp2_with fail
        go_meet
        exact HEND _ _ (HK8.out.put3 65) HMG.out (off_story (by show (64 : Int) < 65; decide)) (HB8.out.setCell (p := ⟨K, 3, none⟩) hkl _)
      by_cases q5 : s = 5
      · subst q5
        go_wp2_with fail
        go_meet
        exact HEND _ _ (HK8.out.put2 (-1)) HMG.out (off_seq (by show (-1 : Int) < 1; decide)) (HB8.out.setCell (p := ⟨K, 2, none⟩) hkl _)
      have e0 : ((s : Int) == 0) = false := by simpa using q0
      have e1 : ((s : Int) == 1) = false := by simpa using q1
      have e2 : ((s : Int) == 2) = false := by simpa using q2
      have e3 : ((s : Int) == 3) = false := by simpa using q3
      have e4 : ((s : Int) == 4) = false := by simpa using q4
      have e5 : ((s : Int) == 5) = false := by simpa using q5
      clear q0 q1 q2 q3 q4 q5
      go_wp2_with fail
      go_meet
      exact HEND _ _ (HK8.out.put5 (-1)) HMG.out (off_version (by show (-1 : Int) < 0; decide)) (HB8.out.setCell (p := ⟨K, 5, none⟩) hkl _)
    case rest =>
      obtain ⟨HMI, HBc⟩ := hcut
      obtain ⟨mc, hkc, hlc, hoc⟩ := HMI.out
      have HKc := Lib.hid hkc; have HSc := Lib.hid (HST.out.below HBc.out); have HOC := Lib.hid hoc
      clear hkc HMI y0 y1 pc hoc HB8 HK8 HST
      go_wp2_with fail
      refine (items_any p b1 b2 q L 24 _ HSc.out.P).mono ?_
      rintro e w9 ⟨vw, rfl, hiw, hb9⟩
      have HS9 := Lib.hid (HSc.out.below hb9); have HK9 := Lib.hid (HKc.out.below hb9); have HW9 := Lib.hid hiw
      obtain ⟨c0, c1, c2, c3, c4, c5, c6⟩ := HK9.out.cells
      clear hb9 hiw HSc HKc
      go_wp2_with fail
      refine (lrec p b1 b2 q L 24 mc wa _ HS9.out.i1 (by omega) (by omega) HS9.out.W HS9.out.h1 HS9.out.h2 HS9.out.P (recv_off HOC.out L)).mono ?_
      rintro e w10 ⟨v1, rfl, hm1, hp10, hl10, hb10⟩
      have HP10 := Lib.hid hp10; have HL10 := Lib.hid hl10; have HW10 := Lib.hid (HW9.out.two HS9.out.P hb10)
      clear hp10 hl10 hb10 c0 c1 c2 c3 c4 c5 c6 HK9 HW9
      rcases hm1 with ⟨_, rfl⟩ | ⟨a, g, h1, _⟩
      · go_wp2_with fail
        refine (items_any p b1 b2 q L 25 _ HP10.out).mono ?_
        rintro e w11 ⟨vn, rfl, hin, hb11⟩
        have HL11 := Lib.hid (HL10.out.below hb11)
        have HSI := Lib.hid (same_items _ _ _ _ _ _ (HW10.out.below hb11 (Nat.le_refl _)) hin)
        clear hin hb11 HW10 HP10 HL10
        go_wp2_with fail
        refine HSI.out.mono ?_
        rintro e w12 ⟨rfl, hb12⟩
        have HF := HFIN _ (HL11.out.below hb12)
        clear hb12
        go_wp2
        first | go_ret | skip
        exact ⟨rfl, HF.out⟩
      · cases h1
end Go.Proofs.YtnhpnipfledihaaDoor

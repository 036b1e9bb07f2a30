/- The law PartnerLastWins. -/
import Derived.Test.YtnhpnipfledihaaDoorPLawD
import Derived.Test.YtnhpnipfledihaaDoorPOpen2
namespace Go.Proofs.YtnhpnipfledihaaDoor
open Go.RowKit

/-- the message that the law sends for text number k -/
def lwMsg (t : Nat → Int) (k : Nat) : Msg := if t k < 0 then ⟨2, 1, (k : Int) + 1, 5, 0, 0, []⟩ else deliverOf 1 ((k : Int) + 1) 5 [] (wordsI (t k))
/-- what is kept when the greatest number was la - 1 -/
def lwEnt (t : Nat → Int) : Nat → Ent
  | 0 => ⟨5, 0, false, []⟩
  | k + 1 => if t k < 0 then ⟨5, (k : Int) + 1, false, []⟩ else ⟨5, (k : Int) + 1, true, wordsI (t k)⟩

theorem lwEnt_seq (t : Nat → Int) (la : Nat) : (lwEnt t la).seq = la := by
  cases la with
  | zero => rfl
  | succ k => by_cases h : t k < 0 <;> simp [lwEnt, h]
theorem applied_fresh (id seq story : Int) {n : List UInt8} (hn : n.length ≤ 8192) (old : List UInt8) : applied (deliverOf id seq story [] n) old = some n := by
  unfold applied deliverOf
  have h0 : (crcOf [] : Int) = 0 := by rw [crcOf_nil]; rfl
  simp only [h0, if_true]
  rw [apply_diff (by simp) hn]
  simp

theorem lw_valid (t : Nat → Int) {k : Nat} (hk : k < 12) : (lwMsg t k).valid = true ∧ (lwMsg t k).partner = 1 ∧ ((lwMsg t k).kind = 1 ∨ (lwMsg t k).kind = 2) ∧ (lwMsg t k).seq = (k : Int) + 1 ∧ (lwMsg t k).story = 5 ∧ (lwMsg t k).data.length ≤ 100000 := by
  have hl := (wordsI_in (t k)).len
  have hd := diffD_len [] (wordsI (t k))
  have c1 := crcOf_le ([] : List UInt8)
  have c2 := crcOf_le (wordsI (t k))
  unfold lwMsg
  by_cases h : t k < 0
  · rw [if_pos h, Msg.valid_iff]; simp; omega
  · rw [if_neg h, Msg.valid_iff]; simp [deliverOf]; omega

theorem lw_step (t : Nat → Int) {L : List Ent} {la k : Nat} (hk : k < 12) (he : entOf L 5 = lwEnt t la) : ∃ ms L', recv 1 L (lwMsg t k) = (ms, L') ∧ entOf L' 5 = lwEnt t (max la (k + 1)) := by
  obtain ⟨h1, h2, h3, h4, h5, _⟩ := lw_valid t hk
  have hs := lwEnt_seq t la
  obtain ⟨ms, L', hr⟩ : ∃ ms L', recv 1 L (lwMsg t k) = (ms, L') := ⟨_, _, rfl⟩
  refine ⟨ms, L', hr, ?_⟩
  have hL' : L' = (recv 1 L (lwMsg t k)).2 := by rw [hr]
  rw [hL']
  clear hr hL'
  unfold recv
  rw [if_pos ⟨h1, h2, h3⟩]
  simp only [h4, h5, he, hs]
  by_cases hlt : (k : Int) + 1 < la
  · rw [if_pos hlt, Nat.max_eq_left (by omega)]; exact he
  · rw [if_neg hlt]
    by_cases heq : (k : Int) + 1 = la
    · rw [if_pos heq, Nat.max_eq_left (by omega)]; exact he
    · rw [if_neg heq, Nat.max_eq_right (by omega)]
      by_cases hn : t k < 0
      · have hkd : (lwMsg t k).kind = 2 := by unfold lwMsg; rw [if_pos hn]
        rw [if_pos hkd]
        have := entOf_keep_same ⟨5, (k : Int) + 1, false, []⟩ L
        simp only [] at this ⊢
        rw [this, lwEnt, if_pos hn]
      · have hm : lwMsg t k = deliverOf 1 ((k : Int) + 1) 5 [] (wordsI (t k)) := by unfold lwMsg; rw [if_neg hn]
        have hkd : (lwMsg t k).kind ≠ 2 := by rw [hm]; show (1 : Int) ≠ 2; decide
        rw [if_neg hkd, hm, applied_fresh _ _ _ (by have := (wordsI_in (t k)).len; omega)]
        have := entOf_keep_same ⟨5, (k : Int) + 1, true, wordsI (t k)⟩ L
        simp only [] at this ⊢
        rw [this, lwEnt, if_neg hn]

theorem lw_copy (t : Nat → Int) {L : List Ent} {la : Nat} (he : entOf L 5 = lwEnt t (la + 1)) : copyF L 5 = if t la < 0 then none else some (wordsI (t la)) := by
  unfold copyF
  rw [he, lwEnt]
  by_cases h : t la < 0
  · rw [if_pos h, if_pos h]; rfl
  · rw [if_neg h, if_neg h]; rfl

/-- what holds at each round: the partner keeps the entry of the greatest number so far -/
def LwSt (a0 a1 : Addr) (p b1 b2 : Nat) (t : Nat → Int) (la j : Nat) (w0 w : World) : Prop :=
  ∃ L, PAt p b1 b2 1 L j w ∧ LW a0 a1 w0 w ∧ entOf L 5 = lwEnt t la

set_option maxRecDepth 100000 in
set_option maxHeartbeats 8000000 in
theorem lwLoop {a0 a1 : Addr} (A : Option Addr) (n c : Nat) (B : Option Addr) (n2 c2 : Nat) (w0 : World) (hA : RawInts w0 A n c) (hBr : RawInts w0 B n2 c2) (hS : Sents a0 a1 w0) (hsh : ShiftsAt w0) (hn : 0 < n) :
    Calls Tryd.prog 6 #[.slice A n c, .slice B n2 c2] w0 fun e w' => e = .returned (.bool true) ∧ Below w0.heap.size w0 w' := by
  have HL := Lib.hid (LW.mk hS hsh (Below.refl _ _) : LW a0 a1 w0 w0)
  have HSN := Lib.hid (sane_any w0 hS hsh)
  obtain ⟨hnc, hcm, t, ht⟩ := hA
  obtain ⟨hnc2, hcm2, u, hu⟩ := hBr
  have HT := Lib.hid ht; have HU := Lib.hid hu
  obtain ⟨b, off, rfl, _⟩ := ht 0 hn
  clear hS hsh ht hu
  obtain ⟨m, hm⟩ : ∃ m, min n 12 = m := ⟨_, rfl⟩
  have hm1 : 1 ≤ m := by omega
  have hm2 : m ≤ 12 := by omega
  have hm3 : m ≤ n := by omega
  have hmc : m ≤ c := by omega
  have HMIN := Lib.hid hm
  clear hm
  go_enter Tryd.func6, Tryd.ntmps6
  go_wp2_with fail
  refine HSN.out.mono ?_
  rintro e w ⟨rfl, hb0⟩
  have HLw := Lib.hid (HL.out.below hb0)
  clear hb0 HSN
  have hz0 := HLw.out.bel.size
  have hne : ((m : Int) == 0) = false := by rw [beq_eq_false_iff_ne]; omega
  have hmin : min (n : Int) 12 = (m : Int) := by rw [← HMIN.out]; omega
  go_wp2_with fail
  refine (new_in 1 _ (by omega) (by omega)).mono ?_
  rintro e w1 ⟨rfl, hp1, hb1⟩
  have HST : Hid (LwSt a0 a1 (w.heap.size + 2) w.heap.size (w.heap.size + 1) t 0 0 w0 w1) := Lib.hid ⟨[], hp1, HLw.out.below hb1, rfl⟩
  have g1 : w0.heap.size ≤ w.heap.size := hz0
  have g2 : w0.heap.size ≤ w.heap.size + 1 := by omega
  clear hp1 hb1 hmin
  go_wp2_with fail
  generalize w.heap.size + 2 = p at *
  generalize w.heap.size + 1 = b2 at *
  generalize w.heap.size = b1 at *
  have HTC : ∀ k, k < m → ∀ wy, LW a0 a1 w0 wy → Hid (InI64 (t k) ∧ wy.cell? ⟨b, off + k, none⟩ = some (.int .i64 (t k))) := fun k hk wy hl => Lib.hid (by
    obtain ⟨b', o', he, hi, hc⟩ := HT.out k (by omega)
    cases he
    exact ⟨hi, (hl.bel.cell (p := ⟨b, off + k, none⟩) (World.block_lt_of_cell? w0 _ hc)).trans hc⟩)
  go_loopw [7, 8] (fun l i wr => ∃ (la j : Nat) (z : Int), l = .int .i64 z ∧ z = (la : Int) - 1 ∧ i = .int .i64 j ∧ j ≤ 40 ∧ la ≤ m ∧ Hid (LwSt a0 a1 p b1 b2 t la j w0 wr)) (fun _ i _ => 40 - (intOf i).toNat)
  case atStart => exact ⟨0, 0, -1, rfl, by omega, rfl, by omega, by omega, HST⟩
  case round =>
    obtain ⟨la, j, z, rfl, hz, rfl, hj, hla, HS⟩ := hrel
    have hz1 : (la : Int) - 1 ≤ z := by omega
    have hz2 : z ≤ (la : Int) - 1 := by omega
    clear hz
    have HEND : Hid (Below w0.heap.size w0 wr) := by obtain ⟨L, _, hL, _⟩ := HS.out; exact Lib.hid hL.bel
    by_cases hjn : j < n2
    · by_cases hj40 : j < 40
      · obtain ⟨b', off', rfl, hur, hcu⟩ := HU.out j hjn
        have hcu' := (HEND.out.cell (p := ⟨b', off' + j, none⟩) (World.block_lt_of_cell? w0 _ hcu)).trans hcu
        have rk := pickI_range (c := u j) (n := (m : Int)) (by omega)
        have HPK := fun w => Lib.hid (pick_any (u j) m w hur.1 hur.2 (by omega) (by omega))
        obtain ⟨k, hk⟩ : ∃ k : Nat, pickI (u j) m = k := ⟨(pickI (u j) m).toNat, by omega⟩
        rw [hk] at HPK rk
        have hkm : k < m := by omega
        clear hk hcu hur
        generalize u j = uj at *
        obtain ⟨L, hP, hL, hE⟩ := HS.out
        obtain ⟨ms, L', hrc, hent⟩ := lw_step t (la := la) (show k < 12 by omega) hE
        obtain ⟨q, hq⟩ : ∃ q, max la (k + 1) = q + 1 := ⟨max la (k + 1) - 1, by omega⟩
        rw [hq] at hent
        have hqm : q < m := by omega
        have HCP := Lib.hid (lw_copy t hent)
        have HP := Lib.hid hP; have HLr := Lib.hid hL; have HRC := Lib.hid hrc; have HENT := Lib.hid hent
        have HTQ := HTC q hqm
        obtain ⟨hki, hkc⟩ := (HTC k hkm wr hL).out
        have HKI := Lib.hid hki
        have hqk : (z < (k : Int) ∧ q = k) ∨ ((k : Int) ≤ z ∧ z = (q : Int)) := by omega
        clear hP hL hE hrc hent hki hq
        go_wp2_with fail
        refine (HPK _).out.mono ?_
        rintro e w2 ⟨rfl, rfl⟩
        rcases hqk with ⟨h1, h2⟩ | ⟨h1, h2⟩
        replace HTQ : ∀ wy, LW a0 a1 w0 wy → Hid (InI64 (t q) ∧ wy.cell? ⟨b, off + k, none⟩ = some (.int .i64 (t q))) := fun wy hl => Lib.hid (by have hx := (HTQ wy hl).out; rw [h2] at hx ⊢; exact hx)
        have HQ2 := Lib.hid h2
        have hmx : max z (k : Int) = (k : Int) := by omega
        clear h2
        rotate_left
        subst h2
        have hmx : max (q : Int) (k : Int) = (q : Int) := by omega
        have HQ2 : Hid True := Lib.hid trivial
        rotate_left
        all_goals
          by_cases hks : t k < 0
          · have hm : lwMsg t k = ⟨2, 1, (k : Int) + 1, 5, 0, 0, []⟩ := by unfold lwMsg; rw [if_pos hks]
            have HRC2 : Hid (recv 1 L ⟨2, 1, (k : Int) + 1, 5, 0, 0, []⟩ = (ms, L')) := Lib.hid (by rw [← hm]; exact HRC.out)
            clear hm
            go_wp2_with fail
            refine (kill_any 1 ((k : Int) + 1) 5 _).mono ?_
            rintro e w3 ⟨rfl, hb3⟩
            have HP3 := Lib.hid (HP.out.below hb3); have HL3 := Lib.hid (HLr.out.below hb3)
            clear hb3
            go_wp2_with fail
            refine (lrec p b1 b2 1 L j ⟨2, 1, (k : Int) + 1, 5, 0, 0, []⟩ w0 _ (by omega) (by omega) (Nat.zero_le _) HL3.out g1 g2 HP3.out HRC2.out).mono ?_
            rintro e w5 ⟨v5, rfl, _, hp5, hl5, _⟩
            have HP5 := Lib.hid hp5; have HL5 := Lib.hid hl5; have HS5 : Hid (LwSt a0 a1 p b1 b2 t _ (j + 1) w0 w5) := Lib.hid ⟨L', hp5, hl5, HENT.out⟩
            have hcq := (HTQ _ hl5).out.2
            clear hp5 hl5
            go_wp2_with fail
            refine (text_any p b1 b2 1 L' (j + 1) 5 _ (by omega) (by omega) HP5.out).mono ?_
            rw [HCP.out]
            by_cases hqs : t q < 0
            · rw [if_pos hqs]
              rintro e wt ⟨rfl, rfl⟩
              simp only [Option.getD_none, Option.isSome_none]
              go_wp2
              go_roundw
              case rel => exact ⟨q + 1, j + 1, (q : Int), by first | rfl | rw [HQ2.out], by omega, by go_num, by omega, by omega, HS5⟩
              case measure => simp [intOf]; omega
            · rw [if_neg hqs]
              have hqs' : 0 ≤ t q := by omega
              rintro e wt ⟨rfl, rfl⟩
              simp only [Option.getD_some, Option.isSome_some]
              have HWQ := fun wy => Lib.hid (words_any (t q) wy (HTQ _ HL5.out).out.1.1 (HTQ _ HL5.out).out.1.2)
              generalize wordsI (t q) = xq at *
              go_wp2_with fail
              refine (HWQ _).out.mono ?_
              rintro e w6 ⟨rfl, hb6⟩
              have HS6 : Hid (LwSt a0 a1 p b1 b2 t (q + 1) (j + 1) w0 w6) := Lib.hid (by
                obtain ⟨L5, x1, x2, x3⟩ := HS5.out
                exact ⟨L5, x1.below hb6, x2.below hb6, x3⟩)
              clear hb6
              go_wp2
              go_roundw
              case rel => exact ⟨q + 1, j + 1, (q : Int), by first | rfl | rw [HQ2.out], by omega, by go_num, by omega, by omega, HS6⟩
              case measure => simp [intOf]; omega
          · have hm : lwMsg t k = deliverOf 1 ((k : Int) + 1) 5 [] (wordsI (t k)) := by unfold lwMsg; rw [if_neg hks]
            have HRC2 : Hid (recv 1 L (deliverOf 1 ((k : Int) + 1) 5 [] (wordsI (t k))) = (ms, L')) := Lib.hid (by rw [← hm]; exact HRC.out)
            have hlen := (lw_valid t (show k < 12 by omega)).2.2.2.2.2
            rw [hm] at hlen
            have hwl := (wordsI_in (t k)).len
            have HWK := fun wy => Lib.hid (words_any (t k) wy HKI.out.1 HKI.out.2)
            have HDK := fun wy => Lib.hid (deliver_any 1 ((k : Int) + 1) 5 [] (wordsI (t k)) wy (by simp) (by omega))
            generalize deliverOf 1 ((k : Int) + 1) 5 [] (wordsI (t k)) = dm at *
            generalize hxk : wordsI (t k) = xk at HWK HDK
            clear hm hxk
            go_wp2_with fail
            refine (HWK _).out.mono ?_
            rintro e w3 ⟨rfl, hb3⟩
            have HP3 := Lib.hid (HP.out.below hb3); have HL3 := Lib.hid (HLr.out.below hb3)
            clear hb3
            go_wp2_with fail
            refine (HDK _).out.mono ?_
            rintro e w4 ⟨rfl, hb4⟩
            have HP4 := Lib.hid (HP3.out.below hb4); have HL4 := Lib.hid (HL3.out.below hb4)
            clear hb4
            go_wp2_with fail
            refine (lrec p b1 b2 1 L j dm w0 _ (by omega) (by omega) (by omega) HL4.out g1 g2 HP4.out HRC2.out).mono ?_
            rintro e w5 ⟨v5, rfl, _, hp5, hl5, _⟩
            have HP5 := Lib.hid hp5; have HL5 := Lib.hid hl5; have HS5 : Hid (LwSt a0 a1 p b1 b2 t _ (j + 1) w0 w5) := Lib.hid ⟨L', hp5, hl5, HENT.out⟩
            have hcq := (HTQ _ hl5).out.2
            clear hp5 hl5
            go_wp2_with fail
            refine (text_any p b1 b2 1 L' (j + 1) 5 _ (by omega) (by omega) HP5.out).mono ?_
            rw [HCP.out]
            by_cases hqs : t q < 0
            · rw [if_pos hqs]
              rintro e wt ⟨rfl, rfl⟩
              simp only [Option.getD_none, Option.isSome_none]
              go_wp2
              go_roundw
              case rel => exact ⟨q + 1, j + 1, (q : Int), by first | rfl | rw [HQ2.out], by omega, by go_num, by omega, by omega, HS5⟩
              case measure => simp [intOf]; omega
            · rw [if_neg hqs]
              have hqs' : 0 ≤ t q := by omega
              rintro e wt ⟨rfl, rfl⟩
              simp only [Option.getD_some, Option.isSome_some]
              have HWQ := fun wy => Lib.hid (words_any (t q) wy (HTQ _ HL5.out).out.1.1 (HTQ _ HL5.out).out.1.2)
              generalize wordsI (t q) = xq at *
              go_wp2_with fail
              refine (HWQ _).out.mono ?_
              rintro e w6 ⟨rfl, hb6⟩
              have HS6 : Hid (LwSt a0 a1 p b1 b2 t (q + 1) (j + 1) w0 w6) := Lib.hid (by
                obtain ⟨L5, x1, x2, x3⟩ := HS5.out
                exact ⟨L5, x1.below hb6, x2.below hb6, x3⟩)
              clear hb6
              go_wp2
              go_roundw
              case rel => exact ⟨q + 1, j + 1, (q : Int), by first | rfl | rw [HQ2.out], by omega, by go_num, by omega, by omega, HS6⟩
              case measure => simp [intOf]; omega
      · have hj40b : ¬ ((j : Int) < 40) := by omega
        go_wp2
        go_ret
        exact ⟨rfl, HEND.out⟩
    · go_wp2
      go_ret
      exact ⟨rfl, HEND.out⟩

set_option maxRecDepth 100000 in
theorem lwZero {a0 a1 : Addr} (A : Option Addr) (c : Nat) (v : Value) (w0 : World) (hc : c ≤ 9223372036854775807) (hS : Sents a0 a1 w0) (hsh : ShiftsAt w0) :
    Calls Tryd.prog 6 #[.slice A 0 c, v] w0 fun e w' => e = .returned (.bool true) ∧ Below w0.heap.size w0 w' := by
  have HSN := Lib.hid (sane_any w0 hS hsh)
  clear hS hsh
  go_enter Tryd.func6, Tryd.ntmps6
  go_wp2_with fail
  refine HSN.out.mono ?_
  rintro e w ⟨rfl, hb0⟩
  cases A
  · go_wp2
    go_ret
    exact ⟨rfl, hb0⟩
  · go_wp2
    go_ret
    exact ⟨rfl, hb0⟩

theorem lawLast_any {a0 a1 : Addr} (A : Option Addr) (n c : Nat) (B : Option Addr) (n2 c2 : Nat) (w0 : World) (hA : RawInts w0 A n c) (hBr : RawInts w0 B n2 c2) (hS : Sents a0 a1 w0) (hsh : ShiftsAt w0) :
    Calls Tryd.prog 6 #[.slice A n c, .slice B n2 c2] w0 fun e w' => e = .returned (.bool true) ∧ Below w0.heap.size w0 w' := by
  by_cases hn : 0 < n
  · exact lwLoop A n c B n2 c2 w0 hA hBr hS hsh hn
  · obtain rfl : n = 0 := by omega
    exact lwZero A c _ w0 hA.2.1 hS hsh
end Go.Proofs.YtnhpnipfledihaaDoor

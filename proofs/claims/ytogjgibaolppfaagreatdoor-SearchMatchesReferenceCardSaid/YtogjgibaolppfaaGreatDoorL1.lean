/- The walk of one law of the sender. Conditions: those that each theorem names. -/
import Derived.Test.YtogjgibaolppfaaGreatDoorK29
import Derived.RegionTactic
import Derived.Deep.RegionLaw
import Derived.Deep.RegionHeld3
/- The law SearchMatchesReference, walked. -/
namespace Go.Proofs.YtogjgibaolppfaaGreatDoor
open Go.RowKit Go.Sort Go.Proofs Go.Maps Go.Lib

theorem run_upto_i {a : Option Addr} {n c k : Nat} (hk : k ≤ c) (W : World) : (Instr.slice 22 (.slice a n c) none (some (.int .i64 k)) none).run Tryz.prog W = .ok (.slice a k c) W := by
  have ht : Tryz.prog.underlying 22 = some (.slice (Tryz.prog.elem 22)) := by kernel_rfl
  have he : Tryz.prog.elem 22 = 3 := by kernel_rfl
  rw [run_slice_h W 22 a n c ht .i64 k (by omega) (by omega), he]
  have : (Go.sizeOf 3).run Tryz.prog W = .ok 1 W := Tryz.sizeOf3 W
  rw [this]
  simp only [Result.andThen]
  have h0 : (if c = 0 then a else a.map (·.add (0 * 1))) = a := by
    split
    · rfl
    · cases a with
      | none => rfl
      | some p => simp [Addr.add]
  show Result.ok (Value.slice (if c = 0 then a else a.map (·.add (0 * 1))) (k - 0) (c - 0)) W = _
  rw [h0]; rfl
theorem IntsL.take {W : World} {a : Option Addr} {n c : Nat} {l : List Int} (h : IntsL W (.slice a n c) l) {k : Nat} (hk : k ≤ l.length) : IntsL W (.slice a k c) (l.take k) := by
  obtain ⟨a', c', e, h1, h2, h3⟩ := h
  injection e with e1 e2 e3
  subst e1; subst e3
  have hl : (l.take k).length = k := by rw [List.length_take]; omega
  refine ⟨a, c, by rw [hl], by omega, h2, fun j hj => ?_⟩
  have hj' : j < l.length := by omega
  obtain ⟨b, off, k1, k2, k3⟩ := h3 j hj'
  refine ⟨b, off, k1, ?_⟩
  rw [List.getElem_take]
  exact ⟨k2, k3⟩
theorem Deco.le {l : List Prt} (h : LP l) {t : List UInt8} (ht : Deco (formL l) t) : t.length ≤ 448 := by
  have := ht.len
  have := h.len
  omega
set_option maxRecDepth 100000 in
set_option maxHeartbeats 8000000 in
theorem lawMatch_any (s : ByteArray) (v : Value) (xs : List Int) (n : Int) (hn : I64 n) (w : World) (hv : IntsL w v xs) (hE : Env w) :
    Calls Tryz.prog 3 #[.string s, v, .int .i64 n] w fun e w' => e = .returned (.bool true) ∧ Below w.heap.size w w' := by
  have HS := Lib.hid (sane_any w hE)
  have HE := Lib.hid hE
  have HV := Lib.hid hv
  obtain ⟨au, cu, hve, hxc, -⟩ := hv
  subst hve
  clear hE
  go_enter Tryz.func3, Tryz.ntmps3
  go_upto_region 3 with (first
    | (go_at_call 12; (with_reducible (refine HS.out.mono ?_)); rintro e w1 ⟨rfl, hb⟩; have HB1 := Lib.hid hb; clear hb)
    | fail)
  obtain ⟨k1, hk1⟩ : ∃ k, min s.size 320 = k := ⟨_, rfl⟩
  have hm1 : min ((s.size : Nat) : Int) 320 = ((k1 : Nat) : Int) := by omega
  have hk1a : k1 ≤ s.size := by omega
  have hk1b : k1 ≤ 320 := by omega
  obtain ⟨q1, hq1⟩ : ∃ q : List UInt8, s.extract 0 k1 = ⟨q.toArray⟩ := ⟨(s.extract 0 k1).data.toList, by cases h : s.extract 0 k1 with | mk d => simp⟩
  have hq1l : q1.length ≤ 320 := by
    have h9 := congrArg ByteArray.size hq1
    rw [ByteArray.size_extract] at h9
    have : (⟨q1.toArray⟩ : ByteArray).size = q1.length := by simp [ByteArray.size]
    omega
  obtain ⟨k2, hk2⟩ : ∃ k, min xs.length 2 = k := ⟨_, rfl⟩
  have hm2 : min ((xs.length : Nat) : Int) 2 = ((k2 : Nat) : Int) := by omega
  have hk2a : k2 ≤ xs.length := by omega
  have hup := run_upto_i (a := au) (n := xs.length) (c := cu) (k := k2) (by omega)
  have HI1 := Lib.hid (HV.out.below HB1.out)
  have HOD1 : Hid (∀ W, Below w1.heap.size w1 W → Calls Tryz.prog 13 #[.slice au xs.length cu] W fun e w' => ∃ t : List UInt8, e = .returned (.string ⟨t.toArray⟩) ∧ t.length ≤ 480 ∧ Below W.heap.size W w') := Lib.hid (fun W hW => odd_any _ xs W (HI1.out.below hW))
  have HOD2 : Hid (∀ W, Below w1.heap.size w1 W → Calls Tryz.prog 13 #[.slice au k2 cu] W fun e w' => ∃ t : List UInt8, e = .returned (.string ⟨t.toArray⟩) ∧ t.length ≤ 480 ∧ Below W.heap.size W w') := Lib.hid (fun W hW => odd_any _ (xs.take k2) W ((HI1.out.below hW).take hk2a))
  have HPT := Lib.hid (fun W (hW : Below w1.heap.size w1 W) => parts_law _ xs W (HI1.out.below hW))
  have HSO : Hid (∀ (W : World) (g c : Nat) (P : List Pv) (base : Nat), PartsR base W (.slice (some ⟨g, 0, none⟩) P.length c) P → LP (P.map (·.1)) → Calls Tryz.prog 14 #[.slice (some ⟨g, 0, none⟩) P.length c, .int .i64 n] W fun e w' => ∃ t : List UInt8, t.length ≤ 448 ∧ e = .returned (.string ⟨t.toArray⟩) ∧ Below W.heap.size W w') := Lib.hid (fun W g c P base hP hL => (source_any _ _ n hn W hP.at hL.ok hL.eight).mono fun e w' ⟨t, h1, h2, h3⟩ => ⟨t, h1.le hL, h2, h3⟩)
  clear hk1 hk2 hxc HS HV
  have hdr : Below w1.heap.size w1 w1.drew := (Below.refl _ w1).drew
  have h00 : (0 : Int) ≤ (k1 : Int) := by omega
  have h01 : (k1 : Int) ≤ (s.size : Int) := by omega
  have h02 : (0 : Int) ≤ (k2 : Int) := by omega
  go_cut [37, 38, 39] (fun va vb vc wx => ∃ (b : Nat) (qs : List (List UInt8)), va = .slice (some ⟨b, 0, none⟩) 4 4 ∧ vb = .int .i64 4 ∧ vc = .int .i64 0 ∧ qs.length = 4 ∧ (∀ q ∈ qs, q.length ≤ 1000) ∧ (∀ j (h : j < qs.length), wx.cell? ⟨b, j, none⟩ = some (.string ⟨qs[j].toArray⟩)) ∧ Below w1.heap.size w1 wx)
  case first =>
    go_region_law (first
      | (go_simp; go_at_call 13; (with_reducible (refine (HOD2.out _ hYS2).mono ?_)); rintro e wO2 ⟨t4, rfl, hl4, hbO2⟩; have hYO2 : Below w1.heap.size w1 wO2 := bthen hYS2 hbO2; have qc := run_cat t3 t4 (by omega))
      | (go_simp; go_at_call 14; (with_reducible (refine (HSO.out _ _ _ _ _ hP2 hL2).mono ?_)); rintro e wS2 ⟨t3, hl3, rfl, hbS2⟩; have hYS2 : Below w1.heap.size w1 wS2 := bthen hYP2 hbS2)
      | (go_simp; go_at_call 15; (with_reducible (refine (HPT.out _ hYS1).mono ?_)); rintro e wP2 ⟨g2, c2, P2, rfl, hP2, hL2, hbP2⟩; have hYP2 : Below w1.heap.size w1 wP2 := bthen hYS1 hbP2)
      | (go_simp; go_at_call 14; (with_reducible (refine (HSO.out _ _ _ _ _ hP1 hL1).mono ?_)); rintro e wS1 ⟨t2, hl2, rfl, hbS1⟩; have hYS1 : Below w1.heap.size w1 wS1 := bthen hYP1 hbS1)
      | (go_simp; go_at_call 15; (with_reducible (refine (HPT.out _ hYO1).mono ?_)); rintro e wP1 ⟨g1, c1, P1, rfl, hP1, hL1, hbP1⟩; have hYP1 : Below w1.heap.size w1 wP1 := bthen hYO1 hbP1)
      | (go_simp; go_at_call 13; (with_reducible (refine (HOD1.out _ hdr).mono ?_)); rintro e wO1 ⟨t1, rfl, hl1, hbO1⟩; have hYO1 : Below w1.heap.size w1 wO1 := bthen hdr hbO1)
      | fail)
    all_goals
      go_wp2_with fail
      go_meet
      exact ⟨_, [q1, t1, t2, t3 ++ t4], rfl, rfl, rfl, rfl, fun q hq => by
        simp only [List.mem_cons, List.not_mem_nil, or_false] at hq
        rcases hq with rfl | rfl | rfl | rfl
        · omega
        · omega
        · omega
        · rw [List.length_append]; omega, fun j hj => by
        have hj' : j < 4 := hj
        rcases (show j = 0 ∨ j = 1 ∨ j = 2 ∨ j = 3 by omega) with rfl | rfl | rfl | rfl <;> simp, hYO2.alloc hYO2.size _⟩
  case rest =>
    obtain ⟨b, qs, rfl, rfl, rfl, hqs4, hqsl, hqc, hbx⟩ := hcut
    have HC := Lib.hid hqc
    have HQ4 := Lib.hid hqs4
    have HQL := Lib.hid hqsl
    have HBX := Lib.hid (bthen HB1.out hbx)
    clear hqc hqs4 hqsl hbx hup HI1 HOD1 HOD2 HPT HSO hdr h00 h01 h02 hq1 hq1l
    go_wp2_with fail
    go_loopw [39] (fun v39 wr => ∃ j : Nat, v39 = .int .i64 j ∧ j ≤ 4 ∧ Hid (Below wc.heap.size wc wr)) (fun v39 _ => 4 - (intOf v39).toNat)
    case atStart => exact ⟨0, rfl, Nat.zero_le _, Lib.hid (Below.refl _ _)⟩
    case round =>
      obtain ⟨j, rfl, hj, HB⟩ := hrel
      by_cases hj4 : j < 4
      · have hji : (j : Int) < 4 := by omega
        have hjl : j < qs.length := by rw [HQ4.out]; exact hj4
        have ck0 := HC.out j hjl
        have ck := (HB.out.cell (World.block_lt_of_cell? wc _ ck0)).trans ck0
        have hql := HQL.out qs[j] (List.getElem_mem hjl)
        obtain ⟨q, hq⟩ : ∃ q, qs[j] = q := ⟨_, rfl⟩
        rw [hq] at ck hql
        have HBR := Lib.hid (bthen HBX.out HB.out)
        have HPA := Lib.hid (parse_law q (by omega) wr (HE.out.below HBR.out))
        have HRF : Hid (∀ W, Calls Tryz.prog 17 #[.string ⟨q.toArray⟩] W fun e w' => Below W.heap.size W w' ∧ ∃ a k c E, e = .returned (.tuple #[.slice a k c, .int .i64 E]) ∧ Parsed (parseP q) w' a k c E) := Lib.hid (fun W => by rw [parse_eq]; exact refParse_law q hql W)
        have HW : Hid (∀ p ∈ (parseP q).getD [], p.words.length ≤ 1000) := Lib.hid (fun p hp => by
          cases hR : parseP q with
          | none => rw [hR] at hp; cases hp
          | some l =>
            rw [hR] at hp
            have := ((parse_ok hR).1 p hp).few
            omega)
        obtain ⟨R, hR⟩ : ∃ R, parseP q = R := ⟨_, rfl⟩
        rw [hR] at HPA HRF HW
        clear ck0 hq hR hjl
        go_wp2_with (first
          | (go_at_call 16; (with_reducible (refine HPA.out.mono ?_)); rintro e w2 ⟨hb, a1, m1, c1, E1, rfl, h1⟩; have HP2 := Lib.hid h1.parts.1; have HE2 := Lib.hid h1.parts.2; have HB2 := Lib.hid (bthen HB.out hb); clear hb h1)
          | (go_at_call 17; (with_reducible (refine (HRF.out _).mono ?_)); rintro e w3 ⟨hb, a2, m2, c2, E2, rfl, h1⟩; obtain rfl : E2 = E1 := (by rw [h1.parts.2, HE2.out]); have HP3 := Lib.hid (HP2.out.below hb); have HQ3 := Lib.hid h1.parts.1; have HB3 := Lib.hid (bthen HB2.out hb); clear hb h1)
          | (go_at_call 18; (with_reducible (refine (sameParts_true _ _ _ w3 HP3.out HQ3.out HW.out).mono ?_)); rintro e w4 ⟨rfl, hb⟩; have HB4 := Lib.hid (bthen HB3.out hb); clear hb)
          | fail)
        go_roundw
        case rel => exact ⟨j + 1, by go_num, by omega, HB4⟩
        case measure => simp [intOf]; omega
      · obtain rfl : j = 4 := by omega
        go_wp2_with fail
        go_ret
        exact ⟨rfl, bthen HBX.out HB.out⟩
end Go.Proofs.YtogjgibaolppfaaGreatDoor

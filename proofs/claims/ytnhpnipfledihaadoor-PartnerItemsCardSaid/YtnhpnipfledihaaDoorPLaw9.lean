/- The law PartnerItems. -/
import Derived.Test.YtnhpnipfledihaaDoorPFac
import Derived.Test.YtnhpnipfledihaaDoorPLaw3
import Derived.Deep.RegionWith
import Derived.Deep.QuietTactic
import Derived.BigQuiet
namespace Go.Proofs.YtnhpnipfledihaaDoor
open Go.RowKit

/-- how many copies are listed ahead of story k -/
def cntC (L : List Ent) (k : Nat) : Nat := (itemsF (copyF L) (k - 1)).length
theorem itemsF_pre (g : Int → Option (List UInt8)) (k : Nat) : ∀ m, k ≤ m → ∃ l, itemsF g m = itemsF g k ++ l
  | 0, h => by obtain rfl : k = 0 := by omega
               exact ⟨[], by simp⟩
  | m + 1, h => by
    by_cases e : k = m + 1
    · subst e; exact ⟨[], by simp⟩
    · obtain ⟨l, hl⟩ := itemsF_pre g k m (by omega)
      exact ⟨_, by rw [itemsF_succ, hl, List.append_assoc]⟩
theorem cnt_zero (L : List Ent) : cntC L 0 = 0 := rfl
theorem cnt_none {L : List Ent} {k : Nat} (_ : Kept L) (h : copyF L k = none) : cntC L (k + 1) = cntC L k := by
  cases k with
  | zero => rfl
  | succ k =>
    unfold cntC
    simp only [Nat.add_sub_cancel]
    rw [itemsF_succ]
    have : copyF L ((k : Int) + 1) = none := by rw [← h]; congr 1
    rw [this]; simp
theorem cnt_some {L : List Ent} {k : Nat} {t : List UInt8} (hK : Kept L) (h : copyF L k = some t) : cntC L (k + 1) = cntC L k + 1 ∧ ∃ hc : cntC L k < (itemsL L).length, (itemsL L)[cntC L k] = ((k : Int), t) := by
  have hk : 1 ≤ k ∧ k ≤ 64 := by
    rcases Nat.lt_or_ge k 1 with h1 | h1
    · rw [copy_out hK (.inl (by omega))] at h; cases h
    · rcases Nat.lt_or_ge 64 k with h2 | h2
      · rw [copy_out hK (.inr (by omega))] at h; cases h
      · exact ⟨h1, h2⟩
  obtain ⟨j, rfl⟩ : ∃ j, k = j + 1 := ⟨k - 1, by omega⟩
  have hj : copyF L ((j : Int) + 1) = some t := by rw [← h]; congr 1
  have hs : itemsF (copyF L) (j + 1) = itemsF (copyF L) j ++ [((j : Int) + 1, t)] := by rw [itemsF_succ, hj]
  unfold cntC
  simp only [Nat.add_sub_cancel]
  refine ⟨by rw [hs]; simp, ?_⟩
  obtain ⟨l, hl⟩ := itemsF_pre (copyF L) (j + 1) 64 (by omega)
  rw [hK.items, hs] at hl
  refine ⟨by rw [hl]; simp, ?_⟩
  simp only [hl]
  simp
theorem cnt_end {L : List Ent} (hK : Kept L) : cntC L 66 = (itemsL L).length := by
  have h : copyF L ((65 : Nat) : Int) = none := copy_out hK (.inr (by decide))
  rw [cnt_none hK h]
  unfold cntC
  rw [← hK.items]
theorem items_pos {L : List Ent} (hK : Kept L) (h : 0 < (itemsL L).length)   : (0 : Int) < ((itemsL L)[0]).1 := by
  have hm := List.getElem_mem h
  unfold itemsL at hm
  rw [List.mem_filterMap] at hm
  obtain ⟨e, he, hx⟩ := hm
  have := hK.lo e he
  split at hx
  · have hx' := Option.some.inj hx
    have : e.story = ((itemsL L)[0]).1 := by unfold itemsL; rw [← hx']
    omega
  · cases hx

set_option maxRecDepth 100000 in
set_option maxHeartbeats 16000000 in
theorem lawItems_any {a0 a1 : Addr} (id : Int) (A : Option Addr) (n c : Nat) (w0 : World) (hid : InI64 id) (hops : RawOps w0 A n c) (hS : Sents a0 a1 w0) (hsh : ShiftsAt w0) :
    Calls Tryd.prog 11 #[.int .i64 id, .slice A n c] w0 fun e w' => e = .returned (.bool true) ∧ Below w0.heap.size w0 w' := by
  have HL := Lib.hid (LW.mk hS hsh (Below.refl _ _) : LW a0 a1 w0 w0); have HO := Lib.hid hops
  have HSN := Lib.hid (sane_any w0 hS hsh)
  clear hS hsh hops
  go_enter Tryd.func11, Tryd.ntmps11
  go_wp2_with fail
  refine HSN.out.mono ?_
  rintro e w1 ⟨rfl, hb1⟩
  have HMD := Lib.hid (made_any id A n c w0 w1 hid HO.out (HL.out.below hb1))
  clear hb1 HSN
  go_wp2_with fail
  refine HMD.out.mono ?_
  rintro e w2 ⟨p, b1, b2, r, L, rfl, hst⟩
  generalize 1 + pickI id 8 = q at *
  have HST := Lib.hid hst
  have HK := Lib.hid hst.P.kept
  clear hst HMD
  go_wp2_with fail
  refine (items_any p b1 b2 q L 24 _ HST.out.P).mono ?_
  rintro e w3 ⟨vl, rfl, hit, hb3⟩
  have HIT := Lib.hid hit; have HB3 := Lib.hid hb3
  obtain ⟨Al, cl, rfl, hlc, hcm, hce⟩ := hit.slice
  have HCE := Lib.hid hce; have HP3 := Lib.hid (HST.out.P.below hb3)
  have hend := cnt_end HK.out
  have HEND := Lib.hid hend
  have h64 : (itemsL L).length ≤ 64 := by rw [← HK.out.items]; exact itemsF_len _ _
  have HPOS := Lib.hid (items_pos HK.out)
  unfold maxLen at hcm
  clear hit hb3 hce hend
  go_wp2_with fail
  go_loop [5, 9, 10] (fun ok at' st => ∃ k : Nat, st = .int .i64 k ∧ k ≤ 66 ∧ ok = .bool true ∧ at' = .int .i64 (cntC L k)) (fun _ _ st => 66 - (intOf st).toNat)
  case atStart => exact ⟨0, rfl, by omega, rfl, rfl⟩
  case round =>
    obtain ⟨k, rfl, hk, rfl, rfl⟩ := hrel
    by_cases hlt : k < 66
    · have htx := text_any p b1 b2 q L 24 k w3 (by omega) (by omega) HP3.out
      cases hc : copyF L k with
      | none =>
        rw [hc] at htx
        simp only [Option.getD_none, Option.isSome_none] at htx
        have HTX := Lib.hid htx
        have HCN := Lib.hid (cnt_none HK.out hc)
        clear htx hc
        go_wp2_with fail
        refine HTX.out.mono ?_
        rintro e w4 ⟨rfl, rfl⟩
        go_wp2
        go_round
        case rel => exact ⟨k + 1, by go_num, by omega, rfl, by rw [HCN.out]⟩
        case measure => simp [intOf]; omega
      | some t =>
        rw [hc] at htx
        simp only [Option.getD_some, Option.isSome_some] at htx
        have HTX := Lib.hid htx
        obtain ⟨hcs, hcl, hci⟩ := cnt_some HK.out hc
        have HCS := Lib.hid hcs
        obtain ⟨g, rfl, hgl, d0, d1⟩ := HCE.out _ hcl
        rw [hci] at d0 d1
        simp only [] at d0 d1
        clear htx hc hcs hci
        generalize cntC L k = u at *
        have k0 : (0 : Int) ≤ (u : Int) := by omega
        have k1 : (u : Int) < ((itemsL L).length : Int) := by omega
        go_wp2_with fail
        refine HTX.out.mono ?_
        rintro e w4 ⟨rfl, rfl⟩
        clear HTX
        go_wp2
        go_round
        case rel => exact ⟨k + 1, by go_num, by omega, rfl, by rw [HCS.out]; go_num⟩
        case measure => simp [intOf]; omega
    · obtain rfl : k = 66 := by omega
      rw [HEND.out]
      clear HCE HEND
      have hgr : ∀ wr : World, wr.ownsRow w2.heap.size 67 2 (.slice Al (itemsL L).length cl) (itemsL L).length ((itemsL L).flatMap itemCells) → True := fun _ _ => trivial
      clear hgr
      go_wp2
      go_loopw [13] (fun i wr => ∃ (j : Nat) (xs : List Value), i = .int .i64 j ∧ j ≤ (itemsL L).length ∧ Hid (wr.ownsRow w2.heap.size 67 2 (.slice Al (itemsL L).length cl) (itemsL L).length xs) ∧ Hid (Below w2.heap.size w2 wr)) (fun i _ => (itemsL L).length - (intOf i).toNat)
      case atStart => exact ⟨0, _, rfl, by omega, Lib.hid HIT.out, HB3⟩
      case round =>
        obtain ⟨j, xs, rfl, hj, HOW, HB⟩ := hrel
        by_cases hjl : j < (itemsL L).length
        · obtain ⟨g, cap, hv, hg1, hg2⟩ := HOW.out.form (by omega)
          cases hv
          have hxl : xs.length = (itemsL L).length * 2 := HOW.out.1
          obtain ⟨u0, hu0⟩ : ∃ u, xs[j * 2]? = some u := ⟨_, List.getElem?_eq_getElem (by omega)⟩
          obtain ⟨u1, hu1⟩ : ∃ u, (xs.set (j * 2) (.int .i64 0))[j * 2 + 1]? = some u := ⟨_, List.getElem?_eq_getElem (by simp; omega)⟩
          have s1 := HOW.out.stored (j * 2) (.int .i64 0)
          have s2 := s1.1.stored (j * 2 + 1) (.string ⟨#[]⟩)
          have e0 := HOW.out.cellAt (j * 2) (by omega)
          have e1 := s1.1.cellAt (j * 2 + 1) (by omega)
          have f0 := HOW.out.frozenAt (j * 2)
          have f1 := s1.1.frozenAt (j * 2 + 1)
          rw [hu0] at e0
          rw [hu1] at e1
          have HS2 := Lib.hid s2.1
          have HB2 := Lib.hid ((HB.out.setCell (p := ⟨g, j * 2, none⟩) hg1 (.int .i64 0)).setCell (p := ⟨g, j * 2 + 1, none⟩) hg1 (.string ⟨#[]⟩))
          have k0 : (0 : Int) ≤ (j : Int) := by omega
          have k1 : (j : Int) < ((itemsL L).length : Int) := by omega
          have e1' : wr.cell? ⟨g, j * 2 + 1, none⟩ = xs[j * 2 + 1]? := HOW.out.cellAt (j * 2 + 1) (by omega)
          obtain ⟨u2, hu2⟩ : ∃ u, xs[j * 2 + 1]? = some u := ⟨_, List.getElem?_eq_getElem (by omega)⟩
          rw [hu2] at e1'
          have f1' := HOW.out.frozenAt (j * 2 + 1)
          clear s1 s2 hu0 hu1 hu2 hxl
          go_wp2
          go_roundw
          case rel => exact ⟨j + 1, _, by go_num, by omega, HS2, HB2⟩
          case measure => simp [intOf]; omega
        · obtain rfl : j = (itemsL L).length := by omega
          have HPr := Lib.hid (HST.out.P.below HB.out); have HLr := Lib.hid (HST.out.W.below HB.out)
          clear hlt hk hj hjl HP3 HB3 HIT HST HOW HB
          by_cases hN : (itemsL L).length = 0
          · have hnil := List.eq_nil_of_length_eq_zero hN
            have hit2 := items_any p b1 b2 q L 24 wr HPr.out
            rw [hnil] at hit2 ⊢
            have HIT2 := Lib.hid hit2
            clear hit2 hnil hN HPOS h64 hlc
            go_wp2_with fail
            refine HIT2.out.mono ?_
            rintro e w5 ⟨v5, rfl, hi5, hb5⟩
            obtain ⟨A5, c5, rfl, hl5, hc5, _⟩ := hi5.slice
            have HF := Lib.hid (HLr.out.below hb5).bel
            unfold maxLen at hc5
            clear hi5 hb5
            simp only [List.length_nil]
            go_wp2
            go_ret
            exact ⟨rfl, HF.out⟩
          · have hN1 : 0 < (itemsL L).length := by omega
            have hpos := HPOS.out hN1
            have hN2 : (((itemsL L).length : Int) == 0) = false := by simpa using hN
            go_wp2_with fail
            refine (items_any p b1 b2 q L 24 _ HPr.out).mono ?_
            rintro e w5 ⟨v5, rfl, hi5, hb5⟩
            obtain ⟨A5, c5, rfl, hl5, hc5, _⟩ := hi5.slice
            have HP5 := Lib.hid (HPr.out.below hb5); have HL5 := Lib.hid (HLr.out.below hb5)
            unfold maxLen at hc5
            clear hi5 hb5 HPr HLr
            go_wp2_with fail
            refine (items_any p b1 b2 q L 24 _ HP5.out).mono ?_
            rintro e w6 ⟨v6, rfl, hi6, hb6⟩
            obtain ⟨A6, c6, rfl, hl6, hc6, hce6⟩ := hi6.slice
            obtain ⟨g6, rfl, _, d0, _⟩ := hce6 0 hN1
            have HF := Lib.hid (HL5.out.below hb6).bel
            unfold maxLen at hc6
            simp only [Nat.zero_mul] at d0
            generalize ((itemsL L)[0]).1 = z at *
            have hpd : decide (0 < z) = true := by simpa using hpos
            clear hi6 hb6 hce6 HP5 HL5 HPOS
            go_wp2
            go_ret
            exact ⟨rfl, HF.out⟩
end Go.Proofs.YtnhpnipfledihaaDoor

/- The law PartnerIndependent. -/
import Derived.Test.YtnhpnipfledihaaDoorPFac
import Derived.Test.YtnhpnipfledihaaDoorPLaw3
import Derived.Deep.RegionWith
import Derived.Deep.QuietTactic
import Derived.BigQuiet
namespace Go.Proofs.YtnhpnipfledihaaDoor
open Go.RowKit

/-- where the blocks of two partners and of the reference's lie -/
structure Ord (B p b1 b2 x d1 d2 r : Nat) : Prop where
  h1 : B ≤ b1
  h2 : B ≤ b2
  h3 : B ≤ d1
  h4 : B ≤ d2
  hr : B ≤ r
  px : p ≠ d1 ∧ p ≠ d2 ∧ b1 ≠ d1 ∧ b1 ≠ d2 ∧ b2 ≠ d1 ∧ b2 ≠ d2
  xp : x ≠ b1 ∧ x ≠ b2
  rp : p ≠ r ∧ b1 ≠ r ∧ b2 ≠ r ∧ x ≠ r ∧ d1 ≠ r ∧ d2 ≠ r

/-- the partner p keeps L, the other one M, the reference K -/
structure Two (a0 a1 : Addr) (p b1 b2 x d1 d2 r : Nat) (id : Int) (L M K : List Ent) (N1 N2 : Nat) (w0 w : World) : Prop where
  P : PAt p b1 b2 id L N1 w
  Q : PAt x d1 d2 id M N2 w
  R : ∃ v, RAt r id K v w
  W : LW a0 a1 w0 w

theorem Two.below {a0 a1 : Addr} {p b1 b2 x d1 d2 r N1 N2 : Nat} {id : Int} {L M K : List Ent} {w0 w w' : World} (h : Two a0 a1 p b1 b2 x d1 d2 r id L M K N1 N2 w0 w) (hb : Below w.heap.size w w') : Two a0 a1 p b1 b2 x d1 d2 r id L M K N1 N2 w0 w' :=
  ⟨h.P.below hb, h.Q.below hb, h.R.imp fun _ hr => hr.below hb, h.W.below hb⟩
theorem Two.ref {a0 a1 : Addr} {p b1 b2 x d1 d2 r N1 N2 : Nat} {id : Int} {L M K K' : List Ent} {w0 w w' : World} (h : Two a0 a1 p b1 b2 x d1 d2 r id L M K N1 N2 w0 w) (o : Ord w0.heap.size p b1 b2 x d1 d2 r) (hR : ∃ v, RAt r id K' v w') (hb : ButAt w.heap.size r w w') : Two a0 a1 p b1 b2 x d1 d2 r id L M K' N1 N2 w0 w' := by
  obtain ⟨l1, l2, l3⟩ := h.P.lts
  obtain ⟨m1, m2, m3⟩ := h.Q.lts
  obtain ⟨r1, r2, r3, r4, r5, r6⟩ := o.rp
  exact ⟨h.P.keep (hb.block _ l1 r1) (hb.block _ l2 r2) (hb.block _ l3 r3), h.Q.keep (hb.block _ m1 r4) (hb.block _ m2 r5) (hb.block _ m3 r6), hR, h.W.but hb o.hr⟩
theorem Two.one {a0 a1 : Addr} {p b1 b2 x d1 d2 r N1 N2 N3 : Nat} {id : Int} {L M K L' : List Ent} {w0 w w' : World} (h : Two a0 a1 p b1 b2 x d1 d2 r id L M K N1 N2 w0 w) (o : Ord w0.heap.size p b1 b2 x d1 d2 r) (hP : PAt p b1 b2 id L' N3 w') (hW : LW a0 a1 w0 w') (hb : ButTwo w.heap.size b1 b2 w w') : Two a0 a1 p b1 b2 x d1 d2 r id L' M K N3 N2 w0 w' := by
  obtain ⟨m1, m2, m3⟩ := h.Q.lts
  obtain ⟨x1, x2, x3, x4, x5, x6⟩ := o.px
  exact ⟨hP, h.Q.keep (hb.block _ m1 o.xp.1 o.xp.2) (hb.block _ m2 x3.symm x5.symm) (hb.block _ m3 x4.symm x6.symm), h.R.imp fun _ hr => hr.two hb fun _ _ _ _ hk => h.P.half.other hk, hW⟩
theorem Two.two {a0 a1 : Addr} {p b1 b2 x d1 d2 r N1 N2 N3 : Nat} {id : Int} {L M K M' : List Ent} {w0 w w' : World} (h : Two a0 a1 p b1 b2 x d1 d2 r id L M K N1 N2 w0 w) (o : Ord w0.heap.size p b1 b2 x d1 d2 r) (hQ : PAt x d1 d2 id M' N3 w') (hW : LW a0 a1 w0 w') (hb : ButTwo w.heap.size d1 d2 w w') : Two a0 a1 p b1 b2 x d1 d2 r id L M' K N1 N3 w0 w' := by
  obtain ⟨m1, m2, m3⟩ := h.P.lts
  obtain ⟨x1, x2, x3, x4, x5, x6⟩ := o.px
  exact ⟨h.P.keep (hb.block _ m1 x1 x2) (hb.block _ m2 x3 x4) (hb.block _ m3 x5 x6), hQ, h.R.imp fun _ hr => hr.two hb fun _ _ _ _ hk => h.Q.half.other hk, hW⟩

/-- of the story s both keep the same, and the second one nothing else -/
structure Alone (s : Int) (L M : List Ent) : Prop where
  t : TextsOk L
  e : entOf L s = entOf M s
  n : ∀ j, j ≠ s → entOf M j = ⟨j, 0, false, []⟩
theorem Alone.copy {s : Int} {L M : List Ent} (h : Alone s L M) : copyF L s = copyF M s := by unfold copyF; rw [h.e]
theorem Alone.items {s : Int} {L M : List Ent} (h : Alone s L M) (hK : Kept M) (h5 : 1 ≤ s) (h6 : s ≤ 64) : itemsL M = match copyF M s with | some t => [(s, t)] | none => [] :=
  items_one hK h5 h6 fun j hj => by unfold copyF; rw [h.n j hj]; rfl
theorem Alone.hit {s id : Int} {L M : List Ent} {m : Msg} (h : Alone s L M) (hm : OkMsg m) (hs : m.story = s) : (recv id M m).1 = (recv id L m).1 ∧ Alone s (recv id L m).2 (recv id M m).2 := by
  subst hs
  obtain ⟨h1, h2⟩ := recv_local (id := id) h.e
  exact ⟨h1.symm, textsOk_recv h.t hm, h2, fun j hj => by rw [recv_other hj]; exact h.n j hj⟩
theorem Alone.miss {s id : Int} {L M : List Ent} {m : Msg} (h : Alone s L M) (hm : OkMsg m) (hs : m.story ≠ s) : Alone s (recv id L m).2 M :=
  ⟨textsOk_recv h.t hm, by rw [recv_other (Ne.symm hs)]; exact h.e, h.n⟩
theorem alone_nil (s : Int) : Alone s [] [] := ⟨textsOk_nil, rfl, fun _ _ => rfl⟩

/-- what holds at a round of the law -/
def IndSt (a0 a1 : Addr) (p b1 b2 x d1 d2 r : Nat) (id s : Int) (k : Nat) (w0 w : World) : Prop := ∃ L M, Two a0 a1 p b1 b2 x d1 d2 r id L M L k k w0 w ∧ Alone s L M
theorem IndSt.mk' {a0 a1 : Addr} {p b1 b2 x d1 d2 r k k2 : Nat} {id s : Int} {L M : List Ent} {w0 w : World} (h : Two a0 a1 p b1 b2 x d1 d2 r id L M L k k2 w0 w) (hk : k2 ≤ k) (ha : Alone s L M) : IndSt a0 a1 p b1 b2 x d1 d2 r id s k w0 w := ⟨L, M, ⟨h.P, h.Q.mono hk, h.R, h.W⟩, ha⟩

set_option maxRecDepth 100000 in
set_option maxHeartbeats 16000000 in
theorem lawIndep_any {a0 a1 : Addr} (id : Int) (A : Option Addr) (n c : Nat) (x2 : Int) (w0 : World) (hid : InI64 id) (hops : RawOps w0 A n c) (hx2 : InI64 x2) (hS : Sents a0 a1 w0) (hsh : ShiftsAt w0) :
    Calls Tryd.prog 10 #[.int .i64 id, .slice A n c, .int .i64 x2] w0 fun e w' => e = .returned (.bool true) ∧ Below w0.heap.size w0 w' := by
  have HL := Lib.hid (LW.mk hS hsh (Below.refl _ _) : LW a0 a1 w0 w0); have HO := Lib.hid hops
  have HSN := Lib.hid (sane_any w0 hS hsh)
  have HPK := fun w => Lib.hid (pick_any id 8 w hid.1 hid.2 (by omega) (by omega))
  have HPK2 := fun w => Lib.hid (pick_any x2 3 w hx2.1 hx2.2 (by omega) (by omega))
  have hr := pickI_range (c := id) (n := 8) (by omega)
  have hr2 := pickI_range (c := x2) (n := 3) (by omega)
  obtain ⟨hnc, hcm, _⟩ := hops
  clear hS hsh
  generalize pickI id 8 = q at *
  generalize pickI x2 3 = s at *
  go_enter Tryd.func10, Tryd.ntmps10
  go_wp2_with fail
  refine HSN.out.mono ?_
  rintro e w ⟨rfl, hb0⟩
  have HLw := Lib.hid (HL.out.below hb0)
  clear hb0 HSN
  go_wp2_with fail
  refine (HPK _).out.mono ?_
  rintro e w1 ⟨rfl, rfl⟩
  go_wp2_with fail
  refine (HPK2 _).out.mono ?_
  rintro e w1 ⟨rfl, rfl⟩
  go_wp2_with fail
  refine (new_in (1 + q) _ (by omega) (by omega)).mono ?_
  rintro e w1 ⟨rfl, hp1, hb1⟩
  have HP1 := Lib.hid hp1; have HL1 := Lib.hid (HLw.out.below hb1)
  have hz0 := HLw.out.bel.size
  have hpl := hp1.lts
  clear hp1 hb1
  go_wp2_with fail
  refine (new_in (1 + q) _ (by omega) (by omega)).mono ?_
  rintro e w2 ⟨rfl, hq2, hb2⟩
  have HP2 := Lib.hid (HP1.out.below hb2); have HL2 := Lib.hid (HL1.out.below hb2); have HQ2 := Lib.hid hq2
  have hql := hq2.lts
  clear hq2 hb2 HP1 HL1
  go_wp2_with fail
  refine (rnew_in (1 + q) _ (by omega) (by omega)).mono ?_
  rintro e w3 ⟨rfl, hr3, hb3⟩
  have HT := Lib.hid (⟨HP2.out.below hb3, HQ2.out.below hb3, ⟨_, hr3⟩, HL2.out.below hb3⟩ : Two a0 a1 (w.heap.size + 2) w.heap.size (w.heap.size + 1) (w1.heap.size + 2) w1.heap.size (w1.heap.size + 1) w2.heap.size (1 + q) [] [] [] 0 0 w0 w3)
  have HD := Lib.hid (⟨hz0, by omega, by omega, by omega, by omega, by omega, by omega, by omega⟩ : Ord w0.heap.size (w.heap.size + 2) w.heap.size (w.heap.size + 1) (w1.heap.size + 2) w1.heap.size (w1.heap.size + 1) w2.heap.size)
  clear hr3 hb3 HP2 HL2 HQ2 hpl hql hz0
  go_wp2_with fail
  generalize w.heap.size + 2 = p at *
  generalize w.heap.size + 1 = b2 at *
  generalize w.heap.size = b1 at *
  generalize w1.heap.size + 2 = x at *
  generalize w1.heap.size + 1 = d2 at *
  generalize w1.heap.size = d1 at *
  generalize w2.heap.size = r at *
  go_loopw [7, 15] (fun ok i wr => ∃ (k : Nat), i = .int .i64 k ∧ k ≤ 24 ∧ ok = .bool true ∧ Hid (IndSt a0 a1 p b1 b2 x d1 d2 r (1 + q) (1 + s) k w0 wr)) (fun _ i _ => 24 - (intOf i).toNat)
  case atStart => exact ⟨0, rfl, by omega, rfl, Lib.hid (IndSt.mk' HT.out (Nat.le_refl _) (alone_nil _))⟩
  case round =>
    obtain ⟨k, rfl, hk, rfl, HS⟩ := hrel
    by_cases hkk : k < n ∧ k < 24
    · obtain ⟨hkn, hk24⟩ := hkk
      obtain ⟨L, M, HTW, HAL⟩ := HS.out
      have HT := Lib.hid HTW; have HA := Lib.hid HAL
      clear HTW HAL HS
      obtain ⟨b, off, rfl, f, hf⟩ := HO.out.2.2 k hkn
      have hbw := HT.out.W.bel
      have hcell : ∀ i, i < 6 → wr.cell? ⟨b, off + (k * 6 + i), none⟩ = some (.int .i64 (f i)) := fun i hi => (hbw.cell (p := ⟨b, _, none⟩) (World.block_lt_of_cell? w0 _ (hf i hi).2)).trans (hf i hi).2
      have e0 := hcell 0 (by omega); have e1 := hcell 1 (by omega); have e2 := hcell 2 (by omega); have e3 := hcell 3 (by omega); have e4 := hcell 4 (by omega); have e5 := hcell 5 (by omega)
      simp only [Nat.add_zero, ← Nat.add_assoc] at e0 e1 e2 e3 e4 e5
      obtain ⟨vr, hvr⟩ := HT.out.R
      have HBD := Lib.hid (build_any r (1 + q) L vr (f 0) (f 1) (f 2) (f 3) (f 4) (f 5) wr (hf 0 (by omega)).1 (hf 1 (by omega)).1 (hf 2 (by omega)).1 (hf 3 (by omega)).1 (hf 4 (by omega)).1 (hf 5 (by omega)).1 hvr HA.out.t)
      generalize f 0 = x0 at *
      generalize f 1 = x1 at *
      generalize f 2 = x2' at *
      generalize f 3 = x3 at *
      generalize f 4 = x4 at *
      generalize f 5 = x5 at *
      clear hf hcell hbw hvr
      go_wp2_with fail
      refine HBD.out.mono ?_
      rintro e w3 ⟨m, rfl, hml, hmo, hb3⟩
      have HT3 := Lib.hid (HT.out.below hb3)
      obtain ⟨w4, hw4⟩ : ∃ w4, w3.alloc (.cells #[.int .i64 m.kind, .int .i64 m.partner, .int .i64 m.seq, .int .i64 m.story, .int .i64 m.base, .int .i64 m.version, .string ⟨m.data.toArray⟩] 33) = w4 := ⟨_, rfl⟩
      have hb4 : Below w3.heap.size w3 w4 := by rw [← hw4]; exact (Below.refl _ _).alloc (Nat.le_refl _) _
      have hm4 : MAt w3.heap.size m w4 := by rw [← hw4]; exact heap_alloc_new _ _
      have HT4 := Lib.hid (HT3.out.below hb4); have HM4 := Lib.hid hm4
      have hrM : w3.heap.size ≠ r := by obtain ⟨v, hv⟩ := HT3.out.R; have := hv.lt; omega
      obtain ⟨c0, c1, c2, c3, c4, c5, c6⟩ := hm4.cells
      obtain ⟨ms, L', hrc⟩ : ∃ ms L', recv (1 + q) L m = (ms, L') := ⟨_, _, rfl⟩
      have HRC := Lib.hid hrc; have HMO := Lib.hid hmo
      clear hb3 hb4 hm4 hmo hrc e0 e1 e2 e3 e4 e5 HBD HT3 HT
      unfold Msg.enc
      go_wp2_with fail
      clear hw4
      generalize w3.heap.size = M0 at *
      obtain ⟨vr4, hvr4⟩ := HT4.out.R
      refine (rreceive_any r (1 + q) L vr4 m _ (by omega) hvr4).mono ?_
      rintro e w5 ⟨v5, rfl, _, hr5, hb5⟩
      rw [HRC.out] at hr5
      have HT5 := Lib.hid (HT4.out.ref HD.out hr5 hb5)
      have HM5 : Hid (MAt M0 m w5) := Lib.hid (HM4.out.kept (hb5.block _ HM4.out.lt hrM))
      clear hr5 hb5 hvr4 c0 c1 c2 c3 c4 c5 c6 HT4 HM4 hrM
      obtain ⟨c0, c1, c2, c3, c4, c5, c6⟩ := HM5.out.cells
      go_wp2_with fail
      refine (lrec p b1 b2 (1 + q) L k m w0 _ (by omega) (by omega) (by omega) HT5.out.W HD.out.h1 HD.out.h2 HT5.out.P HRC.out).mono ?_
      rintro e w6 ⟨v6, rfl, hm6, hp6, hl6, hb6⟩
      have HT6 := Lib.hid (HT5.out.one HD.out hp6 hl6 hb6); have HV6 := Lib.hid hm6; have HM6 := Lib.hid (HT5.out.P.half.msg HM5.out hb6)
      clear hm6 hp6 hl6 hb6 c0 c1 c2 c3 c4 c5 c6 HT5 HM5
      obtain ⟨c0, c1, c2, c3, c4, c5, c6⟩ := HM6.out.cells
      by_cases hs : m.story = 1 + s
      · obtain ⟨hq1, hq2⟩ := HA.out.hit (id := 1 + q) HMO.out hs
        obtain ⟨ms2, M', hrc2⟩ : ∃ ms2 M', recv (1 + q) M m = (ms2, M') := ⟨_, _, rfl⟩
        rw [hrc2, HRC.out] at hq1 hq2
        simp only [] at hq1 hq2
        subst hq1
        have hsb : ((m.story : Int) == 1 + s) = true := by simpa using hs
        have HRC2 := Lib.hid hrc2; have HA2 := Lib.hid hq2
        clear hs hrc2 hq2 HA
        go_wp2_with fail
        refine (lrec x d1 d2 (1 + q) M k m w0 _ (by omega) (by omega) (by omega) HT6.out.W HD.out.h3 HD.out.h4 HT6.out.Q HRC2.out).mono ?_
        rintro e w7 ⟨v7, rfl, hm7, hp7, hl7, hb7⟩
        have HT7 := Lib.hid (HT6.out.two HD.out hp7 hl7 hb7)
        have HSM := Lib.hid (same_msgs _ _ _ _ _ _ (HV6.out.two HT6.out.Q hb7) hm7)
        clear hm7 hp7 hl7 hb7 c0 c1 c2 c3 c4 c5 c6 HT6 HV6 HM6
        go_wp2_with fail
        refine HSM.out.mono ?_
        rintro e w8 ⟨rfl, hb8⟩
        have HR := Lib.hid (IndSt.mk' (HT7.out.below hb8) (Nat.le_refl _) HA2.out)
        clear hb8 HT7 HSM
        go_wp2
        go_roundw
        case rel => exact ⟨k + 1, by go_num, by omega, rfl, HR⟩
        case measure => simp [intOf]; omega
      · have hq2 := HA.out.miss (id := 1 + q) HMO.out hs
        rw [HRC.out] at hq2
        have HR := Lib.hid (IndSt.mk' HT6.out (Nat.le_succ _) hq2)
        have hsb : ((m.story : Int) == 1 + s) = false := by simpa using hs
        clear hs hq2
        go_wp2
        go_roundw
        case rel => exact ⟨k + 1, by go_num, by omega, rfl, HR⟩
        case measure => simp [intOf]; omega
    · have hout : k < n ∧ ¬ ((k : Int) < 24) ∨ ¬ k < n := by omega
      obtain ⟨L, M, HTW, HAL⟩ := HS.out
      have hcp := HAL.copy
      have hits := HAL.items HTW.Q.kept (by omega) (by omega)
      have hxp := text_any p b1 b2 (1 + q) L k (1 + s) wr (by omega) (by omega) HTW.P
      have hxq := text_any x d1 d2 (1 + q) M k (1 + s) wr (by omega) (by omega) HTW.Q
      have hit := items_any x d1 d2 (1 + q) M k wr HTW.Q
      rw [hcp] at hxp
      rw [hits] at hit
      have HF := Lib.hid HTW.W
      clear hkk HS HT HAL HTW HO HPK HPK2 HL HLw hits hcp
      cases hc : copyF M (1 + s) with
      | none =>
        rw [hc] at hxp hxq hit
        simp only [Option.getD_none, Option.isSome_none] at hxp hxq hit
        have HXP := Lib.hid hxp; have HXQ := Lib.hid hxq; have HIT := Lib.hid hit
        clear hxp hxq hit hc
        rcases hout with ⟨hkn, hk24⟩ | hkn
        all_goals
          go_wp2_with fail
          refine HXP.out.mono ?_
          rintro e w4 ⟨rfl, rfl⟩
          go_wp2_with fail
          refine HXQ.out.mono ?_
          rintro e w4 ⟨rfl, rfl⟩
          go_wp2_with fail
          refine HIT.out.mono ?_
          rintro e w5 ⟨v5, rfl, hi5, hb5⟩
          obtain ⟨A5, c5, rfl, hl5, hc5, _⟩ := hi5.slice
          have HFF := Lib.hid (HF.out.below hb5).bel
          clear hi5 hb5 hc5 hl5
          simp only [List.length_nil]
          go_wp2
          go_ret
          exact ⟨rfl, HFF.out⟩
      | some t =>
        rw [hc] at hxp hxq hit
        simp only [Option.getD_some, Option.isSome_some] at hxp hxq hit
        have HXP := Lib.hid hxp; have HXQ := Lib.hid hxq; have HIT := Lib.hid hit
        clear hxp hxq hit hc
        rcases hout with ⟨hkn, hk24⟩ | hkn
        all_goals
          go_wp2_with fail
          refine HXP.out.mono ?_
          rintro e w4 ⟨rfl, rfl⟩
          go_wp2_with fail
          refine HXQ.out.mono ?_
          rintro e w4 ⟨rfl, rfl⟩
          go_wp2_with fail
          refine HIT.out.mono ?_
          rintro e w5 ⟨v5, rfl, hi5, hb5⟩
          obtain ⟨A5, c5, rfl, hl5, hc5, _⟩ := hi5.slice
          have HFF := Lib.hid (HF.out.below hb5).bel
          clear hi5 hb5 hc5 hl5
          simp only [List.length_cons, List.length_nil]
          go_wp2
          go_ret
          exact ⟨rfl, HFF.out⟩
end Go.Proofs.YtnhpnipfledihaaDoor

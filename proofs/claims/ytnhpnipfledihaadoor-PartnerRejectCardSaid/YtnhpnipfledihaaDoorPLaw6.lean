/- The law PartnerDelta. -/
import Derived.Test.YtnhpnipfledihaaDoorPFac
import Derived.Test.YtnhpnipfledihaaDoorPOpen4
import Derived.Test.YtnhpnipfledihaaDoorPLaw3
import Derived.Deep.RegionWith
import Derived.Deep.RegionHeld3
import Derived.Deep.QuietTactic
import Derived.BigQuiet
namespace Go.Proofs.YtnhpnipfledihaaDoor
open Go.RowKit

/-- a answers what was received, and the partner keeps L -/
def DSt (a0 a1 : Addr) (wa : World) (p b1 b2 : Nat) (q : Int) (L : List Ent) (N : Nat) (a : Msg) (v : Value) (w : World) : Prop :=
  ∃ g, v = .slice (some ⟨g, 0, none⟩) 1 1 ∧ Hid (MAt g a w) ∧ Hid (PAt p b1 b2 q L N w) ∧ Hid (LW a0 a1 wa w)
theorem DSt.mk' {a0 a1 : Addr} {wa w : World} {p b1 b2 k N : Nat} {q : Int} {L : List Ent} {a : Msg} {v : Value} (h : MsgsAt k v [a] w) (hP : PAt p b1 b2 q L N w) (hL : LW a0 a1 wa w) : DSt a0 a1 wa p b1 b2 q L N a v w := by
  rcases h with ⟨h, _⟩ | ⟨m, g, h1, h2, _, h3⟩
  · cases h
  · cases h1; exact ⟨g, h2, Lib.hid h3, Lib.hid hP, Lib.hid hL⟩

set_option maxRecDepth 100000 in
set_option maxHeartbeats 16000000 in
theorem lawDelta_any {a0 a1 : Addr} (id : Int) (A : Option Addr) (n c : Nat) (x0 x1 : Int) (w0 : World) (hid : InI64 id) (hops : RawOps w0 A n c) (hx : InI64 x0 ∧ InI64 x1) (hS : Sents a0 a1 w0) (hsh : ShiftsAt w0) :
    Calls Tryd.prog 7 #[.int .i64 id, .slice A n c, .agg #[.int .i64 x0, .int .i64 x1]] w0 fun e w' => e = .returned (.bool true) ∧ Below w0.heap.size w0 w' := by
  obtain ⟨wa, hwa⟩ : ∃ wa, w0.alloc (.cells #[.int .i64 x0, .int .i64 x1] 54) = wa := ⟨_, rfl⟩
  have hba : Below w0.heap.size w0 wa := by rw [← hwa]; exact (Below.refl _ _).alloc (Nat.le_refl _) _
  have hXa : wa.heap[w0.heap.size]? = some (.cells #[.int .i64 x0, .int .i64 x1] 54 (0, 0)) := by rw [← hwa]; exact heap_alloc_new _ _
  have HXA := Lib.hid hXa
  have HLA := Lib.hid (LW.mk (hS.below hba) (shifts_under hsh hba) (Below.refl _ _) : LW a0 a1 wa wa)
  have HOA := Lib.hid (hops.below hba)
  have HX := Lib.hid hx
  have HSN := Lib.hid (sane_any wa (hS.below hba) (shifts_under hsh hba))
  have HFIN : ∀ wz, LW a0 a1 wa wz → Hid (Below w0.heap.size w0 wz) := fun wz h => Lib.hid (below_then hba h.bel)
  have hxl : w0.heap.size < wa.heap.size := some_lt hXa
  clear hba hXa hS hsh hops hx
  go_enter Tryd.func7, Tryd.ntmps7
  go_wp2_with fail
  clear hwa
  refine HSN.out.mono ?_
  rintro e w1 ⟨rfl, hb1⟩
  have HMD := Lib.hid (made_any id A n c wa w1 hid HOA.out (HLA.out.below hb1))
  clear hb1 HSN
  go_wp2_with fail
  refine HMD.out.mono ?_
  rintro e w2 ⟨p, b1, b2, r, L, rfl, hst⟩
  generalize 1 + pickI id 8 = q at *
  have HST := Lib.hid hst
  have HXF : ∀ wy, Below w2.heap.size w2 wy → Hid (wy.cell? ⟨w0.heap.size, 0, none⟩ = some (.int .i64 x0) ∧ wy.cell? ⟨w0.heap.size, 1, none⟩ = some (.int .i64 x1)) := fun wy hb => Lib.hid (by
    have hxc := (hst.W.bel.block _ hxl).trans HXA.out
    have hxy := (hb.block _ (some_lt hxc)).trans hxc
    refine ⟨?_, ?_⟩ <;> (rw [Lib.cell_of_heap hxy]; rfl))
  have HRF : ∀ wy, Below w2.heap.size w2 wy → Hid (wy.cell? ⟨r, 0, none⟩ = some (.int .i64 q)) := fun wy hb => Lib.hid (by
    obtain ⟨vr, hvr⟩ := hst.R
    rw [Lib.cell_of_heap (hvr.below hb).cells]; rfl)
  obtain ⟨y0, y1⟩ := (HXF w2 (Below.refl _ _)).out
  obtain ⟨hx0, hx1⟩ := HX.out
  clear hst HMD
  go_wp2_with fail
  refine (pick_any x0 4 _ hx0.1 hx0.2 (by omega) (by omega)).mono ?_
  rintro e w3 ⟨rfl, rfl⟩
  have rs := pickI_range (c := x0) (n := 4) (by omega)
  generalize pickI x0 4 = s at *
  have htx := text_any p b1 b2 q L 24 (1 + s) w2 (by omega) (by omega) HST.out.P
  rw [copyF_get HST.out.P.kept] at htx
  have HTX := Lib.hid htx
  obtain ⟨L', hrc, hcp⟩ := recv_delta (id := q) (s := 1 + s) (L := L) (n := wordsI x1) HST.out.P.kept HST.out.T HST.out.i1 HST.out.i2 (by omega) (by omega) (wordsI_in x1)
  have hsq := HST.out.P.kept.ent (1 + s)
  have htk := (HST.out.T (1 + s)).2
  have hol := (HST.out.T (1 + s)).1.len
  obtain ⟨hq0, _, _, _⟩ := hsq
  have hnl := (wordsI_in x1).len
  have hml : (deliverOf q ((entOf L (1 + s)).seq + 1) (1 + s) (entOf L (1 + s)).text (wordsI x1)).data.length ≤ 100000 := by have := diffD_len (entOf L (1 + s)).text (wordsI x1); simp [deliverOf]; omega
  have HDV := fun wy => Lib.hid (deliver_any q ((entOf L (1 + s)).seq + 1) (1 + s) (entOf L (1 + s)).text (wordsI x1) wy (by omega) (by omega))
  have HEN := fun (wy : World) (vr : Value) (h : RAt r q L vr wy) => Lib.hid (entry_any r q L vr (1 + s) wy h)
  have HWD := fun wy => Lib.hid (words_any x1 wy hx1.1 hx1.2)
  have HSM := fun wy => Lib.hid (refSum_list (wordsI x1) wy (by omega))
  generalize (copyF L (1 + s)).isSome = hs at *
  generalize deliverOf q ((entOf L (1 + s)).seq + 1) (1 + s) (entOf L (1 + s)).text (wordsI x1) = m at *
  generalize wordsI x1 = nx at *
  have hst := entOf_story L (1 + s)
  generalize entOf L (1 + s) = E at *
  obtain ⟨es, eq, eh, et⟩ := E
  simp only [] at hst hq0 htk hol hrc HTX HDV
  subst hst
  have hfd : ∀ w : World, (Instr.field 59 (.agg #[.int .i64 (1 + s), .int .i64 eq, .bool eh, .string ⟨et.toArray⟩]) 1).run Tryd.prog w = .ok (.int .i64 eq) w := fun _ => by kernel_rfl
  have HRC := Lib.hid hrc; have HCP := Lib.hid hcp
  clear htx hrc hcp
  go_wp2_with fail
  refine HTX.out.mono ?_
  rintro e w3 ⟨rfl, rfl⟩
  clear HTX
  go_wp2_with fail
  refine (HWD _).out.mono ?_
  rintro e w4 ⟨rfl, hb4⟩
  have HB4 := Lib.hid hb4
  have HS4 := Lib.hid ((HST.out.below hb4).below (Below.refl _ w4).drew)
  have pc := (HRF _ hb4).out
  obtain ⟨vr, hvr⟩ := HS4.out.R
  have HEV := Lib.hid (HEN _ vr hvr).out
  have HRP : ∀ wy, Below w4.drew.heap.size w4.drew wy → Hid (wy.cell? ⟨r, 0, none⟩ = some (.int .i64 q)) := fun wy hb => HRF wy (below_then (below_then hb4 (Below.refl _ w4).drew) hb)
  have HLR : ∀ wy, Below w4.drew.heap.size w4.drew wy → Hid (Calls Tryd.prog 18 #[.pointer (some ⟨p, 0, none⟩), m.enc] wy (LRecEnd a0 a1 p b1 b2 q 24 wa wy [ackOf q (eq + 1) (1 + s) (crcOf nx)] L')) := fun wy hb => Lib.hid (by
    have h := HS4.out.below hb
    exact lrec p b1 b2 q L 24 m wa wy h.i1 (by omega) (by omega) h.W h.h1 h.h2 h.P HRC.out)
  have HRQ : ∀ wy, Below w4.drew.heap.size w4.drew wy → ∀ wz, ButTwo wy.heap.size b1 b2 wy wz → Hid (wz.cell? ⟨r, 0, none⟩ = some (.int .i64 q)) := fun wy hb wz hc => Lib.hid (by
    obtain ⟨v, hv⟩ := (HS4.out.below hb).ra hc
    rw [Lib.cell_of_heap hv.cells]; rfl)
  clear hb4 hvr y0 y1 HXF HEN HWD HST HOA
  go_wp2_with fail
  have hwr : IntKind.i64.wrap (eq + 1) = eq + 1 := wrap_small _ (by omega) (by omega)
  go_upto_region 6 with fail
  go_cut [14] (fun v wx => DSt a0 a1 wa p b1 b2 q L' 25 (ackOf q (eq + 1) (1 + s) (crcOf nx)) v wx)
  case first =>
    have pcd : w4.drew.cell? ⟨r, 0, none⟩ = some (.int .i64 q) := pc
    go_region_held3 (fun w' => w'.cell? ⟨r, 0, none⟩ = some (.int .i64 q)) (assumption) (first
        | (go_at_call 28; go_loud (refine HEV.out.mono ?_; unfold Ent.enc; rintro e w5 ⟨rfl, hb5⟩; have g5 := (HRP _ hb5).out))
        | (go_at_call 24; go_loud (refine (HDV _).out.mono ?_; rintro e w6 ⟨rfl, hb6⟩; have HB6 := Lib.hid (below_then hb5 hb6); have g6 := (HRP _ HB6.out).out))
        | (go_at_call 18; go_loud (refine (HLR _ HB6.out).out.mono ?_; rintro e w7 ⟨v7, rfl, hm7, hp7, hl7, hb7⟩; have g7 := (HRQ _ HB6.out _ hb7).out)))
    all_goals
      go_wp2_with fail
      go_meet
      exact DSt.mk' hm7 hp7 hl7
  case rest =>
    clear hwr
    obtain ⟨g, rfl, HM, HP, HL⟩ := hcut
    obtain ⟨k0, k1, k2, k3, k4, k5, k6⟩ := HM.out.cells
    have htx := text_any p b1 b2 q L' 25 (1 + s) _ (by omega) (by omega) HP.out
    rw [HCP.out] at htx
    simp only [Option.getD_some, Option.isSome_some] at htx
    have HTX := Lib.hid htx
    clear pc htx HEV HDV HRP HLR
    simp only [ackOf] at k0 k1 k2 k3 k4 k5 k6
    go_wp2_with fail
    refine HTX.out.mono ?_
    rintro e w8 ⟨rfl, rfl⟩
    clear HTX
    go_wp2_with fail
    first
      | (go_quiet ((go_at_call 29; exact Calls.quiet_of_same (((HSM _).out).mono fun _ _ h => ⟨h.1, h.2.symm⟩))))
      | fail
    have HD : ∀ j, Hid (Below w0.heap.size w0 (World.drewN _ j)) := fun j => HFIN _ (HL.out.below ((Below.refl _ _).drewN j))
    go_wp2
    go_ret
    exact ⟨rfl, (HD _).out⟩
end Go.Proofs.YtnhpnipfledihaaDoor

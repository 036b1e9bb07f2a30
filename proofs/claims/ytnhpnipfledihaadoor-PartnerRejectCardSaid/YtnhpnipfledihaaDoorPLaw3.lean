/- The law PartnerRepeat. -/
import Derived.Test.YtnhpnipfledihaaDoorPLawD
import Derived.Test.YtnhpnipfledihaaDoorPOpen3
import Derived.Deep.QuietTactic
import Derived.BigQuiet
namespace Go.Proofs.YtnhpnipfledihaaDoor
open Go.RowKit

/-- what an answer says -/
def AnsOk (m a : Msg) : Prop := (a.kind = 3 ∨ a.kind = 4) ∧ a.partner = m.partner ∧ m.seq ≤ a.seq ∧ (a.seq = m.seq ∨ a.kind = 4) ∧ a.story = m.story ∧ a.data = []

theorem recv_shape {id : Int} {L L' : List Ent} {m : Msg} {ms : List Msg} (h : recv id L m = (ms, L')) : (ms = [] ∧ L' = L) ∨ ∃ a, ms = [a] ∧ AnsOk m a ∧ (a.kind = 4 → L' = L) := by
  unfold recv at h
  split at h
  · rename_i hv
    simp only [] at h
    have hp : id = m.partner := hv.2.1.symm
    split at h
    · rename_i hlt
      cases h
      exact .inr ⟨_, rfl, ⟨.inr rfl, hp, by simp [rejOf]; omega, .inr rfl, rfl, rfl⟩, fun _ => rfl⟩
    · split at h
      · cases h
        exact .inr ⟨_, rfl, ⟨.inl rfl, hp, Int.le_refl _, .inl rfl, rfl, rfl⟩, fun _ => rfl⟩
      · split at h
        · cases h
          exact .inr ⟨_, rfl, ⟨.inl rfl, hp, Int.le_refl _, .inl rfl, rfl, rfl⟩, fun h => by simp [ackOf] at h⟩
        · split at h
          · cases h
            exact .inr ⟨_, rfl, ⟨.inl rfl, hp, Int.le_refl _, .inl rfl, rfl, rfl⟩, fun h => by simp [ackOf] at h⟩
          · cases h
            exact .inr ⟨_, rfl, ⟨.inr rfl, hp, Int.le_refl _, .inr rfl, rfl, rfl⟩, fun _ => rfl⟩
  · cases h; exact .inl ⟨rfl, rfl⟩

theorem recv_twice {id : Int} {L L' : List Ent} {m : Msg} {ms : List Msg} (h : recv id L m = (ms, L')) : recv id L' m = (ms, L') := by
  have h0 := h
  unfold recv at h
  split at h
  · rename_i hv
    simp only [] at h
    split at h
    · cases h; exact h0
    · rename_i hlt
      split at h
      · cases h; exact h0
      · rename_i heq
        split at h
        · rename_i hk
          cases h
          have he := entOf_keep_same ⟨m.story, m.seq, false, []⟩ L
          simp only [] at he
          unfold recv
          rw [if_pos hv]
          simp only [he]
          rw [if_neg (by omega), if_pos trivial, crcOf_nil]; rfl
        · split at h
          · rename_i t ht
            cases h
            have he := entOf_keep_same ⟨m.story, m.seq, true, t⟩ L
            simp only [] at he
            unfold recv
            rw [if_pos hv]
            simp only [he]
            rw [if_neg (by omega), if_pos trivial, (applied_some ht).2.2]
          · cases h; exact h0
  · cases h; exact h0

theorem RawOps.below {W W' : World} {A : Option Addr} {n c : Nat} (h : RawOps W A n c) (hb : Below W.heap.size W W') : RawOps W' A n c :=
  ⟨h.1, h.2.1, fun j hj => by
    obtain ⟨b, off, ha, f, hf⟩ := h.2.2 j hj
    exact ⟨b, off, ha, f, fun i hi => ⟨(hf i hi).1, (hb.cell (p := ⟨b, _, none⟩) (World.block_lt_of_cell? W _ (hf i hi).2)).trans (hf i hi).2⟩⟩⟩
theorem ItemsAt.two {n b1 b2 : Nat} {v : Value} {l : List (Int × List UInt8)} {w w' : World} {p : Nat} {id : Int} {L : List Ent} {N : Nat} (h : ItemsAt n v l w) (hP : PAt p b1 b2 id L N w) (hb : ButTwo w.heap.size b1 b2 w w') : ItemsAt n v l w' := by
  obtain ⟨h1, h2⟩ := h
  refine ⟨h1, ?_⟩
  rcases h2 with h2 | ⟨g, cap, cur, rfl, h3, h4, h5⟩
  · exact .inl h2
  · exact .inr ⟨g, cap, cur, rfl, h3, (hb.block _ (some_lt h4) (hP.half.other h4).1 (hP.half.other h4).2).trans h4, h5⟩

set_option maxRecDepth 100000 in
set_option maxHeartbeats 16000000 in
theorem lawRepeat_any {a0 a1 : Addr} (id : Int) (A : Option Addr) (n c : Nat) (x0 x1 x2 x3 x4 x5 : Int) (w0 : World) (hid : InI64 id) (hops : RawOps w0 A n c) (hx : InI64 x0 ∧ InI64 x1 ∧ InI64 x2 ∧ InI64 x3 ∧ InI64 x4 ∧ InI64 x5) (hS : Sents a0 a1 w0) (hsh : ShiftsAt w0) :
    Calls Tryd.prog 5 #[.int .i64 id, .slice A n c, .agg #[.int .i64 x0, .int .i64 x1, .int .i64 x2, .int .i64 x3, .int .i64 x4, .int .i64 x5]] w0 fun e w' => e = .returned (.bool true) ∧ Below w0.heap.size w0 w' := by
  obtain ⟨wa, hwa⟩ : ∃ wa, w0.alloc (.cells #[.int .i64 x0, .int .i64 x1, .int .i64 x2, .int .i64 x3, .int .i64 x4, .int .i64 x5] 35) = wa := ⟨_, rfl⟩
  have hba : Below w0.heap.size w0 wa := by rw [← hwa]; exact (Below.refl _ _).alloc (Nat.le_refl _) _
  have hXa : wa.heap[w0.heap.size]? = some (.cells #[.int .i64 x0, .int .i64 x1, .int .i64 x2, .int .i64 x3, .int .i64 x4, .int .i64 x5] 35 (0, 0)) := by rw [← hwa]; exact heap_alloc_new _ _
  have HBA := Lib.hid hba; have HXA := Lib.hid hXa
  have HLA := Lib.hid (LW.mk (hS.below hba) (shifts_under hsh hba) (Below.refl _ _) : LW a0 a1 wa wa)
  have HOA := Lib.hid (hops.below hba)
  have HX := Lib.hid hx
  have HSN := Lib.hid (sane_any wa (hS.below hba) (shifts_under hsh hba))
  have HFIN : ∀ wz, LW a0 a1 wa wz → Hid (Below w0.heap.size w0 wz) := fun wz h => Lib.hid (below_then hba h.bel)
  have hxl : w0.heap.size < wa.heap.size := some_lt hXa
  clear hba hXa hS hsh hops hx
  go_enter Tryd.func5, Tryd.ntmps5
  go_wp2_with fail
  clear hwa
  refine HSN.out.mono ?_
  rintro e w1 ⟨rfl, hb1⟩
  have HMD := Lib.hid (made_any id A n c wa w1 hid HOA.out (HLA.out.below hb1))
  clear hb1 HSN
  go_wp2_with fail
  refine HMD.out.mono ?_
  rintro e w2 ⟨p, b1, b2, r, L, rfl, hst⟩
  generalize 1 + pickI id 8 = q at *
  have HST := Lib.hid hst
  obtain ⟨vr, hvr⟩ := hst.R
  obtain ⟨hx0, hx1, hx2, hx3, hx4, hx5⟩ := HX.out
  have HBD := Lib.hid (build_any r q L vr x0 x1 x2 x3 x4 x5 w2 hx0 hx1 hx2 hx3 hx4 hx5 hvr hst.T)
  have hxc := (hst.W.bel.block _ hxl).trans HXA.out
  have y0 : w2.cell? ⟨w0.heap.size, 0, none⟩ = some (.int .i64 x0) := by rw [Lib.cell_of_heap hxc]; rfl
  have y1 : w2.cell? ⟨w0.heap.size, 1, none⟩ = some (.int .i64 x1) := by rw [Lib.cell_of_heap hxc]; rfl
  have y2 : w2.cell? ⟨w0.heap.size, 2, none⟩ = some (.int .i64 x2) := by rw [Lib.cell_of_heap hxc]; rfl
  have y3 : w2.cell? ⟨w0.heap.size, 3, none⟩ = some (.int .i64 x3) := by rw [Lib.cell_of_heap hxc]; rfl
  have y4 : w2.cell? ⟨w0.heap.size, 4, none⟩ = some (.int .i64 x4) := by rw [Lib.cell_of_heap hxc]; rfl
  have y5 : w2.cell? ⟨w0.heap.size, 5, none⟩ = some (.int .i64 x5) := by rw [Lib.cell_of_heap hxc]; rfl
  clear hst hvr hxc hx0 hx1 hx2 hx3 hx4 hx5 HMD
  go_wp2_with fail
  refine HBD.out.mono ?_
  rintro e w3 ⟨m, rfl, hml, hmo, hb3⟩
  have HS3 := Lib.hid (HST.out.below hb3)
  obtain ⟨w4, hw4⟩ : ∃ w4, w3.alloc (.cells #[.int .i64 m.kind, .int .i64 m.partner, .int .i64 m.seq, .int .i64 m.story, .int .i64 m.base, .int .i64 m.version, .string ⟨m.data.toArray⟩] 33) = w4 := ⟨_, rfl⟩
  have hb4 : Below w3.heap.size w3 w4 := by rw [← hw4]; exact (Below.refl _ _).alloc (Nat.le_refl _) _
  have hm4 : MAt w3.heap.size m w4 := by rw [← hw4]; exact heap_alloc_new _ _
  have HS4 := Lib.hid (HS3.out.below hb4); have HM4 := Lib.hid hm4
  obtain ⟨ms, L', hrc⟩ : ∃ ms L', recv q L m = (ms, L') := ⟨_, _, rfl⟩
  have HRC := Lib.hid hrc; have HRC2 := Lib.hid (recv_twice hrc); have hsp := recv_shape hrc
  have HSP := Lib.hid hsp
  clear hb3 hb4 hm4 hmo hrc hsp y0 y1 y2 y3 y4 y5 HBD HS3 HST
  unfold Msg.enc
  go_wp2_with fail
  clear hw4
  generalize w3.heap.size = M at *
  refine (items_any p b1 b2 q L 24 _ HS4.out.P).mono ?_
  rintro e w5 ⟨vw, rfl, hiw, hb5⟩
  have HS5 := Lib.hid (HS4.out.below hb5); have HM5 := Lib.hid (HM4.out.below hb5); have HW5 := Lib.hid hiw
  obtain ⟨c0, c1, c2, c3, c4, c5, c6⟩ := HM5.out.cells
  clear hb5 hiw HS4 HM4
  go_wp2_with fail
  refine (lrec p b1 b2 q L 24 m wa _ HS5.out.i1 (by omega) (by omega) HS5.out.W HS5.out.h1 HS5.out.h2 HS5.out.P HRC.out).mono ?_
  rintro e w6 ⟨v1, rfl, hm1, hp6, hl6, hb6⟩
  have HP6 := Lib.hid hp6; have HL6 := Lib.hid hl6; have HM6 := Lib.hid (HS5.out.P.half.msg HM5.out hb6); have HW6 := Lib.hid (HW5.out.two HS5.out.P hb6); have HV6 := Lib.hid hm1
  clear hp6 hl6 hb6 hm1 c0 c1 c2 c3 c4 c5 c6 HM5 HW5
  go_wp2_with fail
  refine (items_any p b1 b2 q L' 25 _ HP6.out).mono ?_
  rintro e w7 ⟨vn, rfl, hin, hb7⟩
  have HP7 := Lib.hid (HP6.out.below hb7); have HL7 := Lib.hid (HL6.out.below hb7); have HM7 := Lib.hid (HM6.out.below hb7); have HW7 := Lib.hid (HW6.out.below hb7 (Nat.le_refl _)); have HV7 := Lib.hid (HV6.out.below hb7); have HN7 := Lib.hid hin
  obtain ⟨c0, c1, c2, c3, c4, c5, c6⟩ := HM7.out.cells
  clear hb7 hin HP6 HL6 HM6 HW6 HV6
  go_wp2_with fail
  refine (lrec p b1 b2 q L' 25 m wa _ HS5.out.i1 (by omega) (by omega) HL7.out HS5.out.h1 HS5.out.h2 HP7.out HRC2.out).mono ?_
  rintro e w8 ⟨v2, rfl, hm2, hp8, hl8, hb8⟩
  have HP8 := Lib.hid hp8; have HL8 := Lib.hid hl8; have HM8 := Lib.hid (HP7.out.half.msg HM7.out hb8); have HW8 := Lib.hid (HW7.out.two HP7.out hb8); have HN8 := Lib.hid (HN7.out.two HP7.out hb8); have HV8 := Lib.hid (HV7.out.two HP7.out hb8)
  have HSM := Lib.hid (same_msgs _ _ _ _ _ _ HV8.out hm2)
  clear hp8 hl8 hb8 hm2 c0 c1 c2 c3 c4 c5 c6 HP7 HL7 HM7 HW7 HN7 HV7
  go_wp2_with fail
  refine HSM.out.mono ?_
  rintro e w9 ⟨rfl, hb9⟩
  have HP9 := Lib.hid (HP8.out.below hb9); have HL9 := Lib.hid (HL8.out.below hb9); have HM9 := Lib.hid (HM8.out.below hb9); have HW9 := Lib.hid (HW8.out.below hb9 (Nat.le_refl _)); have HN9 := Lib.hid (HN8.out.below hb9 (Nat.le_refl _)); have HV9 := Lib.hid (HV8.out.below hb9)
  clear hb9 HP8 HL8 HM8 HW8 HN8 HV8 HSM
  go_wp2_with fail
  refine (items_any p b1 b2 q L' 26 _ HP9.out).mono ?_
  rintro e w10 ⟨vq, rfl, hiq, hb10⟩
  have HL10 := Lib.hid (HL9.out.below hb10); have HM10 := Lib.hid (HM9.out.below hb10); have HW10 := Lib.hid (HW9.out.below hb10 (Nat.le_refl _)); have HN10 := Lib.hid (HN9.out.below hb10 (Nat.le_refl _)); have HV10 := Lib.hid (HV9.out.below hb10)
  have HSI := Lib.hid (same_items _ _ _ _ _ _ HN10.out hiq)
  clear hb10 hiq HP9 HL9 HM9 HW9 HN9 HV9
  go_wp2_with fail
  refine HSI.out.mono ?_
  rintro e w11 ⟨rfl, hb11⟩
  have HL11 := Lib.hid (HL10.out.below hb11); have HM11 := Lib.hid (HM10.out.below hb11); have HW11 := Lib.hid (HW10.out.below hb11 (Nat.le_refl _)); have HN11 := Lib.hid (HN10.out.below hb11 (Nat.le_refl _)); have hv11 := HV10.out.below hb11
  clear hb11 HL10 HM10 HW10 HN10 HV10 HSI
  rcases HSP.out with ⟨hms, hLL⟩ | ⟨a, hms, hans, hkL⟩
  · rcases hv11 with ⟨_, rfl⟩ | ⟨a, g, h1, _⟩
    · subst hLL
      have HSW := Lib.hid (same_items _ _ _ _ _ _ HW11.out HN11.out)
      clear hms
      go_wp2
      go_loop [7, 15] (fun o i => i = .int .i64 0 ∧ o = .bool true) (fun _ _ => 0)
      case atStart => exact ⟨rfl, rfl⟩
      case round =>
        obtain ⟨rfl, rfl⟩ := hrel
        go_wp2_with fail
        refine HSW.out.mono ?_
        rintro e w12 ⟨rfl, hb12⟩
        have HF := HFIN _ (HL11.out.below hb12)
        clear hb12
        go_wp2
        go_ret
        exact ⟨rfl, HF.out⟩
    · rw [hms] at h1; cases h1
  · rcases hv11 with ⟨h1, _⟩ | ⟨a', g, h1, rfl, _, hag⟩
    · rw [hms] at h1; cases h1
    · rw [hms] at h1; cases h1
      obtain ⟨ak, ap, as_, ast, ab, av, ad⟩ := a
      obtain ⟨hk, hp, hs1, hs2, hst, hd⟩ := hans
      simp only [] at hk hp hs1 hs2 hst hd hkL
      subst hp hst hd
      have HAG := Lib.hid hag; have HKL := Lib.hid hkL
      clear hag hkL hms
      go_wp2
      go_loopw [7, 15] (fun o i wr => ∃ k : Nat, i = .int .i64 k ∧ k ≤ 1 ∧ o = .bool true ∧ Hid (Below w11.heap.size w11 wr)) (fun _ i _ => 1 - (intOf i).toNat)
      case atStart => exact ⟨0, rfl, by omega, rfl, Lib.hid (Below.refl _ _)⟩
      case round =>
        obtain ⟨k, rfl, hk1, rfl, HB⟩ := hrel
        by_cases h0 : k = 0
        · subst h0
          obtain ⟨c0, c1, c2, c3, c4, c5, c6⟩ := (HM11.out.below HB.out).cells
          obtain ⟨d0, d1, d2, d3, d4, d5, d6⟩ := (HAG.out.below HB.out).cells
          simp only [] at d0 d1 d2 d3 d4 d5 d6
          have HIW := Lib.hid (HW11.out.below HB.out (Nat.le_refl _)); have HIN := Lib.hid (HN11.out.below HB.out (Nat.le_refl _))
          by_cases hk4 : ak = 4
          · have hLL := HKL.out hk4
            rw [hLL] at HIN
            have HSW : ∀ k, Hid (Calls Tryd.prog 20 #[vw, vn] (wr.drewN k) fun e w' => e = .returned (.bool true) ∧ Below (wr.drewN k).heap.size (wr.drewN k) w') := fun k => Lib.hid (same_items _ _ _ _ _ _ (HIW.out.below ((Below.refl _ wr).drewN k) (Nat.le_refl _)) (HIN.out.below ((Below.refl _ wr).drewN k) (Nat.le_refl _)))
            subst hk4
            clear hLL hk
            by_cases hse : as_ = m.seq
            · subst hse
              go_wp2_with fail
              first
                | (go_quiet (fail))
                | skip
              go_wp2_with fail
              first
                | refine (HSW _).out.mono ?_
                | refine (HSW 0).out.mono ?_
              rintro e w12 ⟨rfl, hb12⟩
              have HB12 := Lib.hid (below_then (HB.out.drewN _) hb12)
              clear hb12
              go_wp2
              go_roundw
              case rel => exact ⟨1, by go_num, by omega, rfl, HB12⟩
              case measure => simp [intOf]
            · have hsb : ((as_ : Int) == m.seq) = false := by simpa using hse
              clear hse
              go_wp2_with fail
              first
                | (go_quiet (fail))
                | skip
              go_wp2_with fail
              first
                | refine (HSW _).out.mono ?_
                | refine (HSW 0).out.mono ?_
              rintro e w12 ⟨rfl, hb12⟩
              have HB12 := Lib.hid (below_then (HB.out.drewN _) hb12)
              clear hb12
              go_wp2
              go_roundw
              case rel => exact ⟨1, by go_num, by omega, rfl, HB12⟩
              case measure => simp [intOf]
          · have hk3 : ak = 3 := by omega
            have hse : as_ = m.seq := by omega
            subst hk3 hse
            clear hk4 hk
            have HBD : Hid (∀ j, Below w11.heap.size w11 (wr.drewN j)) := Lib.hid (fun j => HB.out.drewN j)
            go_wp2_with fail
            first
              | (go_quiet (fail))
              | skip
            go_wp2
            go_roundw
            case rel => exact ⟨1, by go_num, by omega, rfl, by first | exact Lib.hid (HBD.out _) | exact HB⟩
            case measure => simp [intOf]
        · obtain rfl : k = 1 := by omega
          have HF := HFIN _ (HL11.out.below HB.out)
          go_wp2
          go_ret
          exact ⟨rfl, HF.out⟩
end Go.Proofs.YtnhpnipfledihaaDoor

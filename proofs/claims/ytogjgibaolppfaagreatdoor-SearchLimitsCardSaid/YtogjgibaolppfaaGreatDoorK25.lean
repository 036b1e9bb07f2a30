/- Facts and contracts for the laws of the sender, part 25. Conditions: those that each theorem names. -/
import Derived.Test.YtogjgibaolppfaaGreatDoorK22
import Derived.Test.YtogjgibaolppfaaGreatDoorK23
import Derived.Test.YtogjgibaolppfaaGreatDoorK24
/- search: Run. -/
namespace Go.Proofs.YtogjgibaolppfaaGreatDoor
open Go.RowKit Go.Sort Go.Proofs Go.Shelf Go.Lib Go.Maps Go.ChangeMaps Go.WideMaps

def RunEnd (R : Option (List Prt)) (D : List Dc) (n : Int) (e : Ending) (w' : World) : Prop :=
  match R with
  | none => e = .returned (.tuple #[.slice none 0 0, .int .i64 0, .int .i64 180])
  | some ps => ∃ v, e = .returned (.tuple #[v, .int .i64 ((resD D ps).length : Int), .int .i64 0]) ∧ HitsR 0 w' v ((resD D ps).take n.toNat)
def RunPost (R : Option (List Prt)) (D : List Dc) (n : Int) (w : World) (e : Ending) (w' : World) : Prop := Below w.heap.size w w' ∧ RunEnd R D n e w'
theorem run_upto_h {a : Option Addr} {n c k : Nat} (hk : k ≤ c) (W : World) : (Instr.slice 39 (.slice a n c) none (some (.int .i64 k)) none).run Tryz.prog W = .ok (.slice a k c) W := by
  have ht : Tryz.prog.underlying 39 = some (.slice (Tryz.prog.elem 39)) := by kernel_rfl
  have he : Tryz.prog.elem 39 = 64 := by kernel_rfl
  rw [run_slice_h W 39 a n c ht .i64 k (by omega) (by omega), he]
  have : (Go.sizeOf 64).run Tryz.prog W = .ok 2 W := Tryz.sizeOf64 W
  rw [this]
  simp only [Result.andThen]
  have h0 : (if c = 0 then a else a.map (·.add (0 * 2))) = a := by
    split
    · rfl
    · cases a with
      | none => rfl
      | some p => simp [Addr.add]
  show Result.ok (Value.slice (if c = 0 then a else a.map (·.add (0 * 2))) (k - 0) (c - 0)) W = _
  rw [h0]; rfl
set_option maxRecDepth 100000 in
set_option maxHeartbeats 4000000 in
theorem run_any {S Q : Nat → Prop} {N : Nat} {p : Nat} {D : List Dc} (w : World) (h : IdxAt S Q N w p D) (hN : N ≤ 1000000) (hE : Env w) (q : List UInt8) (hq : q.length ≤ 1000000) (n : Int) (_hn : -9223372036854775808 ≤ n ∧ n ≤ 9223372036854775807) :
    Calls Tryz.prog 20 #[.pointer (some ⟨p, 0, none⟩), .string ⟨q.toArray⟩, .int .i64 n] w (RunPost (parseP q) D n w) := by
  have hpa := parse_any q hq w hE
  have hok := fun l h => @parse_ok q l h
  obtain ⟨R, hR⟩ : ∃ R, parseP q = R := ⟨_, rfl⟩
  rw [hR] at hpa hok ⊢
  have HI := Lib.hid h
  have HP := Lib.hid hpa
  have HE := Lib.hid hE
  clear hR h hpa hE hq
  cases R with
  | none =>
    go_enter Tryz.func20, Tryz.ntmps20
    go_wp2_with (first
      | (go_at_call 16; (with_reducible (refine HP.out.mono ?_)); rintro e w1 ⟨hb1, rfl⟩)
      | fail)
    exact bodyPost_ret (v := .tuple #[.slice none 0 0, .int .i64 0, .int .i64 180]) (by simp [results, Tryz.results20, go_sem]) rfl ⟨hb1, rfl⟩
  | some ps =>
    obtain ⟨hok1, hps1, hps8⟩ := hok ps rfl
    have HOK := Lib.hid hok1
    clear hok hok1
    have hmm := @run_makeMap Tryz.prog
    obtain ⟨T, hT⟩ : ∃ T, RunPost (some ps) D n w = T := ⟨_, rfl⟩
    rw [hT]
    have HT := Lib.hid hT
    clear hT
    go_enter Tryz.func20, Tryz.ntmps20
    go_upto_region 6 with (first
      | (go_at_call 16; (with_reducible (refine HP.out.mono ?_)); rintro e w1 ⟨hb1, v1, P1, hP1, hpr1, rfl⟩; have HB1 := Lib.hid hb1; have HPR1 := Lib.hid hpr1; have HP1 := Lib.hid hP1; clear hb1 hpr1 hP1)
      | fail)
    have HI1 := Lib.hid (HI.out.below HB1.out)
    have HPA1 : Hid (PartsAt w1 v1 ps) := Lib.hid (by rw [← HP1.out]; exact HPR1.out.at)
    obtain ⟨a1, c1, hv1, hle1, hmx1, hpc1⟩ := HPA1.out.at
    subst hv1
    have HPC := Lib.hid hpc1
    have HALL := Lib.hid (all2_any w1 HI1.out)
    have hA := HI1.out.asc
    have hIds := HI1.out.ids
    have hSm := HI1.out.small
    have HA := Lib.hid hA; have HII := Lib.hid hIds; have HSM := Lib.hid hSm
    clear hpc1 hA hIds hSm HPR1 HP1 HPA1 HP
    go_upto_region 7 with (first
      | (go_at_call 43; (with_reducible (refine HALL.out.mono ?_)); rintro e w2 ⟨v2, rfl, hne2, hr2, hb2⟩; have HR2 := Lib.hid hr2; have HB2 := Lib.hid hb2; clear hr2 hb2)
      | fail)
    obtain ⟨gb, cap, hv2⟩ : ∃ gb cap, v2 = .slice (some ⟨gb, 0, none⟩) (D.map (·.1)).length cap := by
      rcases HR2.out.2 with ⟨h0, _⟩ | ⟨g, c, cur, h0, _⟩
      · exact absurd h0 hne2
      · exact ⟨g, c, h0⟩
    subst hv2
    have hgb : w1.heap.size ≤ gb ∧ gb < w2.heap.size := HR2.out.lt gb rfl
    clear hne2 HALL
    have hE1 := Lib.hid (HE.out.below HB1.out)
    obtain ⟨M, hM⟩ : ∃ M, w1.heap.size = M := ⟨_, rfl⟩
    obtain ⟨w3, hw3⟩ : ∃ w3, w2.alloc (.map #[] 0) = w3 := ⟨_, rfl⟩
    obtain ⟨bs, hbs⟩ : ∃ bs, w2.heap.size = bs := ⟨_, rfl⟩
    have HM3 : Hid (IM bs (256 * 0) (cntM (sumD D (ps.take 0))) w3) := Lib.hid (by
      have e : cntM (sumD D (ps.take 0)) = fun _ => none := by
        funext id
        have : sumD D [] id = 0 := by
          unfold sumD docsF
          cases wordsAt D id <;> simp [sumL]
        simp [cntM, this]
      rw [e, ← hw3, ← hbs]; exact RMap.new w2)
    have HR3 : Hid (w3.ownsRow M 3 1 (.slice (some ⟨gb, 0, none⟩) (idsD D (ps.take 0)).length cap) (idsD D (ps.take 0)).length ((idsD D (ps.take 0)).map (Value.int .i64))) := Lib.hid (by
      rw [List.take_zero, idsD_nil, ← hM, ← hw3]; exact World.ownsRow.alloc HR2.out _)
    have HB3 : Hid (Below M w1 w3) := Lib.hid (by rw [← hM, ← hw3]; exact HB2.out.alloc HB2.out.size _)
    have hlen0 : (D.map (·.1)).length = (idsD D (ps.take 0)).length := by rw [List.take_zero, idsD_nil]
    have hMbs : M ≤ bs ∧ gb < bs ∧ M ≤ gb := by omega
    have HMS := Lib.hid hM
    have HLE0 := Lib.hid hlen0
    have hwp := hw3
    clear hgb hM HR2 HB2 hlen0
    go_wp2_with fail
    clear hwp
    obtain ⟨L0, hL0⟩ : ∃ L0, (D.map (·.1)).length = L0 := ⟨_, rfl⟩
    rw [hL0] at HLE0 ⊢
    clear hL0
    go_loopw [11, 38] (fun v11 v38 wr => ∃ k : Nat, v38 = .int .i64 k ∧ v11 = .slice (some ⟨gb, 0, none⟩) (idsD D (ps.take k)).length cap ∧ k ≤ ps.length ∧ Hid (wr.ownsRow M 3 1 (.slice (some ⟨gb, 0, none⟩) (idsD D (ps.take k)).length cap) (idsD D (ps.take k)).length ((idsD D (ps.take k)).map (Value.int .i64))) ∧ Hid (IM bs (256 * k) (cntM (sumD D (ps.take k))) wr) ∧ Hid (Below M w1 wr)) (fun _ v38 _ => ps.length - (intOf v38).toNat)
    case atStart => exact ⟨0, rfl, by rw [HLE0.out], Nat.zero_le _, HR3, HM3, HB3⟩
    case round =>
      clear HM3 HR3 HB3 HLE0 hw3
      obtain ⟨k, rfl, rfl, hk, HR, HMr, HB⟩ := hrel
      have HBW : Hid (Below w1.heap.size w1 wr) := Lib.hid (by rw [HMS.out]; exact HB.out)
      by_cases hkl : k < ps.length
      · have hki : (k : Int) < (ps.length : Int) := by omega
        obtain ⟨b0, off0, uw, ha0, ck0, ck1, ck2, hwo⟩ := HPC.out k hkl
        subst ha0
        replace ck0 := (HBW.out.cell (World.block_lt_of_cell? w1 _ ck0)).trans ck0
        replace ck1 := (HBW.out.cell (World.block_lt_of_cell? w1 _ ck1)).trans ck1
        replace ck2 := (HBW.out.cell (World.block_lt_of_cell? w1 _ ck2)).trans ck2
        have hwo2 := hwo.below HBW.out
        have hpt := HOK.out ps[k] (List.getElem_mem hkl)
        have HSUC : Hid (∀ id, sumD D (ps.take (k + 1)) id = sumD D (ps.take k) id + if (ps[k]).neg = true then 0 else cD D ps[k] id) := Lib.hid (sumD_cut hkl)
        have HIDS : Hid ((idsD D (ps.take k)).filter (fun id => !((decide (0 < cD D ps[k] id)) == (ps[k]).neg)) = idsD D (ps.take (k + 1))) := Lib.hid (by
          rw [List.take_succ_eq_append_getElem hkl]; exact idsD_snoc HA.out _ _)
        have HOKT : Hid (∀ x ∈ ps.take k, okPrt x) := Lib.hid (fun x hx => HOK.out x (List.mem_of_mem_take hx))
        obtain ⟨pt, hpte⟩ : ∃ pt, ps[k] = pt := ⟨_, rfl⟩
        rw [hpte] at ck0 ck2 hwo2 hpt HSUC HIDS
        obtain ⟨ua, uc, huw⟩ := hwo2.form
        subst huw
        have HWO := Lib.hid hwo2
        have HPT := Lib.hid hpt
        have hMr : M ≤ wr.heap.size := by rw [← HMS.out]; exact HBW.out.size
        clear hwo hwo2 hpt hpte
        have HCK0 := Lib.hid ck0; have HCK2 := Lib.hid ck2
        go_upto_region 12 with fail
        clear ck0 ck1 ck2
        obtain ⟨A, hA⟩ : ∃ A, wr.heap.size = A := ⟨_, rfl⟩
        obtain ⟨wA, hwA⟩ : ∃ wA, ((wr.alloc (.cells #[.int .i64 (pt.kind : Int), .slice ua pt.words.length uc, .bool pt.neg] 53)).alloc (.map #[] 0)).alloc (.cells #[.map (some (A + 1))] 81) = wA := ⟨_, rfl⟩
        have hs1 : (wr.alloc (.cells #[.int .i64 (pt.kind : Int), .slice ua pt.words.length uc, .bool pt.neg] 53)).heap.size = A + 1 := by rw [← hA]; simp
        have hs2 : ((wr.alloc (.cells #[.int .i64 (pt.kind : Int), .slice ua pt.words.length uc, .bool pt.neg] 53)).alloc (.map #[] 0)).heap.size = A + 2 := by rw [← hA]; simp
        have hsA : wA.heap.size = A + 3 := by rw [← hwA, ← hA]; simp
        have hbA : Below wr.heap.size wr wA := by rw [← hwA]; exact (((Below.refl _ wr).alloc (Nat.le_refl _) _).alloc (by rw [hs1]; omega) _).alloc (by rw [hs2]; omega) _
        have hP0 : wA.heap[A]? = some (.cells #[.int .i64 (pt.kind : Int), .slice ua pt.words.length uc, .bool pt.neg] 53 (0, 0)) := by
          rw [← hwA, heap_alloc_old _ _ (by rw [hs2]; omega), heap_alloc_old _ _ (by rw [hs1]; omega), ← hA]; exact heap_alloc_new wr _
        have hM0 : IM (A + 1) 0 (cntM (cJ D pt 0)) wA := by
          have e : cntM (cJ D pt 0) = fun _ => none := by rw [cJ_zero]; funext id; simp [cntM]
          have h := RMap.new (κ := Int) (K := Lit.int .i64) (k := 3) (wr.alloc (.cells #[.int .i64 (pt.kind : Int), .slice ua pt.words.length uc, .bool pt.neg] 53))
          rw [hs1] at h
          rw [e]
          exact h.kept (by rw [← hwA]; exact heap_alloc_old _ _ (by rw [hs2]; omega))
        have hB0 : wA.heap[A + 2]? = some (.cells #[.map (some (A + 1))] 81 (0, 0)) := by
          rw [← hwA, ← hs2]; exact heap_alloc_new _ _
        have HBA := Lib.hid hbA; have HP0 := Lib.hid hP0; have HM0 := Lib.hid hM0; have HB0 := Lib.hid hB0
        have HIA := HI1.out.below (HBW.out.trans (hbA.mono HBW.out.size))
        have HH := Lib.hid (hitsP_any wA HIA hN pt HPT.out ua pt.words.length uc (HWO.out.below hbA))
        have l0 : wA.cell? ⟨A, 0, none⟩ = some (.int .i64 (pt.kind : Int)) := by rw [Lib.cell_of_heap hP0]; rfl
        have l1 : wA.cell? ⟨A, 1, none⟩ = some (.slice ua pt.words.length uc) := by rw [Lib.cell_of_heap hP0]; rfl
        have l2 : wA.cell? ⟨A, 2, none⟩ = some (.bool pt.neg) := by rw [Lib.cell_of_heap hP0]; rfl
        rw [hA, hwA]
        have HAE := Lib.hid hA
        clear hA hwA hs1 hs2 hbA hP0 hM0 hB0 HIA
        go_wp2_with (first
          | (go_at_call 44; (with_reducible (refine HH.out.mono ?_)); rintro e wB ⟨vh, rfl, hrh, hbB⟩; have HRH := Lib.hid hrh; have HBB := Lib.hid hbB; obtain ⟨ah, ch, hvh⟩ := row_form hrh; subst hvh; clear hrh hbB)
          | fail)
        have hHL := hitsP_len D pt
        obtain ⟨H, hH⟩ : ∃ H, hitsP D pt = H := ⟨_, rfl⟩
        have HHE := Lib.hid hH
        rw [hH] at HRH hHL ⊢
        have hMB0 : IM (A + 1) 0 (cntM (cJ D pt 0)) wB := HM0.out.kept (HBB.out.block _ (by omega))
        have HMB0 := Lib.hid hMB0
        have HBC : Hid (wB.cell? ⟨A + 2, 0, none⟩ = some (.map (some (A + 1)))) := Lib.hid (by
          rw [HBB.out.cell (p := ⟨A + 2, 0, none⟩) (by show A + 2 < wA.heap.size; omega), Lib.cell_of_heap HB0.out]; rfl)
        have hsB : A + 3 ≤ wB.heap.size := by have := HBB.out.size; omega
        clear hH hMB0 l0 l1 l2 HH
        go_loopw [47] (fun v47 wx => ∃ j : Nat, v47 = .int .i64 j ∧ j ≤ H.length ∧ Hid (IM (A + 1) j (cntM (cJ D pt j)) wx) ∧ Hid (But (fun k => k = A + 1) wB.heap.size wB wx)) (fun v47 _ => H.length - (intOf v47).toNat)
        case atStart => exact ⟨0, rfl, Nat.zero_le _, HMB0, Lib.hid (But.of_below (Below.refl _ _))⟩
        case round =>
          clear HMB0
          obtain ⟨j, rfl, hj, HMj, HBj⟩ := hrel
          by_cases hjl : j < H.length
          · have hji : (j : Int) < (H.length : Int) := by omega
            obtain ⟨a', c', e', -, -, hc⟩ := HRH.out.at
            injection e' with e1 e2 e3
            subst e1; subst e3
            obtain ⟨bh, offh, rfl, g0, g1⟩ := hc j hjl
            have hbh := (HRH.out.lt bh rfl).1
            have hsx := HBj.out.size
            have gl0 := World.block_lt_of_cell? wB _ g0
            have hq := HBj.out.block bh gl0 (by show ¬ (bh = A + 1); omega)
            replace g0 := (World.cell?_of_block (a := ⟨bh, offh + j * 2, none⟩) hq).trans g0
            replace g1 := (World.cell?_of_block (a := ⟨bh, offh + (j * 2 + 1), none⟩) hq).trans g1
            rw [← Nat.add_assoc] at g1
            have hbox : wr.cell? ⟨A + 2, 0, none⟩ = some (.map (some (A + 1))) := (World.cell?_of_block (a := ⟨A + 2, 0, none⟩) (HBj.out.block (A + 2) (by omega) (by show ¬ (A + 2 = A + 1); omega))).trans HBC.out
            have hput0 := fun (x : Int × Nat) (hx : H[j] = x) => cJ_put (D := D) (p := pt) (j := j) (by rw [HHE.out]; exact hjl) (x := x) (by rw [← hx]; simp only [HHE.out])
            have hxm := mem_hitsP (D := D) (p := pt) (x := H[j]) (by rw [HHE.out]; exact List.getElem_mem hjl)
            obtain ⟨⟨id, ct⟩, hx⟩ : ∃ x, H[j] = x := ⟨_, rfl⟩
            have hput1 := hput0 _ hx
            rw [hx] at g0 g1 hxm
            simp only at g0 g1 hxm hput1
            obtain ⟨ctz, hct⟩ : ∃ z : Int, (ct : Int) = z := ⟨_, rfl⟩
            rw [hct] at g1 hput1
            have hMa : IM (A + 1) j (cntM (cJ D pt j)) (wr.alloc (.cells #[.int .i64 id, .int .i64 ctz] 64)) := HMj.out.kept (heap_alloc_old wr _ HMj.out.lt)
            have hboxa : (wr.alloc (.cells #[.int .i64 id, .int .i64 ctz] 64)).cell? ⟨A + 2, 0, none⟩ = some (.map (some (A + 1))) := Lib.cell?_alloc_some _ hbox
            obtain ⟨w5, hput, hM5, hg5⟩ := hMa.put int_inj (by unfold maxLen; omega) intKeys (t := 81) Tryz.underlying81 (intKey (i := id) (by omega) (by omega)) (.int .i64 ctz)
            rw [hput1] at hM5
            have HM5 := Lib.hid hM5
            have HB5 : Hid (But (fun k => k = A + 1) wB.heap.size wB w5) := Lib.hid ((HBj.out.trans ((But.of_below ((Below.refl _ wr).alloc (Nat.le_refl _) _)).mono hsx)).trans (But.grown hg5 (by simp; omega) rfl))
            clear hput0 hput1 hx hct hxm hM5 hg5 hMa hbox hq gl0 hc
            go_wp2_with fail
            go_roundw
            case rel => exact ⟨j + 1, by go_num, by omega, HM5, HB5⟩
            case measure => simp [intOf]; omega
          · obtain rfl : j = H.length := by omega
            have hcj : cJ D pt H.length = cD D pt := by rw [← HHE.out]; exact cJ_all HA.out HII.out pt
            have HMc : Hid (IM (A + 1) 256 (cntM (cD D pt)) wr) := Lib.hid (by rw [← hcj]; exact HMj.out.mono hHL)
            have hsx := HBj.out.size
            have hgA : gb < A := by rw [← HAE.out]; exact (HR.out.lt gb rfl).2
            have hbsA : bs < A := by rw [← HAE.out]; exact HMr.out.lt
            have hkeep : ∀ i, i < wB.heap.size → i ≠ A + 1 → wr.heap[i]? = wB.heap[i]? := fun i h1 h2 => HBj.out.block i h1 h2
            have hk1 : ∀ i, i < A → wr.heap[i]? = _ := fun i h1 => (hkeep i (by omega) (by omega)).trans ((HBB.out.block i (by omega)).trans (HBA.out.block i (by rw [HAE.out]; exact h1)))
            have HRx := Lib.hid (row_stay HR.out (w' := wr) fun i hi => hk1 i (by have := (HR.out.lt i hi).2; rw [HAE.out] at this; exact this))
            have HMx := Lib.hid (HMr.out.kept (hk1 bs hbsA))
            have HP2 : Hid (wr.cell? ⟨A, 2, none⟩ = some (.bool pt.neg)) := Lib.hid (by
              rw [Lib.cell_of_heap ((hkeep A (by omega) (by omega)).trans ((HBB.out.block A (by omega)).trans HP0.out))]; rfl)
            have HX2 : Hid (wr.cell? ⟨A + 2, 0, none⟩ = some (.map (some (A + 1)))) := Lib.hid ((World.cell?_of_block (a := ⟨A + 2, 0, none⟩) (hkeep (A + 2) (by omega) (by omega))).trans HBC.out)
            have hidr : ∀ x ∈ idsD D (ps.take k), -9223372036854775808 ≤ x ∧ x ≤ 9223372036854775807 := fun x hx => by have := mem_idsD HII.out hx; omega
            have hdel := del_ids (A + 2) A (A + 1) 256 M gb cap (cD D pt) pt.neg (idsD D (ps.take k)) wr hidr HX2.out HP2.out HMc.out HRx.out (by omega) (by omega) (by omega)
            rw [HIDS.out] at hdel
            have HDEL := Lib.hid hdel
            have HBx : Hid (Below M w1 wr) := Lib.hid ((((HB.out.trans (HBA.out.mono (by omega))).trans (HBB.out.mono (by omega)))).trans (HBj.out.below (by omega) (fun i hi => by rw [hi]; omega)))
            clear hcj hk1 hkeep hidr hdel HBj HMj HR HMr HB HBA HBB HP0 HM0 HB0 HBC HWO
            go_upto_region 18 with (first
              | (go_at_call 45; (with_reducible (refine HDEL.out.mono ?_)); rintro e wD ⟨rfl, hod, hbd⟩; have HOD := Lib.hid hod; have HBD := Lib.hid hbd; clear hod hbd)
              | fail)
            have hsD : wr.heap.size ≤ wD.heap.size := HBD.out.size
            have hbkD : ∀ i, i < wr.heap.size → i ≠ gb → wD.heap[i]? = wr.heap[i]? := fun i h1 h2 => HBD.out.block i h1 h2
            have c2 : wD.cell? ⟨A, 2, none⟩ = some (.bool pt.neg) := (World.cell?_of_block (a := ⟨A, 2, none⟩) (hbkD A (by omega) (by omega))).trans HP2.out
            have cB : wD.cell? ⟨A + 2, 0, none⟩ = some (.map (some (A + 1))) := (World.cell?_of_block (a := ⟨A + 2, 0, none⟩) (hbkD (A + 2) (by omega) (by omega))).trans HX2.out
            have hDc : IM (A + 1) 256 (cntM (cD D pt)) wD := HMc.out.kept (hbkD _ (by omega) (by omega))
            have HMD := Lib.hid (HMx.out.kept (hbkD bs (by omega) (by omega)))
            have HBDx : Hid (Below M w1 wD) := Lib.hid (HBx.out.trans (HBD.out.below (by omega) (fun i hi => by rw [hi]; omega)))
            clear hbkD HBD HP2 HX2 HMc HMx HRx HBx HDEL
            cases hng : pt.neg with
            | true =>
              have hse : cntM (sumD D (ps.take k)) = cntM (sumD D (ps.take (k + 1))) := by
                congr 1
                funext id
                rw [HSUC.out id, hng, if_pos rfl]; rfl
              have HM9 : Hid (IM bs (256 * (k + 1)) (cntM (sumD D (ps.take (k + 1)))) wD) := Lib.hid (by rw [← hse]; exact HMD.out.mono (by omega))
              rw [hng] at c2
              clear hse HMD hDc hng
              go_wp2_with fail
              go_roundw
              case rel => exact ⟨k + 1, by go_num, rfl, by omega, HOD, HM9, HBDx⟩
              case measure => simp [intOf]; omega
            | false =>
              rw [hng] at c2
              have HSU : Hid (∀ id, sumD D (ps.take (k + 1)) id = sumD D (ps.take k) id + cD D pt id) := Lib.hid (fun id => by rw [HSUC.out id, hng, if_neg (by decide)])
              have HCY : Hid (∀ id, cD D pt id ≤ 1000) := Lib.hid (fun id => cD_le HA.out HSM.out HPT.out id)
              have HSL : Hid (∀ id, sumD D (ps.take k) id ≤ 8000) := Lib.hid (fun id => sumD_le HA.out HSM.out HOKT.out (by rw [List.length_take]; omega) id)
              have HCP : Hid (∀ id, 0 < cD D pt id → 1 ≤ id ∧ id ≤ 256) := Lib.hid (fun id h => cD_pos HA.out HII.out h)
              obtain ⟨cy, hcy⟩ : ∃ f, cD D pt = f := ⟨_, rfl⟩
              obtain ⟨sm, hsm⟩ : ∃ f, sumD D (ps.take k) = f := ⟨_, rfl⟩
              obtain ⟨sn, hsn⟩ : ∃ f, sumD D (ps.take (k + 1)) = f := ⟨_, rfl⟩
              rw [hcy] at hDc HSU HCY HCP
              rw [hsm] at HSU HSL HMD
              rw [hsn] at HSU
              have HSN := Lib.hid hsn
              obtain ⟨DD, hDi, hfi⟩ := hDc
              have HF := Lib.hid hfi
              clear hcy hsm hsn hfi hng HSUC
              go_wp2_with (at_range; refine wpList_range_own _ rfl _ 81 rfl 3 3 intKeys Tryz.underlying81 _ (A + 1) 256 _ rfl hDi ?_; intro w4 hrg0 hg0 hs0)
              have HB4 : Hid (Below M w1 w4) := Lib.hid (HBDx.out.grown hg0 (by omega) (fun j hj => by cases hj))
              have HM4 : Hid (IM bs (256 * k) (cntM sm) w4) := Lib.hid (HMD.out.kept (hg0.block _ HMD.out.lt (by simp)))
              have HO4 : Hid (w4.ownsRow M 3 1 (.slice (some ⟨gb, 0, none⟩) (idsD D (ps.take (k + 1))).length cap) (idsD D (ps.take (k + 1))).length ((idsD D (ps.take (k + 1))).map (Value.int .i64))) := Lib.hid (row_stay HOD.out fun j hj => hg0.block j (HOD.out.lt j hj).2 (by simp))
              clear hg0 hs0 hDi HMD HOD HBDx
              obtain ⟨rB, hrB⟩ : ∃ n, wD.heap.size = n := ⟨_, rfl⟩
              have hrBA : A + 3 ≤ rB := by omega
              rw [hrB] at hrg0 ⊢
              clear hrB c2 cB hsD hsx hsB
              go_frame
              go_loopw [18] (fun _ wq => ∃ (left : Lit → Bool) (cnt : Nat) (done : List Int), wq.ranges Tryz.prog 3 rawE (A + 1) rB 256 DD left cnt ∧ Hid (Left (Lit.int .i64) (cntM cy) left done) ∧ Hid (done.Nodup ∧ ∀ x ∈ done, 0 < cy x) ∧ Hid (IM bs (256 * k + done.length) (cntM (addD sm cy done)) wq) ∧ Hid (Below M w1 wq) ∧ Hid (wq.ownsRow M 3 1 (.slice (some ⟨gb, 0, none⟩) (idsD D (ps.take (k + 1))).length cap) (idsD D (ps.take (k + 1))).length ((idsD D (ps.take (k + 1))).map (Value.int .i64)))) (fun _ wq => wq.rangeLeft (A + 1) rB)
              case atStart => exact ⟨_, _, [], hrg0, Lib.hid (Left.start HF.out), Lib.hid ⟨.nil, fun x hx => by cases hx⟩, Lib.hid (by
                have : addD sm cy [] = sm := by funext id; simp [addD]
                rw [this]; exact HM4.out), HB4, HO4⟩
              case round =>
                clear HM4 HB4 HO4 hrg0
                obtain ⟨left, cnt, done, hrg, HL, HN, HMq, HBq, HOq⟩ := hrel
                go_wp2_with (at_next; refine wpList_next_ranges _ rfl _ rfl 3 intKeys rawE (Value.int .i64) id (fun key kl hkey => by obtain ⟨x, rfl, _⟩ := Maps.keyOf_int_inv Tryz.underlying3 hkey; exact ⟨x, rfl⟩) (fun v y _ => ⟨v, rfl⟩) (A + 1) rB 256 _ _ _ rfl hrg ?_ ?_)
                · intro _ hl0
                  have hmem : ∀ x, 0 < cy x → x ∈ done := fun x h => HL.out.done hl0 x (cntM_isSome.2 h)
                  have hlen2 := done_len HN.out.1 HN.out.2 HCP.out
                  have heq : addD sm cy done = sn := by
                    funext id
                    rw [HSU.out id]
                    unfold addD
                    by_cases hm : id ∈ done
                    · rw [if_pos hm]
                    · rw [if_neg hm]
                      cases hc : cy id with
                      | zero => rfl
                      | succ n => exact absurd (hmem id (by omega)) hm
                  have HM5 : Hid (IM bs (256 * (k + 1)) (cntM (sumD D (ps.take (k + 1)))) wr) := Lib.hid (by rw [HSN.out, ← heq]; exact HMq.out.mono (by omega))
                  clear heq hmem
                  go_wp2_with fail
                  go_roundw
                  case rel => exact ⟨k + 1, by go_num, rfl, by omega, HOq, HM5, HBq⟩
                  case measure => simp [intOf]; omega
                · intro z cv kl y1 y2 w2 cnt2 hkey hlk hry hat hrg2 hlt hg2 hs2 hen
                  obtain ⟨z', ez, rfl, hwz⟩ := Maps.keyOf_int_inv Tryz.underlying3 hkey
                  cases ez
                  cases hry
                  obtain ⟨hcx, hnm⟩ := HL.out.value HF.out hlk hat
                  obtain ⟨hc0, rfl⟩ := cntM_some hcx
                  have hz := HCP.out z hc0
                  have hbr : rB ≠ A + 1 := hrg.ne
                  have hMw2 : IM bs (256 * k + done.length) (cntM (addD sm cy done)) w2 := HMq.out.kept (hg2.block _ HMq.out.lt (by simp; omega))
                  have hMle := HBq.out.size
                  rw [HMS.out] at hMle
                  have HB2w : Hid (Below M w1 w2) := Lib.hid (HBq.out.grown hg2 (by omega) (fun j hj => by cases hj; omega))
                  have HO2w := Lib.hid (row_stay HOq.out (w' := w2) fun j hj => hg2.block j (HOq.out.lt j hj).2 (by rw [show j = gb by simpa [Value.ownBlock] using hj.symm]; simp; omega))
                  have hdl := done_len HN.out.1 HN.out.2 HCP.out
                  have hold : addD sm cy done z = sm z := by unfold addD; rw [if_neg hnm]; rfl
                  have hget2 := hMw2.get intKeys (t := 81) Tryz.underlying81 (Tryz.zeroValue3 w2) (intKey (i := z) (by omega) (by omega))
                  obtain ⟨w5, hput, hM5, hg5⟩ := hMw2.put int_inj (by unfold maxLen; omega) intKeys (t := 81) Tryz.underlying81 (intKey (i := z) (by omega) (by omega)) (.int .i64 ((sm z : Int) + (cy z : Int)))
                  have hpd := addD_put (base := sm) hnm hc0
                  rw [hpd] at hM5
                  rw [cntM_getD, hold] at hget2
                  have hrg5 := hrg2.kept hg5 (by simp; omega) (by simp; omega)
                  have HB5 : Hid (Below M w1 w5) := Lib.hid (HB2w.out.grown hg5 (by have h7 := HB2w.out.size; rw [HMS.out] at h7; omega) (fun j hj => by cases hj; omega))
                  have HO5 := Lib.hid (row_stay HO2w.out (w' := w5) fun j hj => hg5.block j (HO2w.out.lt j hj).2 (by rw [show j = gb by simpa [Value.ownBlock] using hj.symm]; simp; omega))
                  have HM5 : Hid (IM bs (256 * k + (done ++ [z]).length) (cntM (addD sm cy (done ++ [z]))) w5) := Lib.hid (by
                    rw [List.length_append]; exact hM5)
                  have HL5 : Hid (Left (Lit.int .i64) (cntM cy) (fun q => left q && !q.sameKey (.int .i64 z)) (done ++ [z])) := Lib.hid (HL.out.next int_same z)
                  have HN5 : Hid ((done ++ [z]).Nodup ∧ ∀ y ∈ done ++ [z], 0 < cy y) := Lib.hid ⟨by
                      rw [List.nodup_append]; exact ⟨HN.out.1, by simp, fun a ha b hb e => by simp at hb; subst hb; exact hnm (e ▸ ha)⟩, fun y hy => by
                      rcases List.mem_append.1 hy with h | h
                      · exact HN.out.2 y h
                      · simp at h; subst h; exact hc0⟩
                  have HRE := Lib.hid hrg5.left_eq; have HRL := Lib.hid hrg.left_eq
                  have hm1 := HSL.out z
                  have hm2 := HCY.out z
                  obtain ⟨m1, hm1e⟩ : ∃ m : Int, ((sm z : Nat) : Int) = m := ⟨_, rfl⟩
                  obtain ⟨m2, hm2e⟩ : ∃ m : Int, ((cy z : Nat) : Int) = m := ⟨_, rfl⟩
                  have hb1 : 0 ≤ m1 ∧ m1 ≤ 8000 := by omega
                  have hb2 : 0 ≤ m2 ∧ m2 ≤ 1000 := by omega
                  rw [hm1e] at hget2
                  rw [hm1e, hm2e] at hput
                  have HE2 := Lib.hid hm2e
                  rw [hm2e] at hen ⊢
                  clear hM5 hg5 hg2 hs2 hold hpd hMw2 hm1e hm2e hm1 hm2 hrg2 hrg
                  go_wp2_with fail
                  go_roundw
                  case rel => exact ⟨_, _, _, hrg5, HL5, HN5, HM5, HB5, HO5⟩
                  case measure => rw [HRE.out, HRL.out]; exact hlt
      · obtain rfl : k = ps.length := by omega
        obtain ⟨i0, hi, hz0, hz1, hz2⟩ := info_parts infoHit
        have hMw := HB.out.size
        rw [HMS.out] at hMw
        have hRX : wr.ownsRow M 3 1 (.slice (some ⟨gb, 0, none⟩) (idsD D ps).length cap) (idsD D ps).length ((idsD D ps).map (Value.int .i64)) := by have := HR.out; rw [List.take_length] at this; exact this
        have hMX : IM bs 2048 (cntM (sumD D ps)) wr := by have := HMr.out.mono (m := 2048) (by omega); rw [List.take_length] at this; exact this
        have hXl := ids_le HA.out HII.out ps
        have HSL : Hid (∀ id, sumD D ps id ≤ 8000) := Lib.hid (fun id => sumD_le HA.out HSM.out HOK.out hps8 id)
        have HXI : Hid (∀ x ∈ idsD D ps, 1 ≤ x ∧ x ≤ 256) := Lib.hid (fun x hx => mem_idsD HII.out hx)
        have HFO : Hid ((idsD D ps).map (fun id => (id, sumD D ps id)) = foundD D ps) := Lib.hid (found_ids HA.out ps)
        have HRE := Lib.hid (fun l hp hs => @res_eq D HA.out ps l hp hs)
        rw [List.take_length]
        obtain ⟨X, hX⟩ : ∃ X, idsD D ps = X := ⟨_, rfl⟩
        rw [hX] at hRX hXl HXI HFO ⊢
        obtain ⟨sm, hsm⟩ : ∃ f, sumD D ps = f := ⟨_, rfl⟩
        rw [hsm] at hMX HSL HFO
        have HRX := Lib.hid hRX; have HMX := Lib.hid hMX
        have hgW := (hRX.lt gb rfl).2
        have hbW := hMX.lt
        clear hX hsm hRX hMX HR HMr HPC HBW
        obtain ⟨F, hF⟩ : ∃ F, wr.heap.size = F := ⟨_, rfl⟩
        go_wp2_with (at_make; refine wpList_make_own _ rfl _ _ 39 rfl wr.heap.size 64 i0 _ 2 Tryz.underlying39 hi hz0 hz1 .i64 .i64 _ X.length rfl rfl rfl ?b2 ?b3 ?b4 ?_)
        case b2 => rw [hz2]; omega
        case b3 => unfold maxLen; omega
        case b4 => omega
        intro wF ho1 hg1
        have HBF : Hid (Below F wr wF) := Lib.hid (by rw [← hF]; exact (Below.refl _ wr).grown hg1 (Nat.le_refl _) (fun j hj => by cases hj))
        have HF0 : Hid (HitsR F wF (.slice (some ⟨F, 0, none⟩) 0 X.length) ((X.take 0).map fun id => (id, sm id))) := Lib.hid (by
          rw [List.take_zero]
          exact ho1)
        have HFE := Lib.hid hF
        obtain ⟨wT, hwT⟩ : ∃ wT, wr = wT := ⟨_, rfl⟩
        rw [hwT] at HB HRX HMX hgW hbW HFE hMw HBF
        clear ho1 hg1 hF hwT HI1 hE1 _hn
        go_wp2_with fail
        go_loopw [20, 81] (fun v20 v81 wx => ∃ j : Nat, v81 = .int .i64 j ∧ j ≤ X.length ∧ Hid (HitsR F wx v20 ((X.take j).map fun id => (id, sm id))) ∧ Hid (Below F wT wx)) (fun _ v81 _ => X.length - (intOf v81).toNat)
        case atStart => exact ⟨0, rfl, Nat.zero_le _, HF0, HBF⟩
        case round =>
          clear HF0 HBF
          obtain ⟨j, rfl, hj, HHr, HBr⟩ := hrel
          have hBW := HBr.out
          rw [← HFE.out] at hBW
          by_cases hjl : j < X.length
          · have hji : (j : Int) < (X.length : Int) := by omega
            have hxi := HXI.out _ (List.getElem_mem hjl)
            have gx : wr.cell? ⟨gb, j, none⟩ = some (.int .i64 X[j]) := by
              have h1 := HRX.out.cells rfl j (.int .i64 X[j]) (by rw [List.getElem?_map, List.getElem?_eq_getElem hjl]; rfl)
              have h2 : ((⟨gb, 0, none⟩ : Addr).add j) = ⟨gb, j, none⟩ := by unfold Addr.add; by_cases h0 : j = 0 <;> simp [h0]
              rw [h2] at h1
              exact (hBW.cell (World.block_lt_of_cell? wT _ h1)).trans h1
            have hsuc : (X.take (j + 1)).map (fun id => (id, sm id)) = (X.take j).map (fun id => (id, sm id)) ++ [(X[j], sm X[j])] := by
              rw [List.take_succ_eq_append_getElem hjl, List.map_append]; rfl
            have hmw := HMX.out.kept (hBW.block bs hbW)
            obtain ⟨x, hx⟩ : ∃ x, X[j] = x := ⟨_, rfl⟩
            rw [hx] at hxi gx hsuc
            have hget := hmw.get intKeys (t := 81) Tryz.underlying81 (Tryz.zeroValue3 wr) (intKey (i := x) (by omega) (by omega))
            rw [cntM_getD] at hget
            have hsx := HSL.out x
            have HSU := Lib.hid hsuc
            have hll : ((X.take j).map fun id => (id, sm id)).length = j := by rw [List.length_map, List.length_take]; omega
            obtain ⟨L, hL⟩ : ∃ L, (X.take j).map (fun id => (id, sm id)) = L := ⟨_, rfl⟩
            rw [hL] at HSU hll HHr
            obtain ⟨ct, hct⟩ : ∃ ct, sm x = ct := ⟨_, rfl⟩
            rw [hct] at hget HSU hsx
            have HT' := HHr.out
            unfold HitsR at HT'
            have hbs2 := hBW.size
            obtain ⟨af, cf, hvf⟩ := row_form HT'
            subst hvf
            have hFle : F ≤ wr.heap.size := by rw [← HFE.out]; exact hbs2
            have hLb : L.length ≤ 256 := by omega
            clear hx hL hct hsuc hmw HHr hll
            go_wp2_with (at_builtin; refine wpList_append_own _ rfl _ _ 39 rfl F 64 i0 _ 2 16 Tryz.underlying39 hi hz0 hz1 hz2 rfl (by decide) _ _ _ rfl (HT'.alloc _) ⟨wr.heap.size, 0, none⟩ 1 1 [.int .i64 x, .int .i64 ct] rfl rfl (World.news_of_block (cs := #[.int .i64 x, .int .i64 ct]) (t := 64) (fr := (0, 0)) (heap_alloc_new wr _)) (by simp [Value.oneCell']) ?c3 ?c4 ?c5 ?_)
            case c3 => unfold maxLen; omega
            case c4 => omega
            case c5 => simp; omega
            intro v' w5 hown' hgrow _
            have HT5 : Hid (HitsR F w5 v' ((X.take (j + 1)).map fun id => (id, sm id))) := Lib.hid (by
              rw [HSU.out]
              unfold HitsR
              simpa [List.flatMap_append, hitC] using hown')
            have HB5 : Hid (Below F wT w5) := Lib.hid ((HBr.out.alloc hFle _).grown hgrow (by simp; omega) (fun j e => (HT'.lt j e).1))
            clear hown' hgrow HT'
            go_wp2_with fail
            go_roundw
            case rel => exact ⟨j + 1, by go_num, by omega, HT5, HB5⟩
            case measure => simp [intOf]; omega
          · obtain rfl : j = X.length := by omega
            have hfr := HHr.out
            rw [List.take_length, HFO.out] at hfr
            obtain ⟨FD, hFD⟩ : ∃ FD, foundD D ps = FD := ⟨_, rfl⟩
            have hFl : FD.length ≤ 256 := by rw [← hFD, ← HFO.out, List.length_map]; exact hXl
            rw [hFD] at hfr HRE
            have hso := fun W (hW : W.ownsRow F 64 2 u20 FD.length (FD.flatMap hitC)) => sort_run FD u20 F W hW (by omega)
            have HBT : Hid (Below M w1 wr) := Lib.hid (HB.out.trans (HBr.out.mono (by rw [← HFE.out]; exact hMw)))
            obtain ⟨af, cf, hvf⟩ := row_form hfr
            subst hvf
            have HSO := Lib.hid (hso _ hfr)
            clear hso hfr HHr HBr hFD hBW HRX HMX HB
            go_upto_region 31 with (first
              | (go_at_call 47; (with_reducible (refine HSO.out.mono ?_)); rintro e wS ⟨rfl, l', hpm, hsr, ho9, hb9⟩; have HPM := Lib.hid hpm; have HSR := Lib.hid hsr; have HO9 := Lib.hid ho9; have HB9 := Lib.hid hb9; clear hpm hsr ho9 hb9)
              | fail)
            have hl9 := HRE.out l' HPM.out HSR.out
            have hlen9 : l'.length = FD.length := HPM.out.length_eq
            have hcf : FD.length ≤ cf := by
              rcases HO9.out.2 with ⟨e1, e2⟩ | ⟨g, cp, cur, e1, _, _, e3, _⟩
              · omega
              · injection e1 with _ _ e4; omega
            have g0 : 0 ≤ max 0 (min n (FD.length : Int)) ∧ max 0 (min n (FD.length : Int)) ≤ (cf : Int) := by omega
            have HFIN : Hid (RunPost (some ps) D n w (.returned (.tuple #[.slice af (max 0 (min n (FD.length : Int))).toNat cf, .int .i64 (FD.length : Int), .int .i64 0])) wS) := Lib.hid (by
              refine ⟨HB1.out.trans ((HBT.out.trans (HB9.out.mono (by rw [← HFE.out]; exact hMw))).mono (by rw [← HMS.out]; exact HB1.out.size)), .slice af (max 0 (min n (FD.length : Int))).toNat cf, by rw [← hl9, hlen9], ?_⟩
              rw [← hl9]
              have hkk : (max 0 (min n (FD.length : Int))).toNat ≤ l'.length := by omega
              have hO := HO9.out
              rw [← hlen9] at hO ⊢
              have := row_cut hO (by rw [hlen9]; exact (by omega : (max 0 (min n (FD.length : Int))).toNat ≤ FD.length))
              rw [flatMap_take hitC 2 (fun _ => rfl)] at this
              have ht : l'.take n.toNat = l'.take (max 0 (min n (FD.length : Int))).toNat := by
                by_cases h1 : n.toNat ≤ FD.length
                · rw [show (max 0 (min n (FD.length : Int))).toNat = n.toNat by omega]
                · rw [show (max 0 (min n (FD.length : Int))).toNat = FD.length by omega, List.take_of_length_le (by omega), List.take_of_length_le (by omega)]
              rw [ht]
              unfold HitsR
              rw [List.length_take, Nat.min_eq_left hkk, hlen9]
              exact (this.mono_base (Nat.zero_le _)))
            have HTT := HT
            clear hl9 HBT HPM HSR HO9 HB9 HSO HRE
            go_wp2_with fail
            exact bodyPost_ret (v := .tuple #[.slice af (max 0 (min n (FD.length : Int))).toNat cf, .int .i64 (FD.length : Int), .int .i64 0]) (by simp [results, Tryz.results20, go_sem]) rfl (by rw [← HT.out]; exact HFIN.out)
end Go.Proofs.YtogjgibaolppfaaGreatDoor
/- search: Run of no index. -/
namespace Go.Proofs.YtogjgibaolppfaaGreatDoor
open Go.RowKit Go.Lib Go.Proofs

theorem run_nil (q : ByteArray) (n : Int) (w : World) : Calls Tryz.prog 20 #[.pointer none, .string q, .int .i64 n] w fun e w' => e = .returned (.tuple #[.slice none 0 0, .int .i64 0, .int .i64 1]) ∧ w = w' := by
  go_enter Tryz.func20, Tryz.ntmps20
  go_wp2_with fail
  exact bodyPost_ret (v := .tuple #[.slice none 0 0, .int .i64 0, .int .i64 1]) (by simp [results, Tryz.results20, go_sem]) rfl ⟨rfl, rfl⟩
end Go.Proofs.YtogjgibaolppfaaGreatDoor

/- The law DeltaOperations. -/
import Derived.Test.YtfdholhfdceedaaDoorDfA
import Derived.Test.YtfdholhfdceedaaDoorDOpn
import Derived.Test.YtfdholhfdceedaaDoorPutC
namespace Go.Proofs.YtfdholhfdceedaaDoor
open Go.RowKit

theorem written_end {o : List UInt8} (ho : o.length ≤ 8192) (l : List Stp) (q B : Bool) (hB : B = (!q && l.all (Stp.good o))) {sum : Int} (hs : sum = (crcOf (l.flatMap (Stp.add o)) : Int) + (if q = true then 1 else 0)) :
    applyD o (putInt (crcOf o) ++ putInt sum ++ l.flatMap Stp.enc) = if B = true ∧ (l.flatMap (Stp.add o)).length ≤ 8192 then .ok (l.flatMap (Stp.add o)) else .error 190 := by
  have c1 := crcOf_le (l.flatMap (Stp.add o))
  rw [apply_written ho l (by rw [hs]; split <;> omega) (by rw [hs]; split <;> omega)]
  subst hB
  cases q with
  | false =>
    simp only [Bool.false_eq_true, if_false, Int.add_zero] at hs
    by_cases h1 : l.all (Stp.good o) = true
    · by_cases h2 : (l.flatMap (Stp.add o)).length ≤ 8192
      · rw [if_pos ⟨h1, h2, hs⟩, if_pos ⟨by simp [h1], h2⟩]
      · rw [if_neg (fun h => h2 h.2.1), if_neg (fun h => h2 h.2)]
    · rw [if_neg (fun h => h1 h.1), if_neg (fun h => h1 (by simpa using h.1))]
  | true =>
    simp only [if_true] at hs
    rw [if_neg (fun h => by have := h.2.2; omega), if_neg (fun h => by simp at h)]

/-- what the loop holds -/
structure OpsI (o : List UInt8) (q : Bool) (j : Nat) (st : List Stp) (B : Bool) : Prop where
  B : B = (!q && st.all (Stp.good o))
  len : st.length = j
theorem OpsI.next {o : List UInt8} {q : Bool} {j : Nat} {st : List Stp} {B B' : Bool} (h : OpsI o q j st B) (x : Stp) (hB : B' = (B && x.good o)) : OpsI o q (j + 1) (st ++ [x]) B' :=
  ⟨by rw [hB, h.B]; simp [Bool.and_assoc], by simp [h.len]⟩

set_option maxRecDepth 100000 in
set_option maxHeartbeats 8000000 in
theorem lawOps_any {a0 a1 : Addr} (s : ByteArray) (A : Option Addr) (n c : Nat) (q : Bool) (w0 : World) (hs : s.size ≤ 9223372036854775807) (hA : RawStps w0 A n c) (hS : Sents a0 a1 w0) (hsh : ShiftsAt w0) :
    Calls Tryd.prog 4 #[.string s, .slice A n c, .bool q] w0 fun e w' => e = .returned (.bool true) ∧ Below w0.heap.size w0 w' := by
  obtain ⟨x, rfl⟩ : ∃ l : List UInt8, s = ⟨l.toArray⟩ := ⟨s.data.toList, by simp⟩
  rw [mk_size] at hs
  have HL := Lib.hid (LW.mk hS hsh (Below.refl _ _) : LW a0 a1 w0 w0)
  have HSN := Lib.hid (sane_any w0 hS hsh)
  obtain ⟨hnc, hcm, f, g, h, hf⟩ := hA
  have HF := Lib.hid hf
  have HC := fun wy => Lib.hid (cut_any x 500 wy hs (by omega))
  have ho1 : (x.take 500).length ≤ 500 := List.length_take_le _ _
  clear hS hsh hf
  go_enter Tryd.func4, Tryd.ntmps4
  go_wp2_with fail
  refine HSN.out.mono ?_
  rintro e w1 ⟨rfl, hb1⟩
  have HL1 := Lib.hid (HL.out.below hb1)
  clear hb1 HL HSN
  go_wp2_with fail
  refine (HC _).out.mono ?_
  rintro e wq ⟨rfl, rfl⟩
  generalize x.take 500 = o at *
  obtain ⟨O, hO⟩ : ∃ O : ByteArray, ⟨o.toArray⟩ = O := ⟨_, rfl⟩
  have zO : O.size = o.length := by rw [← hO, mk_size]
  have eO : ∀ a b, O.extract a b = ⟨((o.drop a).take (b - a)).toArray⟩ := fun a b => by rw [extract_mk, ← hO]
  have EO := Lib.hid eO; have HO := Lib.hid hO
  rw [hO]
  clear hO eO HC
  go_wp2_with fail
  go_loopw [8, 9, 10, 11] (fun wt op ok i wr => ∃ (j : Nat) (st : List Stp) (B : Bool), i = .int .i64 j ∧ j ≤ 40 ∧ wt = .string ⟨(st.flatMap (Stp.add o)).toArray⟩ ∧ op = .string ⟨(st.flatMap Stp.enc).toArray⟩ ∧ ok = .bool B ∧ Hid (OpsI o q j st B) ∧ (st.flatMap (Stp.add o)).length ≤ 900 * j ∧ (st.flatMap Stp.enc).length ≤ 500 * j ∧ Hid (LW a0 a1 w0 wr)) (fun _ _ _ i _ => 40 - (intOf i).toNat)
  case atStart => exact ⟨0, [], !q, rfl, by omega, rfl, rfl, rfl, Lib.hid ⟨by simp, rfl⟩, by simp, by simp, HL1⟩
  case round =>
    obtain ⟨j, st, B, rfl, hj, rfl, rfl, rfl, HI, hla, hle, HW⟩ := hrel
    by_cases hjj : j < n ∧ j < 40
    · obtain ⟨hjn, hj40⟩ := hjj
      obtain ⟨b, off, rfl, hif, hig, hhl, hc0, hc1, hc2⟩ := HF.out j hjn
      have hbl := HW.out.bel
      have c0 := (hbl.cell (p := ⟨b, _, none⟩) (World.block_lt_of_cell? w0 _ hc0)).trans hc0
      have c1 := (hbl.cell (p := ⟨b, _, none⟩) (World.block_lt_of_cell? w0 _ hc1)).trans hc1
      have c2 := (hbl.cell (p := ⟨b, _, none⟩) (World.block_lt_of_cell? w0 _ hc2)).trans hc2
      rw [← Nat.add_assoc] at c1 c2
      have j0 : (0 : Int) ≤ (j : Int) := by omega
      have j1 : (j : Int) < (n : Int) := by omega
      obtain ⟨hf1, hf2⟩ := hif
      obtain ⟨hg1, hg2⟩ := hig
      obtain ⟨wt, hwt⟩ : ∃ l, st.flatMap (Stp.add o) = l := ⟨_, rfl⟩
      obtain ⟨op, hop⟩ : ∃ l, st.flatMap Stp.enc = l := ⟨_, rfl⟩
      rw [hwt] at hla ⊢
      rw [hop] at hle ⊢
      have HWT : Hid (∀ y, (st ++ [y]).flatMap (Stp.add o) = wt ++ Stp.add o y) := Lib.hid (fun y => by rw [List.flatMap_append, hwt]; simp)
      have HOP : Hid (∀ y, (st ++ [y]).flatMap Stp.enc = op ++ Stp.enc y) := Lib.hid (fun y => by rw [List.flatMap_append, hop]; simp)
      clear hwt hop
      generalize f j = F at *
      generalize g j = G at *
      generalize h j = S at *
      have hxa := Stp.add_len o ⟨F, G, S⟩
      have hxe := Stp.enc_len ⟨F, G, S⟩
      obtain ⟨wA, hwA⟩ : ∃ wA, wr.alloc (.cells #[.int .i64 F, .int .i64 G, .string ⟨S.toArray⟩] 28) = wA := ⟨_, rfl⟩
      have hbA : Below wr.heap.size wr wA := by rw [← hwA]; exact (Below.refl _ _).alloc (Nat.le_refl _) _
      have hXA : wA.heap[wr.heap.size]? = some (.cells #[.int .i64 F, .int .i64 G, .string ⟨S.toArray⟩] 28 (0, 0)) := by rw [← hwA]; exact heap_alloc_new _ _
      have HXF : ∀ wy, Below wA.heap.size wA wy → Hid (wy.cell? ⟨wr.heap.size, 0, none⟩ = some (.int .i64 F) ∧ wy.cell? ⟨wr.heap.size, 1, none⟩ = some (.int .i64 G) ∧ wy.cell? ⟨wr.heap.size, 2, none⟩ = some (.string ⟨S.toArray⟩)) := fun wy hb => Lib.hid (by
        have hxy := (hb.block _ (some_lt hXA)).trans hXA
        refine ⟨?_, ?_, ?_⟩ <;> (rw [Lib.cell_of_heap hxy]; rfl))
      have HWA := Lib.hid (HW.out.below hbA)
      obtain ⟨d0, d1, d2⟩ := (HXF wA (Below.refl _ _)).out
      clear hc0 hc1 hc2 hbl hbA hXA
      by_cases hcp : 0 < F ∧ F < 100000 ∧ -100000 < G ∧ G < 100000
      · have hcb : Stp.copy ⟨F, G, S⟩ = true := decide_eq_true hcp
        obtain ⟨p1, p2, p3, p4⟩ := hcp
        have g1 : decide (0 < F) = true := decide_eq_true p1
        have g2 : decide (F < 100000) = true := decide_eq_true p2
        have g3 : decide (-100000 < G) = true := decide_eq_true p3
        have g4 : decide (G < 100000) = true := decide_eq_true p4
        have HE : Hid (Stp.enc ⟨F, G, S⟩ = putInt F ++ putInt G) := Lib.hid (by unfold Stp.enc; rw [if_pos hcb])
        have hl1 := putInt_len (n := F) (by omega) (by omega)
        have hl2 := putInt_len (n := G) (by omega) (by omega)
        have HPF := fun wy => Lib.hid (putInt_any F wy (by omega) (by omega))
        have HPG := fun wy => Lib.hid (putInt_any G wy (by omega) (by omega))
        unfold putTup at HPF HPG
        have HCB := Lib.hid hcb
        have hov1 : ¬ 9223372036854775807 < op.length + (putInt F).length := by omega
        have hov2 : ¬ 9223372036854775807 < (op ++ putInt F).length + (putInt G).length := by rw [List.length_append]; omega
        have hov3 : ¬ 9223372036854775807 < op.length + (putInt F).length + (putInt G).length := by omega
        clear hcb
        by_cases hgd : 0 ≤ G ∧ G + F ≤ o.length
        · have hgb : Stp.good o ⟨F, G, S⟩ = true := by unfold Stp.good; rw [if_pos HCB.out]; exact decide_eq_true hgd
          have hab : Stp.add o ⟨F, G, S⟩ = (o.drop G.toNat).take F.toNat := by unfold Stp.add; rw [if_pos HCB.out, if_pos hgd]
          obtain ⟨q1, q2⟩ := hgd
          obtain ⟨gn, hgn⟩ : ∃ k, G.toNat = k := ⟨_, rfl⟩
          obtain ⟨fm, hfm⟩ : ∃ k, (G + F).toNat = k := ⟨_, rfl⟩
          have hfn : F.toNat = fm - gn := by omega
          rw [hgn, hfn] at hab
          have HEX := Lib.hid (EO.out gn fm); have HAB := Lib.hid hab
          have HIN := Lib.hid (HI.out.next (B' := B) ⟨F, G, S⟩ (by rw [hgb, Bool.and_true]))
          have k1 : decide (G < 0) = false := by rw [decide_eq_false_iff_not]; omega
          have k2 : decide ((o.length : Int) < G + F) = false := by rw [decide_eq_false_iff_not]; omega
          have k3 : G ≤ G + F := by omega
          have k4 : G + F ≤ (o.length : Int) := by omega
          have k7 : gn ≤ fm := by omega
          have k8 : fm ≤ o.length := by omega
          have hl3 : ((o.drop gn).take (fm - gn)).length = fm - gn := by rw [List.length_take, List.length_drop]; omega
          have hov4 : ¬ 9223372036854775807 < wt.length + (min fm o.length - gn) := by omega
          clear hgb hab hxa HCB hfn
          go_wp2_with fail
          clear hwA
          refine (HPF _).out.mono ?_
          rintro e w2 ⟨rfl, hb2⟩
          have HL2 := Lib.hid (HWA.out.below hb2)
          have HB2 := Lib.hid hb2
          clear hb2 d0 d1 d2 c0 c1 c2
          obtain ⟨d0, d1, d2⟩ := (HXF _ HB2.out).out
          go_wp2_with fail
          refine (HPG _).out.mono ?_
          rintro e w3 ⟨rfl, hb3⟩
          have HL3 := Lib.hid (HL2.out.below hb3)
          have HB3 := Lib.hid (below_then HB2.out hb3)
          clear hb3 d0 d1 d2
          obtain ⟨d0, d1, d2⟩ := (HXF _ HB3.out).out
          go_wp2
          all_goals go_roundw
          case rel => exact ⟨j + 1, st ++ [⟨F, G, S⟩], B, by go_num, by omega, by rw [HEX.out, str_add, HWT.out, HAB.out], by rw [str_add, str_add, HOP.out, HE.out, List.append_assoc], rfl, HIN, by rw [HWT.out, HAB.out, List.length_append]; omega, by rw [HOP.out, HE.out, List.length_append, List.length_append]; omega, HL3⟩
          case measure => simp [intOf]; omega
        · have hgb : Stp.good o ⟨F, G, S⟩ = false := by unfold Stp.good; rw [if_pos HCB.out]; exact decide_eq_false hgd
          have hab : Stp.add o ⟨F, G, S⟩ = [] := by unfold Stp.add; rw [if_pos HCB.out, if_neg hgd]
          have HAB := Lib.hid hab
          have HIN := Lib.hid (HI.out.next (B' := false) ⟨F, G, S⟩ (by rw [hgb, Bool.and_false]))
          clear hgb hab hxa HCB
          by_cases hG0 : G < 0
          · have k1 : decide (G < 0) = true := decide_eq_true hG0
            go_wp2_with fail
            clear hwA
            refine (HPF _).out.mono ?_
            rintro e w2 ⟨rfl, hb2⟩
            have HL2 := Lib.hid (HWA.out.below hb2)
            have HB2 := Lib.hid hb2
            clear hb2 d0 d1 d2 c0 c1 c2
            obtain ⟨d0, d1, d2⟩ := (HXF _ HB2.out).out
            go_wp2_with fail
            refine (HPG _).out.mono ?_
            rintro e w3 ⟨rfl, hb3⟩
            have HL3 := Lib.hid (HL2.out.below hb3)
            have HB3 := Lib.hid (below_then HB2.out hb3)
            clear hb3 d0 d1 d2
            obtain ⟨d0, d1, d2⟩ := (HXF _ HB3.out).out
            go_wp2
            all_goals go_roundw
            case rel => exact ⟨j + 1, st ++ [⟨F, G, S⟩], false, by go_num, by omega, by rw [HWT.out, HAB.out, List.append_nil], by rw [str_add, str_add, HOP.out, HE.out, List.append_assoc], rfl, HIN, by rw [HWT.out, HAB.out, List.append_nil]; omega, by rw [HOP.out, HE.out, List.length_append, List.length_append]; omega, HL3⟩
            case measure => simp [intOf]; omega
          · have k1 : decide (G < 0) = false := decide_eq_false hG0
            have k2 : decide ((o.length : Int) < G + F) = true := by rw [decide_eq_true_eq]; omega
            go_wp2_with fail
            clear hwA
            refine (HPF _).out.mono ?_
            rintro e w2 ⟨rfl, hb2⟩
            have HL2 := Lib.hid (HWA.out.below hb2)
            have HB2 := Lib.hid hb2
            clear hb2 d0 d1 d2 c0 c1 c2
            obtain ⟨d0, d1, d2⟩ := (HXF _ HB2.out).out
            go_wp2_with fail
            refine (HPG _).out.mono ?_
            rintro e w3 ⟨rfl, hb3⟩
            have HL3 := Lib.hid (HL2.out.below hb3)
            have HB3 := Lib.hid (below_then HB2.out hb3)
            clear hb3 d0 d1 d2
            obtain ⟨d0, d1, d2⟩ := (HXF _ HB3.out).out
            go_wp2
            all_goals go_roundw
            case rel => exact ⟨j + 1, st ++ [⟨F, G, S⟩], false, by go_num, by omega, by rw [HWT.out, HAB.out, List.append_nil], by rw [str_add, str_add, HOP.out, HE.out, List.append_assoc], rfl, HIN, by rw [HWT.out, HAB.out, List.append_nil]; omega, by rw [HOP.out, HE.out, List.length_append, List.length_append]; omega, HL3⟩
            case measure => simp [intOf]; omega
      · have hcb : ¬ Stp.copy ⟨F, G, S⟩ = true := fun e => hcp (of_decide_eq_true e)
        have htx : Stp.text ⟨F, G, S⟩ = S.take 400 := rfl
        have HE : Hid (Stp.enc ⟨F, G, S⟩ = putInt 0 ++ putStr (S.take 400)) := Lib.hid (by unfold Stp.enc; rw [if_neg hcb, htx])
        have HAB : Hid (Stp.add o ⟨F, G, S⟩ = S.take 400) := Lib.hid (by unfold Stp.add; rw [if_neg hcb, htx])
        have hgb : Stp.good o ⟨F, G, S⟩ = decide (S.take 400 ≠ []) := by unfold Stp.good; rw [if_neg hcb, htx]
        have hl4 : (S.take 400).length ≤ 400 := List.length_take_le _ _
        have HCS := fun wy => Lib.hid (cut_any S 400 wy hhl (by omega))
        have HP0 := fun wy => Lib.hid (putInt_any 0 wy (by decide) (by decide))
        have HPS := fun wy => Lib.hid (putString_any (S.take 400) wy (by omega))
        unfold putTup at HP0 HPS
        have hl1 := putInt_len (n := 0) (by decide) (by decide)
        have hl2 : (putStr (S.take 400)).length ≤ 450 := by
          have := putInt_len (n := ((S.take 400).length : Int)) (by omega) (by omega)
          unfold putStr; rw [List.length_append]; omega
        generalize S.take 400 = T at *
        have hov1 : ¬ 9223372036854775807 < op.length + (putInt 0).length := by omega
        have hov2 : ¬ 9223372036854775807 < (op ++ putInt 0).length + (putStr T).length := by rw [List.length_append]; omega
        have hov3 : ¬ 9223372036854775807 < op.length + (putInt 0).length + (putStr T).length := by omega
        have hov4 : ¬ 9223372036854775807 < wt.length + T.length := by omega
        have HIN := Lib.hid (HI.out.next (B' := (B && decide (T ≠ []))) ⟨F, G, S⟩ (by rw [hgb]))
        have hte : decide (T ≠ []) = !T.isEmpty := by cases T <;> simp
        rw [hte] at HIN
        clear hcb htx hgb hxa hte
        obtain ⟨U, hU⟩ : ∃ U, T.isEmpty = U := ⟨_, rfl⟩
        rw [hU] at HIN
        have hU2 : (!T.isEmpty) = !U := by rw [hU]
        have hways : ¬ 0 < F ∨ (0 < F ∧ ¬ F < 100000) ∨ (0 < F ∧ F < 100000 ∧ ¬ -100000 < G) ∨ (0 < F ∧ F < 100000 ∧ -100000 < G ∧ ¬ G < 100000) := by omega
        clear hcp
        rcases hways with p1 | ⟨p1, p2⟩ | ⟨p1, p2, p3⟩ | ⟨p1, p2, p3, p4⟩
        all_goals
          first
            | have g1 : decide (0 < F) = false := decide_eq_false p1
            | have g1 : decide (0 < F) = true := decide_eq_true p1
          first
            | have g2 : decide (F < 100000) = false := decide_eq_false p2
            | have g2 : decide (F < 100000) = true := decide_eq_true p2
            | skip
          first
            | have g3 : decide (-100000 < G) = false := decide_eq_false p3
            | have g3 : decide (-100000 < G) = true := decide_eq_true p3
            | skip
          first
            | have g4 : decide (G < 100000) = false := decide_eq_false p4
            | skip
          go_wp2_with fail
          clear hwA
          refine (HCS _).out.mono ?_
          rintro e wq ⟨rfl, rfl⟩
          go_wp2_with fail
          refine (HP0 _).out.mono ?_
          rintro e w2 ⟨rfl, hb2⟩
          have HL2 := Lib.hid (HWA.out.below hb2)
          clear hb2 d0 d1 d2 c0 c1 c2
          go_wp2_with fail
          refine (HPS _).out.mono ?_
          rintro e w3 ⟨rfl, hb3⟩
          have HL3 := Lib.hid (HL2.out.below hb3)
          clear hb3
          cases B <;> cases U <;>
            (go_wp2
             go_roundw
             case rel => exact ⟨j + 1, st ++ [⟨F, G, S⟩], _, by go_num, by omega, by rw [str_add, HWT.out, HAB.out], by rw [str_add, str_add, HOP.out, HE.out, List.append_assoc], rfl, HIN, by rw [HWT.out, HAB.out, List.length_append]; omega, by rw [HOP.out, HE.out, List.length_append, List.length_append]; omega, HL3⟩
             case measure => simp [intOf]; omega)
    · have hout : j < n ∧ ¬ ((j : Int) < 40) ∨ ¬ j < n := by omega
      have hend := HI.out.B
      have hwe := fun (sum : Int) (hs : sum = (crcOf (st.flatMap (Stp.add o)) : Int) + (if q = true then 1 else 0)) => written_end (o := o) (by omega) st q B hend hs
      generalize st.flatMap (Stp.add o) = wt at *
      generalize st.flatMap Stp.enc = op at *
      have cr1 := crcOf_le o
      have cr2 := crcOf_le wt
      have HSW := fun (wy : World) (h : ShiftsAt wy) => Lib.hid (sum_any ⟨wt.toArray⟩ wy (by rw [mk_size]; omega) h)
      have HSO := fun (wy : World) (h : ShiftsAt wy) => Lib.hid (sum_any O wy (by omega) h)
      have hod : O.data.toList = o := by rw [← HO.out]
      rw [hod] at HSO
      simp only at HSW
      clear HI hjj hod
      cases q with
      | false =>
        have hR := hwe (crcOf wt : Int) (by simp)
        have hl1 := putInt_len (n := (crcOf o : Int)) (by omega) (by omega)
        have hl2 := putInt_len (n := (crcOf wt : Int)) (by omega) (by omega)
        have HP1 := fun wy => Lib.hid (putInt_any (crcOf o : Int) wy (by omega) (by omega))
        have HP2 := fun wy => Lib.hid (putInt_any (crcOf wt : Int) wy (by omega) (by omega))
        unfold putTup at HP1 HP2
        have ha := fun (wy : World) (h : LW a0 a1 w0 wy) => apply_list o (putInt (crcOf o : Int) ++ putInt (crcOf wt : Int) ++ op) wy (by omega) (by rw [List.length_append, List.length_append]; omega) h.s h.h
        rw [hR, HO.out] at ha
        have hcw : (0 : Int) ≤ (crcOf wt : Int) ∧ (crcOf wt : Int) ≤ 4294967295 := by omega
        clear hR hwe
        generalize putInt (crcOf o : Int) = P1 at *
        generalize putInt (crcOf wt : Int) = P2 at *
        generalize (crcOf o : Int) = co at *
        generalize (crcOf wt : Int) = cw at *
        have hov1 : ¬ 9223372036854775807 < P1.length + P2.length := by omega
        have hov2 : ¬ 9223372036854775807 < (P1 ++ P2).length + op.length := by rw [List.length_append]; omega
        have hov3 : ¬ 9223372036854775807 < P1.length + P2.length + op.length := by omega
        by_cases hok : B = true ∧ wt.length ≤ 8192
        · rw [if_pos hok] at ha
          obtain ⟨rfl, hwl⟩ := hok
          have k1 : decide ((wt.length : Int) ≤ 8192) = true := by rw [decide_eq_true_eq]; omega
          have HA2 := Lib.hid ha
          clear ha hend
          rcases hout with ⟨hjn, hj40⟩ | hjn
          all_goals
            go_wp2_with fail
            refine (HSW _ HW.out.h).out.mono ?_
            rintro e wq ⟨rfl, rfl⟩
            go_wp2_with fail
            refine (HSO _ HW.out.h).out.mono ?_
            rintro e wq ⟨rfl, rfl⟩
            go_wp2_with fail
            refine (HP1 _).out.mono ?_
            rintro e w2 ⟨rfl, hb2⟩
            have HL2 := Lib.hid (HW.out.below hb2)
            clear hb2
            go_wp2_with fail
            refine (HP2 _).out.mono ?_
            rintro e w3 ⟨rfl, hb3⟩
            have HL3 := Lib.hid (HL2.out.below hb3)
            clear hb3
            go_wp2_with fail
            try simp only [str_add]
            refine (HA2.out _ HL3.out).mono ?_
            unfold exTup
            rintro e w4 ⟨rfl, hb4⟩
            have HL4 := Lib.hid (HL3.out.below hb4)
            clear hb4
            go_wp2
            go_ret
            exact ⟨rfl, HL4.out.bel⟩
        · rw [if_neg hok] at ha
          have HA2 := Lib.hid ha
          clear ha hend
          cases B with
          | false =>
            clear hok
            rcases hout with ⟨hjn, hj40⟩ | hjn
            all_goals
              go_wp2_with fail
              refine (HSW _ HW.out.h).out.mono ?_
              rintro e wq ⟨rfl, rfl⟩
              go_wp2_with fail
              refine (HSO _ HW.out.h).out.mono ?_
              rintro e wq ⟨rfl, rfl⟩
              go_wp2_with fail
              refine (HP1 _).out.mono ?_
              rintro e w2 ⟨rfl, hb2⟩
              have HL2 := Lib.hid (HW.out.below hb2)
              clear hb2
              go_wp2_with fail
              refine (HP2 _).out.mono ?_
              rintro e w3 ⟨rfl, hb3⟩
              have HL3 := Lib.hid (HL2.out.below hb3)
              clear hb3
              go_wp2_with fail
              try simp only [str_add]
              refine (HA2.out _ HL3.out).mono ?_
              unfold exTup
              rintro e w4 ⟨rfl, hb4⟩
              have HL4 := Lib.hid (HL3.out.below hb4)
              clear hb4
              go_wp2
              go_ret
              exact ⟨rfl, HL4.out.bel⟩
          | true =>
            have k1 : decide ((wt.length : Int) ≤ 8192) = false := by rw [decide_eq_false_iff_not]; intro h; exact hok ⟨rfl, by omega⟩
            clear hok
            rcases hout with ⟨hjn, hj40⟩ | hjn
            all_goals
              go_wp2_with fail
              refine (HSW _ HW.out.h).out.mono ?_
              rintro e wq ⟨rfl, rfl⟩
              go_wp2_with fail
              refine (HSO _ HW.out.h).out.mono ?_
              rintro e wq ⟨rfl, rfl⟩
              go_wp2_with fail
              refine (HP1 _).out.mono ?_
              rintro e w2 ⟨rfl, hb2⟩
              have HL2 := Lib.hid (HW.out.below hb2)
              clear hb2
              go_wp2_with fail
              refine (HP2 _).out.mono ?_
              rintro e w3 ⟨rfl, hb3⟩
              have HL3 := Lib.hid (HL2.out.below hb3)
              clear hb3
              go_wp2_with fail
              try simp only [str_add]
              refine (HA2.out _ HL3.out).mono ?_
              unfold exTup
              rintro e w4 ⟨rfl, hb4⟩
              have HL4 := Lib.hid (HL3.out.below hb4)
              clear hb4
              go_wp2
              go_ret
              exact ⟨rfl, HL4.out.bel⟩
      | true =>
        have hR := hwe ((crcOf wt : Int) + 1) (by simp)
        have hl1 := putInt_len (n := (crcOf o : Int)) (by omega) (by omega)
        have hl2 := putInt_len (n := ((crcOf wt : Int) + 1)) (by omega) (by omega)
        have HP1 := fun wy => Lib.hid (putInt_any (crcOf o : Int) wy (by omega) (by omega))
        have HP2 := fun wy => Lib.hid (putInt_any ((crcOf wt : Int) + 1) wy (by omega) (by omega))
        unfold putTup at HP1 HP2
        have ha := fun (wy : World) (h : LW a0 a1 w0 wy) => apply_list o (putInt (crcOf o : Int) ++ putInt ((crcOf wt : Int) + 1) ++ op) wy (by omega) (by rw [List.length_append, List.length_append]; omega) h.s h.h
        rw [hR, HO.out] at ha
        have hcw : (0 : Int) ≤ (crcOf wt : Int) ∧ (crcOf wt : Int) ≤ 4294967295 := by omega
        clear hR hwe
        generalize putInt (crcOf o : Int) = P1 at *
        generalize putInt ((crcOf wt : Int) + 1) = P2 at *
        generalize (crcOf o : Int) = co at *
        generalize (crcOf wt : Int) = cw at *
        have hov1 : ¬ 9223372036854775807 < P1.length + P2.length := by omega
        have hov2 : ¬ 9223372036854775807 < (P1 ++ P2).length + op.length := by rw [List.length_append]; omega
        have hov3 : ¬ 9223372036854775807 < P1.length + P2.length + op.length := by omega
        obtain rfl : B = false := by rw [hend]; rfl
        rw [if_neg (by simp)] at ha
        have HA2 := Lib.hid ha
        clear ha hend
        rcases hout with ⟨hjn, hj40⟩ | hjn
        all_goals
          go_wp2_with fail
          refine (HSW _ HW.out.h).out.mono ?_
          rintro e wq ⟨rfl, rfl⟩
          go_wp2_with fail
          refine (HSO _ HW.out.h).out.mono ?_
          rintro e wq ⟨rfl, rfl⟩
          go_wp2_with fail
          refine (HP1 _).out.mono ?_
          rintro e w2 ⟨rfl, hb2⟩
          have HL2 := Lib.hid (HW.out.below hb2)
          clear hb2
          go_wp2_with fail
          refine (HP2 _).out.mono ?_
          rintro e w3 ⟨rfl, hb3⟩
          have HL3 := Lib.hid (HL2.out.below hb3)
          clear hb3
          go_wp2_with fail
          try simp only [str_add]
          refine (HA2.out _ HL3.out).mono ?_
          unfold exTup
          rintro e w4 ⟨rfl, hb4⟩
          have HL4 := Lib.hid (HL3.out.below hb4)
          clear hb4
          go_wp2
          go_ret
          exact ⟨rfl, HL4.out.bel⟩
end Go.Proofs.YtfdholhfdceedaaDoor

/- The walk of one law of the sender. Conditions: those that each theorem names. -/
import Derived.Test.YtogjgibaolppfaaGreatDoorK29
import Derived.Laws.MakeOwn
import Derived.Deep.AppendLies
import Derived.RegionTactic
import Derived.Deep.RegionLaw
/- A fresh slice of parts, and appends of parts at a step of a region. -/
namespace Go.Proofs.YtogjgibaolppfaaGreatDoor
open Go.RowKit Go.Sort Go.Proofs Go.Maps

def mkC : Array Value := madeCells (Value.agg #[.int .i64 0, .slice none 0 0, .bool false]).cells 24
theorem mkC_size : mkC.size = 8 * 3 := by kernel_rfl
theorem make_parts (W : World) : (Instr.makeSlice 26 (.int .i64 0) (.int .i64 8)).run Tryz.prog W = .ok (.slice (some ⟨W.heap.size, 0, none⟩) 0 8) (W.alloc (.cells mkC 53)) := by
  obtain ⟨i0, hi, hz0, hz1, hz2⟩ := info_parts infoPart
  have := run_make W 26 53 i0 _ Tryz.underlying26 hi hz0 .i64 .i64 0 8 (by omega) (by omega) (by rw [hz2]; decide) (by omega)
  rw [hz1] at this
  exact this
theorem parts_made {base : Nat} (X : World) (hb : base ≤ X.heap.size) : PartsR base (X.alloc (.cells mkC 53)) (.slice (some ⟨X.heap.size, 0, none⟩) 0 8) [] :=
  ⟨World.ownsRow_made X mkC 8 hb (by unfold maxLen; omega) mkC_size, fun x hx => by cases hx⟩
theorem parts_app {base : Nat} (X : World) {P Q : List Pv} {v : Value} (hP : PartsR base X v P) {ad : Addr} {c : Nat} (hnews : ∀ j u, (Q.flatMap prtC)[j]? = some u → X.cell? (ad.add j) = some u) (hw : ∀ y ∈ Q, WordsO X y.2 y.1.words) (hbase : base ≤ X.heap.size) (hlen : P.length + Q.length ≤ 1000) :
    ∃ a' c' w', (Builtin.append_ #[26, 26] 26 #[v, .slice (some ad) Q.length c]).run Tryz.prog X = .ok (.slice a' (P.length + Q.length) c') w' ∧ PartsR base w' (.slice a' (P.length + Q.length) c') (P ++ Q) ∧ Below base X w' := by
  obtain ⟨i0, hi, hz0, hz1, hz2⟩ := info_parts infoPart
  obtain ⟨v', w', hr, h1, h2, -⟩ := run_append_own (P := Tryz.prog) X base 26 26 53 i0 _ 3 40 Tryz.underlying26 hi hz0 hz1 hz2 rfl (by decide) v P.length (P.flatMap prtC) hP.1 ad Q.length c (Q.flatMap prtC) (prtC_len Q) hnews (parts_one hw) (by unfold maxLen; omega) (by omega) hbase
  obtain ⟨a', c', hv⟩ := row_form h1
  subst hv
  have hPR := hP.cat hw h1 h2
  exact ⟨a', c', w', hr, by rw [← List.length_append] at hPR ⊢; exact hPR, (Below.refl base X).grown h2 hbase (fun j e => (hP.1.lt j e).1)⟩
theorem op_parts {o : Oper} {a : Act} {K : Act → World → Prop} {Qx : Exit → Act → World → Prop} (X : World) (s x : Operand)
    (ho : o.op = .call { callee := .builtin .append, args := #[s, x], argTypes := #[26, 26] }) (hty : o.type = 26)
    {base : Nat} (P Q : List Pv) (M N : Nat) (hM : Q.length = M) (hN : P.length + Q.length = N) {v : Value} (hs : a.eval s = v) (hP : PartsR base X v P) {ad : Addr} {c : Nat} (hx : a.eval x = .slice (some ad) M c) (hnews : ∀ j u, (Q.flatMap prtC)[j]? = some u → X.cell? (ad.add j) = some u) (hw : ∀ y ∈ Q, WordsO X y.2 y.1.words) (hbase : base ≤ X.heap.size) (hlen : P.length + Q.length ≤ 1000)
    (h : ∀ a' c' w', PartsR base w' (.slice a' N c') (P ++ Q) → Below base X w' → K (a.put o.dst (.slice a' N c')) w') : o.wp Tryz.prog a X K Qx := by
  subst hM
  subst hN
  obtain ⟨a', c', w', hr, h2, h3⟩ := parts_app X hP hnews hw hbase hlen (c := c)
  unfold Oper.wp execOp
  simp only [ho, hty, resolve, invoke, builtin, Sem.run_bind, Sem.run_pure, Result.andThen_ok, List.map_toArray, List.map_cons, List.map_nil, hs, hx, hr]
  exact h a' c' w' h2 h3
theorem step_parts {ops : Array Oper} {o : Oper} {a : Act} {K : Act → World → Prop} {Qx : Exit → Act → World → Prop} {E : Prop} (X : World) (hgd : o.guard = none) (s x : Operand)
    (ho : o.op = .call { callee := .builtin .append, args := #[s, x], argTypes := #[26, 26] }) (hty : o.type = 26)
    {base : Nat} (P Q : List Pv) (M N : Nat) (hM : Q.length = M) (hN : P.length + Q.length = N) {v : Value} (hs : a.eval s = v) (hP : PartsR base X v P) {ad : Addr} {c : Nat} (hx : a.eval x = .slice (some ad) M c) (hnews : ∀ j u, (Q.flatMap prtC)[j]? = some u → X.cell? (ad.add j) = some u) (hw : ∀ y ∈ Q, WordsO X y.2 y.1.words) (hbase : base ≤ X.heap.size) (hlen : P.length + Q.length ≤ 1000)
    (h : ∀ a' c' w', PartsR base w' (.slice a' N c') (P ++ Q) → Below base X w' → K (a.put o.dst (.slice a' N c')) w') :
    if Region.wanted o (yielded ops a.tmps) = true then Oper.wp Tryz.prog o a X K Qx else E := by
  have hw' : Region.wanted o (yielded ops a.tmps) = true := by simp [Region.wanted, hgd]
  rw [if_pos hw']
  exact op_parts X s x ho hty P Q M N hM hN hs hP hx hnews hw hbase hlen h
end Go.Proofs.YtogjgibaolppfaaGreatDoor
/- The law SearchOrder, walked. -/
namespace Go.Proofs.YtogjgibaolppfaaGreatDoor
open Go.RowKit Go.Sort Go.Proofs Go.Maps Go.Lib

set_option maxRecDepth 100000 in
set_option maxHeartbeats 8000000 in
theorem lawOrder_any (v : Value) (ds : List Int) (u : Value) (xs : List Int) (n0 n1 n2 : Int) (hn0 : I64 n0) (hn1 : I64 n1) (hn2 : I64 n2) (w : World) (hv : IntsL w v ds) (hu : IntsL w u xs) (hE : Env w) :
    Calls Tryz.prog 7 #[v, u, .agg #[.int .i64 n0, .int .i64 n1, .int .i64 n2]] w fun e w' => e = .returned (.bool true) ∧ Below w.heap.size w w' := by
  have HE := Lib.hid hE
  have HV := Lib.hid hv
  have HU := Lib.hid hu
  obtain ⟨av, cv, hve, -⟩ := hv
  subst hve
  obtain ⟨au, cu, hue, -⟩ := hu
  subst hue
  clear hE
  go_enter Tryz.func7, Tryz.ntmps7
  obtain ⟨w0, hw0⟩ : ∃ w0, w.alloc (.cells #[.int .i64 n0, .int .i64 n1, .int .i64 n2] 59) = w0 := ⟨_, rfl⟩
  go_upto_region 1 with fail
  have HB0 : Hid (Below w.heap.size w w0) := Lib.hid (by rw [← hw0]; exact (Below.refl _ w).alloc (Nat.le_refl _) _)
  have HC0 : Hid (∀ i x, (#[Value.int .i64 n0, .int .i64 n1, .int .i64 n2] : Array Value)[i]? = some x → w0.cell? ⟨w.heap.size, i, none⟩ = some x) := Lib.hid (fun i x h => by rw [← hw0, World.cell?_alloc_new]; exact h)
  have HBL : Hid (w.heap.size < w0.heap.size) := Lib.hid (by rw [← hw0]; simp)
  have HS := Lib.hid (sane_any w0 (HE.out.below HB0.out))
  clear hw0
  obtain ⟨bx, hbx⟩ : ∃ bx, w.heap.size = bx := ⟨_, rfl⟩
  have HBX := Lib.hid hbx
  rw [hbx] at HC0 HBL ⊢
  clear hbx
  go_upto_region 4 with (first
    | (go_at_call 12; (with_reducible (refine HS.out.mono ?_)); rintro e w1 ⟨rfl, hb⟩; have HB1 := Lib.hid hb; clear hb; have HMA := Lib.hid (made_law _ ds w1 ((HV.out.below HB0.out).below HB1.out)))
    | (go_at_call 19; (with_reducible (refine HMA.out.mono ?_)); rintro e w2 ⟨p, y, rfl, hI, hb⟩; have HI2 := Lib.hid hI; have HB2 := Lib.hid (bthen HB1.out hb); clear hI hb; have HPS := Lib.hid (parts_law _ xs w2 ((HU.out.below HB0.out).below HB2.out)))
    | (go_at_call 15; (with_reducible (refine HPS.out.mono ?_)); rintro e w3 ⟨g, c, P, rfl, hP, hL, hb⟩)
    | fail)
  have HB3 := Lib.hid (bthen HB2.out hb)
  have HI3 := Lib.hid (HI2.out.below hb)
  have HP3 := Lib.hid hP
  have HLP := Lib.hid hL
  have hP1 : 1 ≤ P.length := by have := hL.pos; rwa [List.length_map] at this
  have hP6 : P.length ≤ 6 := by have := hL.six; rwa [List.length_map] at this
  have hPc : P.length ≤ c := by
    obtain ⟨g', c', e, h1, -⟩ := hP.some (by omega)
    injection e with _ _ e3
    omega
  have HPK : Hid (∀ W, Calls Tryz.prog 31 #[.int .i64 n0, .int .i64 (P.length : Int)] W fun e w' => e = .returned (.int .i64 ((pickN n0 P.length : Nat) : Int)) ∧ W = w') := Lib.hid (fun W => pick_any n0 hn0 P.length (by omega) (by omega) W)
  have hkl := pickN_lt (c := n0) (n := P.length) (by omega)
  obtain ⟨k, hk⟩ : ∃ k, pickN n0 P.length = k := ⟨_, rfl⟩
  rw [hk] at HPK hkl
  have e0 : w3.cell? ⟨bx, 0, none⟩ = some (.int .i64 n0) := (HB3.out.cell HBL.out).trans (HC0.out 0 _ rfl)
  clear hP hL hb hk HS HMA HPS HB1 HB2 HI2
  go_upto_region 5 with (first
    | (go_at_call 31; (with_reducible (refine (HPK.out _).mono ?_)); rintro e wx ⟨rfl, rfl⟩)
    | fail)
  have hmk := make_parts
  have hk0 : (0 : Int) ≤ (k : Int) := by omega
  have hk1 : (k : Int) ≤ (P.length : Int) := by omega
  have hk2 : (k : Int) ≤ (c : Int) := by omega
  have hck : ¬ c = k := by omega
  have HBM : Hid (Below w3.heap.size w3 (w3.alloc (.cells mkC 53)).drew) := Lib.hid (((Below.refl _ w3).alloc (Nat.le_refl _) _).drew)
  have HMD : Hid (PartsR w3.heap.size (w3.alloc (.cells mkC 53)).drew (.slice (some ⟨w3.heap.size, 0, none⟩) 0 8) []) := Lib.hid ((parts_made w3 (Nat.le_refl _)).below (Below.refl _ _).drew)
  have HPM := Lib.hid (HP3.out.below HBM.out)
  have HZM : Hid (w3.heap.size ≤ (w3.alloc (.cells mkC 53)).drew.heap.size) := Lib.hid HBM.out.size
  go_cut [12] (fun v wx => ∃ a' c', v = .slice a' P.length c' ∧ PartsR w3.heap.size wx (.slice a' P.length c') (P.drop k ++ P.take k) ∧ Below w3.heap.size w3 wx)
  case first =>
    go_region_law (first
      | (refine step_parts _ rfl (.tmp 33) (.tmp 36) rfl rfl [] (P.drop k) (P.length - k) (P.length - k) (by simp) (by simp) rfl HMD.out rfl (HPM.out.news k) (fun y hy => HPM.out.2 y (List.mem_of_mem_drop hy)) HZM.out (by simp; omega) ?_; intro a1 c1 wB hPB hbB)
      | (refine step_parts _ rfl (.tmp 37) (.tmp 40) rfl rfl (P.drop k) (P.take k) k P.length (by simp; omega) (by simp; omega) rfl hPB rfl ((HP3.out.below (HBM.out.trans hbB)).news_take k) (fun y hy => (HP3.out.below (HBM.out.trans hbB)).2 y (List.mem_of_mem_take hy)) (HBM.out.trans hbB).size (by simp; omega) ?_; intro a2 c2 wE hPE hbE)
      | fail)
    go_wp2_with fail
    go_meet
    exact ⟨_, _, rfl, hPE, HBM.out.trans (hbB.trans hbE)⟩
  case rest =>
    obtain ⟨am, cm, rfl, hPM, hbM⟩ := hcut
    have HB4 := Lib.hid (bthen HB3.out hbM)
    have HI4 := Lib.hid (HI3.out.below hbM)
    have HPP := Lib.hid hPM.at
    have HPL := Lib.hid ((HP3.out.below hbM).at)
    obtain ⟨l, hl⟩ : ∃ l, P.map (·.1) = l := ⟨_, rfl⟩
    have hml : (P.drop k ++ P.take k).map (·.1) = l.drop k ++ l.take k := by rw [List.map_append, List.map_drop, List.map_take, hl]
    rw [hml] at HPP
    rw [hl] at HPL HLP
    have hLl := HLP.out
    have hLm : LP (l.drop k ++ l.take k) := ⟨fun p hp => by
      rcases List.mem_append.1 hp with h | h
      · exact hLl.voc p (List.mem_of_mem_drop h)
      · exact hLl.voc p (List.mem_of_mem_take h), by have := hLl.pos; simp; omega, by have := hLl.six; simp; omega⟩
    have HRR := Lib.hid (res_rot (mD ds (min ds.length 12)) l k)
    have HLM := Lib.hid hLm
    have hfl := hLl.len
    have hfm := hLm.len
    have HPF := Lib.hid hLl.parse
    have HPD : Hid (∀ t, Deco (formL (l.drop k ++ l.take k)) t → t.length ≤ 300 → parseP t = some (l.drop k ++ l.take k)) := Lib.hid (fun t ht h3 => parse_deco hLm.ok hLm.pos hLm.eight ht h3)
    have HDL : Hid (∀ t, Deco (formL (l.drop k ++ l.take k)) t → t.length ≤ 448) := Lib.hid (fun t ht => by have := ht.len; omega)
    have f1 : wc.cell? ⟨bx, 1, none⟩ = some (.int .i64 n1) := ((bthen HB3.out hbM).cell HBL.out).trans (HC0.out 1 _ rfl)
    have HSO := Lib.hid (source_any _ _ n1 hn1 wc HPP.out hLm.ok hLm.eight)
    clear hml hl hLl hLm hPM hbM HP3 HBM HMD HPM HZM hmk HPK
    go_upto_region 7 with (first
      | (go_at_call 14; (with_reducible (refine HSO.out.mono ?_)); rintro e w5 ⟨t, ht, rfl, hb⟩)
      | fail)
    have HB5 := Lib.hid (bthen HB4.out hb)
    have HI5 := Lib.hid (HI4.out.below hb)
    have HPL5 := Lib.hid (HPL.out.below hb)
    have htl := HDL.out t ht
    have HBW : Hid (∀ W, Below w5.heap.size w5 W → W.cell? ⟨bx, 2, none⟩ = some (.int .i64 n2)) := Lib.hid (fun W hW => (hW.cell (Nat.lt_of_lt_of_le HBL.out HB5.out.size)).trans ((HB5.out.cell HBL.out).trans (HC0.out 2 _ rfl)))
    have HPT : Hid (t.length ≤ 300 → parseP t = some (l.drop k ++ l.take k)) := Lib.hid (HPD.out t ht)
    have HTP : Hid (∀ W, Calls Tryz.prog 31 #[.int .i64 n2, .int .i64 14] W fun e w' => e = .returned (.int .i64 ((pickN n2 14 : Nat) : Int)) ∧ W = w') := Lib.hid (fun W => pick_any n2 hn2 14 (by decide) (by decide) W)
    obtain ⟨K, hK⟩ : ∃ K, pickN n2 14 = K := ⟨_, rfl⟩
    have hK14 : K < 14 := by rw [← hK]; exact pickN_lt (by decide)
    rw [hK] at HTP
    clear ht hK HSO HPD HDL hb f1 HPP HLM hfm e0
    by_cases h300 : t.length ≤ 300
    · have g300 : decide ((300 : Int) < (t.length : Int)) = false := decide_eq_false (by omega)
      have g300' : decide (300 < t.length) = false := decide_eq_false (by omega)
      have HPT2 := Lib.hid (HPT.out h300)
      have HFO := Lib.hid (refForm_any _ l w5.drew (HPL5.out.below (Below.refl _ _).drew) HLP.out.ok HLP.out.eight)
      have hKr : -9223372036854775808 ≤ (K : Int) ∧ (K : Int) ≤ 9223372036854775807 := by omega
      have HRA := Lib.hid ((HI5.out.below (Below.refl _ _).drew).runF (HE.out.below (HB0.out.trans ((HB5.out.mono HB0.out.size).drew))) HPF.out (by omega) (K : Int) hKr)
      clear h300 HPT
      obtain ⟨D, hD⟩ : ∃ D, mD ds (min ds.length 12) = D := ⟨_, rfl⟩
      rw [hD] at HRA HI5 HRR
      obtain ⟨R, hR⟩ : ∃ R, resD D l = R := ⟨_, rfl⟩
      rw [hR] at HRA HRR
      obtain ⟨F, hF⟩ : ∃ F, formL l = F := ⟨_, rfl⟩
      rw [hF] at HRA HFO
      obtain ⟨T, hT⟩ : ∃ T, R.take (K : Int).toNat = T := ⟨_, rfl⟩
      rw [hT] at HRA
      have e2 := HBW.out w5 (Below.refl _ _)
      have e2' : w5.drew.cell? ⟨bx, 2, none⟩ = some (.int .i64 n2) := e2
      go_wp2_with fail
      go_region_law (first
        | (go_simp; go_at_call 32; (with_reducible (refine HFO.out.mono ?_)); rintro e wx ⟨rfl, rfl⟩)
        | (go_simp; go_at_call 31; (with_reducible (refine (HTP.out _).mono ?_)); rintro e wx ⟨rfl, rfl⟩)
        | (go_simp; go_at_call 20; (with_reducible (refine HRA.out.mono ?_)); rintro e w6 ⟨aa, ca, rfl, hh, hb6⟩)
        | fail)
      all_goals
        have hdw : Below w5.heap.size w5 w6 := bthen ((Below.refl _ w5).drew) hb6
        have HB6 := Lib.hid (bthen HB5.out hdw)
        have HA6 := Lib.hid hh
        have e6 := HBW.out w6 hdw
        have HRB := Lib.hid ((HI5.out.below hdw).run (HE.out.below (HB0.out.trans (HB6.out.mono HB0.out.size))) t (by omega) HPT2.out HRR.out (K : Int) hKr)
        rw [hT] at HRB
        clear hh hb6 hdw e2 e2'
        go_wp2_with (first
          | (go_at_call 31; (with_reducible (refine (HTP.out _).mono ?_)); rintro e wx ⟨rfl, rfl⟩)
          | (go_at_call 20; (with_reducible (refine HRB.out.mono ?_)); rintro e w7 ⟨ab, cb, rfl, hh, hb⟩; have HA7 := Lib.hid (HA6.out.below hb); have HB7 := Lib.hid (bthen HB6.out hb); have HD7 := Lib.hid hh; clear hh hb)
          | (go_at_call 22; (with_reducible (refine (sameHits_true _ _ T w7 HA7.out HD7.out).mono ?_)); rintro e w8 ⟨rfl, hb⟩; have HB8 := Lib.hid (bthen HB7.out hb); clear hb)
          | fail)
        go_ret
        exact ⟨rfl, HB0.out.trans (HB8.out.mono HB0.out.size)⟩
    · have g300 : decide ((300 : Int) < (t.length : Int)) = true := decide_eq_true (by omega)
      have g300' : decide (300 < t.length) = true := decide_eq_true (by omega)
      clear h300 HPT
      go_wp2_with fail
      go_ret
      exact ⟨rfl, HB0.out.trans (HB5.out.mono HB0.out.size)⟩
end Go.Proofs.YtogjgibaolppfaaGreatDoor

/- Facts and contracts for the laws of the sender, part 26. Conditions: those that each theorem names. -/
import Derived.Test.YtogjgibaolppfaaGreatDoorK19
import Derived.Test.YtogjgibaolppfaaGreatDoorK18
import Derived.Test.YtogjgibaolppfaaGreatDoorK22
import Derived.Test.YtogjgibaolppfaaGreatDoorK23
import Derived.Test.YtogjgibaolppfaaGreatDoorK04
import Derived.Deep.DeepCutAuto
import Derived.Deep.CutBlock
import Derived.Laws.AppendOwn
import Derived.Deep.AppendLies
import Derived.OwnWalk
import Derived.IntWalk
import Derived.Laws.StructEq
/- search: Print, for parts that are valid. -/
namespace Go.Proofs.YtogjgibaolppfaaGreatDoor
open Go.RowKit Go.Lib Go.Proofs

set_option maxRecDepth 100000 in
set_option maxHeartbeats 4000000 in
theorem printed_any (p : Prt) (hp : okPrt p) (a : Option Addr) (n c : Nat) (w : World) (hw : WordsO w (.slice a n c) p.words) (hE : Env w) :
    Calls Tryz.prog 55 #[.agg #[.int .i64 (p.kind : Int), .slice a n c, .bool p.neg]] w fun e w' => e = .returned (.tuple #[.string ⟨(form1 p).toArray⟩, .bool true]) ∧ Below w.heap.size w w' := by
  have hn1 := hp.pos
  have hn8 := hp.few
  have hlen : n = p.words.length := by obtain ⟨a', c', e⟩ := hw.form; injection e
  subst hlen
  obtain ⟨w0, hw0⟩ : ∃ w0, w.alloc (.cells #[.int .i64 (p.kind : Int), .slice a p.words.length c, .bool p.neg] 53) = w0 := ⟨_, rfl⟩
  have hb0 : Below w.heap.size w w0 := by rw [← hw0]; exact (Below.refl _ w).alloc (Nat.le_refl _) _
  have hat0 : w0.heap[w.heap.size]? = some (.cells #[.int .i64 (p.kind : Int), .slice a p.words.length c, .bool p.neg] 53 (0, 0)) := by rw [← hw0]; exact heap_alloc_new w _
  have hs0 : w.heap.size < w0.heap.size := by rw [← hw0]; simp
  have x0 : w0.cell? ⟨w.heap.size, 0, none⟩ = some (.int .i64 (p.kind : Int)) := by rw [Lib.cell_of_heap hat0]; rfl
  have x1 : w0.cell? ⟨w.heap.size, 1, none⟩ = some (.slice a p.words.length c) := by rw [Lib.cell_of_heap hat0]; rfl
  have x2 : w0.cell? ⟨w.heap.size, 2, none⟩ = some (.bool p.neg) := by rw [Lib.cell_of_heap hat0]; rfl
  have HW0 := Lib.hid (hw.below hb0)
  have HE0 := Lib.hid (hE.below hb0)
  have HB0 := Lib.hid hb0
  have HAT := Lib.hid hat0
  have hsa := HW0.out.at (by omega)
  have hform : form1 p = (if p.neg = true then [45] else []) ++ (if p.kind = 2 then 34 :: (Lib.join p.words [32] ++ [34]) else if p.kind = 3 then Lib.join p.words [32] ++ [42] else Lib.join p.words [32]) := rfl
  have HFM := Lib.hid hform
  have HOK := Lib.hid hp.ok
  have HONE := Lib.hid hp.one
  obtain ⟨a', c', e', hle, hcm, hcel⟩ := hsa
  injection e' with e1 _ e3
  subst e1; subst e3
  have HC := Lib.hid hcel
  have hkind := hp.kind
  obtain ⟨R, hR⟩ : ∃ R, form1 p = R := ⟨_, rfl⟩
  rw [hR] at HFM ⊢
  obtain ⟨kd, hkd⟩ : ∃ kd, p.kind = kd := ⟨_, rfl⟩
  obtain ⟨ng, hng⟩ : ∃ ng, p.neg = ng := ⟨_, rfl⟩
  obtain ⟨ws, hws⟩ : ∃ ws, p.words = ws := ⟨_, rfl⟩
  simp only [hkd, hng, hws] at *
  clear hform hR hkd hng hws hat0 hb0 hE hw hp
  go_enter Tryz.func55, Tryz.ntmps55
  go_upto_region 1 with fail
  go_cut [27] (fun v wx => v = .bool false ∧ w0 = wx)
  case first =>
    have e1 : decide ((ws.length : Int) < 1) = false := decide_eq_false (by omega)
    have e1' : decide (ws.length < 1) = false := decide_eq_false (by omega)
    have e2 : decide ((8 : Int) < (ws.length : Int)) = false := decide_eq_false (by omega)
    have e2' : decide (8 < ws.length) = false := decide_eq_false (by omega)
    by_cases h2 : kd = 2
    · have e3 : ((kd : Int) != 2) = false := by rw [h2]; rfl
      clear h2
      go_wp2_with fail
      go_meet
      exact ⟨rfl, rfl⟩
    · have e3 : ((kd : Int) != 2) = true := by simp; omega
      have hl1 := HONE.out h2
      have e4 : decide ((1 : Int) < (ws.length : Int)) = false := decide_eq_false (by omega)
      have e4' : decide (1 < ws.length) = false := decide_eq_false (by omega)
      clear h2 hl1
      go_wp2_with fail
      go_meet
      exact ⟨rfl, rfl⟩
  case rest =>
    obtain ⟨rfl, rfl⟩ := hcut
    go_wp2_with fail
    go_loopw [31] (fun v31 wr => ∃ k : Nat, v31 = .int .i64 k ∧ k ≤ ws.length ∧ Hid (Below w0.heap.size w0 wr)) (fun v31 _ => ws.length - (intOf v31).toNat)
    case atStart => exact ⟨0, rfl, Nat.zero_le _, Lib.hid (Below.refl _ _)⟩
    case round =>
      obtain ⟨k, rfl, hk, HB⟩ := hrel
      by_cases hkl : k < ws.length
      · have hki : (k : Int) < (ws.length : Int) := by omega
        obtain ⟨b, off, rfl, ck⟩ := HC.out k hkl
        have hx := HOK.out _ (List.getElem_mem hkl)
        obtain ⟨x, hxe⟩ : ∃ x, ws[k] = x := ⟨_, rfl⟩
        rw [hxe] at ck hx
        have ck2 : wr.cell? ⟨b, off + k, none⟩ = some (.string ⟨x.toArray⟩) := (HB.out.cell (World.block_lt_of_cell? w0 _ ck)).trans ck
        have hiw := fun W => isWord_any ⟨x.toArray⟩ (by show x.toArray.size ≤ _; have := hx.2.1; simp; omega) W
        have hwd : isWd (⟨x.toArray⟩ : ByteArray).data.toList = true := by simpa using isWd_ok hx
        rw [hwd] at hiw
        have hlo := lower_any x (by have := hx.2.1; omega) wr (HE0.out.below HB.out)
        rw [lowD_parts (fun c hc => (hx.2.2 c hc).1), low_word hx] at hlo
        have HLO := Lib.hid hlo
        have hne : (x != x) = false := by simp
        clear hxe hx ck hwd hlo
        go_wp2_with (first
          | (go_at_call 73; (with_reducible (refine (hiw _).mono ?_)); rintro e wx ⟨rfl, rfl⟩)
          | (go_at_call 74; (with_reducible (refine HLO.out.mono ?_)); rintro e wl ⟨rfl, hbl⟩; have HBL := Lib.hid (HB.out.trans (hbl.mono HB.out.size)); clear hbl)
          | fail)
        go_roundw
        case rel => exact ⟨k + 1, by go_num, by omega, HBL⟩
        case measure => simp [intOf]; omega
      · obtain rfl : k = ws.length := by omega
        have hjl : (Lib.join ws [32]).length ≤ 248 := by
          have h1 := join_len 30 (ws := ws) (fun x hx => (HOK.out x hx).2.1)
          have h2 : ws.length * 31 ≤ 8 * 31 := Nat.mul_le_mul_right _ hn8
          omega
        have HJ := Lib.hid (join_any _ ws wr ((HW0.out.below HB.out).at (by omega)) (by omega) (by omega))
        have y0 : wr.cell? ⟨w.heap.size, 0, none⟩ = some (.int .i64 (kd : Int)) := (HB.out.cell hs0).trans x0
        have y1 : wr.cell? ⟨w.heap.size, 1, none⟩ = some (.slice a ws.length c) := (HB.out.cell hs0).trans x1
        have y2 : wr.cell? ⟨w.heap.size, 2, none⟩ = some (.bool ng) := (HB.out.cell hs0).trans x2
        clear x0 x1 x2
        obtain ⟨J, hJ⟩ : ∃ J, Lib.join ws [32] = J := ⟨_, rfl⟩
        rw [hJ] at HJ HFM hjl
        clear hJ
        go_upto_region 10 with (first
          | (go_at_call 56; (with_reducible (refine HJ.out.mono ?_)); rintro e wj ⟨rfl, hbj⟩; have HBJ := Lib.hid hbj; clear hbj)
          | fail)
        have hsr := HB.out.size
        have hrz : w.heap.size < wr.heap.size := by omega
        have z0 : wj.cell? ⟨w.heap.size, 0, none⟩ = some (.int .i64 (kd : Int)) := (HBJ.out.cell hrz).trans y0
        have z2 : wj.cell? ⟨w.heap.size, 2, none⟩ = some (.bool ng) := (HBJ.out.cell hrz).trans y2
        have HBF : Hid (Below w.heap.size w wj) := Lib.hid ((HB0.out.trans (HB.out.mono (by omega))).trans (HBJ.out.mono (by omega)))
        clear y0 y1 y2 HBJ HB HJ
        have HDK : Hid (kd = 1 ∨ kd = 2 ∨ kd = 3) := Lib.hid hkind
        clear hkind HONE HC hkl hk hsr hrz hcm hle
        rcases HDK.out with rfl | rfl | rfl
        · cases ng
          · have HR : Hid (R = J) := Lib.hid (by rw [HFM.out]; simp)
            clear HFM
            go_wp2_with fail
            go_ret2
            exact ⟨by rw [HR.out]; rfl, HBF.out⟩
          · have HR : Hid (R = [45] ++ J) := Lib.hid (by rw [HFM.out]; simp)
            have q1 := run_cat [45] J (by simp; omega)
            clear HFM
            go_wp2_with fail
            go_ret2
            exact ⟨by rw [HR.out]; rfl, HBF.out⟩
        · have q1 := run_cat [34] J (by simp; omega)
          have q2 := run_cat ([34] ++ J) [34] (by simp; omega)
          cases ng
          · have HR : Hid (R = [34] ++ J ++ [34]) := Lib.hid (by rw [HFM.out]; simp)
            clear HFM
            go_wp2_with fail
            go_ret2
            exact ⟨by rw [HR.out]; rfl, HBF.out⟩
          · have HR : Hid (R = [45] ++ ([34] ++ J ++ [34])) := Lib.hid (by rw [HFM.out]; simp)
            have q3 := run_cat [45] ([34] ++ J ++ [34]) (by simp; omega)
            clear HFM
            go_wp2_with fail
            go_ret2
            exact ⟨by rw [HR.out]; rfl, HBF.out⟩
        · have q1 := run_cat J [42] (by simp; omega)
          cases ng
          · have HR : Hid (R = J ++ [42]) := Lib.hid (by rw [HFM.out]; simp)
            clear HFM
            go_wp2_with fail
            go_ret2
            exact ⟨by rw [HR.out]; rfl, HBF.out⟩
          · have HR : Hid (R = [45] ++ (J ++ [42])) := Lib.hid (by rw [HFM.out]; simp)
            have q2 := run_cat [45] (J ++ [42]) (by simp; omega)
            clear HFM
            go_wp2_with fail
            go_ret2
            exact ⟨by rw [HR.out]; rfl, HBF.out⟩
end Go.Proofs.YtogjgibaolppfaaGreatDoor
/- search: Print. -/
namespace Go.Proofs.YtogjgibaolppfaaGreatDoor
open Go.RowKit Go.Lib Go.Proofs

set_option maxRecDepth 100000 in
set_option maxHeartbeats 4000000 in
theorem print_any (v : Value) (l : List Prt) (w : World) (h : PartsAt w v l) (hok : ∀ p ∈ l, okPrt p) (h1 : 1 ≤ l.length) (h8 : l.length ≤ 8) (hlen : (formL l).length ≤ 300) (hE : Env w) :
    Calls Tryz.prog 27 #[v] w fun e w' => e = .returned (.tuple #[.string ⟨(formL l).toArray⟩, .int .i64 0]) ∧ Below w.heap.size w w' := by
  obtain ⟨i0, hi, hz0, hz1, hz2⟩ := info_parts infoStrP
  obtain ⟨a, c, rfl, hle, hcm, hcel⟩ := h.at
  have HC := Lib.hid hcel
  have HOK := Lib.hid hok
  have HE := Lib.hid hE
  obtain ⟨R, hR⟩ : ∃ R, formL l = R := ⟨_, rfl⟩
  rw [hR] at hlen ⊢
  have HRR := Lib.hid hR
  clear hR
  have e1 : decide ((l.length : Int) < 1) = false := decide_eq_false (by omega)
  have e1' : decide (l.length < 1) = false := decide_eq_false (by omega)
  have e2 : decide ((8 : Int) < (l.length : Int)) = false := decide_eq_false (by omega)
  have e2' : decide (8 < l.length) = false := decide_eq_false (by omega)
  clear hok hE h hcel
  go_enter Tryz.func27, Tryz.ntmps27
  go_wp2_with fail
  go_loopw [4, 20] (fun v4 v20 wr => ∃ k : Nat, v20 = .int .i64 k ∧ k ≤ l.length ∧ Hid (wr.ownsRow w.heap.size 9 1 v4 ((l.take k).map form1).length (((l.take k).map form1).map encW)) ∧ Hid (Below w.heap.size w wr)) (fun _ v20 _ => l.length - (intOf v20).toNat)
  case atStart => exact ⟨0, rfl, Nat.zero_le _, Lib.hid (World.ownsRow_nil w _ _ 1), Lib.hid (Below.refl _ _)⟩
  case round =>
    obtain ⟨k, rfl, hk, HR, HB⟩ := hrel
    obtain ⟨af, cf, hvf⟩ := row_form HR.out
    subst hvf
    by_cases hkl : k < l.length
    · have hki : (k : Int) < (l.length : Int) := by omega
      obtain ⟨b0, off0, uw, rfl, ck0, ck1, ck2, hwo⟩ := HC.out k hkl
      replace ck0 := (HB.out.cell (World.block_lt_of_cell? w _ ck0)).trans ck0
      replace ck1 := (HB.out.cell (World.block_lt_of_cell? w _ ck1)).trans ck1
      replace ck2 := (HB.out.cell (World.block_lt_of_cell? w _ ck2)).trans ck2
      have hwo2 := hwo.below HB.out
      have hpt := HOK.out l[k] (List.getElem_mem hkl)
      have hsuc : (l.take (k + 1)).map form1 = (l.take k).map form1 ++ [form1 l[k]] := by
        rw [List.take_succ_eq_append_getElem hkl, List.map_append]; rfl
      have hll : ((l.take k).map form1).length ≤ 8 := by rw [List.length_map, List.length_take]; omega
      obtain ⟨pt, hpte⟩ : ∃ pt, l[k] = pt := ⟨_, rfl⟩
      rw [hpte] at ck0 ck2 hwo2 hpt hsuc
      obtain ⟨ua, uc, huw⟩ := hwo2.form
      subst huw
      obtain ⟨wA, hwA⟩ : ∃ wA, wr.alloc (.cells #[.int .i64 (pt.kind : Int), .slice ua pt.words.length uc, .bool pt.neg] 53) = wA := ⟨_, rfl⟩
      have hbA : Below wr.heap.size wr wA := by rw [← hwA]; exact (Below.refl _ wr).alloc (Nat.le_refl _) _
      have hP0 : wA.heap[wr.heap.size]? = some (.cells #[.int .i64 (pt.kind : Int), .slice ua pt.words.length uc, .bool pt.neg] 53 (0, 0)) := by rw [← hwA]; exact heap_alloc_new wr _
      have l0 : wA.cell? ⟨wr.heap.size, 0, none⟩ = some (.int .i64 (pt.kind : Int)) := by rw [Lib.cell_of_heap hP0]; rfl
      have l1 : wA.cell? ⟨wr.heap.size, 1, none⟩ = some (.slice ua pt.words.length uc) := by rw [Lib.cell_of_heap hP0]; rfl
      have l2 : wA.cell? ⟨wr.heap.size, 2, none⟩ = some (.bool pt.neg) := by rw [Lib.cell_of_heap hP0]; rfl
      have HPR := Lib.hid (printed_any pt hpt ua pt.words.length uc wA (hwo2.below hbA) ((HE.out.below HB.out).below hbA))
      have HRA := Lib.hid (row_stay HR.out (w' := wA) fun i hi => hbA.block i (HR.out.lt i hi).2)
      have HBA : Hid (Below w.heap.size w wA) := Lib.hid (HB.out.trans (hbA.mono HB.out.size))
      have HSU := Lib.hid hsuc
      obtain ⟨L, hL⟩ : ∃ L, (l.take k).map form1 = L := ⟨_, rfl⟩
      rw [hL] at HSU hll HRA
      obtain ⟨f9, hf9⟩ : ∃ f9, form1 pt = f9 := ⟨_, rfl⟩
      rw [hf9] at HPR HSU
      rw [hL]
      clear hwo hwo2 hpt hpte hsuc hP0 hbA hL hf9 HR
      go_upto_region 8 with (first
        | (go_at_call 55; (with_reducible (refine HPR.out.mono ?_)); rintro e wp ⟨rfl, hbp⟩; have HBP := Lib.hid hbp; clear hbp)
        | fail)
      have HRP := Lib.hid (row_stay HRA.out (w' := wp) fun i hi => HBP.out.block i (HRA.out.lt i hi).2)
      have hBP : Below w.heap.size w wp := HBA.out.trans (HBP.out.mono HBA.out.size)
      have hsP := hBP.size
      have HBPP := Lib.hid hBP
      clear hBP HBP HPR HBA
      go_wp2_with (at_builtin; refine wpList_append_own _ rfl _ _ 28 rfl w.heap.size 9 i0 _ 1 16 Tryz.underlying28 hi hz0 hz1 hz2 rfl (by decide) _ _ _ rfl (HRP.out.alloc _) ⟨wp.heap.size, 0, none⟩ 1 1 [.string ⟨f9.toArray⟩] rfl rfl (World.news_of_block (cs := #[.string ⟨f9.toArray⟩]) (t := 9) (fr := (0, 0)) (heap_alloc_new wp _)) (by simp [Value.oneCell']) ?c3 ?c4 ?c5 ?_)
      case c3 => unfold maxLen; omega
      case c4 => omega
      case c5 => simp; omega
      intro v' w5 hown' hgrow _
      have HT5 : Hid (w5.ownsRow w.heap.size 9 1 v' ((l.take (k + 1)).map form1).length (((l.take (k + 1)).map form1).map encW)) := Lib.hid (by
        rw [HSU.out, List.length_append, List.map_append]
        exact hown')
      have HB5 : Hid (Below w.heap.size w w5) := Lib.hid ((HBPP.out.alloc hsP _).grown hgrow (by simp; omega) (fun j e => (HRP.out.lt j e).1))
      clear hown' hgrow
      go_wp2_with fail
      go_roundw
      case rel => exact ⟨k + 1, by go_num, by omega, HT5, HB5⟩
      case measure => simp [intOf]; omega
    · obtain rfl : k = l.length := by omega
      have hfr := HR.out
      rw [List.take_length] at hfr ⊢
      have hsa : StrsAt wr (.slice af (l.map form1).length cf) (l.map form1) := by
        have h0 : WordsO wr (.slice af (l.map form1).length cf) (l.map form1) := hfr.mono_base (Nat.zero_le _)
        exact h0.at (by rw [List.length_map]; omega)
      have hj := join_any _ (l.map form1) wr hsa (by have h9 := hlen; rw [← HRR.out] at h9; unfold formL at h9; omega) (by rw [List.length_map]; omega)
      have he : Lib.join (l.map form1) [32] = formL l := rfl
      rw [he, HRR.out, List.length_map] at hj
      rw [List.length_map]
      have HJ := Lib.hid hj
      have g300 : ¬ (300 : Int) < (R.length : Int) := by omega
      clear hj he hsa hfr HR
      go_wp2_with (first
        | (go_at_call 56; (with_reducible (refine HJ.out.mono ?_)); rintro e wj ⟨rfl, hbj⟩; have HBJ := Lib.hid (HB.out.trans (hbj.mono HB.out.size)); clear hbj)
        | fail)
      go_ret2
      exact ⟨rfl, HBJ.out⟩
end Go.Proofs.YtogjgibaolppfaaGreatDoor
/- search: Suggest, walked. -/
namespace Go.Proofs.YtogjgibaolppfaaGreatDoor
open Go.RowKit Go.Lib Go.Proofs Go.Sort Go.Maps

theorem termsQ_mem {D : List Dc} {s : List UInt8} {n : Int} {x : Wd × Nat} (h : x ∈ termsQ D s n) : ∃ y, prefW s = some y ∧ x.1 ∈ vocab D ∧ y.isPrefixOf x.1 = true := by
  unfold termsQ at h
  cases hp : prefW s with
  | none => rw [hp] at h; cases h
  | some y =>
    rw [hp] at h
    have := mem_termsD.1 (List.mem_of_mem_take h)
    exact ⟨y, rfl, this.1, this.2.1⟩
theorem termsQ_le (D : List Dc) (s : List UInt8) (n : Int) : (termsQ D s n).length ≤ (vocab D).length := by
  unfold termsQ
  cases prefW s with
  | none => simp
  | some y =>
    simp only
    rw [List.length_take]
    refine Nat.le_trans (Nat.min_le_right _ _) ?_
    unfold termsD
    rw [List.length_mergeSort, List.length_map]
    exact List.length_filter_le _ _
set_option maxRecDepth 100000 in
set_option maxHeartbeats 4000000 in
theorem sug_any {S Q : Nat → Prop} {N : Nat} {p : Nat} {D : List Dc} (w : World) (h : IdxAt S Q N w p D) (hN : N ≤ 1000000) (q : List UInt8) (hq : q.length ≤ 100000) (n : Int) (hn : -9223372036854775808 ≤ n ∧ n ≤ 9223372036854775807) :
    Calls Tryz.prog 25 #[.pointer (some ⟨p, 0, none⟩), .string ⟨q.toArray⟩, .int .i64 n] w fun e w' => ∃ v, e = .returned v ∧ StrsR w.heap.size w' v (sugD D q n) ∧ Below w.heap.size w w' := by
  obtain ⟨i0, hi, hz0, hz1, hz2⟩ := info_parts infoStrP
  have hst := stem_le q
  have hht := head_take q
  have hat := fun k h1 h2 h3 => @stem_at q k h1 h2 h3
  obtain ⟨m, hm⟩ : ∃ m, q.length - (stemF q).length = m := ⟨_, rfl⟩
  rw [hm] at hht
  simp only [hm] at hat
  have hmq : m ≤ q.length := by omega
  have hsl : (stemF q).length = q.length - m := by omega
  have hx1 : (⟨q.toArray⟩ : ByteArray).extract 0 m = ⟨(headF q).toArray⟩ := by
    apply ByteArray.ext; apply Array.ext'
    rw [← hht.1]; simp [ByteArray.data_extract]
  have hx2 : (⟨q.toArray⟩ : ByteArray).extract m q.length = ⟨(stemF q).toArray⟩ := by
    apply ByteArray.ext; apply Array.ext'
    rw [← hht.2]; simp [ByteArray.data_extract]
    exact List.take_of_length_le (by simp)
  have HX1 := Lib.hid hx1; have HX2 := Lib.hid hx2; have HAT := Lib.hid hat
  have HI := Lib.hid h
  have HSU : Hid (sugD D q n = if stemF q = [] ∨ 30 < (stemF q).length then [] else (termsQ D (stemF q) n).map fun t => headF q ++ t.1) := Lib.hid rfl
  obtain ⟨R, hR⟩ : ∃ R, sugD D q n = R := ⟨_, rfl⟩
  rw [hR] at HSU ⊢
  have hhl : (headF q).length ≤ 100000 := by rw [← hht.1, List.length_take]; omega
  obtain ⟨hd, hhd⟩ : ∃ x, headF q = x := ⟨_, rfl⟩
  obtain ⟨st, hste⟩ : ∃ x, stemF q = x := ⟨_, rfl⟩
  rw [hhd] at HX1 HSU hhl
  rw [hste] at HX2 HSU hsl
  clear hx1 hx2 hat h hR hhd hste hht hst hm
  go_enter Tryz.func25, Tryz.ntmps25
  go_wp2_with fail
  go_loop [7] (fun v7 => ∃ k : Nat, v7 = .int .i64 k ∧ m ≤ k ∧ k ≤ q.length) (fun v7 => (intOf v7).toNat)
  case atStart => exact ⟨q.length, rfl, hmq, Nat.le_refl _⟩
  case round =>
    obtain ⟨k, rfl, hk, hkq⟩ := hrel
    go_upto_region 2 with fail
    go_cut [23] (fun v wx => v = .bool (decide (m < k)) ∧ w = wx)
    case first =>
      by_cases h0 : k = 0
      · subst h0
        have g2 : decide (m < 0) = false := decide_eq_false (by omega)
        go_wp2_with fail
        go_meet
        exact ⟨by rw [g2], rfl⟩
      · obtain ⟨k', rfl⟩ : ∃ k', k = k' + 1 := ⟨k - 1, by omega⟩
        have g1 : decide ((0 : Int) < ((k' + 1 : Nat) : Int)) = true := decide_eq_true (by omega)
        have g1' : decide (0 < k' + 1) = true := decide_eq_true (by omega)
        have hiff := HAT.out (k' + 1) hk hkq (by omega)
        simp only [Nat.add_sub_cancel] at hiff
        have hin := fun W => inWord_any ((⟨q.toArray⟩ : ByteArray)[k']'(by show k' < q.toArray.size; simp; omega)) W
        have hd2 : isPart ((⟨q.toArray⟩ : ByteArray)[k']'(by show k' < q.toArray.size; simp; omega)) = decide (m < k' + 1) := by
          show isPart (q[k']'(by omega)) = _
          rw [Bool.eq_iff_iff, hiff, decide_eq_true_eq]; omega
        rw [hd2] at hin
        obtain ⟨B, hB⟩ : ∃ B, decide (m < k' + 1) = B := ⟨_, rfl⟩
        rw [hB] at hin
        have HBB := Lib.hid hB
        clear hB hd2 hiff
        have hk1 : IntKind.i64.wrap (((k' + 1 : Nat) : Int) - 1) = (k' : Int) := by
          rw [show ((k' + 1 : Nat) : Int) - 1 = (k' : Int) by omega]; exact IntWalk.i64_in _ (by omega)
        have hk2 : (k' : Int) < (q.length : Int) := by omega
        go_wp2_with (first
          | (go_at_call 52; (with_reducible (refine (hin _).mono ?_)); rintro e wx ⟨rfl, rfl⟩)
          | fail)
        go_meet
        exact ⟨by rw [HBB.out], rfl⟩
    case rest =>
      obtain ⟨rfl, rfl⟩ := hcut
      by_cases hmk : m < k
      · have g2 : decide (m < k) = true := decide_eq_true hmk
        rw [g2]
        go_wp2_with fail
        go_round
        case rel => exact ⟨k - 1, by go_num, by omega, by omega⟩
        case measure => simp [intOf]; omega
      · have g2 : decide (m < k) = false := decide_eq_false hmk
        rw [g2]
        obtain rfl : k = m := by omega
        have hex1 := HX1.out
        have hex2 := HX2.out
        go_upto_region 4 with fail
        go_region
        clear hex1 hex2 HX1 HX2 HAT g2 hmk hk
        have hbd : Below w.heap.size w w.drew := (Below.refl _ w).drewN 1
        obtain ⟨wd, hwd⟩ : ∃ wd, w.drew = wd := ⟨_, rfl⟩
        rw [hwd] at hbd ⊢
        have HBD := Lib.hid hbd
        clear hwd hbd
        by_cases hs0 : st = []
        · have HR : Hid (R = []) := Lib.hid (by rw [HSU.out, if_pos (.inl hs0)])
          subst hs0
          clear HSU
          go_wp2_with fail
          go_ret
          exact ⟨_, rfl, by rw [HR.out]; exact World.ownsRow_nil _ _ _ _, HBD.out⟩
        · have gs : (!st.isEmpty) = true := by cases st <;> simp_all
          have gs' : st.isEmpty = false := by cases st <;> simp_all
          by_cases hs30 : 30 < st.length
          · have HR : Hid (R = []) := Lib.hid (by rw [HSU.out, if_pos (.inr hs30)])
            have g3 : (30 : Int) < (st.length : Int) := by omega
            clear HSU
            go_wp2_with fail
            go_ret
            exact ⟨_, rfl, by rw [HR.out]; exact World.ownsRow_nil _ _ _ _, HBD.out⟩
          · have HR : Hid (R = (termsQ D st n).map fun t => hd ++ t.1) := Lib.hid (by rw [HSU.out, if_neg (fun h => h.elim hs0 hs30)])
            have g3 : ¬ (30 : Int) < (st.length : Int) := by omega
            have HT := Lib.hid (terms_any wd (HI.out.below HBD.out) hN st (by omega) n hn.1 hn.2)
            clear HSU
            go_upto_region 9 with (first
              | (go_at_call 53; (with_reducible (refine HT.out.mono ?_)); rintro e w2 ⟨v2, rfl, hr2, hb2⟩; have HR2 := Lib.hid hr2; have HB2 := Lib.hid (bthen HBD.out hb2); obtain ⟨at2, ct2, hv2⟩ := row_form hr2; subst hv2; clear hr2 hb2)
              | fail)
            have HTL : Hid (∀ x ∈ termsQ D st n, x.1.length ≤ 30) := Lib.hid (fun x hx => by
              obtain ⟨y, -, hv, -⟩ := termsQ_mem hx
              obtain ⟨d, hd, hyd⟩ := mem_vocab.1 hv
              exact (HI.out.oks d hd _ hyd).2.1)
            have hTl : (termsQ D st n).length ≤ 256000 := Nat.le_trans (termsQ_le D st n) (vocab_len HI.out.asc HI.out.ids HI.out.small)
            obtain ⟨T, hTe⟩ : ∃ T, termsQ D st n = T := ⟨_, rfl⟩
            rw [hTe] at HTL hTl HR HR2 ⊢
            have hs2 := HB2.out.size
            clear hTe HT
            go_loopw [10, 48] (fun v10 v48 wr => ∃ j : Nat, v48 = .int .i64 j ∧ j ≤ T.length ∧ Hid (StrsR w.heap.size wr v10 ((T.take j).map fun t => hd ++ t.1)) ∧ Hid (Below w.heap.size w wr) ∧ Hid (TermsR wd.heap.size wr (.slice at2 T.length ct2) T)) (fun _ v48 _ => T.length - (intOf v48).toNat)
            case atStart => exact ⟨0, rfl, Nat.zero_le _, Lib.hid (World.ownsRow_nil _ _ _ _), HB2, HR2⟩
            case round =>
              obtain ⟨j, rfl, hj, HSr, HBr, HTr⟩ := hrel
              obtain ⟨af, cf, hvf⟩ := row_form HSr.out
              subst hvf
              by_cases hjl : j < T.length
              · have hji : (j : Int) < (T.length : Int) := by omega
                obtain ⟨a', c', e', -, -, hc⟩ := TermsR.at HTr.out
                injection e' with e1 _ e3
                subst e1; subst e3
                obtain ⟨bh, offh, rfl, g0, g1⟩ := hc j hjl
                rw [← Nat.add_assoc] at g1
                have hxl := HTL.out _ (List.getElem_mem hjl)
                have hsuc : (T.take (j + 1)).map (fun t => hd ++ t.1) = (T.take j).map (fun t => hd ++ t.1) ++ [hd ++ (T[j]).1] := by
                  rw [List.take_succ_eq_append_getElem hjl, List.map_append]; rfl
                obtain ⟨⟨x, ct⟩, hxe⟩ : ∃ x, T[j] = x := ⟨_, rfl⟩
                rw [hxe] at g0 g1 hxl hsuc
                simp only at g0 g1 hxl hsuc
                obtain ⟨ctz, hct⟩ : ∃ z : Int, (ct : Int) = z := ⟨_, rfl⟩
                rw [hct] at g1
                have hll : ((T.take j).map fun t => hd ++ t.1).length ≤ 256000 := by rw [List.length_map, List.length_take]; omega
                obtain ⟨L, hL⟩ : ∃ L, (T.take j).map (fun t => hd ++ t.1) = L := ⟨_, rfl⟩
                rw [hL] at hsuc hll HSr ⊢
                have HSU := Lib.hid hsuc
                have hcat := run_cat hd x (by omega)
                have hbs := HBr.out.size
                have HST' := HSr.out
                unfold StrsR at HST'
                obtain ⟨wA, hwA⟩ : ∃ wA, wr.alloc (.cells #[.string ⟨x.toArray⟩, .int .i64 ctz] 92) = wA := ⟨_, rfl⟩
                have hbA : Below wr.heap.size wr wA := by rw [← hwA]; exact (Below.refl _ wr).alloc (Nat.le_refl _) _
                have k0 : wA.cell? ⟨wr.heap.size, 0, none⟩ = some (.string ⟨x.toArray⟩) := by rw [Lib.cell_of_heap (by rw [← hwA]; exact heap_alloc_new wr _)]; rfl
                have hSA := row_stay HST' (w' := wA) fun i hi => hbA.block i (HST'.lt i hi).2
                have HTA : Hid (TermsR wd.heap.size wA (.slice (some ⟨bh, offh, none⟩) T.length ct2) T) := Lib.hid (row_stay HTr.out (w' := wA) fun i hi => hbA.block i (HTr.out.lt i hi).2)
                have HBA : Hid (Below w.heap.size w wA) := Lib.hid (HBr.out.trans (hbA.mono hbs))
                have hsA : w.heap.size ≤ wA.heap.size := HBA.out.size
                clear hxe hct hsuc hL HSr HST' hc hbA HTr HBr
                go_wp2_with (at_builtin; refine wpList_append_own _ rfl _ _ 28 rfl w.heap.size 9 i0 _ 1 16 Tryz.underlying28 hi hz0 hz1 hz2 rfl (by decide) _ _ _ rfl (hSA.alloc _) ⟨wA.heap.size, 0, none⟩ 1 1 [.string ⟨(hd ++ x).toArray⟩] rfl rfl (World.news_of_block (cs := #[.string ⟨(hd ++ x).toArray⟩]) (t := 9) (fr := (0, 0)) (heap_alloc_new wA _)) (by simp [Value.oneCell']) ?c3 ?c4 ?c5 ?_)
                case c3 => unfold maxLen; omega
                case c4 => omega
                case c5 => omega
                intro v' w5 hown' hgrow _
                have HT5 : Hid (StrsR w.heap.size w5 v' ((T.take (j + 1)).map fun t => hd ++ t.1)) := Lib.hid (by
                  rw [HSU.out]
                  unfold StrsR
                  rw [List.length_append, List.map_append]
                  exact hown')
                have HT6 : Hid (TermsR wd.heap.size w5 (.slice (some ⟨bh, offh, none⟩) T.length ct2) T) := Lib.hid (row_grown (HTA.out.alloc _) (hSA.alloc _) (by decide) hgrow)
                have HB5 : Hid (Below w.heap.size w w5) := Lib.hid ((HBA.out.alloc hsA _).grown hgrow (by simp; omega) (fun j e => (hSA.lt j e).1))
                clear hown' hgrow hSA
                go_wp2_with fail
                go_roundw
                case rel => exact ⟨j + 1, by go_num, by omega, HT5, HB5, HT6⟩
                case measure => simp [intOf]; omega
              · obtain rfl : j = T.length := by omega
                have hfr := HSr.out
                rw [List.take_length, ← HR.out] at hfr
                rw [List.take_length, ← HR.out]
                clear HSr HTr
                go_wp2_with fail
                go_ret
                exact ⟨_, rfl, hfr, HBr.out⟩
end Go.Proofs.YtogjgibaolppfaaGreatDoor
/- the comparisons: equal lists are the same. -/
namespace Go.Proofs.YtogjgibaolppfaaGreatDoor
open Go.RowKit Go.Lib Go.Proofs

set_option maxRecDepth 100000 in
set_option maxHeartbeats 2000000 in
theorem sameHits_true (v v' : Value) (l : List (Int × Nat)) (w : World) (h : HitsAt w v l) (h' : HitsAt w v' l) :
    Calls Tryz.prog 22 #[v, v'] w fun e w' => e = .returned (.bool true) ∧ Below w.heap.size w w' := by
  obtain ⟨A, cap, rfl, hl, hc, hce⟩ := h
  obtain ⟨A', cap', rfl, hl', hc', hce'⟩ := h'
  have HC := Lib.hid hce; have HC' := Lib.hid hce'
  clear hce hce'
  go_enter Tryz.func22, Tryz.ntmps22
  go_wp2
  go_loopw [5] (fun i wr => ∃ k : Nat, i = .int .i64 k ∧ k ≤ l.length ∧ Hid (Below w.heap.size w wr)) (fun i _ => l.length - (intOf i).toNat)
  case atStart => exact ⟨0, rfl, by omega, Lib.hid (Below.refl _ _)⟩
  case round =>
    obtain ⟨k, rfl, hk, HB⟩ := hrel
    by_cases hlt : k < l.length
    · obtain ⟨g, o, rfl, c0, c1⟩ := HC.out k hlt
      obtain ⟨g', o', rfl, d0, d1⟩ := HC'.out k hlt
      have e0 := (HB.out.cell (p := ⟨g, _, none⟩) (World.block_lt_of_cell? w _ c0)).trans c0
      have e1 := (HB.out.cell (p := ⟨g, _, none⟩) (World.block_lt_of_cell? w _ c1)).trans c1
      have f0 := (HB.out.cell (p := ⟨g', _, none⟩) (World.block_lt_of_cell? w _ d0)).trans d0
      have f1 := (HB.out.cell (p := ⟨g', _, none⟩) (World.block_lt_of_cell? w _ d1)).trans d1
      rw [← Nat.add_assoc] at e1 f1
      generalize l[k] = x at *
      clear c0 c1 d0 d1
      have k0 : (0 : Int) ≤ (k : Int) := by omega
      have k1 : (k : Int) < (l.length : Int) := by omega
      go_wp2_with fail
      go_quiet (fail)
      go_wp2
      go_roundw
      case rel => exact ⟨k + 1, by go_num, by omega, Lib.hid (HB.out.drewN _)⟩
      case measure => simp [intOf]; omega
    · go_wp2
      go_ret
      exact ⟨rfl, HB.out⟩

set_option maxRecDepth 100000 in
set_option maxHeartbeats 2000000 in
theorem sameStr_true (v v' : Value) (l : List (List UInt8)) (w : World) (h : StrsAt w v l) (h' : StrsAt w v' l) (hl7 : l.length ≤ 9223372036854775807) :
    Calls Tryz.prog 24 #[v, v'] w fun e w' => e = .returned (.int .i64 1) ∧ Below w.heap.size w w' := by
  obtain ⟨A, cap, rfl, hl, hc, hce⟩ := h
  obtain ⟨A', cap', rfl, hl', hc', hce'⟩ := h'
  have HC := Lib.hid hce; have HC' := Lib.hid hce'
  clear hce hce'
  go_enter Tryz.func24, Tryz.ntmps24
  go_wp2
  go_loopw [5] (fun i wr => ∃ k : Nat, i = .int .i64 k ∧ k ≤ l.length ∧ Hid (Below w.heap.size w wr)) (fun i _ => l.length - (intOf i).toNat)
  case atStart => exact ⟨0, rfl, by omega, Lib.hid (Below.refl _ _)⟩
  case round =>
    obtain ⟨k, rfl, hk, HB⟩ := hrel
    by_cases hlt : k < l.length
    · obtain ⟨g, o, rfl, c0⟩ := HC.out k hlt
      obtain ⟨g', o', rfl, d0⟩ := HC'.out k hlt
      have e0 := (HB.out.cell (p := ⟨g, _, none⟩) (World.block_lt_of_cell? w _ c0)).trans c0
      have f0 := (HB.out.cell (p := ⟨g', _, none⟩) (World.block_lt_of_cell? w _ d0)).trans d0
      generalize l[k] = x at *
      change _ = some (Value.string ⟨x.toArray⟩) at e0 f0
      clear c0 d0
      have k0 : (0 : Int) ≤ (k : Int) := by omega
      have k1 : (k : Int) < (l.length : Int) := by omega
      go_wp2_with fail
      go_quiet (fail)
      go_wp2
      go_roundw
      case rel => exact ⟨k + 1, by go_num, by omega, Lib.hid (HB.out.drewN _)⟩
      case measure => simp [intOf]; omega
    · go_wp2
      go_ret
      exact ⟨rfl, HB.out⟩

set_option maxRecDepth 100000 in
set_option maxHeartbeats 2000000 in
theorem in_any (v : Value) (l : List Int) (x : Int) (hx : I64 x) (w : World) (h : IntsL w v l) :
    Calls Tryz.prog 30 #[v, .int .i64 x] w fun e w' => e = .returned (.int .i64 (inN l x : Int)) ∧ w = w' := by
  obtain ⟨A, cap, rfl, hl, hc, hce⟩ := h
  have HC := Lib.hid hce
  have HN : Hid (∀ k, k ≤ l.length → (∀ j (h : j < l.length), j < k → l[j] ≠ x) → (k = l.length → inN l x = 0) ∧ ∀ hk : k < l.length, l[k] = x → inN l x = 1) := Lib.hid (fun k hk hne => ⟨fun e => inN_no (fun hm => by
      obtain ⟨j, hj, he⟩ := List.getElem_of_mem hm
      exact hne j hj (by omega) he), fun hk he => inN_yes (he ▸ List.getElem_mem hk)⟩)
  obtain ⟨R, hR⟩ : ∃ R, inN l x = R := ⟨_, rfl⟩
  rw [hR] at HN ⊢
  clear hce hR
  go_enter Tryz.func30, Tryz.ntmps30
  go_wp2
  go_loop [5] (fun i => ∃ k : Nat, i = .int .i64 k ∧ k ≤ l.length ∧ Hid (∀ j (h : j < l.length), j < k → l[j] ≠ x)) (fun i => l.length - (intOf i).toNat)
  case atStart => exact ⟨0, rfl, by omega, Lib.hid (fun j _ h => by omega)⟩
  case round =>
    obtain ⟨k, rfl, hk, HJ⟩ := hrel
    by_cases hlt : k < l.length
    · have k1 : (k : Int) < (l.length : Int) := by omega
      obtain ⟨g, o, rfl, c0, hi⟩ := HC.out k hlt
      have hy := (HN.out k hk HJ.out).2 hlt
      have HJ2 : Hid (l[k] ≠ x → ∀ j (h : j < l.length), j < k + 1 → l[j] ≠ x) := Lib.hid (fun hne j h hj => by
        by_cases e : j = k
        · subst e; exact hne
        · exact HJ.out j h (by omega))
      obtain ⟨y, hy0⟩ : ∃ y, l[k] = y := ⟨_, rfl⟩
      rw [hy0] at c0 hy HJ2
      by_cases he : y = x
      · have HR := Lib.hid (hy he)
        subst he
        clear hy hy0 HJ2 HJ HN
        go_wp2
        go_ret
        exact ⟨by rw [HR.out]; rfl, rfl⟩
      · have g1 : (y == x) = false := by simpa using he
        have HJ3 := Lib.hid (HJ2.out he)
        clear hy hy0 HJ2 HJ HN he
        go_wp2
        go_round
        case rel => exact ⟨k + 1, by go_num, by omega, HJ3⟩
        case measure => simp [intOf]; omega
    · obtain rfl : k = l.length := by omega
      have HR := Lib.hid ((HN.out l.length hk HJ.out).1 rfl)
      clear HN HJ
      go_wp2
      go_ret
      exact ⟨by rw [HR.out]; rfl, rfl⟩
end Go.Proofs.YtogjgibaolppfaaGreatDoor
/- made, walked. -/
namespace Go.Proofs.YtogjgibaolppfaaGreatDoor
open Go.RowKit Go.Sort Go.Proofs Go.Maps Go.Lib

theorem x_put {B : Nat} {w0 : World} {p y : Nat} {D E : List Dc} {N : Nat} {W : World} (h : St B w0 p y D E N W) (hN : N ≤ 500000) (id : Int) (h1 : 1 ≤ id) (h2 : id ≤ 256) (s : List UInt8) (hs : s.length ≤ 400) :
    Calls Tryz.prog 34 #[.pointer (some ⟨p, 0, none⟩), .int .i64 id, .string ⟨s.toArray⟩] W fun e w' => e = .returned (.int .i64 0) ∧ St B w0 p y (putD D id (wordsOf s)) E (N + 1000) w' := by
  obtain ⟨S, T, k1, k2⟩ := h
  refine (put_any W k1.idx hN (fun k hk => by rw [hk]; exact k1.ref.ylt) id h1 h2 s (by omega) (by have := words_le s; omega)).mono ?_
  rintro e w' ⟨rfl, S', hI, hb, hs'⟩
  exact ⟨rfl, St.xstep k1 k2 hI hb hs'⟩
theorem y_put {B : Nat} {w0 : World} {p y : Nat} {D E : List Dc} {N : Nat} {W : World} (h : St B w0 p y D E N W) (hA : Asc E) (hI : Ids E) (id : Int) (h1 : 1 ≤ id) (h2 : id ≤ 256) (s : List UInt8) (hs : s.length ≤ 400) :
    Calls Tryz.prog 42 #[.pointer (some ⟨y, 0, none⟩), .int .i64 id, .string ⟨s.toArray⟩] W fun e w' => e = .returned (.int .i64 0) ∧ St B w0 p y D (putD E id (wordsOf s)) N w' := by
  obtain ⟨S, T, k1, k2⟩ := h
  refine (refPut_any W k1.ref hA hI id h1 h2 s (by omega) (by have := words_le s; omega)).mono ?_
  rintro e w' ⟨rfl, T', hR, hb, ht⟩
  exact ⟨rfl, St.ystep k1 k2 hR hb ht⟩
set_option maxRecDepth 100000 in
set_option maxHeartbeats 4000000 in
theorem made_any (v : Value) (x : List Int) (w : World) (hv : IntsL w v x) :
    Calls Tryz.prog 19 #[v] w fun e w' => ∃ p y, e = .returned (.tuple #[.pointer (some ⟨p, 0, none⟩), .pointer (some ⟨y, 0, none⟩)]) ∧ St w.heap.size w p y (mD x (min x.length 12)) (mD x (min x.length 12)) 12000 w' := by
  obtain ⟨a, c, rfl, hle, hcm, hcel⟩ := hv
  have HC := Lib.hid hcel
  clear hcel
  have HN := Lib.hid (new_any w)
  go_enter Tryz.func19, Tryz.ntmps19
  go_wp2_with (first
    | (go_at_call 33; (with_reducible (refine HN.out.mono ?_)); rintro e w1 ⟨p, S, rfl, hI1, hS1, hb1⟩; have HI1 := Lib.hid hI1; have HS1 := Lib.hid hS1; have HB1 := Lib.hid hb1; clear hI1 hS1 hb1)
    | fail)
  obtain ⟨w2, hw2⟩ : ∃ w2, w1.alloc (.cells #[.slice none 0 0] 79) = w2 := ⟨_, rfl⟩
  have HS2 : Hid (St w.heap.size w p w1.heap.size [] [] 0 w2) := Lib.hid (St.start HI1.out HS1.out HB1.out hw2)
  rw [hw2]
  obtain ⟨y, hy⟩ : ∃ y, w1.heap.size = y := ⟨_, rfl⟩
  rw [hy] at HS2 ⊢
  clear hw2 hy HI1 HS1 HB1 HN
  go_loopw [6] (fun v6 wr => ∃ k : Nat, v6 = .int .i64 k ∧ k ≤ x.length ∧ k ≤ 12 ∧ Hid (St w.heap.size w p y (mD x k) (mD x k) (1000 * k) wr)) (fun v6 _ => x.length - (intOf v6).toNat)
  case atStart => exact ⟨0, rfl, Nat.zero_le _, Nat.zero_le _, HS2⟩
  case round =>
    clear HS2
    obtain ⟨k, rfl, hk, hk12, HS⟩ := hrel
    by_cases hgo : k < x.length ∧ k < 12
    · have g1 : decide ((k : Int) < (x.length : Int)) = true := decide_eq_true (by omega)
      have g1' : decide (k < x.length) = true := decide_eq_true hgo.1
      have g2 : decide ((k : Int) < 12) = true := decide_eq_true (by omega)
      have g2' : decide (k < 12) = true := decide_eq_true hgo.2
      have hki : (k : Int) < (x.length : Int) := by omega
      obtain ⟨b, off, rfl, ck, hi64⟩ := HC.out k hgo.1
      have HLT := Lib.hid (World.block_lt_of_cell? w _ ck)
      have HCK := Lib.hid ck
      have hB : Hid (Below w.heap.size w wr) := Lib.hid (by obtain ⟨S, T, -, h⟩ := HS.out; exact h)
      have ck2 := (hB.out.cell HLT.out).trans ck
      have hgd : x.getD k 0 = x[k] := by simp [List.getD, List.getElem?_eq_getElem hgo.1]
      have HMD : Hid (mD x (k + 1) = putD (mD x k) ((k : Int) + 1) (wordsOf (textF x[k]))) := Lib.hid (by rw [mD, hgd])
      have htl := text_len x[k]
      obtain ⟨n, hn⟩ : ∃ n, x[k] = n := ⟨_, rfl⟩
      rw [hn] at ck2 hi64 HMD htl HCK
      have HTX := Lib.hid (fun W => text_any n hi64 W)
      have hA := mD_asc x k
      have hI := mD_ids x k (by omega)
      obtain ⟨t, ht⟩ : ∃ t, textF n = t := ⟨_, rfl⟩
      rw [ht] at HMD HTX htl
      obtain ⟨D, hD⟩ : ∃ D, mD x k = D := ⟨_, rfl⟩
      rw [hD] at HMD HS hA hI
      have HA := Lib.hid hA; have HI := Lib.hid hI
      have hkw : IntKind.i64.wrap ((k : Int) + 1) = (k : Int) + 1 := IntWalk.i64_in _ (by omega)
      obtain ⟨hg1, hg2⟩ := hgo
      clear ck hi64 hn ht hD hgd hA hI
      go_upto_region 7 with (first
        | (go_at_call 35; (with_reducible (refine (HTX.out _).mono ?_)); rintro e wt ⟨rfl, hbt⟩; have HST : Hid (St w.heap.size w p y D D (1000 * k) wt) := Lib.hid (HS.out.below hbt HS.out.size); clear hbt; have HXP := Lib.hid (x_put HST.out (by omega) ((k : Int) + 1) (by omega) (by omega) t (by omega)))
        | (go_at_call 34; (with_reducible (refine HXP.out.mono ?_)); rintro e wx ⟨rfl, hsx⟩; have HSX := Lib.hid hsx; clear hsx)
        | fail)
      have hB2 : Below w.heap.size w wx := by obtain ⟨S, T, -, h⟩ := HSX.out; exact h
      have ck3 := (hB2.cell HLT.out).trans HCK.out
      clear hB2 ck2
      go_wp2_with (first
        | (go_at_call 35; (with_reducible (refine (HTX.out _).mono ?_)); rintro e wt2 ⟨rfl, hbt⟩; have HST2 := Lib.hid (HSX.out.below hbt HSX.out.size); clear hbt; have HYP := Lib.hid (y_put HST2.out HA.out HI.out ((k : Int) + 1) (by omega) (by omega) t (by omega)))
        | (go_at_call 42; (with_reducible (refine HYP.out.mono ?_)); rintro e wy ⟨rfl, hsy⟩; have HSY := Lib.hid hsy; clear hsy)
        | fail)
      go_roundw
      case rel => exact ⟨k + 1, by go_num, by omega, by omega, Lib.hid (by rw [HMD.out, show 1000 * (k + 1) = 1000 * k + 1000 by omega]; exact HSY.out)⟩
      case measure => simp [intOf]; omega
    · have hkm : k = min x.length 12 := by omega
      have HF : Hid (St w.heap.size w p y (mD x (min x.length 12)) (mD x (min x.length 12)) 12000 wr) := Lib.hid (by
        rw [← hkm]
        obtain ⟨S, T, h1, h2⟩ := HS.out
        exact ⟨S, T, ⟨h1.idx.more (by omega), h1.ref, h1.apart, h1.lowS, h1.lowT, h1.lowY⟩, h2⟩)
      clear HS hkm
      by_cases h6 : k < x.length
      · have g1 : decide ((k : Int) < (x.length : Int)) = true := decide_eq_true (by omega)
        have g1' : decide (k < x.length) = true := decide_eq_true h6
        have g2 : decide ((k : Int) < 12) = false := decide_eq_false (by omega)
        have g2' : decide (k < 12) = false := decide_eq_false (by omega)
        clear hgo h6
        go_wp2_with fail
        go_ret2
        exact ⟨p, y, rfl, HF.out⟩
      · have g1 : decide ((k : Int) < (x.length : Int)) = false := decide_eq_false (by omega)
        have g1' : decide (k < x.length) = false := decide_eq_false h6
        clear hgo h6
        go_wp2_with fail
        go_ret2
        exact ⟨p, y, rfl, HF.out⟩
end Go.Proofs.YtogjgibaolppfaaGreatDoor

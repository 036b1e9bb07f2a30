/- Facts and contracts for the laws of the sender, part 27. Conditions: those that each theorem names. -/
import Derived.Test.YtogjgibaolppfaaGreatDoorK18
import Derived.Test.YtogjgibaolppfaaGreatDoorK04
import Derived.Test.YtogjgibaolppfaaGreatDoorK02
import Derived.Test.YtogjgibaolppfaaGreatDoorK25
import Derived.Test.YtogjgibaolppfaaGreatDoorK22
import Derived.Test.YtogjgibaolppfaaGreatDoorK03
import Derived.Test.YtogjgibaolppfaaGreatDoorK10
import Derived.Test.YtogjgibaolppfaaGreatDoorK26
import Derived.Deep.DeepCutAuto
import Derived.Deep.CutBlock
/- the reference: Form. -/
namespace Go.Proofs.YtogjgibaolppfaaGreatDoor
open Go.RowKit Go.Lib Go.Proofs

theorem joinTail_snoc (sep x : List UInt8) : ∀ xs : List (List UInt8), Lib.joinTail sep (xs ++ [x]) = Lib.joinTail sep xs ++ sep ++ x
  | [] => by simp [Lib.joinTail]
  | y :: xs => by
    have := joinTail_snoc sep x xs
    simp [Lib.joinTail] at this ⊢
theorem join_snoc (sep x : List UInt8) {xs : List (List UInt8)} (h : xs ≠ []) : Lib.join (xs ++ [x]) sep = Lib.join xs sep ++ sep ++ x := by
  cases xs with
  | nil => exact absurd rfl h
  | cons y xs => rw [List.cons_append, Lib.join_cons, Lib.join_cons, joinTail_snoc]; simp
theorem join_single (x : List UInt8) : Lib.join [x] [32] = x := by rw [Lib.join_cons]; simp [Lib.joinTail]
theorem join_zero : Lib.join ([] : List (List UInt8)) [32] = [] := by simp [Lib.join_nil]
theorem join_at {xs : List (List UInt8)} {k : Nat} (hk : k < xs.length) : Lib.join (xs.take (k + 1)) [32] = (if 0 < k then Lib.join (xs.take k) [32] ++ [32] else Lib.join (xs.take k) [32]) ++ xs[k] := by
  rw [List.take_succ_eq_append_getElem hk]
  by_cases h : 0 < k
  · rw [if_pos h, join_snoc _ _ (by intro e; have := congrArg List.length e; rw [List.length_take, List.length_nil] at this; omega)]
  · obtain rfl : k = 0 := by omega
    rw [if_neg h, List.take_zero, join_zero]; simp [join_single]
theorem form1_le {p : Prt} (hp : okPrt p) : (form1 p).length ≤ 252 := by
  have h1 := join_len 30 (ws := p.words) (fun x hx => (hp.ok x hx).2.1)
  have h2 : p.words.length * 31 ≤ 8 * 31 := Nat.mul_le_mul_right _ hp.few
  unfold form1
  rw [List.length_append]
  split <;> split <;> (try split) <;> simp <;> omega
theorem formL_le {l : List Prt} (hok : ∀ p ∈ l, okPrt p) (hl : l.length ≤ 8) : (formL l).length ≤ 2024 := by
  have h1 := join_len 252 (ws := l.map form1) (fun x hx => by obtain ⟨p, hp, rfl⟩ := List.mem_map.1 hx; exact form1_le (hok p hp))
  rw [List.length_map] at h1
  have h2 : l.length * 253 ≤ 8 * 253 := Nat.mul_le_mul_right _ hl
  unfold formL
  omega
/-- the form so far -/
def fS (l : List Prt) (k : Nat) : List UInt8 := Lib.join ((l.map form1).take k) [32]
theorem fS_le {l : List Prt} (hok : ∀ p ∈ l, okPrt p) (hl : l.length ≤ 8) (k : Nat) : (fS l k).length ≤ 2024 := by
  have h := formL_le (l := l.take k) (fun p hp => hok p (List.mem_of_mem_take hp)) (by rw [List.length_take]; omega)
  unfold formL at h
  unfold fS
  rw [List.map_take] at h
  exact h
theorem fS_all (l : List Prt) : fS l l.length = formL l := by
  unfold fS formL
  rw [List.take_of_length_le (by simp)]
theorem fS_zero (l : List Prt) : fS l 0 = [] := by unfold fS; rw [List.take_zero, join_zero]
theorem fS_succ {l : List Prt} {k : Nat} (hk : k < l.length) : fS l (k + 1) = (if 0 < k then fS l k ++ [32] else fS l k) ++ form1 l[k] := by
  unfold fS
  rw [join_at (by simpa using hk)]
  simp
set_option maxRecDepth 100000 in
set_option maxHeartbeats 4000000 in
theorem refForm_any (v : Value) (l : List Prt) (w : World) (h : PartsAt w v l) (hok : ∀ p ∈ l, okPrt p) (h8 : l.length ≤ 8) :
    Calls Tryz.prog 32 #[v] w fun e w' => e = .returned (.string ⟨(formL l).toArray⟩) ∧ w = w' := by
  obtain ⟨a, c, rfl, hle, hcm, hcel⟩ := h.at
  have HC := Lib.hid hcel
  have HOK := Lib.hid hok
  have HLE := Lib.hid (fS_le hok h8)
  have HAL := Lib.hid (fS_all l)
  obtain ⟨R, hR⟩ : ∃ R, formL l = R := ⟨_, rfl⟩
  rw [hR] at HAL ⊢
  clear hok h hcel hR
  go_enter Tryz.func32, Tryz.ntmps32
  go_wp2_with fail
  go_loop [3, 4] (fun v3 v4 => ∃ k : Nat, v4 = .int .i64 k ∧ k ≤ l.length ∧ v3 = .string ⟨(fS l k).toArray⟩) (fun _ v4 => l.length - (intOf v4).toNat)
  case atStart => exact ⟨0, rfl, Nat.zero_le _, by rw [fS_zero]⟩
  case round =>
    obtain ⟨k, rfl, hk, rfl⟩ := hrel
    by_cases hkl : k < l.length
    · have hki : (k : Int) < (l.length : Int) := by omega
      obtain ⟨b0, off0, uw, rfl, ck0, ck1, ck2, hwo⟩ := HC.out k hkl
      have hpt := HOK.out l[k] (List.getElem_mem hkl)
      have HSUC := Lib.hid (fS_succ hkl)
      have hsl := HLE.out k
      obtain ⟨pt, hpte⟩ : ∃ pt, l[k] = pt := ⟨_, rfl⟩
      rw [hpte] at ck0 ck2 hwo hpt HSUC
      obtain ⟨ua, uc, huw⟩ := hwo.form
      subst huw
      obtain ⟨s, hs⟩ : ∃ s, fS l k = s := ⟨_, rfl⟩
      rw [hs] at HSUC hsl ⊢
      obtain ⟨aw, cw, ew, -, -, hwc⟩ := hwo.at (by have := hpt.few; omega)
      injection ew with e1 _ e3
      subst e1; subst e3
      have HWC := Lib.hid hwc
      have HPT := Lib.hid hpt
      have hn1 := hpt.pos
      have hn8 := hpt.few
      obtain ⟨ng, hng⟩ : ∃ b, pt.neg = b := ⟨_, rfl⟩
      rw [hng] at ck2
      have HNG := Lib.hid hng
      clear hpte hs hwo hpt hwc hng
      go_upto_region 5 with fail
      go_upto_if 14 with fail
      go_cut [3] (fun v wx => v = .string ⟨(if 0 < k then s ++ [32] else s).toArray⟩ ∧ w = wx)
      case first =>
        by_cases h0 : 0 < k
        · have hif : (if 0 < k then s ++ [32] else s) = s ++ [32] := if_pos h0
          have g1 : decide ((0 : Int) < (k : Int)) = true := decide_eq_true (by omega)
          have g1' : decide (0 < k) = true := decide_eq_true h0
          have q1 := run_cat s [32] (by simp; omega)
          have HIF := Lib.hid hif
          clear hif
          go_wp2_with fail
          go_meet
          exact ⟨by rw [HIF.out], rfl⟩
        · have hif : (if 0 < k then s ++ [32] else s) = s := if_neg h0
          have g1 : decide ((0 : Int) < (k : Int)) = false := decide_eq_false (by omega)
          have g1' : decide (0 < k) = false := decide_eq_false h0
          have HIF := Lib.hid hif
          clear hif
          go_wp2_with fail
          go_meet
          exact ⟨by rw [HIF.out], rfl⟩
      case rest =>
        obtain ⟨rfl, rfl⟩ := hcut
        have hs1l : (if 0 < k then s ++ [32] else s).length ≤ 2025 := by split <;> (try simp) <;> omega
        obtain ⟨s1, hs1⟩ : ∃ s1, (if 0 < k then s ++ [32] else s) = s1 := ⟨_, rfl⟩
        rw [hs1] at HSUC hs1l ⊢
        clear hs1 hsl
        go_upto_if 21 with fail
        go_cut [3] (fun v wx => v = .string ⟨(if ng = true then s1 ++ [45] else s1).toArray⟩ ∧ w = wx)
        case first =>
          cases ng
          · go_wp2_with fail
            go_meet
            exact ⟨rfl, rfl⟩
          · have q1 := run_cat s1 [45] (by simp; omega)
            go_wp2_with fail
            go_meet
            exact ⟨rfl, rfl⟩
        case rest =>
          obtain ⟨rfl, rfl⟩ := hcut
          have hs2l : (if ng = true then s1 ++ [45] else s1).length ≤ 2026 := by split <;> (try simp) <;> omega
          have HF1 : Hid (form1 pt = (if ng = true then [45] else []) ++ (if pt.kind = 2 then 34 :: (Lib.join pt.words [32] ++ [34]) else if pt.kind = 3 then Lib.join pt.words [32] ++ [42] else Lib.join pt.words [32])) := Lib.hid (by rw [← HNG.out]; rfl)
          have HS2 : Hid (s1 ++ (if ng = true then [45] else []) = (if ng = true then s1 ++ [45] else s1)) := Lib.hid (by split <;> simp)
          obtain ⟨s2, hs2⟩ : ∃ s2, (if ng = true then s1 ++ [45] else s1) = s2 := ⟨_, rfl⟩
          rw [hs2] at HS2 hs2l ⊢
          have HPL : Hid (∀ j, (Lib.join (pt.words.take j) [32]).length ≤ 248) := Lib.hid (fun j => by
            have h1 := join_len 30 (ws := pt.words.take j) (fun x hx => (HPT.out.ok x (List.mem_of_mem_take hx)).2.1)
            have h2 : (pt.words.take j).length * 31 ≤ 8 * 31 := Nat.mul_le_mul_right _ (by rw [List.length_take]; omega)
            omega)
          have hkd := HPT.out.kind
          obtain ⟨kd, hkde⟩ : ∃ x, pt.kind = x := ⟨_, rfl⟩
          rw [hkde] at ck0 hkd HF1
          have HXL : Hid (∀ x ∈ pt.words, x.length ≤ 30) := Lib.hid (fun x hx => (HPT.out.ok x hx).2.1)
          obtain ⟨ws, hws⟩ : ∃ x, pt.words = x := ⟨_, rfl⟩
          rw [hws] at ck1 HWC HPL HXL HF1 hn1 hn8
          clear hs2 hkde hws HNG
          go_wp2_with fail
          go_loop [5, 6] (fun v5 v6 => ∃ j : Nat, v6 = .int .i64 j ∧ j ≤ ws.length ∧ v5 = .string ⟨(Lib.join (ws.take j) [32]).toArray⟩) (fun _ v6 => ws.length - (intOf v6).toNat)
          case atStart => exact ⟨0, rfl, Nat.zero_le _, by rw [List.take_zero, join_zero]⟩
          case round =>
            obtain ⟨j, rfl, hj, rfl⟩ := hrel
            by_cases hjl : j < ws.length
            · have hji : (j : Int) < (ws.length : Int) := by omega
              obtain ⟨bw, ow, rfl, cw1⟩ := HWC.out j hjl
              have hxl := HXL.out _ (List.getElem_mem hjl)
              have HJS := Lib.hid (join_at hjl)
              have hjle := HPL.out j
              obtain ⟨x, hx⟩ : ∃ x, ws[j] = x := ⟨_, rfl⟩
              rw [hx] at cw1 hxl HJS
              change _ = some (Value.string ⟨x.toArray⟩) at cw1
              obtain ⟨pj, hpj⟩ : ∃ x, Lib.join (ws.take j) [32] = x := ⟨_, rfl⟩
              rw [hpj] at HJS hjle ⊢
              clear hx hpj
              by_cases h0 : 0 < j
              · have g1 : decide ((0 : Int) < (j : Int)) = true := decide_eq_true (by omega)
                have g1' : decide (0 < j) = true := decide_eq_true h0
                have HJ2 : Hid (Lib.join (ws.take (j + 1)) [32] = pj ++ [32] ++ x) := Lib.hid (by rw [HJS.out, if_pos h0])
                have q1 := run_cat pj [32] (by simp; omega)
                have q2 := run_cat (pj ++ [32]) x (by simp; omega)
                clear HJS
                go_wp2_with fail
                go_round
                case rel => exact ⟨j + 1, by go_num, by omega, by rw [HJ2.out] <;> simp⟩
                case measure => simp [intOf]; omega
              · have g1 : decide ((0 : Int) < (j : Int)) = false := decide_eq_false (by omega)
                have g1' : decide (0 < j) = false := decide_eq_false h0
                have HJ2 : Hid (Lib.join (ws.take (j + 1)) [32] = pj ++ x) := Lib.hid (by rw [HJS.out, if_neg h0])
                have q1 := run_cat pj x (by omega)
                clear HJS
                go_wp2_with fail
                go_round
                case rel => exact ⟨j + 1, by go_num, by omega, by rw [HJ2.out] <;> simp⟩
                case measure => simp [intOf]; omega
            · obtain rfl : j = ws.length := by omega
              have hpl := HPL.out ws.length
              rw [List.take_length] at hpl ⊢
              obtain ⟨P, hP⟩ : ∃ P, Lib.join ws [32] = P := ⟨_, rfl⟩
              rw [hP] at hpl HF1 ⊢
              clear hP HPL HXL
              rcases hkd with rfl | rfl | rfl
              · have HE : Hid (fS l (k + 1) = s2 ++ P) := Lib.hid (by rw [HSUC.out, HF1.out, ← List.append_assoc, HS2.out]; simp)
                have q1 := run_cat s2 P (by omega)
                clear HSUC HF1 HS2
                go_wp2_with fail
                go_round
                case rel => exact ⟨k + 1, by go_num, by omega, by first | (rw [HE.out]; done) | (rw [HE.out]; simp; done) | (rw [HE.out]; simp; rw [str_cat]; simp)⟩
                case measure => simp [intOf]; omega
              · have HE : Hid (fS l (k + 1) = s2 ++ [34] ++ P ++ [34]) := Lib.hid (by rw [HSUC.out, HF1.out, ← List.append_assoc, HS2.out]; simp)
                have q1 := run_cat s2 [34] (by simp; omega)
                have q2 := run_cat (s2 ++ [34]) P (by simp; omega)
                have q3 := run_cat (s2 ++ [34] ++ P) [34] (by simp; omega)
                clear HSUC HF1 HS2
                go_wp2_with fail
                go_round
                case rel => exact ⟨k + 1, by go_num, by omega, by first | (rw [HE.out]; done) | (rw [HE.out]; simp; done) | (rw [HE.out]; simp; rw [str_cat]; simp)⟩
                case measure => simp [intOf]; omega
              · have HE : Hid (fS l (k + 1) = s2 ++ P ++ [42]) := Lib.hid (by rw [HSUC.out, HF1.out, ← List.append_assoc, HS2.out]; simp)
                have q1 := run_cat s2 P (by omega)
                have q2 := run_cat (s2 ++ P) [42] (by simp; omega)
                clear HSUC HF1 HS2
                go_wp2_with fail
                go_round
                case rel => exact ⟨k + 1, by go_num, by omega, by first | (rw [HE.out]; done) | (rw [HE.out]; simp; done) | (rw [HE.out]; simp; rw [str_cat]; simp)⟩
                case measure => simp [intOf]; omega
    · obtain rfl : k = l.length := by omega
      rw [HAL.out]
      go_wp2_with fail
      go_ret
      exact ⟨rfl, rfl⟩
end Go.Proofs.YtogjgibaolppfaaGreatDoor
/- the law's ids. -/
namespace Go.Proofs.YtogjgibaolppfaaGreatDoor
open Go.RowKit Go.Sort Go.Proofs Go.Shelf Go.Lib Go.Maps

theorem res_le {D : List Dc} (hA : Asc D) (hI : Ids D) (ps : List Prt) : (resD D ps).length ≤ 256 := by
  rw [(res_perm D ps).length_eq]; exact found_le hA hI ps
theorem res_id {D : List Dc} (hI : Ids D) {ps : List Prt} {x : Int × Nat} (h : x ∈ resD D ps) : 1 ≤ x.1 ∧ x.1 ≤ 256 := by
  obtain ⟨d, hd, -, rfl⟩ := mem_res.1 h
  exact hI d hd
/-- Run of the printed form of parts that the laws draw -/
theorem run_form {S Q : Nat → Prop} {N : Nat} {p : Nat} {D : List Dc} (w : World) (h : IdxAt S Q N w p D) (hN : N ≤ 1000000) (hE : Env w) {l : List Prt} (hv : ∀ p ∈ l, VocP p) (h1 : 1 ≤ l.length) (h8 : l.length ≤ 8) (n : Int) (hn : -9223372036854775808 ≤ n ∧ n ≤ 9223372036854775807) :
    Calls Tryz.prog 20 #[.pointer (some ⟨p, 0, none⟩), .string ⟨(formL l).toArray⟩, .int .i64 n] w fun e w' => ∃ a c, e = .returned (.tuple #[.slice a ((resD D l).take n.toNat).length c, .int .i64 ((resD D l).length : Int), .int .i64 0]) ∧ HitsR 0 w' (.slice a ((resD D l).take n.toNat).length c) ((resD D l).take n.toNat) ∧ Below w.heap.size w w' := by
  have hf := form_len hv h8
  have hr := run_any w h hN hE (formL l) (by omega) n hn
  rw [parse_voc hv h1 h8] at hr
  refine hr.mono ?_
  rintro e w' ⟨hb, v, rfl, hh⟩
  obtain ⟨a, c, rfl⟩ := row_form hh
  exact ⟨a, c, rfl, hh, hb⟩
set_option maxRecDepth 100000 in
set_option maxHeartbeats 4000000 in
theorem ids_any {S Q : Nat → Prop} {N : Nat} {p : Nat} {D : List Dc} (w : World) (h : IdxAt S Q N w p D) (hN : N ≤ 1000000) (hE : Env w) (v : Value) (l : List Prt) (hl : PartsAt w v l) (hv : ∀ p ∈ l, VocP p) (h1 : 1 ≤ l.length) (h8 : l.length ≤ 8) :
    Calls Tryz.prog 29 #[.pointer (some ⟨p, 0, none⟩), v] w fun e w' => ∃ u, e = .returned (.tuple #[u, .bool true]) ∧ IntsR w.heap.size w' u ((resD D l).map (·.1)) ∧ Below w.heap.size w w' := by
  obtain ⟨i0, hi, hz0, hz1, hz2⟩ := info_parts infoInt
  have HFO := Lib.hid (refForm_any v l w hl (fun p hp => (hv p hp).ok) h8)
  have HRU := Lib.hid (run_form w h hN hE hv h1 h8 256 (by decide))
  have hle := res_le h.asc h.ids l
  obtain ⟨R, hR⟩ : ∃ R, resD D l = R := ⟨_, rfl⟩
  have ht : (resD D l).take (256 : Int).toNat = R := by rw [hR]; exact List.take_of_length_le (by rw [← hR]; exact hle)
  rw [ht] at HRU
  rw [hR] at HRU hle ⊢
  obtain ⟨F, hF⟩ : ∃ F, formL l = F := ⟨_, rfl⟩
  rw [hF] at HFO HRU
  clear ht hR hF hl hv h1 h8 h hE
  go_enter Tryz.func29, Tryz.ntmps29
  go_wp2_with (first
    | (go_at_call 32; (with_reducible (refine HFO.out.mono ?_)); rintro e wx ⟨rfl, rfl⟩)
    | (go_at_call 20; (with_reducible (refine HRU.out.mono ?_)); rintro e w2 ⟨ar, cr, rfl, hr2, hb2⟩; have HR2 := Lib.hid hr2; have HB2 := Lib.hid hb2; clear hr2 hb2)
    | fail)
  have hs2 := HB2.out.size
  go_loopw [9, 10] (fun v9 v10 wr => ∃ j : Nat, v10 = .int .i64 j ∧ j ≤ R.length ∧ Hid (IntsR w.heap.size wr v9 ((R.take j).map (·.1))) ∧ Hid (Below w.heap.size w wr) ∧ Hid (HitsR 0 wr (.slice ar R.length cr) R)) (fun _ v10 _ => R.length - (intOf v10).toNat)
  case atStart => exact ⟨0, rfl, Nat.zero_le _, Lib.hid (World.ownsRow_nil _ _ _ _), HB2, HR2⟩
  case round =>
    obtain ⟨j, rfl, hj, HSr, HBr, HHr⟩ := hrel
    obtain ⟨af, cf, hvf⟩ := row_form HSr.out
    subst hvf
    by_cases hjl : j < R.length
    · have hji : (j : Int) < (R.length : Int) := by omega
      obtain ⟨a', c', e', -, -, hc⟩ := HitsR.at HHr.out
      injection e' with e1 _ e3
      subst e1; subst e3
      obtain ⟨bh, offh, rfl, g0, -⟩ := hc j hjl
      have hsuc : (R.take (j + 1)).map (fun x => x.1) = (R.take j).map (fun x => x.1) ++ [(R[j]).1] := by
        rw [List.take_succ_eq_append_getElem hjl, List.map_append]; rfl
      obtain ⟨x, hxe⟩ : ∃ x, (R[j]).1 = x := ⟨_, rfl⟩
      rw [hxe] at g0 hsuc
      have hll : ((R.take j).map fun x => x.1).length ≤ 256 := by rw [List.length_map, List.length_take]; omega
      obtain ⟨L, hL⟩ : ∃ L, (R.take j).map (fun x => x.1) = L := ⟨_, rfl⟩
      rw [hL] at hsuc hll HSr ⊢
      have HSU := Lib.hid hsuc
      have hbs := HBr.out.size
      have hrow := HSr.out
      unfold IntsR at hrow
      clear hxe hsuc hL HSr hc
      go_wp2_with (at_builtin; go_loud (refine wpList_append_own _ rfl _ _ 22 rfl w.heap.size 3 i0 _ 1 8 Tryz.underlying22 hi hz0 hz1 hz2 rfl (by decide) _ _ _ rfl (hrow.alloc _) ⟨wr.heap.size, 0, none⟩ 1 1 [.int .i64 x] rfl rfl (World.news_of_block (cs := #[.int .i64 x]) (t := 3) (fr := (0, 0)) (heap_alloc_new wr _)) (by simp [Value.oneCell']) ?c3 ?c4 ?c5 ?_))
      case c3 => unfold maxLen; omega
      case c4 => omega
      case c5 => omega
      intro v' w5 hown' hgrow _
      have HT5 : Hid (IntsR w.heap.size w5 v' ((R.take (j + 1)).map (·.1))) := Lib.hid (by
        show IntsR w.heap.size w5 v' ((R.take (j + 1)).map fun x => x.1)
        rw [HSU.out]
        unfold IntsR
        rw [List.length_append, List.map_append]
        exact hown')
      have HT6 : Hid (HitsR 0 w5 (.slice (some ⟨bh, offh, none⟩) R.length cr) R) := Lib.hid (row_grown (World.ownsRow.alloc HHr.out _) (hrow.alloc _) (by decide) hgrow)
      have HB5 : Hid (Below w.heap.size w w5) := Lib.hid ((HBr.out.alloc hbs _).grown hgrow (by simp; omega) (fun j e => (hrow.lt j e).1))
      clear hown' hgrow hrow
      go_wp2_with fail
      go_roundw
      case rel => exact ⟨j + 1, by go_num, by omega, HT5, HB5, HT6⟩
      case measure => simp [intOf]; omega
    · obtain rfl : j = R.length := by omega
      have hfr := HSr.out
      rw [List.take_length] at hfr ⊢
      clear HSr HHr
      go_wp2_with fail
      go_ret2
      exact ⟨_, rfl, hfr, HBr.out⟩
end Go.Proofs.YtogjgibaolppfaaGreatDoor
/- One fresh index; an index that is only read. -/
namespace Go.Proofs.YtogjgibaolppfaaGreatDoor
open Go.RowKit Go.Sort Go.Proofs Go.Maps Go.Lib

/-- an index that was made behind w0 -/
def SI (w0 : World) (p : Nat) (D : List Dc) (N : Nat) (W : World) : Prop := ∃ S : Nat → Prop, IdxAt S (fun _ => False) N W p D ∧ (∀ k, S k → w0.heap.size ≤ k) ∧ Below w0.heap.size w0 W
/-- an index that is only read -/
def IX (W : World) (p : Nat) (D : List Dc) : Prop := ∃ (S Q : Nat → Prop) (N : Nat), IdxAt S Q N W p D ∧ N ≤ 1000000
theorem IX.below {W W' : World} {p : Nat} {D : List Dc} (h : IX W p D) (hb : Below W.heap.size W W') : IX W' p D := by
  obtain ⟨S, Q, N, h1, h2⟩ := h
  exact ⟨S, Q, N, h1.below hb, h2⟩
theorem IX.asc {W : World} {p : Nat} {D : List Dc} (h : IX W p D) : Asc D := by
  obtain ⟨S, Q, N, h1, h2⟩ := h
  exact h1.asc
theorem IX.ids {W : World} {p : Nat} {D : List Dc} (h : IX W p D) : Ids D := by
  obtain ⟨S, Q, N, h1, h2⟩ := h
  exact h1.ids
theorem SI.ix {w0 W : World} {p N : Nat} {D : List Dc} (h : SI w0 p D N W) (hN : N ≤ 1000000) : IX W p D := by
  obtain ⟨S, h1, -, -⟩ := h
  exact ⟨S, _, N, h1, hN⟩
theorem SI.base {w0 W : World} {p N : Nat} {D : List Dc} (h : SI w0 p D N W) : Below w0.heap.size w0 W := by
  obtain ⟨S, -, -, h1⟩ := h
  exact h1
theorem SI.below {w0 W W' : World} {p N : Nat} {D : List Dc} (h : SI w0 p D N W) (hb : Below W.heap.size W W') : SI w0 p D N W' := by
  obtain ⟨S, h1, h2, h3⟩ := h
  exact ⟨S, h1.below hb, h2, h3.trans (hb.mono h3.size)⟩
theorem SI.new (w : World) : Calls Tryz.prog 33 #[] w fun e w' => ∃ p, e = .returned (.pointer (some ⟨p, 0, none⟩)) ∧ SI w p [] 0 w' := by
  refine (new_any w).mono ?_
  rintro e w1 ⟨p, S, rfl, h1, h2, h3⟩
  exact ⟨p, rfl, S, h1, h2, h3⟩
theorem SI.put {w0 W : World} {p N : Nat} {D : List Dc} (h : SI w0 p D N W) (hN : N ≤ 500000) (id : Int) (h1 : 1 ≤ id) (h2 : id ≤ 256) (s : List UInt8) (hs : s.length ≤ 400) :
    Calls Tryz.prog 34 #[.pointer (some ⟨p, 0, none⟩), .int .i64 id, .string ⟨s.toArray⟩] W fun e w' => e = .returned (.int .i64 0) ∧ SI w0 p (putD D id (wordsOf s)) (N + 1000) w' := by
  obtain ⟨S, k1, k2, k3⟩ := h
  refine (put_any W k1 hN (fun k hk => hk.elim) id h1 h2 s (by omega) (by have := words_le s; omega)).mono ?_
  rintro e w' ⟨rfl, S', hI, hb, hs'⟩
  refine ⟨rfl, S', hI, fun k hk => ?_, k3.trans (hb.below k3.size k2)⟩
  rcases hs' k hk with h | h
  · exact k2 k h
  · exact Nat.le_trans k3.size h
theorem St.ix {B : Nat} {w0 : World} {p y : Nat} {D E : List Dc} {N : Nat} {W : World} (h : St B w0 p y D E N W) (hN : N ≤ 1000000) : IX W p D := by
  obtain ⟨S, T, h1, h2⟩ := h
  exact ⟨S, _, N, h1.idx, hN⟩
theorem St.base {B : Nat} {w0 : World} {p y : Nat} {D E : List Dc} {N : Nat} {W : World} (h : St B w0 p y D E N W) : Below B w0 W := by
  obtain ⟨S, T, h1, h2⟩ := h
  exact h2
/-- Run of a query that is parsed as ps -/
theorem IX.run {W : World} {p : Nat} {D : List Dc} (h : IX W p D) (hE : Env W) (q : List UInt8) (hq : q.length ≤ 1000000) {ps : List Prt} (hp : parseP q = some ps) {R : List (Int × Nat)} (hr : resD D ps = R) (n : Int) (hn : -9223372036854775808 ≤ n ∧ n ≤ 9223372036854775807) :
    Calls Tryz.prog 20 #[.pointer (some ⟨p, 0, none⟩), .string ⟨q.toArray⟩, .int .i64 n] W fun e w' => ∃ a c, e = .returned (.tuple #[.slice a (R.take n.toNat).length c, .int .i64 (R.length : Int), .int .i64 0]) ∧ HitsAt w' (.slice a (R.take n.toNat).length c) (R.take n.toNat) ∧ Below W.heap.size W w' := by
  obtain ⟨S, Q, N, h1, h2⟩ := h
  have hrun := run_any W h1 h2 hE q hq n hn
  rw [hp] at hrun
  refine hrun.mono ?_
  rintro e w' ⟨hb, v, rfl, hh⟩
  rw [hr] at hh ⊢
  obtain ⟨a, c, rfl⟩ := row_form hh
  exact ⟨a, c, rfl, HitsR.at hh, hb⟩
theorem IX.sug {W : World} {p : Nat} {D : List Dc} (h : IX W p D) (q : List UInt8) (hq : q.length ≤ 100000) (n : Int) (hn : -9223372036854775808 ≤ n ∧ n ≤ 9223372036854775807) :
    Calls Tryz.prog 25 #[.pointer (some ⟨p, 0, none⟩), .string ⟨q.toArray⟩, .int .i64 n] W fun e w' => ∃ v, e = .returned v ∧ StrsR W.heap.size w' v (sugD D q n) ∧ Below W.heap.size W w' := by
  obtain ⟨S, Q, N, h1, h2⟩ := h
  exact sug_any W h1 h2 q hq n hn
/-- a slice of hits that was just built -/
theorem hits_new (w : World) (l : List (Int × Nat)) (hl : l.length ≤ 1000000) : HitsAt (w.alloc (.cells (l.flatMap hitC).toArray 64 (0, 0))) (.slice (some ⟨w.heap.size, 0, none⟩) l.length l.length) l := by
  refine ⟨_, _, rfl, by omega, by omega, fun k hk => ⟨_, _, rfl, ?_⟩⟩
  have h1 : (l.flatMap hitC)[k * 2]? = some (.int .i64 (l[k]).1) := by
    rw [flatMap_at hitC 2 (by decide) (fun _ => rfl), show k * 2 / 2 = k by omega, show k * 2 % 2 = 0 by omega, List.getElem?_eq_getElem hk]; rfl
  have h2 : (l.flatMap hitC)[k * 2 + 1]? = some (.int .i64 ((l[k]).2 : Int)) := by
    rw [flatMap_at hitC 2 (by decide) (fun _ => rfl), show (k * 2 + 1) / 2 = k by omega, show (k * 2 + 1) % 2 = 1 by omega, List.getElem?_eq_getElem hk]; rfl
  constructor
  · rw [World.cell?_alloc_new]; simpa using h1
  · rw [World.cell?_alloc_new]; simpa using h2
end Go.Proofs.YtogjgibaolppfaaGreatDoor
/- sane, walked. -/
namespace Go.Proofs.YtogjgibaolppfaaGreatDoor
open Go.RowKit Go.Sort Go.Proofs Go.Maps Go.Lib

set_option maxRecDepth 1000000 in
set_option maxHeartbeats 8000000 in
theorem sane_any (w : World) (hE : Env w) : Calls Tryz.prog 12 #[] w fun e w' => e = .returned (.bool true) ∧ Below w.heap.size w w' := by
  have HE := Lib.hid hE
  clear hE
  go_enter Tryz.func12, Tryz.ntmps12
  go_wp2_with fail
  refine (SI.new w).mono ?_
  rintro e w1 ⟨p, rfl, h1⟩
  have H1 := Lib.hid h1
  clear h1
  go_wp2_with fail
  refine (H1.out.put (by omega) 1 (by omega) (by omega) sT1 (by decide)).mono ?_
  rintro e w2 ⟨rfl, h2⟩
  have H2 := Lib.hid h2
  clear h2 H1
  go_wp2_with fail
  refine (H2.out.put (by omega) 2 (by omega) (by omega) sT2 (by decide)).mono ?_
  rintro e w3 ⟨rfl, h3⟩
  rw [sD_eq] at h3
  have HB := Lib.hid h3.base
  have HI := Lib.hid (h3.ix (by omega))
  have HE3 := Lib.hid (HE.out.below h3.base)
  clear h3 H2 HE
  go_wp2_with fail
  refine (HI.out.run HE3.out [99, 105, 116, 121] (by decide) q1 r1 10 (by decide)).mono ?_
  rintro e w4 ⟨aa, ca, rfl, ha, hb⟩
  simp only [show ([((1 : Int), 1), (2, 1)] : List (Int × Nat)).take (10 : Int).toNat = [(1, 1), (2, 1)] from rfl, show ([((1 : Int), 1), (2, 1)] : List (Int × Nat)).length = 2 from rfl] at ha ⊢
  have HA4 := Lib.hid ha; have HB4 := Lib.hid (bthen HB.out hb); have HI4 := Lib.hid (HI.out.below hb); have HE4 := Lib.hid (HE3.out.below hb)
  clear ha hb HB HI HE3
  go_wp2_with fail
  refine (HI4.out.run HE4.out [116, 104, 101, 32, 114, 97, 105, 110, 42] (by decide) q2 r2 10 (by decide)).mono ?_
  rintro e w5 ⟨ab, cb, rfl, ha, hb⟩
  simp only [show ([((2 : Int), 3)] : List (Int × Nat)).take (10 : Int).toNat = [(2, 3)] from rfl, show ([((2 : Int), 3)] : List (Int × Nat)).length = 1 from rfl] at ha ⊢
  have HA5 := Lib.hid (HA4.out.below hb); have HC5 := Lib.hid ha; have HB5 := Lib.hid (bthen HB4.out hb); have HI5 := Lib.hid (HI4.out.below hb); have HE5 := Lib.hid (HE4.out.below hb)
  clear ha hb HA4 HB4 HI4 HE4
  go_wp2_with fail
  refine (HI5.out.run HE5.out [116, 104, 101, 32, 45, 34, 99, 105, 116, 121, 32, 99, 111, 117, 110, 99, 105, 108, 34] (by decide) q3 r3 10 (by decide)).mono ?_
  rintro e w6 ⟨ac, cc, rfl, ha, hb⟩
  simp only [show ([((2 : Int), 1)] : List (Int × Nat)).take (10 : Int).toNat = [(2, 1)] from rfl, show ([((2 : Int), 1)] : List (Int × Nat)).length = 1 from rfl] at ha ⊢
  have HD6 := Lib.hid ha; have HA6 := Lib.hid (HA5.out.below hb); have HC6 := Lib.hid (HC5.out.below hb); have HB6 := Lib.hid (bthen HB5.out hb); have HI6 := Lib.hid (HI5.out.below hb); have HE6 := Lib.hid (HE5.out.below hb)
  clear ha hb HA5 HC5 HB5 HI5 HE5
  go_wp2_with fail
  refine (HI6.out.run HE6.out [45, 114, 97, 105, 110] (by decide) q4 r4 0 (by decide)).mono ?_
  rintro e w7 ⟨ad, cd, rfl, ha, hb⟩
  simp only [show ([((1 : Int), 0)] : List (Int × Nat)).take (0 : Int).toNat = [] from rfl, show ([((1 : Int), 0)] : List (Int × Nat)).length = 1 from rfl, show ([] : List (Int × Nat)).length = 0 from rfl] at ha ⊢
  have HD7 := Lib.hid (HD6.out.below hb); have HA7 := Lib.hid (HA6.out.below hb); have HC7 := Lib.hid (HC6.out.below hb); have HB7 := Lib.hid (bthen HB6.out hb); have HI7 := Lib.hid (HI6.out.below hb); have HE7 := Lib.hid (HE6.out.below hb)
  clear ha hb HA6 HC6 HD6 HB6 HI6 HE6
  go_wp2_with fail
  have hp := parse_any [97, 32, 32, 45, 66, 42] (by decide) w7 HE7.out
  rw [q5] at hp
  refine hp.mono ?_
  rintro e w8 ⟨hb, v, P, hP, hR, rfl⟩
  have HP8 := Lib.hid hR.at
  rw [hP] at HP8
  have HD8 := Lib.hid (HD7.out.below hb); have HA8 := Lib.hid (HA7.out.below hb); have HC8 := Lib.hid (HC7.out.below hb); have HB8 := Lib.hid (bthen HB7.out hb); have HI8 := Lib.hid (HI7.out.below hb); have HE8 := Lib.hid (HE7.out.below hb)
  clear hp hb hP hR HA7 HC7 HD7 HB7 HI7 HE7
  go_wp2_with fail
  have hok5 : ∀ p ∈ p5, okPrt p := fun p hp => by
    simp only [p5, List.mem_cons, List.not_mem_nil, or_false] at hp
    rcases hp with rfl | rfl
    · exact ⟨.inl rfl, by decide, by decide, fun _ => rfl, fun x hx => by rw [List.mem_singleton.1 hx]; exact ⟨by decide, by decide, by decide⟩⟩
    · exact ⟨.inr (.inr rfl), by decide, by decide, fun _ => rfl, fun x hx => by rw [List.mem_singleton.1 hx]; exact ⟨by decide, by decide, by decide⟩⟩
  have hpr := print_any _ p5 w8 HP8.out hok5 (by decide) (by decide) (by rw [q7]; decide) HE8.out
  rw [q7] at hpr
  refine hpr.mono ?_
  rintro e w9 ⟨rfl, hb⟩
  have HD9 := Lib.hid (HD8.out.below hb); have HA9 := Lib.hid (HA8.out.below hb); have HC9 := Lib.hid (HC8.out.below hb); have HB9 := Lib.hid (bthen HB8.out hb); have HI9 := Lib.hid (HI8.out.below hb); have HE9 := Lib.hid (HE8.out.below hb)
  clear hpr hok5 hb HA8 HC8 HD8 HB8 HI8 HE8 HP8
  go_wp2_with fail
  have hp := parse_any [45, 45, 97] (by decide) w9 HE9.out
  rw [q6] at hp
  refine hp.mono ?_
  rintro e wA ⟨hb, rfl⟩
  have HDA := Lib.hid (HD9.out.below hb); have HAA := Lib.hid (HA9.out.below hb); have HCA := Lib.hid (HC9.out.below hb); have HBA := Lib.hid (bthen HB9.out hb); have HIA := Lib.hid (HI9.out.below hb)
  clear hp hb HA9 HC9 HD9 HB9 HI9 HE9
  go_wp2_with fail
  refine (run_nil _ _ _).mono ?_
  rintro e wA' ⟨rfl, hw⟩
  subst hw
  -- the three lists
  go_wp2_with fail
  have k1 := hits_new wA [(1, 1), (2, 1)] (by decide)
  have b1 : Below wA.heap.size wA (wA.alloc (.cells ([((1 : Int), 1), (2, 1)].flatMap hitC).toArray 64 (0, 0))) := (Below.refl _ wA).alloc (Nat.le_refl _) _
  refine (sameHits_true _ _ [(1, 1), (2, 1)] _ (HAA.out.below b1) k1).mono ?_
  rintro e wB ⟨rfl, hb⟩
  have hb := bthen b1 hb
  have HDB := Lib.hid (HDA.out.below hb); have HCB := Lib.hid (HCA.out.below hb); have HBB := Lib.hid (bthen HBA.out hb); have HIB := Lib.hid (HIA.out.below hb)
  clear k1 b1 hb HAA HDA HCA HBA HIA
  go_wp2_with fail
  have k1 := hits_new wB [(2, 3)] (by decide)
  have b1 : Below wB.heap.size wB (wB.alloc (.cells ([((2 : Int), 3)].flatMap hitC).toArray 64 (0, 0))) := (Below.refl _ wB).alloc (Nat.le_refl _) _
  refine (sameHits_true _ _ [(2, 3)] _ (HCB.out.below b1) k1).mono ?_
  rintro e wC ⟨rfl, hb⟩
  have hb := bthen b1 hb
  have HDC := Lib.hid (HDB.out.below hb); have HBC := Lib.hid (bthen HBB.out hb); have HIC := Lib.hid (HIB.out.below hb)
  clear k1 b1 hb HDB HCB HBB HIB
  go_wp2_with fail
  have k1 := hits_new wC [(2, 1)] (by decide)
  have b1 : Below wC.heap.size wC (wC.alloc (.cells ([((2 : Int), 1)].flatMap hitC).toArray 64 (0, 0))) := (Below.refl _ wC).alloc (Nat.le_refl _) _
  refine (sameHits_true _ _ [(2, 1)] _ (HDC.out.below b1) k1).mono ?_
  rintro e wD ⟨rfl, hb⟩
  have hb := bthen b1 hb
  have HBD := Lib.hid (bthen HBC.out hb); have HID := Lib.hid (HIC.out.below hb)
  clear k1 b1 hb HDC HBC HIC
  go_wp2_with fail
  refine (HID.out.sug [116, 104, 101, 32, 67] (by decide) 5 (by decide)).mono ?_
  rintro e wE ⟨vs, rfl, hs, hb⟩
  rw [g3] at hs
  have HSE := Lib.hid (strsAt_of_owns hs (by decide))
  obtain ⟨asg, csg, hvs⟩ := row_form hs
  have hvs : vs = .slice asg 2 csg := hvs
  subst hvs
  have HBE := Lib.hid (bthen HBD.out hb)
  clear hs hb HBD HID
  go_wp2_with fail
  have k1 := strsAt_new wE [[116, 104, 101, 32, 99, 105, 116, 121], [116, 104, 101, 32, 99, 111, 117, 110, 99, 105, 108]] (by decide)
  have b1 : Below wE.heap.size wE (wE.alloc (.cells ([[116, 104, 101, 32, 99, 105, 116, 121], [116, 104, 101, 32, 99, 111, 117, 110, 99, 105, 108]].map encW).toArray 9)) := (Below.refl _ wE).alloc (Nat.le_refl _) _
  refine (sameStr_true _ _ [[116, 104, 101, 32, 99, 105, 116, 121], [116, 104, 101, 32, 99, 111, 117, 110, 99, 105, 108]] _ (HSE.out.below b1) k1 (by decide)).mono ?_
  rintro e wF ⟨rfl, hb⟩
  have HBF := Lib.hid (bthen HBE.out (bthen b1 hb))
  clear k1 b1 hb HSE HBE
  go_wp2_with fail
  go_ret
  exact ⟨rfl, HBF.out⟩
end Go.Proofs.YtogjgibaolppfaaGreatDoor

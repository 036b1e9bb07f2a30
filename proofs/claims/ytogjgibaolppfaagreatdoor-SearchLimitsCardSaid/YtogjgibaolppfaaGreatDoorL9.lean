/- The walk of one law of the sender. Conditions: those that each theorem names. -/
import Derived.Test.YtogjgibaolppfaaGreatDoorK27
import Derived.Test.YtogjgibaolppfaaGreatDoorK28
import Derived.Test.YtogjgibaolppfaaGreatDoorK29
/- The law SearchLimits, walked. -/
namespace Go.Proofs.YtogjgibaolppfaaGreatDoor
open Go.RowKit Go.Sort Go.Proofs Go.Maps Go.Lib

def lT (k : Nat) : List UInt8 := List.replicate k 97
theorem lT_snoc (k : Nat) : lT k ++ [97] = lT (k + 1) := by unfold lT; rw [List.replicate_succ']
theorem lT_len (k : Nat) : (lT k).length = k := List.length_replicate ..
def bT (k : Nat) : List UInt8 := List.replicate k 32
theorem bT_snoc (k : Nat) : bT k ++ [32] = bT (k + 1) := by unfold bT; rw [List.replicate_succ']
theorem bT_len (k : Nat) : (bT k).length = k := List.length_replicate ..
theorem lim_not (a b : Int) : decide (b < a) = !decide (a ≤ b) := by
  by_cases h : a ≤ b
  · rw [decide_eq_true h, decide_eq_false (by omega)]; rfl
  · rw [decide_eq_false h, decide_eq_true (by omega)]; rfl
/-- what is known of the strings of the law, by n - 1 = q -/
structure Lim (q : Nat) (ta s2 tl s4 : List UInt8) (sg : Nat) (b8 b30 b300 : Bool) : Prop where
  d8 : decide (1 + (q : Int) ≤ 8) = b8
  d30 : decide (1 + (q : Int) ≤ 30) = b30
  d300 : decide (1 + (q : Int) ≤ 300) = b300
  r1 : parseP ta = if b8 = true then some (List.replicate (q + 1) pA) else none
  r2 : parseP s2 = if b8 = true then some [⟨2, true, List.replicate (q + 1) [97]⟩] else none
  r3 : parseP tl = if b30 = true then some [⟨1, false, [tl]⟩] else none
  r4 : parseP s4 = if b300 = true then some [pA] else none
  r5 : sg = if b30 = true then 1 else 0
theorem lim_of {q : Nat} {ta s2 tl s4 : List UInt8} {sg : Nat} (h1 : parseP ta = if q + 1 ≤ 8 then some (List.replicate (q + 1) pA) else none) (h2 : parseP s2 = if q + 1 ≤ 8 then some [⟨2, true, List.replicate (q + 1) [97]⟩] else none)
    (h3 : parseP tl = if q + 1 ≤ 30 then some [⟨1, false, [tl]⟩] else none) (h4 : parseP s4 = if q + 1 ≤ 300 then some [pA] else none) (h5 : sg = if q + 1 ≤ 30 then 1 else 0) :
    Lim q ta s2 tl s4 sg true true true ∨ Lim q ta s2 tl s4 sg false true true ∨ Lim q ta s2 tl s4 sg false false true ∨ Lim q ta s2 tl s4 sg false false false := by
  by_cases k8 : q + 1 ≤ 8
  · refine .inl ⟨decide_eq_true (by omega), decide_eq_true (by omega), decide_eq_true (by omega), by rw [h1, if_pos k8]; rfl, by rw [h2, if_pos k8]; rfl, by rw [h3, if_pos (by omega)]; rfl, by rw [h4, if_pos (by omega)]; rfl, by rw [h5, if_pos (by omega)]; rfl⟩
  · by_cases k30 : q + 1 ≤ 30
    · refine .inr (.inl ⟨decide_eq_false (by omega), decide_eq_true (by omega), decide_eq_true (by omega), by rw [h1, if_neg k8]; rfl, by rw [h2, if_neg k8]; rfl, by rw [h3, if_pos k30]; rfl, by rw [h4, if_pos (by omega)]; rfl, by rw [h5, if_pos k30]; rfl⟩)
    · by_cases k300 : q + 1 ≤ 300
      · refine .inr (.inr (.inl ⟨decide_eq_false (by omega), decide_eq_false (by omega), decide_eq_true (by omega), by rw [h1, if_neg k8]; rfl, by rw [h2, if_neg k8]; rfl, by rw [h3, if_neg k30]; rfl, by rw [h4, if_pos k300]; rfl, by rw [h5, if_neg k30]; rfl⟩))
      · refine .inr (.inr (.inr ⟨decide_eq_false (by omega), decide_eq_false (by omega), decide_eq_false (by omega), by rw [h1, if_neg k8]; rfl, by rw [h2, if_neg k8]; rfl, by rw [h3, if_neg k30]; rfl, by rw [h4, if_neg k300]; rfl, by rw [h5, if_neg k30]; rfl⟩))
set_option maxRecDepth 1000000 in
set_option maxHeartbeats 8000000 in
theorem lawLimits_any (m : Int) (hm : I64 m) (w : World) (hE : Env w) :
    Calls Tryz.prog 11 #[.int .i64 m] w fun e w' => e = .returned (.bool true) ∧ Below w.heap.size w w' := by
  have HS := Lib.hid (sane_any w hE)
  have HE := Lib.hid hE
  have HPK : Hid (∀ W, Calls Tryz.prog 31 #[.int .i64 m, .int .i64 320] W fun e w' => e = .returned (.int .i64 ((pickN m 320 : Nat) : Int)) ∧ W = w') := Lib.hid (fun W => pick_any m hm 320 (by decide) (by decide) W)
  have hpl := pickN_lt (c := m) (n := 320) (by decide)
  obtain ⟨q, hq⟩ : ∃ q, pickN m 320 = q := ⟨_, rfl⟩
  rw [hq] at HPK hpl
  clear hE hq hm
  go_enter Tryz.func11, Tryz.ntmps11
  go_wp2_with (first
    | (go_at_call 12; (with_reducible (refine HS.out.mono ?_)); rintro e w1 ⟨rfl, hb⟩; have HB1 := Lib.hid hb; clear hb)
    | (go_at_call 31; (with_reducible (refine (HPK.out _).mono ?_)); rintro e wx ⟨rfl, rfl⟩)
    | fail)
  go_loopw [5, 6, 7] (fun v5 v6 v7 wr => ∃ k : Nat, v7 = .int .i64 k ∧ k ≤ q + 1 ∧ v5 = .string ⟨(aT k).toArray⟩ ∧ v6 = .string ⟨(lT k).toArray⟩ ∧ Hid (Below w.heap.size w wr)) (fun _ _ v7 _ => q + 1 - (intOf v7).toNat)
  case atStart => exact ⟨0, rfl, Nat.zero_le _, rfl, rfl, HB1⟩
  case round =>
    clear HB1 HS HPK
    obtain ⟨k, rfl, hk, rfl, rfl, HB⟩ := hrel
    by_cases hkl : k < q + 1
    · have q1 := run_cat (aT k) [97, 32] (by rw [aT_len]; simp; omega)
      rw [aT_snoc] at q1
      have q2 := run_cat (lT k) [97] (by rw [lT_len]; simp; omega)
      rw [lT_snoc] at q2
      have hki : (k : Int) < 1 + (q : Int) := by omega
      go_wp2_with fail
      go_roundw
      case rel => exact ⟨k + 1, by go_num, by omega, rfl, rfl, HB⟩
      case measure => simp [intOf]; omega
    · obtain rfl : k = q + 1 := by omega
      have hta := aT_len (q + 1)
      have HR1 := Lib.hid (parse_aT (n := q + 1) (by omega))
      obtain ⟨ta, hae⟩ : ∃ ta, aT (q + 1) = ta := ⟨_, rfl⟩
      obtain ⟨tl, hle⟩ : ∃ tl, lT (q + 1) = tl := ⟨_, rfl⟩
      obtain ⟨s1, hs1⟩ : ∃ s, [45, 34] ++ ta = s := ⟨_, rfl⟩
      obtain ⟨s2, hs2⟩ : ∃ s, s1 ++ [34] = s := ⟨_, rfl⟩
      obtain ⟨s3, hs3⟩ : ∃ s, [45] ++ tl = s := ⟨_, rfl⟩
      have htl : tl.length = q + 1 := by rw [← hle, lT_len]
      have h1l : s1.length = 2 * (q + 1) + 2 := by rw [← hs1, ← hae, List.length_append, aT_len]; simp; omega
      have h2l : s2.length = 2 * (q + 1) + 3 := by rw [← hs2, List.length_append, h1l]; simp
      have h3l : s3.length = q + 2 := by rw [← hs3, List.length_append, htl]; simp; omega
      have HR2 : Hid (parseP s2 = if q + 1 ≤ 8 then some [⟨2, true, List.replicate (q + 1) [97]⟩] else none) := Lib.hid (by rw [← hs2, ← hs1, ← hae]; exact parse_phr (n := q + 1) (by omega))
      have HR3 : Hid (parseP tl = if q + 1 ≤ 30 then some [⟨1, false, [tl]⟩] else none) := Lib.hid (by rw [← hle]; exact parse_lett (n := q + 1) (by omega))
      have HR5 : Hid ((sugD (putD [] 1 (wordsOf tl)) s3 5).length = if q + 1 ≤ 30 then 1 else 0) := Lib.hid (by rw [← hs3, ← hle]; exact lim_sug (n := q + 1) (by omega))
      rw [hae] at HR1 hta ⊢
      rw [hle]
      have q1 := run_cat [45, 34] ta (by simp; omega)
      have q2 := run_cat s1 [34] (by simp; omega)
      have q3 := run_cat [45] tl (by simp; omega)
      rw [hs1] at q1
      rw [hs2] at q2
      rw [hs3] at q3
      clear hae hle hkl hk hs1 hs2 hs3
      obtain ⟨s4, hs4⟩ : ∃ s, bT q ++ [97] = s := ⟨_, rfl⟩
      have h4l : s4.length = q + 1 := by rw [← hs4, List.length_append, bT_len]; rfl
      have q4 := run_cat (bT q) [97] (by rw [bT_len]; simp; omega)
      have HR4 : parseP s4 = if q + 1 ≤ 300 then some [pA] else none := by rw [← hs4]; exact parse_blank (n := q + 1) (by omega)
      rw [hs4] at q4
      obtain ⟨sg, hsg⟩ : ∃ n, (sugD (putD [] 1 (wordsOf tl)) s3 5).length = n := ⟨_, rfl⟩
      have HSG := Lib.hid hsg
      have hlim := lim_of HR1.out HR2.out HR3.out HR4 (hsg.symm.trans HR5.out)
      clear HR1 HR2 HR3 HR4 HR5 hs4 hsg
      have Q4 := Lib.hid q4
      clear q4
      rcases hlim with hl | hl | hl | hl
      all_goals
        have LM := Lib.hid hl
        have hsgv : sg = _ := hl.r5
        simp only [if_true, Bool.false_eq_true, if_false] at hsgv
        subst hsgv
        have e30 := hl.d30
        clear hl
        have HA1 := Lib.hid (parse_law ta (by omega) wr (HE.out.below HB.out))
        go_wp2_with (first
          | (go_at_call 16; (with_reducible (refine HA1.out.mono ?_)); rintro e w2 ⟨hb, a1, k1, c1, E1, rfl, h1⟩; have HP1 := Lib.hid h1; have HB2 := Lib.hid (bthen HB.out hb); clear hb h1; have HA2 := Lib.hid (parse_law s2 (by omega) w2 (HE.out.below HB2.out)))
          | (go_at_call 16; (with_reducible (refine HA2.out.mono ?_)); rintro e w3 ⟨hb, a2, k2, c2, E2, rfl, h1⟩; have HP2 := Lib.hid h1; have HB3 := Lib.hid (bthen HB2.out hb); clear hb h1; have HA3 := Lib.hid (parse_law tl (by omega) w3 (HE.out.below HB3.out)))
          | (go_at_call 16; (with_reducible (refine HA3.out.mono ?_)); rintro e w4 ⟨hb, a3, k3, c3, E3, rfl, h1⟩; have HP3 := Lib.hid h1; have HB4 := Lib.hid (bthen HB3.out hb); have HP24 := Lib.hid (HP2.out.below hb); clear hb h1; have HA4 := Lib.hid (SI.new w4))
          | (go_at_call 33; (with_reducible (refine HA4.out.mono ?_)); rintro e w5 ⟨p, rfl, h1⟩; have HP4 := Lib.hid h1; clear h1; have HA5 := Lib.hid (HP4.out.put (by omega) 1 (by omega) (by omega) tl (by omega)))
          | (go_at_call 34; (with_reducible (refine HA5.out.mono ?_)); rintro e w6 ⟨rfl, h1⟩; have HP5 := Lib.hid h1; clear h1; have HA6 := Lib.hid ((HP5.out.ix (by omega)).sug s3 (by omega) 5 (by decide)))
          | (go_at_call 25; (with_reducible (refine HA6.out.mono ?_)); rintro e w7 ⟨vs, rfl, hs, hb⟩; have HB7 := Lib.hid (bthen HB4.out (bthen HP5.out.base hb)); have HP27 := Lib.hid (HP24.out.below (bthen HP5.out.base hb)); obtain ⟨asl, cs, hvs⟩ := row_form hs; rw [HSG.out] at hvs; subst hvs; clear hs hb)
          | fail)
        clear HA1 HA2 HA3 HA4 HA5 HA6 HP4 HP5 q1 q2 q3 hta htl h1l h2l h3l HSG
        go_loopw [16, 17] (fun v16 v17 wr2 => ∃ k : Nat, v17 = .int .i64 k ∧ k ≤ q ∧ v16 = .string ⟨(bT k).toArray⟩ ∧ w7 = wr2) (fun _ v17 _ => q - (intOf v17).toNat)
        case atStart => exact ⟨0, rfl, Nat.zero_le _, rfl, rfl⟩
        case round =>
          obtain ⟨k, rfl, hk, rfl, rfl⟩ := hrel
          by_cases hkl : k < q
          · have q1 := run_cat (bT k) [32] (by rw [bT_len]; simp; omega)
            rw [bT_snoc] at q1
            have hki : (k : Int) < 1 + (q : Int) - 1 := by omega
            go_wp2_with fail
            go_roundw
            case rel => exact ⟨k + 1, by go_num, by omega, rfl, by first | rfl | trivial⟩
            case measure => simp [intOf]; omega
          · obtain rfl : k = q := by omega
            clear hkl
            go_upto_region 22 with fail
            have q4 := Q4.out
            have HA7 := Lib.hid (parse_law s4 (by omega) w7 (HE.out.below HB7.out))
            have e8 := LM.out.d8
            have e300 := LM.out.d300
            have en : (((k + 1 : Nat) : Int) == 1 + (k : Int)) = true := by rw [beq_iff_eq]; omega
            have en' : (((k : Int) + 1) == 1 + (k : Int)) = true := by rw [beq_iff_eq]; omega
            have p1 := HP1.out
            rw [LM.out.r1] at p1
            have p2 := HP27.out
            rw [LM.out.r2] at p2
            have p3 := HP3.out
            rw [LM.out.r3] at p3
            have R4 := Lib.hid LM.out.r4
            simp only [if_true, Bool.false_eq_true, if_false] at p1 p2 p3 R4
            clear hk HP1 HP2 HP24 HP27 HP3 LM h4l Q4 hpl
            first
              | (obtain ⟨rfl, hk1, -⟩ := p1
                 rw [List.length_replicate] at hk1
                 subst hk1
                 obtain ⟨rfl, hk2, p2⟩ := p2
                 obtain rfl : k2 = 1 := hk2
                 obtain ⟨ab, cb, e2, -, -, hcc⟩ := p2.at
                 injection e2 with e21 e22 e23
                 subst e21; subst e23
                 obtain ⟨bb, ob, ub, rfl, -, d1, d2, hw⟩ := hcc 0 (by simp)
                 obtain ⟨aw, cw, hub⟩ := hw.form
                 subst hub
                 simp only [List.getElem_cons_zero, List.length_replicate, Nat.zero_mul, Nat.add_zero] at d1 d2
                 clear hcc hw p2 e22)
              | (obtain ⟨rfl, rfl, rfl, rfl⟩ := p1
                 obtain ⟨rfl, rfl, rfl, rfl⟩ := p2)
            first
              | (obtain ⟨rfl, rfl, rfl, rfl⟩ := p3)
              | (obtain ⟨rfl, hk3, -⟩ := p3; obtain rfl : k3 = 1 := hk3)
            have e8n := lim_not (1 + (k : Int)) 8
            have e30n := lim_not (1 + (k : Int)) 30
            have e300n := lim_not (1 + (k : Int)) 300
            rw [e8] at e8n
            rw [e30] at e30n
            rw [e300] at e300n
            simp only [Bool.not_true, Bool.not_false] at e8n e30n e300n
            obtain ⟨N, hN⟩ : ∃ N : Int, 1 + (k : Int) = N := ⟨_, rfl⟩
            rw [hN] at e8 e30 e300 e8n e30n e300n en en' ⊢
            clear hN
            go_upto_region 24 with (first
              | (go_at_call 16; (with_reducible (refine HA7.out.mono ?_)); rintro e w8 ⟨hb, a4, k4, c4, E4, rfl, h1⟩; rw [R4.out] at h1; (first | (obtain ⟨rfl, rfl, rfl, rfl⟩ := h1) | (obtain ⟨rfl, hk4, -⟩ := h1; obtain rfl : k4 = 1 := hk4)); (try have f1 := (hb.cell (World.block_lt_of_cell? w7 _ d1)).trans d1); (try have f2 := (hb.cell (World.block_lt_of_cell? w7 _ d2)).trans d2); (try clear d1 d2); have HB8 := Lib.hid (bthen HB7.out hb); clear hb)
              | fail)
            simp only [List.append]
            go_wp2_with fail
            go_ret
            exact ⟨rfl, HB8.out⟩
end Go.Proofs.YtogjgibaolppfaaGreatDoor

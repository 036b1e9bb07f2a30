/- The law DeltaParts. -/
import Derived.Test.YtfdholhfdceedaaDoorDfA
import Derived.Test.YtfdholhfdceedaaDoorDOpn
namespace Go.Proofs.YtfdholhfdceedaaDoor
open Go.RowKit

def pickI (c n : Int) : Int := (if c < 0 then -(c + 1) else c) % n
theorem pickI_range {c n : Int} (hn : 0 < n) : 0 ≤ pickI c n ∧ pickI c n < n := by
  unfold pickI; exact ⟨Int.emod_nonneg _ (by omega), Int.emod_lt_of_pos _ hn⟩
theorem pick_any (c n : Int) (w : World) (h1 : -9223372036854775808 ≤ c) (h2 : c ≤ 9223372036854775807) (h3 : 1 ≤ n) (h4 : n ≤ 9223372036854775807) :
    Calls Tryd.prog 18 #[.int .i64 c, .int .i64 n] w fun e w' => e = .returned (.int .i64 (pickI c n)) ∧ w = w' := by
  obtain ⟨R, hR⟩ : ∃ R, pickI c n = R := ⟨_, rfl⟩
  rw [hR]
  by_cases hc : c < 0
  · have HR : Hid (R = -(c + 1) % n) := Lib.hid (by rw [← hR, pickI, if_pos hc])
    have hnz : ((n : Int) == 0) = false := by rw [beq_eq_false_iff_ne]; omega
    clear hR
    go_enter Tryd.func18, Tryd.ntmps18
    go_wp2
    go_ret
    exact ⟨ret_int (by rw [HR.out, ← Int.neg_tmod, Int.tmod_eq_emod_of_nonneg (by omega)]), rfl⟩
  · have HR : Hid (R = c % n) := Lib.hid (by rw [← hR, pickI, if_neg hc])
    have hnz : ((n : Int) == 0) = false := by rw [beq_eq_false_iff_ne]; omega
    clear hR
    go_enter Tryd.func18, Tryd.ntmps18
    go_wp2
    go_ret
    exact ⟨ret_int (by rw [HR.out]), rfl⟩

def newsr : List UInt8 := [110, 101, 119, 115, 114, 111, 111, 109]

set_option maxRecDepth 100000 in
set_option maxHeartbeats 4000000 in
theorem lawParts_any {a0 a1 : Addr} (s : ByteArray) (A : Option Addr) (n c : Nat) (w0 : World) (hs : s.size ≤ 140737488355328) (hA : RawTwos w0 A n c) (hS : Sents a0 a1 w0) (hsh : ShiftsAt w0) :
    Calls Tryd.prog 9 #[.string s, .slice A n c] w0 fun e w' => e = .returned (.bool true) ∧ Below w0.heap.size w0 w' := by
  obtain ⟨x, rfl⟩ : ∃ l : List UInt8, s = ⟨l.toArray⟩ := ⟨s.data.toList, by simp⟩
  rw [mk_size] at hs
  have HL := Lib.hid (LW.mk hS hsh (Below.refl _ _) : LW a0 a1 w0 w0)
  have HSN := Lib.hid (sane_any w0 hS hsh)
  obtain ⟨hnc, hcm, f, g, hf⟩ := hA
  have HF := Lib.hid hf
  have HC := fun wy => Lib.hid (cut_any (x ++ newsr) 1000 wy (by simp [newsr]; omega) (by omega))
  have ho8 : 8 ≤ ((x ++ newsr).take 1000).length := by simp [newsr]; omega
  have ho1 : ((x ++ newsr).take 1000).length ≤ 1000 := List.length_take_le _ _
  have hov : ¬ 9223372036854775807 < x.length + 8 := by omega
  clear hS hsh hf
  go_enter Tryd.func9, Tryd.ntmps9
  go_wp2_with fail
  refine HSN.out.mono ?_
  rintro e w1 ⟨rfl, hb1⟩
  have HL1 := Lib.hid (HL.out.below hb1)
  clear hb1 HL HSN
  go_wp2_with fail
  try simp only [str_add]
  refine (HC _).out.mono ?_
  rintro e wq ⟨rfl, rfl⟩
  generalize (x ++ newsr).take 1000 = o at *
  obtain ⟨O, hO⟩ : ∃ O : ByteArray, ⟨o.toArray⟩ = O := ⟨_, rfl⟩
  have zO : O.size = o.length := by rw [← hO, mk_size]
  have eO : ∀ a b, O.extract a b = ⟨((o.drop a).take (b - a)).toArray⟩ := fun a b => by rw [extract_mk, ← hO]
  have EO := Lib.hid eO; have HO := Lib.hid hO
  rw [hO]
  clear hO eO HC hov
  go_wp2_with fail
  go_loop [6, 7, 8] (fun nx k i => ∃ (j : Nat) (ps : List (List UInt8)), i = .int .i64 j ∧ j ≤ 40 ∧ k = .int .i64 j ∧ nx = .string ⟨ps.flatten.toArray⟩ ∧ ps.length = j ∧ ps.flatten.length ≤ 200 * j ∧ Hid (∀ p ∈ ps, 8 ≤ p.length ∧ Occ o p)) (fun _ _ i => 40 - (intOf i).toNat)
  case atStart => exact ⟨0, [], rfl, by omega, rfl, rfl, rfl, by simp, Lib.hid (by simp)⟩
  case round =>
    obtain ⟨j, ps, rfl, hj, rfl, rfl, hpl, hfl, HPS⟩ := hrel
    by_cases hjj : j < n ∧ j < 40
    · obtain ⟨hjn, hj40⟩ := hjj
      obtain ⟨b, off, rfl, hif, hig, hc0, hc1⟩ := HF.out j hjn
      have hbl := HL1.out.bel
      have c0 := (hbl.cell (p := ⟨b, _, none⟩) (World.block_lt_of_cell? w0 _ hc0)).trans hc0
      have c1 := (hbl.cell (p := ⟨b, _, none⟩) (World.block_lt_of_cell? w0 _ hc1)).trans hc1
      rw [← Nat.add_assoc] at c1
      have j0 : (0 : Int) ≤ (j : Int) := by omega
      have j1 : (j : Int) < (n : Int) := by omega
      obtain ⟨hf1, hf2⟩ := hif
      obtain ⟨hg1, hg2⟩ := hig
      have HP1 := fun wy => Lib.hid (pick_any (f j) ((o.length : Int) - 7) wy hf1 hf2 (by omega) (by omega))
      have hr1 := pickI_range (c := f j) (n := (o.length : Int) - 7) (by omega)
      obtain ⟨fr, hfr⟩ : ∃ fr : Nat, pickI (f j) ((o.length : Int) - 7) = fr := ⟨(pickI (f j) ((o.length : Int) - 7)).toNat, by omega⟩
      rw [hfr] at HP1 hr1
      generalize f j = F at *
      generalize g j = G at *
      have hmn : min (193 : Int) ((o.length : Int) - (fr : Int) - 7) ≥ 1 ∧ min (193 : Int) ((o.length : Int) - (fr : Int) - 7) ≤ 193 ∧ min (193 : Int) ((o.length : Int) - (fr : Int) - 7) ≤ (o.length : Int) - (fr : Int) - 7 := by omega
      have HP2 := fun wy => Lib.hid (pick_any G (min (193 : Int) ((o.length : Int) - (fr : Int) - 7)) wy hg1 hg2 (by omega) (by omega))
      have hr2 := pickI_range (c := G) (n := min (193 : Int) ((o.length : Int) - (fr : Int) - 7)) (by omega)
      obtain ⟨m, hm⟩ : ∃ m : Nat, pickI G (min (193 : Int) ((o.length : Int) - (fr : Int) - 7)) = m := ⟨(pickI G (min (193 : Int) ((o.length : Int) - (fr : Int) - 7))).toNat, by omega⟩
      rw [hm] at HP2 hr2
      have hm1 : m ≤ 192 := by omega
      have hm2 : fr + 8 + m ≤ o.length := by omega
      have hex : O.extract fr (fr + (8 + m)) = ⟨((o.drop fr).take (8 + m)).toArray⟩ := by rw [EO.out]; congr 3; omega
      have hpl2 : ((o.drop fr).take (8 + m)).length = 8 + m := by simp; omega
      have HOC : Hid (∀ p ∈ ps ++ [(o.drop fr).take (8 + m)], 8 ≤ p.length ∧ Occ o p) := Lib.hid (fun p hp => by
        rcases List.mem_append.1 hp with hp | hp
        · exact HPS.out p hp
        · obtain rfl : p = (o.drop fr).take (8 + m) := by simpa using hp
          exact ⟨by omega, fr, List.take_prefix _ _⟩)
      have HEX := Lib.hid hex
      have hr3 : (fr : Int) ≤ (fr : Int) + (8 + (m : Int)) := by omega
      have hr4 : (fr : Int) + (8 + (m : Int)) ≤ (o.length : Int) := by omega
      have hr5 : (0 : Int) ≤ (fr : Int) := by omega
      have hr6 : ((fr : Int) + (8 + (m : Int))).toNat = fr + (8 + m) := by omega
      have hov2 : ¬ 9223372036854775807 < ps.flatten.length + (8 + m) := by omega
      obtain ⟨nx, hnx⟩ : ∃ nx, ps.flatten = nx := ⟨_, rfl⟩
      rw [hnx] at hfl hov2 ⊢
      have HNX := Lib.hid hnx
      have hov3 : ¬ 9223372036854775807 < nx.length + (min (fr + (8 + m)) o.length - fr) := by omega
      clear hfr hm hmn hex hc0 hc1 HPS hbl hnx
      go_wp2_with fail
      refine (HP1 _).out.mono ?_
      rintro e wq ⟨rfl, rfl⟩
      go_wp2_with fail
      refine (HP2 _).out.mono ?_
      rintro e wq ⟨rfl, rfl⟩
      generalize (o.drop fr).take (8 + m) = piece at *
      go_wp2
      all_goals go_round
      case rel => exact ⟨j + 1, ps ++ [piece], by go_num, by omega, by go_num, by rw [HEX.out, str_add, List.flatten_append, HNX.out]; simp, by simp [hpl], by rw [List.flatten_append, HNX.out, List.length_append]; simp only [List.flatten_cons, List.flatten_nil, List.append_nil]; omega, HOC⟩
      case measure => simp [intOf]; omega
    · have hout : j < n ∧ ¬ ((j : Int) < 40) ∨ ¬ j < n := by omega
      have hnl : ps.flatten.length ≤ 8000 := by omega
      have hdp := diff_parts (o := o) (by omega) (by omega) HPS.out
      have hap := apply_diff (o := o) (n := ps.flatten) (by omega) (by omega)
      have HD := Lib.hid (diff_any o ps.flatten _ (by omega) (by omega) HL1.out.h)
      have HAp := fun (wy : World) (h : LW a0 a1 w0 wy) => Lib.hid (apply_list o (diffD o ps.flatten) wy (by omega) (by omega) h.s h.h)
      rw [hap] at HAp
      rw [HO.out] at HD HAp
      rw [hpl] at hdp
      have hle : decide (((diffD o ps.flatten).length : Int) ≤ 16 * (j : Int) + 14) = true := by rw [decide_eq_true_eq]; omega
      generalize diffD o ps.flatten = D at *
      generalize ps.flatten = nx at *
      clear hap hdp HPS hjj hpl hfl
      rcases hout with ⟨hjn, hj40⟩ | hjn
      all_goals
        go_wp2_with fail
        refine HD.out.mono ?_
        rintro e w2 ⟨rfl, hb2⟩
        have HL2 := Lib.hid (HL1.out.below hb2)
        clear hb2
        go_wp2_with fail
        refine (HAp _ HL2.out).out.mono ?_
        unfold exTup
        rintro e w3 ⟨rfl, hb3⟩
        have HL3 := Lib.hid (HL2.out.below hb3)
        clear hb3
        go_wp2
        go_ret
        exact ⟨rfl, HL3.out.bel⟩
end Go.Proofs.YtfdholhfdceedaaDoor

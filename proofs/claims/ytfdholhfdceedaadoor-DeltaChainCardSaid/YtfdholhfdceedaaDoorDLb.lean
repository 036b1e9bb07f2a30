/- The law DeltaChain. -/
import Derived.Test.YtfdholhfdceedaaDoorDfA
import Derived.Test.YtfdholhfdceedaaDoorDOpn
namespace Go.Proofs.YtfdholhfdceedaaDoor
open Go.RowKit

/-- the text before round k -/
def chainS (f : Nat → List UInt8) : Nat → List UInt8
  | 0 => []
  | k + 1 => (f k).take 2000
theorem chainS_len (f : Nat → List UInt8) (k : Nat) : (chainS f k).length ≤ 2000 := by
  cases k with
  | zero => simp [chainS]
  | succ k => exact List.length_take_le _ _

set_option maxRecDepth 100000 in
set_option maxHeartbeats 4000000 in
theorem lawChain_any {a0 a1 : Addr} (A : Option Addr) (n c : Nat) (w0 : World) (hA : RawStrs w0 A n c) (hS : Sents a0 a1 w0) (hsh : ShiftsAt w0) :
    Calls Tryd.prog 6 #[.slice A n c] w0 fun e w' => e = .returned (.bool true) ∧ Below w0.heap.size w0 w' := by
  have HL := Lib.hid (LW.mk hS hsh (Below.refl _ _) : LW a0 a1 w0 w0)
  have HSN := Lib.hid (sane_any w0 hS hsh)
  obtain ⟨hnc, hcm, f, hf⟩ := hA
  have HF := Lib.hid hf
  clear hS hsh hf
  go_enter Tryd.func6, Tryd.ntmps6
  go_wp2_with fail
  refine HSN.out.mono ?_
  rintro e w1 ⟨rfl, hb1⟩
  have HL1 := Lib.hid (HL.out.below hb1)
  clear hb1 HL HSN
  go_wp2_with fail
  go_loopw [4, 5] (fun s i wr => ∃ k : Nat, i = .int .i64 k ∧ k ≤ 8 ∧ s = .string ⟨(chainS f k).toArray⟩ ∧ Hid (LW a0 a1 w0 wr)) (fun _ i _ => 8 - (intOf i).toNat)
  case atStart => exact ⟨0, rfl, by omega, rfl, HL1⟩
  case round =>
    obtain ⟨k, rfl, hk, rfl, HW⟩ := hrel
    by_cases hkn : k < n
    · by_cases hk8 : k < 8
      · obtain ⟨b, off, rfl, hlk, hck⟩ := HF.out k hkn
        have ck : wr.cell? ⟨b, off + k, none⟩ = some (.string ⟨(f k).toArray⟩) := (HW.out.bel.cell (p := ⟨b, _, none⟩) (World.block_lt_of_cell? w0 _ hck)).trans hck
        have k0 : (0 : Int) ≤ (k : Int) := by omega
        have k1 : (k : Int) < (n : Int) := by omega
        have hpl := chainS_len f k
        have hcl : ((f k).take 2000).length ≤ 2000 := List.length_take_le _ _
        have HN : Hid (chainS f (k + 1) = (f k).take 2000) := Lib.hid rfl
        have hdl := diffD_len (chainS f k) ((f k).take 2000)
        have HD := Lib.hid (fun (wy : World) (h : ShiftsAt wy) => diff_any (chainS f k) ((f k).take 2000) wy (by omega) (by omega) h)
        have ha := fun (wy : World) (h : LW a0 a1 w0 wy) => apply_list (chainS f k) (diffD (chainS f k) ((f k).take 2000)) wy (by omega) (by omega) h.s h.h
        rw [apply_diff (by omega) (by omega)] at ha
        have HAp := Lib.hid ha
        have HC := fun wy => Lib.hid (cut_any (f k) 2000 wy hlk (by omega))
        clear ha hck
        cases k with
        | zero =>
          have hcs : chainS f 0 = [] := rfl
          rw [hcs] at HD HAp ⊢
          rw [Nat.add_zero] at ck
          generalize diffD [] ((f 0).take 2000) = D at *
          generalize (f 0).take 2000 = cur at *
          generalize f 0 = cur0 at *
          clear hcs hpl
          go_wp2_with fail
          refine (HC _).out.mono ?_
          rintro e wq ⟨rfl, rfl⟩
          go_wp2_with fail
          refine (HD.out _ HW.out.h).mono ?_
          rintro e w2 ⟨rfl, hb2⟩
          have HL2 := Lib.hid (HW.out.below hb2)
          have ck2 := (hb2.cell (p := ⟨b, _, none⟩) (World.block_lt_of_cell? _ _ ck)).trans ck
          clear hb2 ck
          go_wp2_with fail
          refine (HAp.out _ HL2.out).mono ?_
          unfold exTup
          rintro e w3 ⟨rfl, hb3⟩
          have HL3 := Lib.hid (HL2.out.below hb3)
          have ck3 := (hb3.cell (p := ⟨b, _, none⟩) (World.block_lt_of_cell? _ _ ck2)).trans ck2
          clear hb3 ck2
          go_wp2_with fail
          refine (HC _).out.mono ?_
          rintro e wq ⟨rfl, rfl⟩
          go_wp2
          go_roundw
          case rel => exact ⟨1, by go_num, by omega, by rw [HN.out], HL3⟩
          case measure => simp [intOf]
        | succ j =>
          obtain ⟨b', off', hbb, hlj, hcj⟩ := HF.out j (by omega)
          obtain ⟨rfl, rfl⟩ : b' = b ∧ off' = off := by cases hbb; exact ⟨rfl, rfl⟩
          have cj : wr.cell? ⟨b', off' + j, none⟩ = some (.string ⟨(f j).toArray⟩) := (HW.out.bel.cell (p := ⟨b', _, none⟩) (World.block_lt_of_cell? w0 _ hcj)).trans hcj
          have j0 : (0 : Int) ≤ (j : Int) := by omega
          have j1 : (j : Int) < (n : Int) := by omega
          have HCj := fun wy => Lib.hid (cut_any (f j) 2000 wy hlj (by omega))
          have hcs : chainS f (j + 1) = (f j).take 2000 := rfl
          rw [hcs] at HD HAp hpl ⊢
          generalize diffD ((f j).take 2000) ((f (j + 1)).take 2000) = D at *
          generalize (f (j + 1)).take 2000 = cur at *
          generalize (f j).take 2000 = old at *
          generalize f (j + 1) = cur0 at *
          generalize f j = old0 at *
          clear hcs hcj hbb
          go_wp2_with fail
          refine (HCj _).out.mono ?_
          rintro e wq ⟨rfl, rfl⟩
          go_wp2_with fail
          refine (HC _).out.mono ?_
          rintro e wq ⟨rfl, rfl⟩
          go_wp2_with fail
          refine (HD.out _ HW.out.h).mono ?_
          rintro e w2 ⟨rfl, hb2⟩
          have HL2 := Lib.hid (HW.out.below hb2)
          have ck2 := (hb2.cell (p := ⟨b', _, none⟩) (World.block_lt_of_cell? _ _ ck)).trans ck
          clear hb2 ck cj
          go_wp2_with fail
          refine (HAp.out _ HL2.out).mono ?_
          unfold exTup
          rintro e w3 ⟨rfl, hb3⟩
          have HL3 := Lib.hid (HL2.out.below hb3)
          have ck3 := (hb3.cell (p := ⟨b', _, none⟩) (World.block_lt_of_cell? _ _ ck2)).trans ck2
          clear hb3 ck2
          go_wp2_with fail
          refine (HC _).out.mono ?_
          rintro e wq ⟨rfl, rfl⟩
          go_wp2
          go_roundw
          case rel => exact ⟨j + 1 + 1, by go_num, by omega, by rw [HN.out], HL3⟩
          case measure => simp [intOf]; omega
      · have hk8b : ¬ ((k : Int) < 8) := by omega
        have HFN := Lib.hid HW.out.bel
        go_wp2
        go_ret
        exact ⟨rfl, HFN.out⟩
    · have HFN := Lib.hid HW.out.bel
      go_wp2
      go_ret
      exact ⟨rfl, HFN.out⟩
end Go.Proofs.YtfdholhfdceedaaDoor

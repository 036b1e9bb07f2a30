/- The law's helpers: pick, Words, Deliver, Kill. -/
import Derived.Test.YtnhpnipfledihaaDoorWrd
import Derived.Test.YtnhpnipfledihaaDoorParA
namespace Go.Proofs.YtnhpnipfledihaaDoor
open Go.RowKit

def pickI (c n : Int) : Int := (if c < 0 then -(c + 1) else c) % n

theorem pickI_range {c n : Int} (hn : 0 < n) : 0 ≤ pickI c n ∧ pickI c n < n := by
  unfold pickI; exact ⟨Int.emod_nonneg _ (by omega), Int.emod_lt_of_pos _ hn⟩

theorem pick_any (c n : Int) (w : World) (h1 : -9223372036854775808 ≤ c) (h2 : c ≤ 9223372036854775807) (h3 : 1 ≤ n) (h4 : n ≤ 9223372036854775807) :
    Calls Tryd.prog 13 #[.int .i64 c, .int .i64 n] w fun e w' => e = .returned (.int .i64 (pickI c n)) ∧ w = w' := by
  obtain ⟨R, hR⟩ : ∃ R, pickI c n = R := ⟨_, rfl⟩
  rw [hR]
  by_cases hc : c < 0
  · have HR : Hid (R = -(c + 1) % n) := Lib.hid (by rw [← hR, pickI, if_pos hc])
    have hnz : ((n : Int) == 0) = false := by rw [beq_eq_false_iff_ne]; omega
    clear hR
    go_enter Tryd.func13, Tryd.ntmps13
    go_wp2
    go_ret
    exact ⟨ret_int (by rw [HR.out, ← Int.neg_tmod, Int.tmod_eq_emod_of_nonneg (by omega)]), rfl⟩
  · have HR : Hid (R = c % n) := Lib.hid (by rw [← hR, pickI, if_neg hc])
    have hnz : ((n : Int) == 0) = false := by rw [beq_eq_false_iff_ne]; omega
    clear hR
    go_enter Tryd.func13, Tryd.ntmps13
    go_wp2
    go_ret
    exact ⟨ret_int (by rw [HR.out]), rfl⟩

/-- the text that a number determines -/
def wordsI (n : Int) : List UInt8 := wordsAt (pickI n 625).toNat
theorem wordsI_in (n : Int) : InW (wordsI n) := ⟨_, by have := pickI_range (c := n) (n := 625) (by omega); omega, rfl⟩

set_option maxRecDepth 100000 in
set_option maxHeartbeats 4000000 in
theorem words_any (n : Int) (w : World) (h1 : -9223372036854775808 ≤ n) (h2 : n ≤ 9223372036854775807) :
    Calls Tryd.prog 27 #[.int .i64 n] w fun e w' => e = .returned (.string ⟨(wordsI n).toArray⟩) ∧ Below w.heap.size w w' := by
  obtain ⟨w1, hw1⟩ : ∃ w1, w.alloc (.cells #[.string ⟨(phrase 0).toArray⟩, .string ⟨(phrase 1).toArray⟩, .string ⟨(phrase 2).toArray⟩, .string ⟨(phrase 3).toArray⟩, .string ⟨(phrase 4).toArray⟩] 9) = w1 := ⟨_, rfl⟩
  have hb1 : Below w.heap.size w w1 := by rw [← hw1]; exact (Below.refl _ _).alloc (Nat.le_refl _) _
  have hc : ∀ j, j < 5 → w1.cell? ⟨w.heap.size, j, none⟩ = some (.string ⟨(phrase j).toArray⟩) := by
    have hh : w1.heap[w.heap.size]? = some (.cells #[.string ⟨(phrase 0).toArray⟩, .string ⟨(phrase 1).toArray⟩, .string ⟨(phrase 2).toArray⟩, .string ⟨(phrase 3).toArray⟩, .string ⟨(phrase 4).toArray⟩] 9 (0, 0)) := by rw [← hw1]; exact heap_alloc_new _ _
    intro j hj
    rw [Lib.cell_of_heap hh]
    match j, hj with
    | 0, _ => rfl
    | 1, _ => rfl
    | 2, _ => rfl
    | 3, _ => rfl
    | 4, _ => rfl
  have HC := Lib.hid hc; have HB := Lib.hid hb1
  have hr := pickI_range (c := n) (n := 625) (by omega)
  have HW : Hid (wordsI n = wpre (pickI n 625).toNat 4) := Lib.hid rfl
  have HP := fun w => Lib.hid (pick_any n 625 w h1 h2 (by omega) (by omega))
  obtain ⟨R, hR⟩ : ∃ R, wordsI n = R := ⟨_, rfl⟩
  rw [hR] at HW ⊢
  obtain ⟨q, hq⟩ : ∃ q : Nat, pickI n 625 = q := ⟨(pickI n 625).toNat, by omega⟩
  rw [hq] at HW HP hr
  rw [Int.toNat_natCast] at HW
  clear hc hb1 hR hq
  have hw1' : w.alloc (.cells #[.string ⟨#[84, 104, 101, 32, 99, 111, 117, 110, 99, 105, 108, 32, 118, 111, 116, 101, 100, 32, 111, 110, 32, 116, 104, 101, 32, 98, 117, 100, 103, 101, 116, 46, 32]⟩, .string ⟨#[82, 97, 105, 110, 32, 105, 115, 32, 101, 120, 112, 101, 99, 116, 101, 100, 32, 105, 110, 32, 116, 104, 101, 32, 110, 111, 114, 116, 104, 46, 32]⟩, .string ⟨#[84, 104, 101, 32, 109, 117, 115, 101, 117, 109, 32, 111, 112, 101, 110, 115, 32, 97, 103, 97, 105, 110, 46, 32]⟩, .string ⟨#[84, 119, 111, 32, 98, 114, 105, 100, 103, 101, 115, 32, 97, 114, 101, 32, 99, 108, 111, 115, 101, 100, 46, 32]⟩, .string ⟨#[]⟩] 9) = w1 := hw1
  clear hw1
  go_enter Tryd.func27, Tryd.ntmps27
  go_wp2_with fail
  refine (HP _).out.mono ?_
  rintro e w2 ⟨rfl, rfl⟩
  go_wp2
  clear hw1'
  go_loop [0, 4, 5] (fun m s i => ∃ (k z : Nat) (x : List UInt8), i = .int .i64 k ∧ k ≤ 4 ∧ m = .int .i64 z ∧ z ≤ 625 ∧ s = .string ⟨x.toArray⟩ ∧ x.length ≤ 33 * k ∧ Hid (z = q / 5 ^ k) ∧ Hid (x = wpre q k)) (fun _ _ i => 4 - (intOf i).toNat)
  case atStart => exact ⟨0, q, [], rfl, by omega, rfl, by omega, rfl, by simp, Lib.hid (by simp), Lib.hid rfl⟩
  case round =>
    obtain ⟨k, z, x, rfl, hk, rfl, hz, rfl, hx, HZ, HX⟩ := hrel
    by_cases hlt : k < 4
    · have hcz := HC.out (z % 5) (by omega)
      have hpl := phrase_len (z % 5)
      have HX2 : Hid (x ++ phrase (z % 5) = wpre q (k + 1)) := Lib.hid (by rw [HX.out, HZ.out]; rfl)
      have HZ2 : Hid (z / 5 = q / 5 ^ (k + 1)) := Lib.hid (by rw [HZ.out, Nat.div_div_eq_div_mul, Nat.pow_succ])
      have z0 : (0 : Int) ≤ (z : Int) % 5 := by omega
      have z1 : (z : Int) % 5 < 5 := by omega
      have z2 : ((z : Int) % 5).toNat = z % 5 := by omega
      generalize phrase (z % 5) = ph at *
      have hov : ¬ 9223372036854775807 < x.length + ph.length := by omega
      go_wp2
      go_round
      case rel => exact ⟨k + 1, z / 5, x ++ ph, by go_num, by omega, by go_num, by omega, by rw [str_add], by simp; omega, HZ2, HX2⟩
      case measure => simp [intOf]; omega
    · obtain rfl : k = 4 := by omega
      go_wp2
      go_ret
      exact ⟨ret_str (by rw [HW.out, HX.out]), HB.out⟩

theorem kill_any (id seq story : Int) (w : World) :
    Calls Tryd.prog 26 #[.int .i64 id, .int .i64 seq, .int .i64 story] w fun e w' => e = .returned (Msg.enc ⟨2, id, seq, story, 0, 0, []⟩) ∧ Below w.heap.size w w' := by
  go_enter Tryd.func26, Tryd.ntmps26
  go_wp2
  exact bodyPost_ret (v := Msg.enc ⟨2, id, seq, story, 0, 0, []⟩) (by simp [results, Tryd.results26, go_sem, Msg.enc]) rfl ⟨rfl, (Below.refl _ w).alloc (Nat.le_refl _) _⟩

/-- a delivery of next against base -/
def deliverOf (id seq story : Int) (base next : List UInt8) : Msg := ⟨1, id, seq, story, crcOf base, crcOf next, diffD base next⟩

set_option maxHeartbeats 1000000 in
theorem deliver_any (id seq story : Int) (b n : List UInt8) (w : World) (hb : b.length ≤ 9223372036854775000) (hn : n.length ≤ 9223372036854775000) :
    Calls Tryd.prog 24 #[.int .i64 id, .int .i64 seq, .int .i64 story, .string ⟨b.toArray⟩, .string ⟨n.toArray⟩] w fun e w' => e = .returned (deliverOf id seq story b n).enc ∧ Below w.heap.size w w' := by
  have hB : ∀ x, Below w.heap.size w (w.alloc x) := fun x => (Below.refl _ w).alloc (Nat.le_refl _) x
  have HB := Lib.hid hB
  have HF : Hid (∀ c1 c2 : Int, ∀ d : List UInt8, c1 = crcOf b → c2 = crcOf n → d = diffD b n → Msg.enc ⟨1, id, seq, story, c1, c2, d⟩ = (deliverOf id seq story b n).enc) := Lib.hid (fun c1 c2 d h1 h2 h3 => by rw [h1, h2, h3]; rfl)
  have HD := fun w => Lib.hid (refDiff_any b n w hb hn)
  have HS1 := fun w => Lib.hid (refSum_list b w hb)
  have HS2 := fun w => Lib.hid (refSum_list n w hn)
  clear hB
  generalize deliverOf id seq story b n = D at *
  obtain ⟨cb, hcb⟩ : ∃ cb : Int, (crcOf b : Int) = cb := ⟨_, rfl⟩
  obtain ⟨cn, hcn⟩ : ∃ cn : Int, (crcOf n : Int) = cn := ⟨_, rfl⟩
  obtain ⟨dd, hdd⟩ : ∃ dd, diffD b n = dd := ⟨_, rfl⟩
  have HE := Lib.hid (HF.out cb cn dd hcb.symm hcn.symm hdd.symm)
  rw [hcb] at HS1; rw [hcn] at HS2; rw [hdd] at HD
  clear hcb hcn hdd HF
  go_enter Tryd.func24, Tryd.ntmps24
  go_wp2_with fail
  refine (HS1 _).out.mono ?_
  rintro e w1 ⟨rfl, rfl⟩
  go_wp2_with fail
  refine (HS2 _).out.mono ?_
  rintro e w1 ⟨rfl, rfl⟩
  go_wp2_with fail
  refine (HD _).out.mono ?_
  rintro e w1 ⟨rfl, hb1⟩
  have hm : w1.heap[w.heap.size]? = some (.cells #[.int .i64 0, .int .i64 0, .int .i64 0, .int .i64 0, .int .i64 0, .int .i64 0, .string ⟨#[]⟩] 33 (0, 0)) := (hb1.block _ (by simp)).trans (heap_alloc_new _ _)
  have fz : ∀ o, w1.frozen? ⟨w.heap.size, o, none⟩ = false := fun o => Lib.frozen_of_heap hm o
  have c0 : w1.cell? ⟨w.heap.size, 0, none⟩ = some (.int .i64 0) := by rw [Lib.cell_of_heap hm]; rfl
  have c1 : w1.cell? ⟨w.heap.size, 1, none⟩ = some (.int .i64 0) := by rw [Lib.cell_of_heap hm]; rfl
  have c2 : w1.cell? ⟨w.heap.size, 2, none⟩ = some (.int .i64 0) := by rw [Lib.cell_of_heap hm]; rfl
  have c3 : w1.cell? ⟨w.heap.size, 3, none⟩ = some (.int .i64 0) := by rw [Lib.cell_of_heap hm]; rfl
  have c4 : w1.cell? ⟨w.heap.size, 4, none⟩ = some (.int .i64 0) := by rw [Lib.cell_of_heap hm]; rfl
  have c5 : w1.cell? ⟨w.heap.size, 5, none⟩ = some (.int .i64 0) := by rw [Lib.cell_of_heap hm]; rfl
  have c6 : w1.cell? ⟨w.heap.size, 6, none⟩ = some (.string ⟨#[]⟩) := by rw [Lib.cell_of_heap hm]; rfl
  have HM := Lib.hid hm; have HB1 : Hid (Below w.heap.size w w1) := Lib.hid ((HB.out _).trans (hb1.mono (by simp)))
  clear hm hb1
  go_wp2
  obtain ⟨w2, hw2⟩ : ∃ w2, (((((((w1.setCell ⟨w.heap.size, 0, none⟩ (.int .i64 1)).setCell ⟨w.heap.size, 1, none⟩ (.int .i64 id)).setCell ⟨w.heap.size, 2, none⟩ (.int .i64 seq)).setCell ⟨w.heap.size, 3, none⟩ (.int .i64 story)).setCell ⟨w.heap.size, 4, none⟩ (.int .i64 cb)).setCell ⟨w.heap.size, 5, none⟩ (.int .i64 cn)).setCell ⟨w.heap.size, 6, none⟩ (.string ⟨dd.toArray⟩)) = w2 := ⟨_, rfl⟩
  rw [hw2]
  have hm2 : w2.heap[w.heap.size]? = some (.cells #[.int .i64 1, .int .i64 id, .int .i64 seq, .int .i64 story, .int .i64 cb, .int .i64 cn, .string ⟨dd.toArray⟩] 33 (0, 0)) := by
    rw [← hw2]; simp [World.setCell, Array.getElem?_modify, HM.out]
  have hb2 : Below w.heap.size w w2 := by
    rw [← hw2]
    exact (((((((HB1.out.setCell (p := ⟨w.heap.size, 0, none⟩) (Nat.le_refl _) _).setCell (p := ⟨w.heap.size, 1, none⟩) (Nat.le_refl _) _).setCell (p := ⟨w.heap.size, 2, none⟩) (Nat.le_refl _) _).setCell (p := ⟨w.heap.size, 3, none⟩) (Nat.le_refl _) _).setCell (p := ⟨w.heap.size, 4, none⟩) (Nat.le_refl _) _).setCell (p := ⟨w.heap.size, 5, none⟩) (Nat.le_refl _) _).setCell (p := ⟨w.heap.size, 6, none⟩) (Nat.le_refl _) _)
  clear hw2 c0 c1 c2 c3 c4 c5 c6 fz
  obtain ⟨c0, c1, c2, c3, c4, c5, c6⟩ := MAt.cells (m := ⟨1, id, seq, story, cb, cn, dd⟩) hm2
  exact bodyPost_ret (v := Msg.enc ⟨1, id, seq, story, cb, cn, dd⟩) (by simp [results, Tryd.results24, go_sem, Msg.enc, c0, c1, c2, c3, c4, c5, c6]) rfl ⟨by rw [HE.out], hb2⟩
end Go.Proofs.YtnhpnipfledihaaDoor

/- New and run. -/
import Derived.Test.YtmfnhfkgkdibfaaGreatILwA
namespace Go.Proofs.YtmfnhfkgkdibfaaGreat
open Go.RowKit Go.Sort Go.Proofs Go.Maps

theorem vocab_nil : vocab [] = [] := List.eq_nil_iff_forall_not_mem.2 fun x h => by
  obtain ⟨d, hd, _⟩ := mem_vocab.1 h
  cases hd
theorem cntD_nil : cntD [] = fun _ _ => 0 := rfl
set_option maxRecDepth 100000 in
theorem new_any (w : World) : Calls Tryz.prog 12 #[] w fun e w' => ∃ p S, e = .returned (.pointer (some ⟨p, 0, none⟩)) ∧ IdxAt S (fun _ => False) 0 w' p [] ∧ (∀ k, S k → w.heap.size ≤ k) ∧ Below w.heap.size w w' := by
  have hmm := @run_makeMap Tryz.prog
  go_enter Tryz.func12, Tryz.ntmps12
  go_wp2
  go_ret
  obtain ⟨w1, hw1⟩ : ∃ w1, w.alloc (.map #[] 0) = w1 := ⟨_, rfl⟩
  obtain ⟨w2, hw2⟩ : ∃ w2, w1.alloc (.map #[] 0) = w2 := ⟨_, rfl⟩
  obtain ⟨w3, hw3⟩ : ∃ w3, w2.alloc (.cells #[.map (some w.heap.size), .map (some w1.heap.size), .slice none 0 0] 66 (0, 0)) = w3 := ⟨_, rfl⟩
  have hs1 : w1.heap.size = w.heap.size + 1 := by rw [← hw1]; simp
  have hs2 : w2.heap.size = w.heap.size + 2 := by rw [← hw2]; simp [hs1]
  have hs3 : w3.heap.size = w.heap.size + 3 := by rw [← hw3]; simp [hs2]
  have hb1 : Below w.heap.size w w1 := by rw [← hw1]; exact (Below.refl _ w).alloc (Nat.le_refl _) _
  have hb2 : Below w1.heap.size w1 w2 := by rw [← hw2]; exact (Below.refl _ w1).alloc (Nat.le_refl _) _
  have hb3 : Below w2.heap.size w2 w3 := by rw [← hw3]; exact (Below.refl _ w2).alloc (Nat.le_refl _) _
  have hM1 : IM w.heap.size 0 (fun _ => none) w1 := by rw [← hw1]; exact RMap.new w
  have hM2 : SM w1.heap.size 0 (fun _ => none) w2 := by rw [← hw2]; exact RMap.new w1
  have hM13 : IM w.heap.size 0 (fun _ => none) w3 := (hM1.kept (hb2.block _ (by omega))).kept (hb3.block _ (by omega))
  have hM23 : SM w1.heap.size 0 (fun _ => none) w3 := hM2.kept (hb3.block _ (by omega))
  have hcell : w3.heap[w2.heap.size]? = some (.cells #[.map (some w.heap.size), .map (some w1.heap.size), .slice none 0 0] 66 (0, 0)) := by rw [← hw3]; exact heap_alloc_new _ _
  have hI : IdxAt (fun k => w.heap.size ≤ k ∧ k < w3.heap.size) (fun _ => False) 0 w3 w2.heap.size [] :=
      ⟨.nil, (fun d hd => by cases hd), (fun d hd => by cases hd), (fun d hd => by cases hd), fun k h => h.2, fun k _ h => h, ⟨by omega, by omega⟩, w.heap.size, w1.heap.size, .slice none 0 0, fun _ => none, fun _ => none, hcell, by omega,
        ⟨hM13, ⟨by omega, by omega⟩, fun _ _ => rfl, (fun id l h => by simp [wordsAt] at h)⟩,
        ⟨hM23, ⟨by omega, by omega⟩, (fun x b h => by cases h), (fun x y b h => by cases h), (fun x => by simp [cntD_nil])⟩,
        ⟨⟨0, by rw [vocab_nil]; exact ⟨rfl, .inl ⟨rfl, rfl⟩⟩⟩, (fun k h => by cases h)⟩⟩
  have hB : Below w.heap.size w w3 := bthen hb1 (bthen hb2 hb3)
  have e2 : w2.heap.size = w.heap.size + 1 + 1 := by omega
  rw [e2] at hI
  have hw : ((w.alloc (.map #[] 0)).alloc (.map #[] 0)).alloc (.cells #[.map (some w.heap.size), .map (some (w.heap.size + 1)), .slice none 0 0] 66 (0, 0)) = w3 := by
    rw [hw1, hw2, ← hs1]; exact hw3
  refine ⟨w.heap.size + 1 + 1, fun k => w.heap.size ≤ k ∧ k < w3.heap.size, rfl, ?_, fun k h => h.1, ?_⟩
  · rw [hw]; exact hI
  · rw [hw]; exact hB

/-- what an operation makes of the documents -/
def stepD (D : List Dc) (o : Op3) : List Dc := if o.1 = 0 then remD D o.2.1 else if 1 ≤ o.2.1 ∧ o.2.1 ≤ 256 then putD D o.2.1 (wordsOf o.2.2) else D
def runD (l : List Op3) : List Dc := l.foldl stepD []
theorem runD_succ (l : List Op3) (k : Nat) (h : k < l.length) : runD (l.take (k + 1)) = stepD (runD (l.take k)) l[k] := by
  unfold runD; rw [List.take_succ_eq_append_getElem h, List.foldl_append]; rfl

theorem IdxAt.more {S Q : Nat → Prop} {N M : Nat} {w : World} {p : Nat} {D : List Dc} (h : IdxAt S Q N w p D) (hM : N ≤ M) : IdxAt S Q M w p D := by
  obtain ⟨b1, b2, v, tx, g, hp⟩ := h.pat
  exact ((hp.x.more hM).full hp.found.some).idx h.asc h.ids h.oks h.small

set_option maxRecDepth 100000 in
set_option maxHeartbeats 4000000 in
theorem run_any (v : Value) (l : List Op3) (w : World) (h : OpsAt w v l) (hl : l.length ≤ 256) (hok : ∀ o ∈ l, okOp o ∧ o.2.2.length ≤ 200) :
    Calls Tryz.prog 33 #[v] w fun e w' => ∃ p S, e = .returned (.pointer (some ⟨p, 0, none⟩)) ∧ IdxAt S (fun _ => False) 300000 w' p (runD l) ∧ (∀ k, S k → w.heap.size ≤ k) ∧ Below w.heap.size w w' := by
  obtain ⟨a, c, rfl, hle, hm, hc⟩ := h
  have HC := Lib.hid hc; have HO := Lib.hid hok
  clear hc hok
  go_enter Tryz.func33, Tryz.ntmps33
  go_wp2_with fail
  refine (new_any _).mono ?_
  rintro e w1 ⟨p, S1, rfl, hI1, hS1, hb1⟩
  have HI1 := Lib.hid hI1; have HS1 := Lib.hid hS1; have HB1 := Lib.hid hb1
  clear hI1 hS1 hb1
  go_wp2
  go_loopw [4] (fun i wr => ∃ (k : Nat) (S : Nat → Prop), i = .int .i64 k ∧ k ≤ l.length ∧ Hid (IdxAt S (fun _ => False) (1000 * k) wr p (runD (l.take k))) ∧ Hid (∀ j, S j → w.heap.size ≤ j) ∧ Hid (Below w.heap.size w wr)) (fun i _ => l.length - (intOf i).toNat)
  case atStart => exact ⟨0, S1, rfl, by omega, HI1, HS1, HB1⟩
  case round =>
    obtain ⟨k, S, rfl, hk, HI, HS, HB⟩ := hrel
    by_cases hkl : k < l.length
    · have hki : (k : Int) < (l.length : Int) := by omega
      obtain ⟨b, off, rfl, k1, k2, k3⟩ := HC.out k hkl
      have hbl := World.block_lt_of_cell? w _ k1
      have c1 : wr.cell? ⟨b, off + k * 3, none⟩ = some (.int .i64 l[k].1) := (HB.out.cell (p := ⟨b, off + k * 3, none⟩) hbl).trans k1
      have c2 : wr.cell? ⟨b, off + k * 3 + 1, none⟩ = some (.int .i64 l[k].2.1) := (HB.out.cell (p := ⟨b, off + k * 3 + 1, none⟩) hbl).trans k2
      have c3 : wr.cell? ⟨b, off + k * 3 + 2, none⟩ = some (.string ⟨(l[k].2.2).toArray⟩) := (HB.out.cell (p := ⟨b, off + k * 3 + 2, none⟩) hbl).trans k3
      have hox := HO.out l[k] (List.getElem_mem hkl)
      have HSU := Lib.hid (runD_succ l k hkl)
      obtain ⟨⟨x1, x2, x3⟩, hx⟩ : ∃ x, l[k] = x := ⟨_, rfl⟩
      rw [hx] at c1 c2 c3 HSU hox
      simp only at c1 c2 c3
      obtain ⟨⟨⟨ha1, ha2⟩, ha3, ha4⟩, ha5⟩ := hox
      simp only at ha1 ha2 ha3 ha4 ha5
      clear k1 k2 k3 hx
      have hfin : ∀ (S' : Nat → Prop) (w' : World), But S wr.heap.size wr w' → (∀ j, S' j → S j ∨ wr.heap.size ≤ j) → Hid (∀ j, S' j → w.heap.size ≤ j) ∧ Hid (Below w.heap.size w w') := fun S' w' hb hs => ⟨Lib.hid fun j hj => by
          rcases hs j hj with h | h
          · exact HS.out j h
          · exact Nat.le_trans HB.out.size h, Lib.hid (HB.out.trans (hb.below HB.out.size HS.out))⟩
      by_cases hx0 : x1 = 0
      · have g0 : (x1 == 0) = true := by simpa using hx0
        have hst : stepD (runD (l.take k)) (x1, x2, x3) = remD (runD (l.take k)) x2 := by unfold stepD; rw [if_pos hx0]
        have hcon := fun W hW => remove_any (S := S) (Q := fun _ => False) (N := 1000 * k) (p := p) (D := runD (l.take k)) W hW x2 ha3 ha4
        rw [← hst, ← HSU.out] at hcon
        have HCON := Lib.hid hcon
        clear hx0 hst hcon
        go_wp2_with fail
        refine (HCON.out _ HI.out).mono ?_
        rintro e w2 ⟨rfl, hI2, hb2⟩
        obtain ⟨h1, h2⟩ := hfin S w2 hb2 fun j hj => .inl hj
        have HI2 := Lib.hid (hI2.more (M := 1000 * (k + 1)) (by omega))
        clear hI2 hb2 hfin
        go_wp2
        go_roundw
        case rel => exact ⟨k + 1, S, by go_num, by omega, HI2, h1, h2⟩
        case measure => simp [intOf]; omega
      · have g0 : (x1 == 0) = false := by simpa using hx0
        have hP : Hid (∀ W, IdxAt S (fun _ => False) (1000 * k) W p (runD (l.take k)) → Calls Tryz.prog 15 #[.pointer (some ⟨p, 0, none⟩), .int .i64 x2, .string ⟨x3.toArray⟩] W fun e w' => (∃ n : Int, e = .returned (.int .i64 n)) ∧ ∃ S' : Nat → Prop, IdxAt S' (fun _ => False) (1000 * (k + 1)) w' p (runD (l.take (k + 1))) ∧ But S W.heap.size W w' ∧ ∀ j, S' j → S j ∨ W.heap.size ≤ j) := Lib.hid (fun W hW => by
          rw [HSU.out]
          by_cases hv : 1 ≤ x2 ∧ x2 ≤ 256
          · have hst : stepD (runD (l.take k)) (x1, x2, x3) = putD (runD (l.take k)) x2 (wordsOf x3) := by unfold stepD; rw [if_neg hx0, if_pos hv]
            rw [hst]
            refine (put_any W hW (by omega) (fun k h => h.elim) x2 hv.1 hv.2 x3 ha5).mono ?_
            rintro e w' ⟨rfl, S', h1, h2, h3⟩
            exact ⟨⟨_, rfl⟩, S', h1, h2, h3⟩
          · have hst : stepD (runD (l.take k)) (x1, x2, x3) = runD (l.take k) := by unfold stepD; rw [if_neg hx0, if_neg hv]
            rw [hst]
            refine (put_refused W hW x2 x3 (by omega)).mono ?_
            rintro e w' ⟨rfl, rfl⟩
            exact ⟨⟨_, rfl⟩, S, hW.more (by omega), But.refl _ _ _, fun j hj => .inl hj⟩)
        clear hx0
        go_upto_region 7 with fail
        first
          | (go_still_tail 11, (by kernel_rfl))
          | fail
        change wpList _ _ _ _ _ wr.drew
        go_wp2_with fail
        refine (hP.out _ (HI.out.below ((Below.refl _ wr).drew))).mono ?_
        rintro e w2 ⟨⟨n, rfl⟩, S', hI2, hb2, hs2⟩
        obtain ⟨h1, h2⟩ := hfin S' w2 ((But.of_below ((Below.refl _ wr).drew)).trans hb2) hs2
        have HI2 := Lib.hid hI2
        clear hI2 hb2 hfin hs2
        go_wp2
        go_roundw
        case rel => exact ⟨k + 1, S', by go_num, by omega, HI2, h1, h2⟩
        case measure => simp [intOf]; omega
    · obtain rfl : k = l.length := by omega
      have HI9 : Hid (IdxAt S (fun _ => False) 300000 wr p (runD l)) := Lib.hid (by have := HI.out.more (M := 300000) (by omega); rw [List.take_length] at this; exact this)
      go_wp2
      go_ret
      exact ⟨p, S, rfl, HI9.out, HS.out, HB.out⟩
end Go.Proofs.YtmfnhfkgkdibfaaGreat

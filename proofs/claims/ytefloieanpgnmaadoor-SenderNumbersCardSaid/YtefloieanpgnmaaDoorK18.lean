/- Facts and contracts for the laws of the sender, part 18. Conditions: those that each theorem names. -/
import Derived.Test.YtefloieanpgnmaaDoorK16
import Derived.Test.YtefloieanpgnmaaDoorK11
import Derived.Deep.RegionHeld3
import Derived.IntWalk
import Derived.Shelf.SlGeneric
import Derived.Shelf.SlLaysF
import Derived.Test.YtefloieanpgnmaaDoorProg
import Derived.Sort.Grow
import Derived.Lib.OwnBridge
import Derived.Lib.Small
import Derived.Laws.Cover1
import Derived.Sort.Walk0
import Derived.Shelf.SlSortCmp.NoneTotal
/- The choosers, the comparison of messages that are out; next. -/
namespace Go.Proofs.YtefloieanpgnmaaDoor
open Go.RowKit

theorem sum_list (d : List UInt8) (w : World) (hd : d.length ≤ 9223372036854775000) (hsh : ShiftsAt w) :
    Calls Tryd.prog 12 #[.string ⟨d.toArray⟩] w fun e w' => e = .returned (.int .i64 (crcOf d)) ∧ w = w' := by
  have := sum_any ⟨d.toArray⟩ w (by simp [ByteArray.size]; omega) hsh
  simpa using this

/-- the sender's blocks lie behind all that lay in w0, where the packages' variables lie -/
structure Snd (a0 a1 : Addr) (w0 : World) (T : Nat → Prop) (w : World) (b : Nat) (S : Sen) (P : Nat → Option Nat) : Prop where
  at_ : SenAt T w b S P
  low : ∀ k, T k → w0.heap.size ≤ k
  lw : LW a0 a1 w0 w
theorem Snd.below {a0 a1 : Addr} {w0 : World} {T : Nat → Prop} {w w' : World} {b : Nat} {S : Sen} {P : Nat → Option Nat} (h : Snd a0 a1 w0 T w b S P) (hb : Below w.heap.size w w') : Snd a0 a1 w0 T w' b S P := ⟨h.at_.below hb, h.low, h.lw.below hb⟩

set_option maxHeartbeats 1000000 in
theorem cls0_any (k o : Kn) (w : World) : Calls Tryd.prog 37 #[k.enc, o.enc] w fun e w' => e = .returned (.bool (cls 0 k o)) ∧ Below w.heap.size w w' := by
  have HB : Hid (∀ a c, Below w.heap.size w ((w.alloc a).alloc c)) := Lib.hid (fun a c => ((Below.refl _ w).alloc (Nat.le_refl _) a).alloc (by simp) c)
  unfold Kn.enc
  cases k
  all_goals cases o
  all_goals
    simp only [Kn.num, Kn.txt, cls]
    go_enter Tryd.func37, Tryd.ntmps37
    go_wp2
    go_ret
    exact ⟨rfl, HB.out _ _⟩
set_option maxHeartbeats 1000000 in
theorem cls1_any (k o : Kn) (w : World) : Calls Tryd.prog 38 #[k.enc, o.enc] w fun e w' => e = .returned (.bool (cls 1 k o)) ∧ Below w.heap.size w w' := by
  have HB : Hid (∀ a c, Below w.heap.size w ((w.alloc a).alloc c)) := Lib.hid (fun a c => ((Below.refl _ w).alloc (Nat.le_refl _) a).alloc (by simp) c)
  have HB2 : Hid (∀ a, Below w.heap.size w (w.alloc a)) := Lib.hid (fun a => (Below.refl _ w).alloc (Nat.le_refl _) a)
  unfold Kn.enc
  cases k
  all_goals cases o
  all_goals
    simp only [Kn.num, Kn.txt, cls]
    go_enter Tryd.func38, Tryd.ntmps38
    go_wp2
    go_ret
    first | exact ⟨rfl, HB.out _ _⟩ | exact ⟨rfl, HB2.out _⟩
set_option maxHeartbeats 1000000 in
theorem cls2_any (k o : Kn) (w : World) : Calls Tryd.prog 39 #[k.enc, o.enc] w fun e w' => e = .returned (.bool (cls 2 k o)) ∧ Below w.heap.size w w' := by
  have HB : Hid (∀ a c, Below w.heap.size w ((w.alloc a).alloc c)) := Lib.hid (fun a c => ((Below.refl _ w).alloc (Nat.le_refl _) a).alloc (by simp) c)
  have HB2 : Hid (∀ a, Below w.heap.size w (w.alloc a)) := Lib.hid (fun a => (Below.refl _ w).alloc (Nat.le_refl _) a)
  have hc : cls 2 k o = true := by unfold cls; cases k <;> cases o <;> rfl
  rw [hc]
  unfold Kn.enc
  clear hc
  go_enter Tryd.func39, Tryd.ntmps39
  go_wp2
  go_ret
  first | exact ⟨rfl, HB.out _ _⟩ | exact ⟨rfl, HB2.out _⟩ | exact ⟨rfl, Below.refl _ _⟩
theorem all_out (p : Value) (w : World) : Calls Tryd.prog 40 #[p] w fun e w' => e = .returned (.bool true) ∧ w = w' := by
  go_enter Tryd.func40, Tryd.ntmps40
  go_wp2
  go_ret
  exact ⟨rfl, rfl⟩
theorem all_out2 (p : Value) (w : World) : Calls Tryd.prog 31 #[p] w fun e w' => e = .returned (.bool true) ∧ w = w' := by
  go_enter Tryd.func31, Tryd.ntmps31
  go_wp2
  go_ret
  exact ⟨rfl, rfl⟩

set_option maxRecDepth 100000 in
set_option maxHeartbeats 4000000 in
theorem next_any {a0 a1 : Addr} {w0 : World} {T : Nat → Prop} {w : World} {b : Nat} {S : Sen} {P : Nat → Option Nat} (h : Snd a0 a1 w0 T w b S P) (i : Nat) (hi : i < 64) (t : Kn) (ht : t.txt.length ≤ 8192) (hc : S.counter < 4611686018427387903) :
    Calls Tryd.prog 41 #[.pointer (some ⟨b, 0, none⟩), .int .i64 i, t.enc] w fun e w' => ∃ g, e = .returned (.pointer (some ⟨g, 0, none⟩)) ∧ Snd a0 a1 w0 T w' b { S with counter := S.counter + 1 } P ∧ w'.heap[g]? = some (.cells (outC ⟨nextMsg S i t, t, false, 0⟩) 85 (0, 0)) ∧ w.heap.size ≤ g ∧ But (fun k => k = b) w.heap.size w w' := by
  obtain ⟨c2, f2⟩ := h.at_.cells 2 (by omega)
  simp only [senV] at c2
  have hcc := h.at_.ok.counter
  have hbl := h.at_.blt
  obtain ⟨w1, hw1⟩ : ∃ w1, (w.alloc (.cells #[.int .i64 t.num, .string ⟨t.txt.toArray⟩] 74)).setCell ⟨b, 2, none⟩ (.int .i64 (S.counter + 1)) = w1 := ⟨_, rfl⟩
  have hb0 : Below w.heap.size w (w.alloc (.cells #[.int .i64 t.num, .string ⟨t.txt.toArray⟩] 74)) := (Below.refl _ w).alloc (Nat.le_refl _) _
  have h0 := h.at_.below hb0
  have h1 : SenAt T w1 b { S with counter := S.counter + 1 } P := by rw [← hw1]; exact h0.putCounter (S.counter + 1) ⟨by omega, by omega⟩
  have hB1 : But (fun k => k = b) w.heap.size w w1 := by rw [← hw1]; exact But.setCell (S := fun k => k = b) (But.of_below hb0) rfl _
  have hS1 : Snd a0 a1 w0 T w1 b { S with counter := S.counter + 1 } P := ⟨h1, h.low, by
    have hlw := h.lw.below hb0
    have hbel : Below w0.heap.size w0 w1 := h.lw.bel.trans (hB1.below h.lw.bel.size fun k hk => by rw [hk]; exact h.low b h.at_.own)
    exact ⟨h.lw.S, h.lw.H, hbel⟩⟩
  have hk1 : w1.heap[w.heap.size]? = some (.cells #[.int .i64 t.num, .string ⟨t.txt.toArray⟩] 74 (0, 0)) := by
    rw [← hw1, Below.heap_setCell _ ⟨b, 2, none⟩ _ _ (by show w.heap.size ≠ b; omega)]; exact heap_alloc_new _ _
  have e0 := (h1.cells 0 (by omega)).1
  have e2 := (h1.cells 2 (by omega)).1
  have s2 := (h1.story hi 2 (by omega)).1
  have s3 := (h1.story hi 3 (by omega)).1
  simp only [senV] at e0 e2
  simp only [stoV] at s2 s3
  have k0 : w1.cell? ⟨w.heap.size, 0, none⟩ = some (.int .i64 t.num) := by rw [Lib.cell_of_heap hk1]; rfl
  have k1 : w1.cell? ⟨w.heap.size, 1, none⟩ = some (.string ⟨t.txt.toArray⟩) := by rw [Lib.cell_of_heap hk1]; rfl
  have HS1 := Lib.hid hS1; have HB1 := Lib.hid hB1
  have hws : w.heap.size < w1.heap.size := World.block_lt_of_cell? w1 _ k0
  unfold Kn.enc
  clear h h0 h1 hB1 hS1 hk1 hb0
  go_enter Tryd.func41, Tryd.ntmps41
  go_wp2_with fail
  clear c2 f2 hw1
  have hwr : IntKind.i64.wrap ((i : Int) + 1) = (i : Int) + 1 := IntWalk.i64_in _ (by omega)
  go_region_held3 (fun w' => w'.cell? ⟨b, 0, none⟩ = some (.int .i64 S.partner) ∧ w'.cell? ⟨b, 2, none⟩ = some (.int .i64 (S.counter + 1))) (go_keep) (fail)
  clear hwr
  obtain ⟨w2, hw2⟩ : ∃ w2, (w1.alloc (.cells #[.int .i64 2, .int .i64 S.partner, .int .i64 (S.counter + 1), .int .i64 ((i : Int) + 1), .int .i64 0, .int .i64 0, .string ⟨#[]⟩] 33)).drew = w2 := ⟨_, rfl⟩
  rw [hw2]
  have hm2 : MAt w1.heap.size ⟨2, S.partner, S.counter + 1, (i : Int) + 1, 0, 0, []⟩ w2 := by rw [← hw2]; exact heap_alloc_new w1 _
  have hb2 : Below w1.heap.size w1 w2 := by rw [← hw2]; exact ((Below.refl _ w1).alloc (Nat.le_refl _) _).drew
  have j0 : w2.cell? ⟨w.heap.size, 0, none⟩ = some (.int .i64 t.num) := (hb2.cell (World.block_lt_of_cell? w1 _ k0)).trans k0
  have j1 : w2.cell? ⟨w.heap.size, 1, none⟩ = some (.string ⟨t.txt.toArray⟩) := (hb2.cell (World.block_lt_of_cell? w1 _ k1)).trans k1
  obtain ⟨K, hK⟩ : ∃ K, w1.heap.size = K := ⟨_, rfl⟩
  obtain ⟨kb, hkb⟩ : ∃ k, w.heap.size = k := ⟨_, rfl⟩
  have HM := Lib.hid hm2; have HB2 := Lib.hid hb2
  have HE : Hid (∀ W m, Below w1.heap.size w1 W → m = nextMsg S i t → ∀ W', Below W.heap.size W W' → W'.heap[W.heap.size]? = some (.cells (outC ⟨m, t, false, 0⟩) 85 (0, 0)) → ∃ g, (Ending.returned (.pointer (some ⟨W.heap.size, 0, none⟩))) = .returned (.pointer (some ⟨g, 0, none⟩)) ∧ Snd a0 a1 w0 T W' b { S with counter := S.counter + 1 } P ∧ W'.heap[g]? = some (.cells (outC ⟨nextMsg S i t, t, false, 0⟩) 85 (0, 0)) ∧ w.heap.size ≤ g ∧ But (fun k => k = b) w.heap.size w W') := Lib.hid (fun W m hb hm W' hb' hg => by
    subst hm
    have hbb : Below w1.heap.size w1 W' := hb.trans (hb'.mono hb.size)
    exact ⟨_, rfl, HS1.out.below hbb, hg, by have := hb.size; omega, HB1.out.trans (But.of_below (hbb.mono (by omega)))⟩)
  rw [hK] at HM ⊢
  rw [hkb] at j0 j1 k0 k1 ⊢
  have HKB := Lib.hid hkb; have HKK := Lib.hid hK
  clear hm2 hb2 hw2 hK hkb
  by_cases hp : ∃ x, t = .pres x
  · obtain ⟨x, rfl⟩ := hp
    simp only [Kn.num, Kn.txt] at j0 j1 k0 k1 ht
    have HKY : Hid (∀ W, Below w1.heap.size w1 W → W.cell? ⟨kb, 0, none⟩ = some (.int .i64 2)) := Lib.hid (fun W hb => (hb.cell (World.block_lt_of_cell? w1 _ k0)).trans k0)
    have HKX : Hid (∀ W, Below w1.heap.size w1 W → W.cell? ⟨kb, 1, none⟩ = some (.string ⟨x.toArray⟩)) := Lib.hid (fun W hb => (hb.cell (World.block_lt_of_cell? w1 _ k1)).trans k1)
    have HSH : Hid (∀ W, Below w1.heap.size w1 W → ShiftsAt W) := Lib.hid (fun W hb => (HS1.out.below hb).lw.h)
    obtain ⟨w3, hw3⟩ : ∃ w3, w2.setCell ⟨K, 0, none⟩ (.int .i64 1) = w3 := ⟨_, rfl⟩
    have HM3 : Hid (MAt K ⟨1, S.partner, S.counter + 1, (i : Int) + 1, 0, 0, []⟩ w3) := Lib.hid (by rw [← hw3]; exact HM.out.put0 1)
    have HB3 : Hid (Below w1.heap.size w1 w3) := Lib.hid (by rw [← hw3]; exact HB2.out.setCell (p := ⟨K, 0, none⟩) (by show w1.heap.size ≤ K; have := HKK.out; omega) _)
    obtain ⟨w4, hw4⟩ : ∃ w4, w3.setCell ⟨K, 5, none⟩ (.int .i64 (crcOf x)) = w4 := ⟨_, rfl⟩
    have HM4 : Hid (MAt K ⟨1, S.partner, S.counter + 1, (i : Int) + 1, 0, crcOf x, []⟩ w4) := Lib.hid (by rw [← hw4]; exact HM3.out.put5 (crcOf x))
    have HB4 : Hid (Below w1.heap.size w1 w4) := Lib.hid (by rw [← hw4]; exact HB3.out.setCell (p := ⟨K, 5, none⟩) (by show w1.heap.size ≤ K; have := HKK.out; omega) _)
    have hlx : x.length ≤ 9223372036854775000 := by omega
    obtain ⟨m0, m1, m2, m3, m4, m5, m6⟩ := HM.out.c
    have mf0 := HM.out.frozen 0
    have x3 := HKX.out w3 HB3.out
    go_wp2_with fail
    refine (sum_list x w3 hlx (HSH.out _ HB3.out)).mono ?_
    rintro e w' ⟨rfl, hw⟩
    subst w'
    clear m0 m1 m2 m3 m4 m5 m6 mf0 hw3
    obtain ⟨m0, m1, m2, m3, m4, m5, m6⟩ := HM3.out.c
    have mf5 := HM3.out.frozen 5
    have t0 : w4.cell? ⟨b, 4 + i * 13 + 2, none⟩ = some (.int .i64 (S.st i).held.num) := (HB4.out.cell (World.block_lt_of_cell? w1 _ s2)).trans s2
    have t1 : w4.cell? ⟨b, 4 + i * 13 + 3, none⟩ = some (.string ⟨(S.st i).held.txt.toArray⟩) := (HB4.out.cell (World.block_lt_of_cell? w1 _ s3)).trans s3
    have hii : (i : Int) < 64 := by omega
    have hheld := (HS1.out.at_.ok.held i)
    simp only at hheld
    obtain ⟨hd, hhd⟩ : ∃ k, (S.st i).held = k := ⟨_, rfl⟩
    rw [hhd] at t0 t1 hheld
    have HHD := Lib.hid hhd
    obtain ⟨w5, hw5⟩ : ∃ w5, w4.alloc (.cells #[.int .i64 hd.num, .string ⟨hd.txt.toArray⟩] 74) = w5 := ⟨_, rfl⟩
    have hb5 : Below w4.heap.size w4 w5 := by rw [← hw5]; exact (Below.refl _ w4).alloc (Nat.le_refl _) _
    have HB5 : Hid (Below w1.heap.size w1 w5) := Lib.hid (HB4.out.trans (hb5.mono HB4.out.size))
    have HM5 := Lib.hid (HM4.out.below hb5)
    have hj : w5.heap[w4.heap.size]? = some (.cells #[.int .i64 hd.num, .string ⟨hd.txt.toArray⟩] 74 (0, 0)) := by rw [← hw5]; exact heap_alloc_new _ _
    have u0 : w5.cell? ⟨w4.heap.size, 0, none⟩ = some (.int .i64 hd.num) := by rw [Lib.cell_of_heap hj]; rfl
    have u1 : w5.cell? ⟨w4.heap.size, 1, none⟩ = some (.string ⟨hd.txt.toArray⟩) := by rw [Lib.cell_of_heap hj]; rfl
    have v1 := HKX.out w5 HB5.out
    clear hhd hj hb5
    by_cases hbs : ∃ h, baseOf hd = some h
    · obtain ⟨h, hbh⟩ := hbs
      obtain ⟨rfl, hch⟩ := baseOf_some hbh
      simp only [Kn.num, Kn.txt] at t0 t1 u0 u1 hheld hw5
      have hlh : h.length ≤ 9223372036854775000 := by omega
      have hcg : ((crcOf h : Int) != 0) = true := by rw [bne_iff_ne]; omega
      have HNM : Hid (nextMsg S i (.pres x) = ⟨1, S.partner, S.counter + 1, (i : Int) + 1, crcOf h, crcOf x, diffD h x⟩) := Lib.hid (by unfold nextMsg; simp only; rw [HHD.out, hbh])
      clear hbh hch
      go_wp2_with fail
      refine (sum_list h w5 hlh (HSH.out _ HB5.out)).mono ?_
      rintro e w' ⟨rfl, hw⟩
      subst w'
      go_wp2_with fail
      refine (sum_list h w5 hlh (HSH.out _ HB5.out)).mono ?_
      rintro e w' ⟨rfl, hw⟩
      subst w'
      clear m0 m1 m2 m3 m4 m5 m6 mf5 hw4 hw5
      obtain ⟨m0, m1, m2, m3, m4, m5, m6⟩ := HM5.out.c
      have mf4 := HM5.out.frozen 4
      obtain ⟨w6, hw6⟩ : ∃ w6, w5.setCell ⟨K, 4, none⟩ (.int .i64 (crcOf h)) = w6 := ⟨_, rfl⟩
      have HM6 : Hid (MAt K ⟨1, S.partner, S.counter + 1, (i : Int) + 1, crcOf h, crcOf x, []⟩ w6) := Lib.hid (by rw [← hw6]; exact HM5.out.put4 (crcOf h))
      have HB6 : Hid (Below w1.heap.size w1 w6) := Lib.hid (by rw [← hw6]; exact HB5.out.setCell (p := ⟨K, 4, none⟩) (by show w1.heap.size ≤ K; have := HKK.out; omega) _)
      have x6 := HKX.out w6 HB6.out
      go_wp2_with fail
      clear hw6
      refine (diff_any h x w6 hlh hlx (HSH.out _ HB6.out)).mono ?_
      rintro e w7 ⟨rfl, hb7⟩
      have HB7 := Lib.hid (HB6.out.trans (hb7.mono HB6.out.size))
      have HM7 := Lib.hid (HM6.out.below hb7)
      clear m0 m1 m2 m3 m4 m5 m6 mf4 hb7
      obtain ⟨m0, m1, m2, m3, m4, m5, m6⟩ := HM7.out.c
      have mf6 := HM7.out.frozen 6
      obtain ⟨D, hD⟩ : ∃ D, diffD h x = D := ⟨_, rfl⟩
      rw [hD] at HNM ⊢
      obtain ⟨w8, hw8⟩ : ∃ w8, w7.setCell ⟨K, 6, none⟩ (.string ⟨D.toArray⟩) = w8 := ⟨_, rfl⟩
      have HM8 : Hid (MAt K ⟨1, S.partner, S.counter + 1, (i : Int) + 1, crcOf h, crcOf x, D⟩ w8) := Lib.hid (by rw [← hw8]; exact HM7.out.put6 D)
      have HB8 : Hid (Below w1.heap.size w1 w8) := Lib.hid (by rw [← hw8]; exact HB7.out.setCell (p := ⟨K, 6, none⟩) (by show w1.heap.size ≤ K; have := HKK.out; omega) _)
      obtain ⟨n0, n1, n2, n3, n4, n5, n6⟩ := HM8.out.c
      have x8 := HKX.out w8 HB8.out
      have y8 := HKY.out w8 HB8.out
      simp only at n0 n1 n2 n3 n4 n5 n6
      clear hD
      go_wp2
      go_ret
      exact HE.out w8 _ HB8.out HNM.out.symm _ ((Below.refl _ w8).alloc (Nat.le_refl _) _) (heap_alloc_new w8 _)
    · have HNM : Hid (nextMsg S i (.pres x) = ⟨1, S.partner, S.counter + 1, (i : Int) + 1, 0, crcOf x, diffD [] x⟩) := Lib.hid (by
        have hb0 : baseOf hd = none := by
          cases hb : baseOf hd with
          | none => rfl
          | some h => exact absurd ⟨h, hb⟩ hbs
        unfold nextMsg; simp only; rw [HHD.out, hb0])
      by_cases hpr : ∃ h, hd = .pres h
      · obtain ⟨h, rfl⟩ := hpr
        have hch : crcOf h = 0 := by
          by_cases h0 : crcOf h = 0
          · exact h0
          · exact absurd ⟨h, by unfold baseOf; simp [h0]⟩ hbs
        simp only [Kn.num, Kn.txt] at t0 t1 u0 u1 hheld hw5
        have hlh : h.length ≤ 9223372036854775000 := by omega
        have hcg : ((crcOf h : Int) != 0) = false := by rw [hch]; rfl
        clear hbs hch
        go_wp2_with fail
        refine (sum_list h w5 hlh (HSH.out _ HB5.out)).mono ?_
        rintro e w' ⟨rfl, hw⟩
        subst w'
        go_wp2_with fail
        clear hw5 hw4
        refine (diff_any [] x w5 (by simp) hlx (HSH.out _ HB5.out)).mono ?_
        rintro e w7 ⟨rfl, hb7⟩
        have HB7 := Lib.hid (HB5.out.trans (hb7.mono HB5.out.size))
        have HM7 := Lib.hid (HM5.out.below hb7)
        clear m0 m1 m2 m3 m4 m5 m6 mf5 hb7
        obtain ⟨m0, m1, m2, m3, m4, m5, m6⟩ := HM7.out.c
        have mf6 := HM7.out.frozen 6
        obtain ⟨D, hD⟩ : ∃ D, diffD [] x = D := ⟨_, rfl⟩
        rw [hD] at HNM ⊢
        obtain ⟨w8, hw8⟩ : ∃ w8, w7.setCell ⟨K, 6, none⟩ (.string ⟨D.toArray⟩) = w8 := ⟨_, rfl⟩
        have HM8 : Hid (MAt K ⟨1, S.partner, S.counter + 1, (i : Int) + 1, 0, crcOf x, D⟩ w8) := Lib.hid (by rw [← hw8]; exact HM7.out.put6 D)
        have HB8 : Hid (Below w1.heap.size w1 w8) := Lib.hid (by rw [← hw8]; exact HB7.out.setCell (p := ⟨K, 6, none⟩) (by show w1.heap.size ≤ K; have := HKK.out; omega) _)
        obtain ⟨n0, n1, n2, n3, n4, n5, n6⟩ := HM8.out.c
        have x8 := HKX.out w8 HB8.out
        have y8 := HKY.out w8 HB8.out
        simp only at n0 n1 n2 n3 n4 n5 n6
        clear hD
        go_wp2
        go_ret
        exact HE.out w8 _ HB8.out HNM.out.symm _ ((Below.refl _ w8).alloc (Nat.le_refl _) _) (heap_alloc_new w8 _)
      · have hng : (hd.num == 2) = false := by cases hd <;> first | rfl | exact absurd ⟨_, rfl⟩ hpr
        clear hbs hpr
        go_wp2_with fail
        clear hw5 hw4
        refine (diff_any [] x w5 (by simp) hlx (HSH.out _ HB5.out)).mono ?_
        rintro e w7 ⟨rfl, hb7⟩
        have HB7 := Lib.hid (HB5.out.trans (hb7.mono HB5.out.size))
        have HM7 := Lib.hid (HM5.out.below hb7)
        clear m0 m1 m2 m3 m4 m5 m6 mf5 hb7
        obtain ⟨m0, m1, m2, m3, m4, m5, m6⟩ := HM7.out.c
        have mf6 := HM7.out.frozen 6
        obtain ⟨D, hD⟩ : ∃ D, diffD [] x = D := ⟨_, rfl⟩
        rw [hD] at HNM ⊢
        obtain ⟨w8, hw8⟩ : ∃ w8, w7.setCell ⟨K, 6, none⟩ (.string ⟨D.toArray⟩) = w8 := ⟨_, rfl⟩
        have HM8 : Hid (MAt K ⟨1, S.partner, S.counter + 1, (i : Int) + 1, 0, crcOf x, D⟩ w8) := Lib.hid (by rw [← hw8]; exact HM7.out.put6 D)
        have HB8 : Hid (Below w1.heap.size w1 w8) := Lib.hid (by rw [← hw8]; exact HB7.out.setCell (p := ⟨K, 6, none⟩) (by show w1.heap.size ≤ K; have := HKK.out; omega) _)
        obtain ⟨n0, n1, n2, n3, n4, n5, n6⟩ := HM8.out.c
        have x8 := HKX.out w8 HB8.out
        have y8 := HKY.out w8 HB8.out
        simp only at n0 n1 n2 n3 n4 n5 n6
        clear hD
        go_wp2
        go_ret
        exact HE.out w8 _ HB8.out HNM.out.symm _ ((Below.refl _ w8).alloc (Nat.le_refl _) _) (heap_alloc_new w8 _)
  · have hn : (t.num == 2) = false := by cases t <;> first | rfl | exact absurd ⟨_, rfl⟩ hp
    obtain ⟨m0, m1, m2, m3, m4, m5, m6⟩ := HM.out.c
    simp only at m0 m1 m2 m3 m4 m5 m6
    have hnm : nextMsg S i t = ⟨2, S.partner, S.counter + 1, (i : Int) + 1, 0, 0, []⟩ := by cases t <;> first | rfl | exact absurd ⟨_, rfl⟩ hp
    have HNM := Lib.hid hnm
    clear hp hnm
    go_wp2
    go_ret
    exact HE.out w2 _ HB2.out HNM.out.symm _ ((Below.refl _ w2).alloc (Nat.le_refl _) _) (heap_alloc_new w2 _)
end Go.Proofs.YtefloieanpgnmaaDoor
/-
  DERIVED: THE SHELF's CONTRACTS AT THIS DUMP, IN PLAIN WORDS (tools/lay-plain.mjs out of 'TrydSLay.lean', which tools/lay-shelf.mjs wrote): THE SAME DECLARATIONS UNDER THE SAME NAMES: 'import', 'namespace', 'open', 'def', 'theorem' AND NOTHING ELSE: no command of the shelf's: FOR A HAND-IN. Each laying: the table of numbers ('.._ren') and one theorem, a field a fact of the dump's own or the kernel's comparison; each contract: ONE APPLICATION.
-/
namespace Go.Proofs
open Go.Shelf
def Tryd.sortP_ren : Go.Shelf.Ren := ⟨fun | 6 => 42 | 15 => 55 | 14 => 54 | 28 => 73 | 29 => 74 | 20 => 65 | 21 => 66 | 22 => 67 | 23 => 68 | 24 => 69 | 25 => 70 | 26 => 71 | 27 => 72 | 46 => 81 | 47 => 82 | 48 => 83 | 49 => 84 | 50 => 85 | 57 => 87 | n => n, fun | 22 => 88 | 24 => 75 | 25 => 101 | 3 => 3 | 39 => 69 | 0 => 0 | 53 => 68 | 55 => 92 | 4 => 4 | 46 => 138 | 45 => 137 | 50 => 142 | 5 => 5 | 9 => 9 | 66 => 168 | 70 => 172 | 76 => 178 | 77 => 165 | n => n, fun | n => n⟩
theorem Tryd.sortP : Go.Proofs.SlLaysF.n6 Tryd.prog Tryd.sortP_ren := {
  mixed := by kernel_rfl
  f6 := ⟨Tryd.f42.name, by decide, Tryd.func42.trans (congrArg some (by kernel_rfl))⟩
  f14 := ⟨Tryd.f54.name, by decide, Tryd.func54.trans (congrArg some (by kernel_rfl))⟩
  f15 := Tryd.func55.trans (congrArg some (by kernel_rfl))
  f20 := ⟨Tryd.f65.name, by decide, Tryd.func65.trans (congrArg some (by kernel_rfl))⟩
  f21 := ⟨Tryd.f66.name, by decide, Tryd.func66.trans (congrArg some (by kernel_rfl))⟩
  f22 := ⟨Tryd.f67.name, by decide, Tryd.func67.trans (congrArg some (by kernel_rfl))⟩
  f23 := ⟨Tryd.f68.name, by decide, Tryd.func68.trans (congrArg some (by kernel_rfl))⟩
  f24 := ⟨Tryd.f69.name, by decide, Tryd.func69.trans (congrArg some (by kernel_rfl))⟩
  f25 := ⟨Tryd.f70.name, by decide, Tryd.func70.trans (congrArg some (by kernel_rfl))⟩
  f26 := ⟨Tryd.f71.name, by decide, Tryd.func71.trans (congrArg some (by kernel_rfl))⟩
  f27 := ⟨Tryd.f72.name, by decide, Tryd.func72.trans (congrArg some (by kernel_rfl))⟩
  f28 := Tryd.func73.trans (congrArg some (by kernel_rfl))
  f29 := Tryd.func74.trans (congrArg some (by kernel_rfl))
  f46 := ⟨Tryd.f81.name, by decide, Tryd.func81.trans (congrArg some (by kernel_rfl))⟩
  f47 := Tryd.func82.trans (congrArg some (by kernel_rfl))
  f48 := Tryd.func83.trans (congrArg some (by kernel_rfl))
  f49 := ⟨Tryd.f84.name, by decide, Tryd.func84.trans (congrArg some (by kernel_rfl))⟩
  f50 := ⟨Tryd.f85.name, by decide, Tryd.func85.trans (congrArg some (by kernel_rfl))⟩
  f57 := ⟨Tryd.f87.name, by decide, Tryd.func87.trans (congrArg some (by kernel_rfl))⟩
  t0 := Tryd.underlying0
  a0 := Tryd.isAgg0
  z0 := Tryd.sizeOf0
  v0 := Tryd.zeroValue0
  t3 := Tryd.underlying3
  a3 := Tryd.isAgg3
  z3 := Tryd.sizeOf3
  v3 := Tryd.zeroValue3
  t4 := Tryd.underlying4
  a4 := Tryd.isAgg4
  z4 := Tryd.sizeOf4
  v4 := Tryd.zeroValue4
  t5 := Tryd.underlying5
  a5 := Tryd.isAgg5
  z5 := Tryd.sizeOf5
  v5 := Tryd.zeroValue5
  t9 := Tryd.underlying9
  a9 := Tryd.isAgg9
  z9 := Tryd.sizeOf9
  v9 := Tryd.zeroValue9
  t22 := Tryd.underlying88
  a22 := Tryd.isAgg88
  z22 := Tryd.sizeOf88
  v22 := Tryd.zeroValue88
  a24 := Tryd.isAgg75
  z24 := Tryd.sizeOf75
  t25 := Tryd.underlying101
  a25 := Tryd.isAgg101
  z25 := Tryd.sizeOf101
  v25 := Tryd.zeroValue101
  t39 := Tryd.underlying69
  a39 := Tryd.isAgg69
  z39 := Tryd.sizeOf69
  v39 := Tryd.zeroValue69
  t45 := Tryd.underlying137
  a45 := Tryd.isAgg137
  z45 := Tryd.sizeOf137
  v45 := Tryd.zeroValue137
  t46 := Tryd.underlying138
  a46 := Tryd.isAgg138
  z46 := Tryd.sizeOf138
  v46 := Tryd.zeroValue138
  t50 := Tryd.underlying142
  a50 := Tryd.isAgg142
  z50 := Tryd.sizeOf142
  v50 := Tryd.zeroValue142
  t53 := Tryd.underlying68
  a53 := Tryd.isAgg68
  z53 := Tryd.sizeOf68
  v53 := Tryd.zeroValue68
  t55 := Tryd.underlying92
  a55 := Tryd.isAgg92
  z55 := Tryd.sizeOf92
  v55 := Tryd.zeroValue92
  t66 := Tryd.underlying168
  a66 := Tryd.isAgg168
  z66 := Tryd.sizeOf168
  v66 := Tryd.zeroValue168
  t70 := Tryd.underlying172
  a70 := Tryd.isAgg172
  z70 := Tryd.sizeOf172
  v70 := Tryd.zeroValue172
  t76 := Tryd.underlying178
  a76 := Tryd.isAgg178
  z76 := Tryd.sizeOf178
  v76 := Tryd.zeroValue178
  t77 := Tryd.underlying165
  a77 := Tryd.isAgg165
  z77 := Tryd.sizeOf165
  v77 := Tryd.zeroValue165 }
end Go.Proofs
/- Sorting messages that are out by their numbers. -/
namespace Go.Proofs.YtefloieanpgnmaaDoor
open Go.RowKit Go.Sort Go.Proofs Go.Shelf

theorem isNaN_int (x : Int) (w : World) : Calls Tryd.prog 56 #[.int .i64 x] w fun e w' => e = .returned (.bool false) ∧ w' = w := by
  go_enter Tryd.func56, Tryd.ntmps56
  go_wp2
  go_ret
  exact ⟨by simp, rfl⟩
theorem cmp_int (x y : Int) (w : World) : Calls Tryd.prog 44 #[.int .i64 x, .int .i64 y] w fun e w' => e = .returned (.int .i64 (Lib.compareInt x y)) ∧ w' = w := by
  go_enter Tryd.func44, Tryd.ntmps44
  go_wp2_with (go_at_call 56; refine (isNaN_int _ _).mono ?_; rintro e w' ⟨rfl, hw⟩; rw [hw])
  all_goals (go_ret; refine ⟨?_, rfl⟩; unfold Lib.compareInt; (repeat' split) <;> first | rfl | (exfalso; omega))
theorem ltI (x y : Int) : ltOf Lib.compareInt x y = decide (x < y) := by
  unfold ltOf Lib.compareInt
  by_cases h1 : x < y
  · simp [h1]
  · by_cases h2 : y < x <;> simp [h1, h2]
theorem sorted_list {α : Type} [Inhabited α] {lt : α → α → Bool} {d d' : Array α} (hp : PermIn 0 d.size d d') (hs : SortedIn lt 0 d.size d') : d'.toList.Perm d.toList ∧ d'.toList.Pairwise (fun a b => lt b a = false) ∧ d'.size = d.size := by
  obtain ⟨h1, h2, h3⟩ := hp
  refine ⟨by
    have h4 : (d'.extract 0 d.size) = d' := by rw [← h1]; simp
    rw [h4] at h3
    simpa using h3, ?_, h1⟩
  rw [List.pairwise_iff_getElem]
  intro i j hi hj hij
  have := hs i j (Nat.zero_le _) hij (by simpa [h1] using hj)
  simpa [getElem!_pos, show i < d'.size by simpa using hi, show j < d'.size by simpa using hj] using this
theorem below_put {α : Type} [Inhabited α] {enc : α → Value} {B : Nat} {w : World} {g q : Nat} {d : Array α} {os : Array Obj} (hg : B ≤ g) (hl : g < w.heap.size) : Below B w (grow (putRow enc (Sort.ahead w q) g 0 d) os) :=
  ⟨rfl, rfl, rfl, by simp [grow, putRow, mapBlock, Sort.ahead], fun k hk => by
    have hk2 : k < (putRow enc (Sort.ahead w q) g 0 d).heap.size := by simp [putRow, mapBlock, Sort.ahead]; omega
    simp only [grow]
    rw [Array.getElem?_append_left hk2]
    simp [putRow, mapBlock, Sort.ahead, Array.getElem?_modify, show g ≠ k by omega]⟩
theorem ownsRow_grow1 {w : World} {base : Nat} {e : TypeId} {size : Nat} {v : Value} {n : Nat} {xs : List Value} {os : Array Obj} (h : w.ownsRow base e size v n xs) : (grow w os).ownsRow base e size v n xs := by
  refine ⟨h.1, ?_⟩
  rcases h.2 with h0 | ⟨g, cap, cur, hv, hb, hg, r⟩
  · exact .inl h0
  · have hlt : g < w.heap.size := (Array.getElem?_eq_some_iff.1 hg).1
    exact .inr ⟨g, cap, cur, hv, hb, by simp only [grow]; rw [Array.getElem?_append_left hlt]; exact hg, r⟩
theorem row_form {base : Nat} {w : World} {e : TypeId} {size : Nat} {v : Value} {n : Nat} {xs : List Value} (h : w.ownsRow base e size v n xs) : ∃ a c, v = .slice a n c := by
  rcases h.2 with ⟨rfl, rfl⟩ | ⟨g, cap, cur, rfl, _⟩
  · exact ⟨_, _, rfl⟩
  · exact ⟨_, _, rfl⟩

/-- the comparison of two messages that are out -/
theorem comp_any (w : World) (a c : Nat) (x y : Int) (ha : w.cell? ⟨a, 2, none⟩ = some (.int .i64 x)) (hc : w.cell? ⟨c, 2, none⟩ = some (.int .i64 y)) :
    Calls Tryd.prog 43 #[.pointer (some ⟨a, 0, none⟩), .pointer (some ⟨c, 0, none⟩)] w fun e w' => e = .returned (.int .i64 (Lib.compareInt x y)) ∧ ∃ q, w' = w.drewN q := by
  obtain ⟨R, hR⟩ : ∃ R, Lib.compareInt x y = R := ⟨_, rfl⟩
  have hcq := fun W => cmp_int x y W
  rw [hR] at hcq
  have HC := Lib.hid hcq
  rw [hR]
  clear hcq
  clear hR
  go_enter Tryd.func43, Tryd.ntmps43
  go_wp2
  go_quiet ((go_at_call 44; exact Calls.quiet_of_same (HC.out _)))
  go_wp2
  go_ret
  exact ⟨rfl, _, rfl⟩

theorem infoPtr : (Tryd.prog.info? 75).map (fun i => (i.zero, i.size, i.bytes)) = some (some (.pointer none), 1, 8) := by kernel_rfl
/-- a row of pointers to messages that are out, sorted -/
theorem sort_any {T : Nat → Prop} {w0 w : World} {b : Nat} {S : Sen} {P : Nat → Option Nat} (h : SenAt T w0 b S P) (hb : Below w0.heap.size w0 w) (l : List Nat) (hl : ∀ i ∈ l, i < 64 ∧ (S.st i).out.isSome = true) (hn : l.length ≤ 64) (v : Value) (ho : w.ownsRow w0.heap.size 75 1 v l.length (l.map fun i => ptrV (P i))) :
    Calls Tryd.prog 42 #[v, .func (.func 43) #[] #[]] w fun e w' => e = .returned (.tuple #[]) ∧ w'.ownsRow w0.heap.size 75 1 v l.length ((l.mergeSort fun i j => decide (S.seqAt i ≤ S.seqAt j)).map fun i => ptrV (P i)) ∧ Below w0.heap.size w w' := by
  have eg : ∀ args w, (callFunc 43 args).run Tryd.prog w = .ok (.enter 43 args) w := enters_of Tryd.func43 (by kernel_rfl) rfl
  have hapart := h.ok.apart
  have hs0 : ∀ i ∈ l, ∃ o g, (S.st i).out = some o ∧ P i = some g ∧ g < w0.heap.size ∧ w.heap[g]? = some (.cells (outC o) 85 (0, 0)) ∧ S.seqAt i = o.msg.seq := fun i hi => by
    obtain ⟨h1, h2⟩ := hl i hi
    obtain ⟨o, ho'⟩ := Option.isSome_iff_exists.1 h2
    obtain ⟨g, h3, h4, -, h5⟩ := h.sout i o h1 ho'
    exact ⟨o, g, ho', h3, h.lt g h4, (hb.block g (h.lt g h4)).trans h5, by unfold Sen.seqAt; rw [ho']⟩
  by_cases hl0 : l = []
  · subst hl0
    obtain ⟨p, cap, rfl⟩ : ∃ p cap, v = .slice p 0 cap := row_form ho
    refine (AnyF.slices_SortFunc_none (P := Tryd.prog) { Tryd.sortP with } p cap (.func (.func 43) #[] #[]) w).mono ?_
    rintro e w' ⟨rfl, rfl⟩
    exact ⟨rfl, by simpa using ho, Below.refl _ _⟩
  · have hv : v ≠ .slice none 0 0 := by
      rintro rfl
      rcases ho.2 with ⟨_, h0⟩ | ⟨g, cap, cur, e, _⟩
      · exact hl0 (List.length_eq_zero_iff.1 h0)
      · cases e
    haveI : Inhabited { i : Nat // i ∈ l } := ⟨⟨l.head hl0, List.head_mem hl0⟩⟩
    have hmap : l.attach.map (fun x => ptrV (P x.1)) = l.map fun i => ptrV (P i) := List.attach_map_val (f := fun i => ptrV (P i))
    have ho2 : w.ownsRow w0.heap.size 75 1 v l.length (l.attach.map (fun x : { i : Nat // i ∈ l } => ptrV (P x.1))) := by rw [hmap]; exact ho
    obtain ⟨g, cap, rfl, hbg, hlt, hn', hm, -, hH⟩ := Lib.holds_of_ownsRow ho2 hv
    have hlt2 : ∀ x y : { i : Nat // i ∈ l }, ltOf (fun x y : { i : Nat // i ∈ l } => Lib.compareInt (S.seqAt x.1) (S.seqAt y.1)) x y = decide (S.seqAt x.1 < S.seqAt y.1) := fun x y => ltI _ _
    have hswo : SWO (ltOf (fun x y : { i : Nat // i ∈ l } => Lib.compareInt (S.seqAt x.1) (S.seqAt y.1))) :=
      ⟨fun x => by rw [hlt2]; simp, fun x y z h1 h2 => by rw [hlt2] at *; simp at *; omega, fun x y z h1 h2 => by rw [hlt2] at *; simp at *; omega⟩
    have hcmp : CmpReads Tryd.prog 43 #[] (fun x : { i : Nat // i ∈ l } => ptrV (P x.1)) (fun x y : { i : Nat // i ∈ l } => Lib.compareInt (S.seqAt x.1) (S.seqAt y.1)) g 0 l.attach.toArray.size w := fun m os dk _ x y => by
      obtain ⟨o, gx, -, h2, h3, h4, h5⟩ := hs0 x.1 x.2
      obtain ⟨o', gy, -, h2', h3', h4', h5'⟩ := hs0 y.1 y.2
      have hbw : Below w0.heap.size w (sortWorld (fun x : { i : Nat // i ∈ l } => ptrV (P x.1)) w g 0 m dk os) := below_put hbg hlt
      have e1 := comp_any (sortWorld (fun x : { i : Nat // i ∈ l } => ptrV (P x.1)) w g 0 m dk os) gx gy (S.seqAt x.1) (S.seqAt y.1) (by
        rw [Lib.cell_of_heap ((hbw.block gx h3).trans h4), h5]; rfl) (by
        rw [Lib.cell_of_heap ((hbw.block gy h3').trans h4'), h5']; rfl)
      simpa [ptrV, h2, h2'] using e1
    have hcon := Any.slices_SortFunc Tryd.sortP (fun x : { i : Nat // i ∈ l } => ptrV (P x.1)) (fun _ => rfl) (fun x y : { i : Nat // i ∈ l } => Lib.compareInt (S.seqAt x.1) (S.seqAt y.1)) hswo 43 #[] g 0 cap l.attach.toArray w eg hcmp.lays hH hlt (by simp; omega)
    have hsz : l.attach.toArray.size = l.length := by simp
    rw [hsz] at hcon
    refine hcon.mono ?_
    rintro e w' ⟨rfl, d', n, os, hp, hs, rfl⟩
    rw [← hsz] at hp hs
    obtain ⟨h1, h2, h3⟩ := sorted_list hp hs
    have hlen2 : d'.toList.length = l.length := by simpa using h3
    have hmain : d'.toList.map (·.1) = l.mergeSort fun i j => decide (S.seqAt i ≤ S.seqAt j) := by
      have hp2 : (d'.toList.map (·.1)).Perm l := by
        have := h1.map (·.1)
        have e2 : l.attach.toArray.toList.map (·.1) = l := by simp
        rwa [e2] at this
      refine List.Perm.eq_of_pairwise (le := fun i j => S.seqAt i ≤ S.seqAt j) (fun i j hi hj h6 h7 => ?_) ?_ ?_ (hp2.trans (List.mergeSort_perm _ _).symm)
      · obtain ⟨o, _, ho1, _, _, _, hq1⟩ := hs0 i (hp2.mem_iff.1 hi)
        obtain ⟨o', _, ho2, _, _, _, hq2⟩ := hs0 j (List.mem_mergeSort.1 hj)
        exact hapart i j o o' ho1 ho2 (by rw [← hq1, ← hq2]; omega)
      · rw [List.pairwise_map]
        refine h2.imp fun {a b} h6 => ?_
        rw [hlt2] at h6
        simpa using h6
      · refine (List.pairwise_mergeSort (fun a b c h k => ?_) (fun a b => ?_) l).imp fun {a b} h6 => by simpa using h6
        · simp only [decide_eq_true_eq] at *; omega
        · simp only [Bool.or_eq_true, decide_eq_true_eq]; omega
    have hd : d' = d'.toList.toArray := by simp
    refine ⟨rfl, ?_, below_put hbg hlt⟩
    have := ownsRow_grow1 (os := os) (Lib.ownsRow_putRow (q := n) (k := l.length) ho2 hlen2 (Nat.le_refl _))
    rw [List.take_of_length_le (by omega)] at this
    rw [← hmain, List.map_map]
    unfold sortWorld
    simpa using this
end Go.Proofs.YtefloieanpgnmaaDoor

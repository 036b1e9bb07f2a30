/- The law's Build. -/
import Derived.Test.YtnhpnipfledihaaDoorPLawA
import Derived.Test.YtnhpnipfledihaaDoorParD
import Derived.StillTailTactics
import Derived.Deep.RegionHeld3
import Derived.Deep.DeepCutAuto
import Derived.Deep.CutBlock
namespace Go.Proofs.YtnhpnipfledihaaDoor
open Go.RowKit

/-- every copy is one of the law's texts -/
def TextsOk (L : List Ent) : Prop := ∀ s, InW (entOf L s).text ∧ (entOf L s).seq ≤ 3000
/-- what Build answers is known -/
def OkMsg (m : Msg) : Prop := OkData m.data ∧ m.seq ≤ 3000

theorem MAt.put {K : Nat} {m : Msg} {w : World} (h : MAt K m w) (a : Msg) : MAt K a (((((((w.setCell ⟨K, 0, none⟩ (.int .i64 a.kind)).setCell ⟨K, 1, none⟩ (.int .i64 a.partner)).setCell ⟨K, 2, none⟩ (.int .i64 a.seq)).setCell ⟨K, 3, none⟩ (.int .i64 a.story)).setCell ⟨K, 4, none⟩ (.int .i64 a.base)).setCell ⟨K, 5, none⟩ (.int .i64 a.version)).setCell ⟨K, 6, none⟩ (.string ⟨a.data.toArray⟩)) := by
  unfold MAt at *; simp [World.setCell, Array.getElem?_modify, h, Msg.cells]
theorem below_put {K n : Nat} {a w : World} (h : Below n a w) (hn : n ≤ K) (v0 v1 v2 v3 v4 v5 v6 : Value) : Below n a (((((((w.setCell ⟨K, 0, none⟩ v0).setCell ⟨K, 1, none⟩ v1).setCell ⟨K, 2, none⟩ v2).setCell ⟨K, 3, none⟩ v3).setCell ⟨K, 4, none⟩ v4).setCell ⟨K, 5, none⟩ v5).setCell ⟨K, 6, none⟩ v6) :=
  (((((((h.setCell (p := ⟨K, 0, none⟩) hn _).setCell (p := ⟨K, 1, none⟩) hn _).setCell (p := ⟨K, 2, none⟩) hn _).setCell (p := ⟨K, 3, none⟩) hn _).setCell (p := ⟨K, 4, none⟩) hn _).setCell (p := ⟨K, 5, none⟩) hn _).setCell (p := ⟨K, 6, none⟩) hn _)
theorem cell_put {K b : Nat} (h : b ≠ K) (o : Nat) (w : World) (v0 v1 v2 v3 v4 v5 v6 : Value) : (((((((w.setCell ⟨K, 0, none⟩ v0).setCell ⟨K, 1, none⟩ v1).setCell ⟨K, 2, none⟩ v2).setCell ⟨K, 3, none⟩ v3).setCell ⟨K, 4, none⟩ v4).setCell ⟨K, 5, none⟩ v5).setCell ⟨K, 6, none⟩ v6).cell? ⟨b, o, none⟩ = w.cell? ⟨b, o, none⟩ :=
  World.cell?_of_block (w := w) (by
    have e : ∀ (w : World) (o' : Nat) (v : Value), (w.setCell ⟨K, o', none⟩ v).heap[b]? = w.heap[b]? := fun w o' v => Below.heap_setCell _ _ _ _ h
    simp only [e])
theorem MAt.put0 {K : Nat} {m : Msg} {w : World} (h : MAt K m w) (v : Int) : MAt K { m with kind := v } (w.setCell ⟨K, 0, none⟩ (.int .i64 v)) := by unfold MAt at *; simp [World.setCell, Array.getElem?_modify, h, Msg.cells]
theorem MAt.put1 {K : Nat} {m : Msg} {w : World} (h : MAt K m w) (v : Int) : MAt K { m with partner := v } (w.setCell ⟨K, 1, none⟩ (.int .i64 v)) := by unfold MAt at *; simp [World.setCell, Array.getElem?_modify, h, Msg.cells]
theorem MAt.put2 {K : Nat} {m : Msg} {w : World} (h : MAt K m w) (v : Int) : MAt K { m with seq := v } (w.setCell ⟨K, 2, none⟩ (.int .i64 v)) := by unfold MAt at *; simp [World.setCell, Array.getElem?_modify, h, Msg.cells]
theorem MAt.put3 {K : Nat} {m : Msg} {w : World} (h : MAt K m w) (v : Int) : MAt K { m with story := v } (w.setCell ⟨K, 3, none⟩ (.int .i64 v)) := by unfold MAt at *; simp [World.setCell, Array.getElem?_modify, h, Msg.cells]
theorem MAt.put4 {K : Nat} {m : Msg} {w : World} (h : MAt K m w) (v : Int) : MAt K { m with base := v } (w.setCell ⟨K, 4, none⟩ (.int .i64 v)) := by unfold MAt at *; simp [World.setCell, Array.getElem?_modify, h, Msg.cells]
theorem MAt.put5 {K : Nat} {m : Msg} {w : World} (h : MAt K m w) (v : Int) : MAt K { m with version := v } (w.setCell ⟨K, 5, none⟩ (.int .i64 v)) := by unfold MAt at *; simp [World.setCell, Array.getElem?_modify, h, Msg.cells]
theorem MAt.put6 {K : Nat} {m : Msg} {w : World} (h : MAt K m w) (v : List UInt8) : MAt K { m with data := v } (w.setCell ⟨K, 6, none⟩ (.string ⟨v.toArray⟩)) := by unfold MAt at *; simp [World.setCell, Array.getElem?_modify, h, Msg.cells]
theorem MAt.frozen {K : Nat} {m : Msg} {w : World} (h : MAt K m w) (o : Nat) : w.frozen? ⟨K, o, none⟩ = false := Lib.frozen_of_heap h o

/-- block K holds a message whose data are good -/
def MsgIn (K : Nat) (w : World) : Prop := ∃ m : Msg, MAt K m w ∧ m.data.length ≤ 100000 ∧ OkMsg m

def BuildEnd (w : World) (e : Ending) (w' : World) : Prop := ∃ m : Msg, e = .returned m.enc ∧ m.data.length ≤ 100000 ∧ OkMsg m ∧ Below w.heap.size w w'

set_option maxRecDepth 100000 in
set_option maxHeartbeats 16000000 in
theorem build_any (r : Nat) (id : Int) (L : List Ent) (v : Value) (x0 x1 x2 x3 x4 x5 : Int) (w : World) (hx0 : -9223372036854775808 ≤ x0 ∧ x0 ≤ 9223372036854775807) (hx1 : -9223372036854775808 ≤ x1 ∧ x1 ≤ 9223372036854775807) (hx2 : -9223372036854775808 ≤ x2 ∧ x2 ≤ 9223372036854775807) (hx3 : -9223372036854775808 ≤ x3 ∧ x3 ≤ 9223372036854775807) (hx4 : -9223372036854775808 ≤ x4 ∧ x4 ≤ 9223372036854775807) (hx5 : -9223372036854775808 ≤ x5 ∧ x5 ≤ 9223372036854775807)
    (hR : RAt r id L v w) (hT : TextsOk L) :
    Calls Tryd.prog 16 #[.pointer (some ⟨r, 0, none⟩), .agg #[.int .i64 x0, .int .i64 x1, .int .i64 x2, .int .i64 x3, .int .i64 x4, .int .i64 x5]] w (BuildEnd w) := by
  have hrl := hR.lt
  have HR := Lib.hid hR
  have HT := Lib.hid hT
  clear hR hT
  obtain ⟨w1, hw1⟩ : ∃ w1, (w.alloc (.cells #[.int .i64 x0, .int .i64 x1, .int .i64 x2, .int .i64 x3, .int .i64 x4, .int .i64 x5] 35)).alloc (.cells #[.int .i64 0, .int .i64 0, .int .i64 0, .int .i64 0, .int .i64 0, .int .i64 0, .string ⟨#[]⟩] 33) = w1 := ⟨_, rfl⟩
  have hz1 : w1.heap.size = w.heap.size + 2 := by rw [← hw1]; simp
  have hb1 : Below w.heap.size w w1 := by rw [← hw1]; exact ((Below.refl _ _).alloc (Nat.le_refl _) _).alloc (by simp) _
  have hX1 : w1.heap[w.heap.size]? = some (.cells #[.int .i64 x0, .int .i64 x1, .int .i64 x2, .int .i64 x3, .int .i64 x4, .int .i64 x5] 35 (0, 0)) := by
    rw [← hw1, Lib.alloc_old _ _ _ (by simp)]; exact heap_alloc_new _ _
  have hK1 : MAt (w.heap.size + 1) ⟨0, 0, 0, 0, 0, 0, []⟩ w1 := by
    have := heap_alloc_new (w.alloc (.cells #[.int .i64 x0, .int .i64 x1, .int .i64 x2, .int .i64 x3, .int .i64 x4, .int .i64 x5] 35)) (.cells #[.int .i64 0, .int .i64 0, .int .i64 0, .int .i64 0, .int .i64 0, .int .i64 0, .string ⟨#[]⟩] 33)
    rw [← hw1]; unfold MAt; rw [show w.heap.size + 1 = (w.alloc (.cells #[.int .i64 x0, .int .i64 x1, .int .i64 x2, .int .i64 x3, .int .i64 x4, .int .i64 x5] 35)).heap.size by simp]; exact this
  have HXF : ∀ wy, Below w1.heap.size w1 wy → Hid (wy.cell? ⟨w.heap.size, 0, none⟩ = some (.int .i64 x0) ∧ wy.cell? ⟨w.heap.size, 1, none⟩ = some (.int .i64 x1) ∧ wy.cell? ⟨w.heap.size, 2, none⟩ = some (.int .i64 x2) ∧ wy.cell? ⟨w.heap.size, 3, none⟩ = some (.int .i64 x3) ∧ wy.cell? ⟨w.heap.size, 4, none⟩ = some (.int .i64 x4) ∧ wy.cell? ⟨w.heap.size, 5, none⟩ = some (.int .i64 x5)) := fun wy hb => Lib.hid (by
    have hh : wy.heap[w.heap.size]? = some (.cells #[.int .i64 x0, .int .i64 x1, .int .i64 x2, .int .i64 x3, .int .i64 x4, .int .i64 x5] 35 (0, 0)) := (hb.block _ (by omega)).trans hX1
    refine ⟨?_, ?_, ?_, ?_, ?_, ?_⟩ <;> (rw [Lib.cell_of_heap hh]; rfl))
  have HZ1 := Lib.hid hz1; have HB1 := Lib.hid hb1; have HK1 := Lib.hid hK1; have HR1 := Lib.hid (HR.out.below hb1)
  have HPK : ∀ (c n : Int) (wy : World), (-9223372036854775808 ≤ c ∧ c ≤ 9223372036854775807) → (1 ≤ n ∧ n ≤ 9223372036854775807) → Hid (Calls Tryd.prog 13 #[.int .i64 c, .int .i64 n] wy fun e w' => e = .returned (.int .i64 (pickI c n)) ∧ wy = w') := fun c n wy h1 h2 => Lib.hid (pick_any c n wy h1.1 h1.2 h2.1 h2.2)
  obtain ⟨c0, c1, c2, c3, c4, c5⟩ := (HXF w1 (Below.refl _ _)).out
  have rs := pickI_range (c := x2) (n := 3) (by omega)
  have rq := pickI_range (c := x1) (n := 12) (by omega)
  clear hz1 hb1 hX1 hK1
  go_enter Tryd.func16, Tryd.ntmps16
  go_wp2_with fail
  clear hw1
  refine (HPK x2 3 _ hx2 (by omega)).out.mono ?_
  rintro e w2 ⟨rfl, rfl⟩
  generalize pickI x2 3 = story at *
  go_wp2_with fail
  refine (HPK x1 12 _ hx1 (by omega)).out.mono ?_
  rintro e w2 ⟨rfl, rfl⟩
  generalize pickI x1 12 = seq at *
  go_wp2_with fail
  refine (rtxt_any r id L v (1 + story) _ HR1.out).mono ?_
  rintro e w2 ⟨rfl, hb2⟩
  have hold := (HT.out (1 + story)).1
  generalize (entOf L (1 + story)).text = old at *
  generalize (entOf L (1 + story)).has = has at *
  have HB2 := Lib.hid hb2
  obtain ⟨d0, d1, d2, d3, d4, d5⟩ := (HXF w2 hb2).out
  clear hb2 c0 c1 c2 c3 c4 c5
  go_wp2_with fail
  refine (words_any x4 _ hx4.1 hx4.2).mono ?_
  rintro e w3 ⟨rfl, hb3⟩
  have hnext := wordsI_in x4
  generalize wordsI x4 = next at *
  have HB3 := Lib.hid (below_then HB2.out hb3)
  have HR3 := Lib.hid (HR1.out.below HB3.out)
  have pc : w3.cell? ⟨r, 0, none⟩ = some (.int .i64 id) := by rw [Lib.cell_of_heap HR3.out.cells]; rfl
  clear hb3 d0 d1 d2 d3 d4 d5 HB2
  have lo := hold.len
  have ln := hnext.len
  have HOLD := Lib.hid hold; have HNEXT := Lib.hid hnext
  clear hold hnext
  go_wp2_with fail
  refine (deliver_any id seq (1 + story) old next _ (by omega) (by omega)).mono ?_
  rintro e w4 ⟨rfl, hb4⟩
  have HB4 := Lib.hid (below_then HB3.out hb4)
  have hsq : seq ≤ 3000 := by omega
  have hmg : (deliverOf id seq (1 + story) old next).data.length ≤ 100000 ∧ OkMsg (deliverOf id seq (1 + story) old next) ∧ ∀ j, OkMsg { deliverOf id seq (1 + story) old next with data := (deliverOf id seq (1 + story) old next).data.take j } := ⟨by have := diffD_len old next; simp [deliverOf]; omega, ⟨okData_all HOLD.out HNEXT.out, hsq⟩, fun j => ⟨okData_diff HOLD.out HNEXT.out j, hsq⟩⟩
  generalize deliverOf id seq (1 + story) old next = m at *
  have HMG := Lib.hid hmg
  obtain ⟨w5, hw5⟩ : ∃ w5, w4.alloc (.cells #[.int .i64 m.kind, .int .i64 m.partner, .int .i64 m.seq, .int .i64 m.story, .int .i64 m.base, .int .i64 m.version, .string ⟨m.data.toArray⟩] 33) = w5 := ⟨_, rfl⟩
  have hb5 : Below w1.heap.size w1 w5 := by rw [← hw5]; exact HB4.out.alloc HB4.out.size _
  have hk5 : MAt w4.heap.size m w5 := by rw [← hw5]; exact heap_alloc_new _ _
  have hkl : w1.heap.size ≤ w4.heap.size := HB4.out.size
  have HB5 := Lib.hid hb5; have HK5 := Lib.hid hk5
  obtain ⟨c0, c1, c2, c3, c4, c5⟩ := (HXF w5 hb5).out
  clear hb4 hmg pc HB3 hb5 hk5
  unfold Msg.enc
  go_wp2_with fail
  clear hw5
  generalize w4.heap.size = K at *
  refine (HPK x3 8 _ hx3 (by omega)).out.mono ?_
  rintro e w6 ⟨rfl, rfl⟩
  generalize pickI x3 8 = p1 at *
  clear c0 c1 c2 c3 c4 c5
  go_upto_block 0 with fail
  go_cut [] (fun wx => Hid (MsgIn K wx) ∧ Hid (Below w1.heap.size w1 wx))
  case first =>
    have HEND : ∀ (wx : World) (m' : Msg), MAt K m' wx → m'.data.length ≤ 100000 → OkMsg m' → Below w1.heap.size w1 wx → Hid (MsgIn K wx) ∧ Hid (Below w1.heap.size w1 wx) := fun wx m' h1 h2 h3 h4 => ⟨Lib.hid ⟨m', h1, h2, h3⟩, Lib.hid h4⟩
    obtain ⟨c0, c1, c2, c3, c4, c5⟩ := (HXF w5 HB5.out).out
    obtain ⟨k0, k1, k2, k3, k4, k5, k6⟩ := HK5.out.cells
    have fk := HK5.out.frozen
    have pc : w5.cell? ⟨r, 0, none⟩ = some (.int .i64 id) := by rw [Lib.cell_of_heap (HR1.out.below HB5.out).cells]; rfl
    by_cases q0 : p1 = 0
    · subst q0
      go_wp2_with fail
      refine (deliver_any id seq (1 + story) [] next _ (by simp) (by omega)).mono ?_
      rintro e w6 ⟨rfl, hb6⟩
      have hmg : (deliverOf id seq (1 + story) [] next).data.length ≤ 100000 ∧ OkMsg (deliverOf id seq (1 + story) [] next) := ⟨by have := diffD_len [] next; simp [deliverOf]; omega, ⟨okData_all inW_nil HNEXT.out, hsq⟩⟩
      generalize deliverOf id seq (1 + story) [] next = m' at *
      have HMG' := Lib.hid hmg; have HB6 := Lib.hid (HB5.out.trans (hb6.mono HB5.out.size)); have HK6 := Lib.hid (HK5.out.below hb6)
      clear hb6 hmg k0 k1 k2 k3 k4 k5 k6 fk c0 c1 c2 c3 c4 c5 pc
      obtain ⟨k0, k1, k2, k3, k4, k5, k6⟩ := HK6.out.cells
      have fk := HK6.out.frozen
      unfold Msg.enc
      go_wp2_with fail
      go_meet
      exact HEND _ m' (HK6.out.put m') HMG'.out.1 HMG'.out.2 (below_put HB6.out hkl _ _ _ _ _ _ _)
    by_cases q1 : p1 = 1
    · subst q1
      go_wp2_with fail
      refine (deliver_any id seq (1 + story) [] next _ (by simp) (by omega)).mono ?_
      rintro e w6 ⟨rfl, hb6⟩
      have hmg : (deliverOf id seq (1 + story) [] next).data.length ≤ 100000 ∧ OkMsg (deliverOf id seq (1 + story) [] next) := ⟨by have := diffD_len [] next; simp [deliverOf]; omega, ⟨okData_all inW_nil HNEXT.out, hsq⟩⟩
      generalize deliverOf id seq (1 + story) [] next = m' at *
      have HMG' := Lib.hid hmg; have HB6 := Lib.hid (HB5.out.trans (hb6.mono HB5.out.size)); have HK6 := Lib.hid (HK5.out.below hb6)
      clear hb6 hmg k0 k1 k2 k3 k4 k5 k6 fk c0 c1 c2 c3 c4 c5 pc
      obtain ⟨k0, k1, k2, k3, k4, k5, k6⟩ := HK6.out.cells
      have fk := HK6.out.frozen
      unfold Msg.enc
      go_wp2_with fail
      go_meet
      exact HEND _ m' (HK6.out.put m') HMG'.out.1 HMG'.out.2 (below_put HB6.out hkl _ _ _ _ _ _ _)
    by_cases q2 : p1 = 2
    · subst q2
      go_wp2_with fail
      refine (deliver_any id seq (1 + story) [] next _ (by simp) (by omega)).mono ?_
      rintro e w6 ⟨rfl, hb6⟩
      have hmg : (deliverOf id seq (1 + story) [] next).data.length ≤ 100000 ∧ OkMsg (deliverOf id seq (1 + story) [] next) := ⟨by have := diffD_len [] next; simp [deliverOf]; omega, ⟨okData_all inW_nil HNEXT.out, hsq⟩⟩
      generalize deliverOf id seq (1 + story) [] next = m' at *
      have HMG' := Lib.hid hmg; have HB6 := Lib.hid (HB5.out.trans (hb6.mono HB5.out.size)); have HK6 := Lib.hid (HK5.out.below hb6)
      clear hb6 hmg k0 k1 k2 k3 k4 k5 k6 fk c0 c1 c2 c3 c4 c5 pc
      obtain ⟨k0, k1, k2, k3, k4, k5, k6⟩ := HK6.out.cells
      have fk := HK6.out.frozen
      unfold Msg.enc
      go_wp2_with fail
      go_meet
      exact HEND _ m' (HK6.out.put m') HMG'.out.1 HMG'.out.2 (below_put HB6.out hkl _ _ _ _ _ _ _)
    by_cases q3 : p1 = 3
    · subst q3
      go_wp2_with fail
      have nk1 : r ≠ K := by have := HZ1.out; omega
      have nk2 : w.heap.size ≠ K := by have := HZ1.out; omega
      have HW5 := fun wy => Lib.hid (words_any x5 wy hx5.1 hx5.2)
      have HD5 := fun wy => Lib.hid (deliver_any id seq (1 + story) (wordsI x5) next wy (by have := (wordsI_in x5).len; omega) (by omega))
      have hmg : (deliverOf id seq (1 + story) (wordsI x5) next).data.length ≤ 100000 ∧ OkMsg (deliverOf id seq (1 + story) (wordsI x5) next) := ⟨by have := diffD_len (wordsI x5) next; simp [deliverOf]; omega, ⟨okData_all (wordsI_in x5) HNEXT.out, hsq⟩⟩
      generalize deliverOf id seq (1 + story) (wordsI x5) next = m' at *
      generalize wordsI x5 = b5 at *
      have HMG' := Lib.hid hmg
      have HKF : ∀ wy, Below w5.heap.size w5 wy → Hid (MCells K m wy ∧ ∀ o, wy.frozen? ⟨K, o, none⟩ = false) := fun wy hb => Lib.hid ⟨(HK5.out.below hb).cells, (HK5.out.below hb).frozen⟩
      clear hmg
      have HG : ∀ w6 w7, Below w5.drew.heap.size w5.drew w6 → Below w6.heap.size w6 w7 → Hid (Below w5.heap.size w5 w7) := fun w6 w7 h1 h2 => Lib.hid (below_then (a := w5) ((Below.refl _ w5).drew.trans h1) h2)
      have HPC : ∀ w6, Below w5.drew.heap.size w5.drew w6 → Hid (w6.cell? ⟨r, 0, none⟩ = some (.int .i64 id)) := fun w6 h => Lib.hid ((h.cell (p := ⟨r, 0, none⟩) (World.block_lt_of_cell? w5 _ pc)).trans pc)
      clear HXF HPK k0 k1 k2 k3 k4 k5 k6 fk
      first
        | (go_region_with (first
          | (go_at_call 27; refine (HW5 _).out.mono ?_; rintro e w6 ⟨rfl, hb6⟩; have g1 := (HPC _ hb6).out)
          | (go_at_call 24; refine (HD5 _).out.mono ?_; unfold Msg.enc; rintro e w7 ⟨rfl, hb7⟩; have HB57 := HG _ _ hb6 hb7; obtain ⟨⟨n0, n1, n2, n3, n4, n5, n6⟩, fn⟩ := (HKF _ HB57.out).out)))
        | fail
      all_goals
        go_wp2_with fail
        go_meet
        exact HEND _ m' ((HK5.out.below HB57.out).put m') HMG'.out.1 HMG'.out.2 (below_put (HB5.out.trans (HB57.out.mono HB5.out.size)) hkl _ _ _ _ _ _ _)
    by_cases q4 : p1 = 4
    · subst q4
      go_wp2_with fail
      go_meet
      exact HEND _ _ (HK5.out.put5 x5) HMG.out.1 HMG.out.2.1 (HB5.out.setCell (p := ⟨K, 5, none⟩) hkl _)
    by_cases q5 : p1 = 5
    · subst q5
      go_wp2_with fail
      go_meet
      exact HEND _ _ (HK5.out.put4 x5) HMG.out.1 HMG.out.2.1 (HB5.out.setCell (p := ⟨K, 4, none⟩) hkl _)
    by_cases q6 : p1 = 6
    · subst q6
      go_wp2_with fail
      have hwr : IntKind.i64.wrap ((m.data.length : Int) + 1) = (m.data.length : Int) + 1 := wrap_small _ (by omega) (by have := HMG.out.1; omega)
      first
        | (go_still_tail 11, (by kernel_rfl))
        | fail
      still_call (((HPK x5 ((m.data.length : Int) + 1) _ hx5 (by have := HMG.out.1; omega)).out).mono fun _ _ h => ⟨h.1, h.2.symm⟩)
      have hpr := pickI_range (c := x5) (n := (m.data.length : Int) + 1) (by omega)
      obtain ⟨j, hj⟩ : ∃ j : Nat, pickI x5 ((m.data.length : Int) + 1) = j := ⟨(pickI x5 ((m.data.length : Int) + 1)).toNat, by omega⟩
      rw [hj] at hpr ⊢
      obtain ⟨_, hj2⟩ := hpr
      have hj3 : (j : Int) ≤ (m.data.length : Int) := by omega
      have hj4 : j ≤ m.data.length := by omega
      clear hj hj2
      repeat still_step
      refine wpStill_nil ?_
      change wpList _ _ _ _ _ w5.drew
      obtain ⟨w6, hw6⟩ : ∃ w6, w5.drew = w6 := ⟨_, rfl⟩
      have hb6 : Below w5.heap.size w5 w6 := by rw [← hw6]; exact (Below.refl _ _).drew
      have HB6 := Lib.hid (HB5.out.trans (hb6.mono HB5.out.size)); have HK6 := Lib.hid (HK5.out.below hb6)
      rw [hw6]
      clear hw6 hb6 k0 k1 k2 k3 k4 k5 k6 fk c0 c1 c2 c3 c4 c5 pc
      obtain ⟨k0, k1, k2, k3, k4, k5, k6⟩ := HK6.out.cells
      have fk := HK6.out.frozen
      go_wp2_with fail
      go_meet
      rw [extract_mk]
      simp only [List.drop_zero, Nat.sub_zero]
      exact HEND _ _ (HK6.out.put6 (m.data.take j)) (by have := HMG.out.1; simp; omega) (HMG.out.2.2 j) (HB6.out.setCell (p := ⟨K, 6, none⟩) hkl _)
    have e0 : ((p1 : Int) == 0) = false := by simpa using q0
    have e1 : ((p1 : Int) == 1) = false := by simpa using q1
    have e2 : ((p1 : Int) == 2) = false := by simpa using q2
    have e3 : ((p1 : Int) == 3) = false := by simpa using q3
    have e4 : ((p1 : Int) == 4) = false := by simpa using q4
    have e5 : ((p1 : Int) == 5) = false := by simpa using q5
    have e6 : ((p1 : Int) == 6) = false := by simpa using q6
    clear q0 q1 q2 q3 q4 q5 q6
    go_wp2_with fail
    go_meet
    exact HEND _ _ HK5.out HMG.out.1 HMG.out.2.1 HB5.out
  case rest =>
    obtain ⟨HMI, HBc⟩ := hcut
    obtain ⟨mc, hkc, hlc, hoc⟩ := HMI.out
    have HKc := Lib.hid hkc
    obtain ⟨c0, c1, c2, c3, c4, c5⟩ := (HXF wc HBc.out).out
    clear hkc HMI
    go_wp2_with fail
    refine (HPK x0 10 _ hx0 (by omega)).out.mono ?_
    rintro e w6 ⟨rfl, rfl⟩
    generalize pickI x0 10 = p2 at *
    go_upto_block 1 with fail
    go_cut [] (fun wx => Hid (MsgIn K wx) ∧ Hid (Below w1.heap.size w1 wx))
    case first =>
      have HEND : ∀ (wx : World) (m' : Msg), MAt K m' wx → m'.data.length ≤ 100000 → OkMsg m' → Below w1.heap.size w1 wx → Hid (MsgIn K wx) ∧ Hid (Below w1.heap.size w1 wx) := fun wx m' h1 h2 h3 h4 => ⟨Lib.hid ⟨m', h1, h2, h3⟩, Lib.hid h4⟩
      obtain ⟨k0, k1, k2, k3, k4, k5, k6⟩ := HKc.out.cells
      have fk := HKc.out.frozen
      have pc : wc.cell? ⟨r, 0, none⟩ = some (.int .i64 id) := by rw [Lib.cell_of_heap (HR1.out.below HBc.out).cells]; rfl
      by_cases q0 : p2 = 0
      · subst q0
        go_wp2_with fail
        refine (kill_any id seq (1 + story) _).mono ?_
        unfold Msg.enc
        rintro e w6 ⟨rfl, hb6⟩
        have HB6 := Lib.hid (HBc.out.trans (hb6.mono HBc.out.size)); have HK6 := Lib.hid (HKc.out.below hb6)
        clear hb6 k0 k1 k2 k3 k4 k5 k6 fk c0 c1 c2 c3 c4 c5 pc
        obtain ⟨k0, k1, k2, k3, k4, k5, k6⟩ := HK6.out.cells
        have fk := HK6.out.frozen
        go_wp2_with fail
        go_meet
        exact HEND _ ⟨2, id, seq, 1 + story, 0, 0, []⟩ (HK6.out.put ⟨2, id, seq, 1 + story, 0, 0, []⟩) (Nat.zero_le _) ⟨okData_nil, hsq⟩ (below_put HB6.out hkl _ _ _ _ _ _ _)
      by_cases q1 : p2 = 1
      · subst q1
        go_wp2_with fail
        refine (kill_any id seq (1 + story) _).mono ?_
        unfold Msg.enc
        rintro e w6 ⟨rfl, hb6⟩
        have HB6 := Lib.hid (HBc.out.trans (hb6.mono HBc.out.size)); have HK6 := Lib.hid (HKc.out.below hb6)
        clear hb6 k0 k1 k2 k3 k4 k5 k6 fk c0 c1 c2 c3 c4 c5 pc
        obtain ⟨k0, k1, k2, k3, k4, k5, k6⟩ := HK6.out.cells
        have fk := HK6.out.frozen
        go_wp2_with fail
        go_meet
        exact HEND _ ⟨2, id, seq, 1 + story, 0, 0, []⟩ (HK6.out.put ⟨2, id, seq, 1 + story, 0, 0, []⟩) (Nat.zero_le _) ⟨okData_nil, hsq⟩ (below_put HB6.out hkl _ _ _ _ _ _ _)
      by_cases q2 : p2 = 2
      · subst q2
        go_wp2_with fail
        refine (HPK x5 6 _ hx5 (by omega)).out.mono ?_
        rintro e w6 ⟨rfl, rfl⟩
        have rp := pickI_range (c := x5) (n := 6) (by omega)
        generalize pickI x5 6 = pv at *
        go_wp2_with fail
        go_meet
        exact HEND _ _ (HKc.out.put0 pv) hlc hoc (HBc.out.setCell (p := ⟨K, 0, none⟩) hkl _)
      by_cases q3 : p2 = 3
      · subst q3
        go_wp2_with fail
        refine (HPK x5 10 _ hx5 (by omega)).out.mono ?_
        rintro e w6 ⟨rfl, rfl⟩
        have rp := pickI_range (c := x5) (n := 10) (by omega)
        generalize pickI x5 10 = pv at *
        go_wp2_with fail
        go_meet
        exact HEND _ _ (HKc.out.put1 pv) hlc hoc (HBc.out.setCell (p := ⟨K, 1, none⟩) hkl _)
      by_cases q4 : p2 = 4
      · subst q4
        go_wp2_with fail
        refine (HPK x5 66 _ hx5 (by omega)).out.mono ?_
        rintro e w6 ⟨rfl, rfl⟩
        have rp := pickI_range (c := x5) (n := 66) (by omega)
        generalize pickI x5 66 = pv at *
        go_wp2_with fail
        go_meet
        exact HEND _ _ (HKc.out.put3 pv) hlc hoc (HBc.out.setCell (p := ⟨K, 3, none⟩) hkl _)
      by_cases q5 : p2 = 5
      · subst q5
        go_wp2_with fail
        refine (HPK x5 3000 _ hx5 (by omega)).out.mono ?_
        rintro e w6 ⟨rfl, rfl⟩
        have rp := pickI_range (c := x5) (n := 3000) (by omega)
        generalize pickI x5 3000 = pv at *
        go_wp2_with fail
        go_meet
        exact HEND _ _ (HKc.out.put2 (pv - 10)) hlc ⟨hoc.1, by show pv - 10 ≤ 3000; omega⟩ (HBc.out.setCell (p := ⟨K, 2, none⟩) hkl _)
      have e0 : ((p2 : Int) == 0) = false := by simpa using q0
      have e1 : ((p2 : Int) == 1) = false := by simpa using q1
      have e2 : ((p2 : Int) == 2) = false := by simpa using q2
      have e3 : ((p2 : Int) == 3) = false := by simpa using q3
      have e4 : ((p2 : Int) == 4) = false := by simpa using q4
      have e5 : ((p2 : Int) == 5) = false := by simpa using q5
      clear q0 q1 q2 q3 q4 q5
      go_wp2_with fail
      go_meet
      exact HEND _ _ HKc.out hlc hoc HBc.out
    case rest =>
      clear c0 c1 c2 c3 c4 c5 HKc HBc hlc hoc
      obtain ⟨HMI, HBd⟩ := hcut
      obtain ⟨md, hkd, hld, hod⟩ := HMI.out
      have hk1 := HK1.out.below HBd.out
      obtain ⟨n0, n1, n2, n3, n4, n5, n6⟩ := hk1.cells
      obtain ⟨k0, k1, k2, k3, k4, k5, k6⟩ := hkd.cells
      have fk := hk1.frozen
      have hput := hk1.put md
      have hbl := below_put (K := w.heap.size + 1) ((HB1.out.trans (HBd.out.mono HB1.out.size))) (Nat.le_succ _) (.int .i64 md.kind) (.int .i64 md.partner) (.int .i64 md.seq) (.int .i64 md.story) (.int .i64 md.base) (.int .i64 md.version) (.string ⟨md.data.toArray⟩)
      have HPUT := Lib.hid hput; have HBL := Lib.hid hbl
      clear hput hbl hk1 hkd HMI
      go_wp2
      obtain ⟨n0, n1, n2, n3, n4, n5, n6⟩ := HPUT.out.cells
      exact bodyPost_ret (v := md.enc) (by simp [results, Tryd.results16, go_sem, Msg.enc, n0, n1, n2, n3, n4, n5, n6]) rfl ⟨md, rfl, hld, hod, HBL.out⟩
end Go.Proofs.YtnhpnipfledihaaDoor

/- delta's writer: number, operation. -/
import Derived.Test.YtfdholhfdceedaaDoorPutC
import Derived.Test.YtfdholhfdceedaaDoorGrp
import Derived.Test.YtfdholhfdceedaaDoorApp
import Derived.Test.YtfdholhfdceedaaDoorDPl
namespace Go.Proofs.YtfdholhfdceedaaDoor
open Go.RowKit

theorem isB_below {B b : Nat} {bs : List Value} {wx wy : World} (h : IsB B b bs wx) (hb : Below wx.heap.size wx wy) : IsB B b bs wy := by
  have key : ∀ p, Lib.BuilderAt 49 5 B b p bs wx → Lib.BuilderAt 49 5 B b p bs wy := by
    rintro p ⟨hB, v, hv, hown, hne⟩
    exact ⟨hB, v, (hb.block _ (some_lt hv)).trans hv, hown.kept (row := none) ⟨hb.os, hb.tape, hb.output, hb.size, fun k hk _ => hb.block k hk⟩ (by cases v.ownBlock <;> simp), hne⟩
  exact h.imp (key _) (key _)

/-- what a method of the writer leaves -/
def WEnd (b : Nat) (l : List UInt8) (w : World) (e : Ending) (w' : World) : Prop := e = .returned (.tuple #[]) ∧ IsB b b (Lib.byteCells l) w' ∧ Below b w w' ∧ KStab w w'

set_option maxHeartbeats 400000 in
theorem wnum_any (b : Nat) (l : List UInt8) (i : Int) (w : World) (h : IsB b b (Lib.byteCells l) w) (hl : l.length ≤ 2000000000000) (h1 : -4611686018427387903 ≤ i) (h2 : i ≤ 4611686018427387903) (hbw : b ≤ w.heap.size) :
    Calls Tryd.prog 19 #[.pointer (some ⟨b, 0, none⟩), .int .i64 i] w (WEnd b (l ++ putInt i) w) := by
  have HB := Lib.hid h; clear h
  have hp := putInt_len h1 h2
  go_enter Tryd.func19, Tryd.ntmps19
  go_wp2_with fail
  refine (putInt_any i _ h1 h2).mono ?_
  unfold putTup
  rintro e w1 ⟨rfl, hb1⟩
  have HB1 := Lib.hid (isB_below HB.out hb1); have HL1 := Lib.hid hb1
  have hz := hb1.size
  clear hb1
  go_wp2_with fail
  refine (bld_writeK b b (Lib.byteCells l) ⟨(putInt i).toArray⟩ _ HB1.out (by rw [mk_size, Lib.byteCells_length]; omega) (by omega)).mono ?_
  rintro e w2 ⟨rfl, ha, hb2, hk2⟩
  have HA : Hid (IsB b b (Lib.byteCells (l ++ putInt i)) w2) := Lib.hid (by rw [Lib.byteCells_append]; exact .inr ha)
  have H2 := Lib.hid hb2; have HK := Lib.hid hk2
  clear ha hb2 hk2
  go_wp2
  go_end0
  exact ⟨rfl, HA.out, (HL1.out.mono hbw).trans H2.out, (KStab.below HL1.out).trans HK.out⟩

def DOp.enc (y : DOp) : Value := .agg #[.int .i64 (y.n : Int), .int .i64 (y.off : Int), .string ⟨y.text.toArray⟩]

theorem dop_bytes_len {y : DOp} (hn : y.n ≤ 100000) (hoff : y.off ≤ 100000) (ht : y.text.length ≤ 65536) : y.bytes.length ≤ 65600 := by
  unfold DOp.bytes
  have h0 := putInt_len (n := 0) (by decide) (by decide)
  have h1 := putInt_len (n := (y.n : Int)) (by omega) (by omega)
  have h2 := putInt_len (n := (y.off : Int)) (by omega) (by omega)
  have h3 := putInt_len (n := (y.text.length : Int)) (by omega) (by omega)
  unfold putStr
  split <;> simp only [List.length_append] <;> omega

set_option maxRecDepth 100000 in
set_option maxHeartbeats 1000000 in
theorem wop_any (b : Nat) (l : List UInt8) (y : DOp) (w : World) (h : IsB b b (Lib.byteCells l) w) (hl : l.length ≤ 1000000000000) (hn : y.n ≤ 100000) (hoff : y.off ≤ 100000) (ht : y.text.length ≤ 65536) (hbw : b ≤ w.heap.size) :
    Calls Tryd.prog 21 #[.pointer (some ⟨b, 0, none⟩), y.enc] w (WEnd b (l ++ y.bytes) w) := by
  obtain ⟨n, off, x⟩ := y
  simp only [] at hn hoff ht
  obtain ⟨w1, hw1⟩ : ∃ w1, w.alloc (.cells #[.int .i64 (n : Int), .int .i64 (off : Int), .string ⟨x.toArray⟩] 55) = w1 := ⟨_, rfl⟩
  have hb1 : Below w.heap.size w w1 := by rw [← hw1]; exact (Below.refl _ _).alloc (Nat.le_refl _) _
  have hX : w1.heap[w.heap.size]? = some (.cells #[.int .i64 (n : Int), .int .i64 (off : Int), .string ⟨x.toArray⟩] 55 (0, 0)) := by rw [← hw1]; exact heap_alloc_new _ _
  have HXF : ∀ wy, KStab w1 wy → Hid (wy.cell? ⟨w.heap.size, 0, none⟩ = some (.int .i64 (n : Int)) ∧ wy.cell? ⟨w.heap.size, 1, none⟩ = some (.int .i64 (off : Int)) ∧ wy.cell? ⟨w.heap.size, 2, none⟩ = some (.string ⟨x.toArray⟩)) := fun wy hk => Lib.hid (by
    have hxy := hk.same _ _ hX (by intro cs t fr e; cases e; exact ⟨by decide, by decide⟩)
    refine ⟨?_, ?_, ?_⟩ <;> (rw [Lib.cell_of_heap hxy]; rfl))
  obtain ⟨c0, c1, c2⟩ := (HXF w1 (KStab.refl _)).out
  have HB1 := Lib.hid (isB_below h hb1)
  have HFIN : ∀ l' wz, IsB b b (Lib.byteCells l') wz → Below b w1 wz → KStab w1 wz → Hid (WEnd b l' w (.returned (.tuple #[])) wz) := fun l' wz hA hB hK => Lib.hid ⟨rfl, hA, (hb1.mono hbw).trans hB, (KStab.below hb1).trans hK⟩
  have hz1 := hb1.size
  have hp0 := putInt_len (n := (n : Int)) (by omega) (by omega)
  have hz : b ≤ w1.heap.size := by omega
  clear h hX hb1
  unfold DOp.enc
  go_enter Tryd.func21, Tryd.ntmps21
  go_wp2_with fail
  clear hw1
  refine (wnum_any b l n _ HB1.out (by omega) (by omega) (by omega) hz).mono ?_
  rintro e w2 ⟨rfl, hB2, hb2, hk2⟩
  have HB2 := Lib.hid hB2; have HL2 := Lib.hid hb2; have HK2 := Lib.hid hk2
  have hz2 : b ≤ w2.heap.size := by have := hb2.size; omega
  clear hB2 hb2 hk2 c0 c1 c2
  obtain ⟨c0, c1, c2⟩ := (HXF w2 HK2.out).out
  by_cases h0 : 0 < n
  · have HF : Hid (∀ wz, WEnd b (l ++ putInt (n : Int) ++ putInt (off : Int)) w (.returned (.tuple #[])) wz → WEnd b (l ++ DOp.bytes ⟨n, off, x⟩) w (.returned (.tuple #[])) wz) := Lib.hid (fun wz hz => by
      unfold DOp.bytes; rw [if_pos h0, ← List.append_assoc]; exact hz)
    have hgt : decide ((0 : Int) < (n : Int)) = true := by rw [decide_eq_true_eq]; omega
    go_wp2_with fail
    refine (wnum_any b (l ++ putInt (n : Int)) off _ HB2.out (by simp; omega) (by omega) (by omega) hz2).mono ?_
    rintro e w3 ⟨rfl, hB3, hb3, hk3⟩
    have HW := HFIN _ _ hB3 (HL2.out.trans hb3) (HK2.out.trans hk3)
    clear hB3 hb3 hk3
    go_wp2
    first
      | go_end0
      | refine bodyPost_ret (v := .tuple #[]) (by simp [results, Tryd.results21, go_sem]) rfl ?_
    exact HF.out _ HW.out
  · obtain rfl : n = 0 := by omega
    have HF : Hid (∀ wz, WEnd b (l ++ putInt 0 ++ putStr x) w (.returned (.tuple #[])) wz → WEnd b (l ++ DOp.bytes ⟨0, off, x⟩) w (.returned (.tuple #[])) wz) := Lib.hid (fun wz hz => by
      unfold DOp.bytes; rw [if_neg h0, ← List.append_assoc]; exact hz)
    have hps : (putStr x).length ≤ 65600 := by
      have h3 := putInt_len (n := (x.length : Int)) (by omega) (by omega)
      unfold putStr; rw [List.length_append]; omega
    go_wp2_with fail
    refine (putString_any x _ ht).mono ?_
    unfold putTup
    rintro e w3 ⟨rfl, hb3⟩
    have HB3 := Lib.hid (isB_below HB2.out hb3); have HL3 := Lib.hid (HL2.out.trans (hb3.mono hz2)); have HK3 := Lib.hid (HK2.out.trans (KStab.below hb3))
    have hz3 : b ≤ w3.heap.size := by have := hb3.size; omega
    clear hb3
    go_wp2_with fail
    refine (bld_writeK b b (Lib.byteCells (l ++ putInt ((0 : Nat) : Int))) ⟨(putStr x).toArray⟩ _ HB3.out (by rw [mk_size, Lib.byteCells_length, List.length_append]; omega) hz3).mono ?_
    rintro e w4 ⟨rfl, hA4, hb4, hk4⟩
    have HW := HFIN (l ++ putInt 0 ++ putStr x) _ (by rw [Lib.byteCells_append]; exact .inr hA4) (HL3.out.trans hb4) (HK3.out.trans hk4)
    clear hA4 hb4 hk4
    go_wp2
    first
      | go_end0
      | refine bodyPost_ret (v := .tuple #[]) (by simp [results, Tryd.results21, go_sem]) rfl ?_
    exact HF.out _ HW.out
end Go.Proofs.YtfdholhfdceedaaDoor

/- delta's Diff at all texts; what holds while a law of chapter 19 runs. -/
import Derived.Test.YtfdholhfdceedaaDoorDif
import Derived.Test.YtfdholhfdceedaaDoorDifB
import Derived.KernelRfl
namespace Go.Proofs.YtfdholhfdceedaaDoor
open Go.RowKit

set_option maxHeartbeats 400000 in
theorem diff_any (o x : List UInt8) (w : World) (ho : o.length ≤ 9223372036854775000) (hx : x.length ≤ 9223372036854775000) (hsh : ShiftsAt w) :
    Calls Tryd.prog 12 #[.string ⟨o.toArray⟩, .string ⟨x.toArray⟩] w fun e w' => e = .returned (.string ⟨(diffD o x).toArray⟩) ∧ Below w.heap.size w w' := by
  by_cases h1 : 8192 < o.length
  · have g1 : decide ((8192 : Int) < (o.length : Int)) = true := by rw [decide_eq_true_eq]; omega
    rw [diff_long (.inl h1)]
    go_enter Tryd.func12, Tryd.ntmps12
    go_wp2
    go_ret
    exact ⟨rfl, Below.refl _ _⟩
  · have g1 : decide ((8192 : Int) < (o.length : Int)) = false := by rw [decide_eq_false_iff_not]; omega
    by_cases h2 : 8192 < x.length
    · have g2 : decide ((8192 : Int) < (x.length : Int)) = true := by rw [decide_eq_true_eq]; omega
      rw [diff_long (.inr h2)]
      go_enter Tryd.func12, Tryd.ntmps12
      go_wp2
      go_ret
      exact ⟨rfl, Below.refl _ _⟩
    · exact callsIn_wide.1 (diff_in 3 (by omega) o x (by omega) (by omega) w hsh)

theorem apply_list {a0 a1 : Addr} (o d : List UInt8) (w : World) (ho : o.length ≤ 9223372036854775000) (hd : d.length ≤ 9223372036854775000) (hS : Sents a0 a1 w) (hsh : ShiftsAt w) :
    Calls Tryd.prog 17 #[.string ⟨o.toArray⟩, .string ⟨d.toArray⟩] w fun e w' => e = .returned (exTup (applyD o d)) ∧ Below w.heap.size w w' := by
  have := apply_any ⟨o.toArray⟩ ⟨d.toArray⟩ w (by rw [mk_size]; exact ho) (by rw [mk_size]; exact hd) hS hsh
  rwa [mk_data, mk_data] at this

/-- while a law runs: the variables of the packages lie as they lay, and so does what lay before -/
structure LW (a0 a1 : Addr) (w0 w : World) : Prop where
  S : Sents a0 a1 w0
  H : ShiftsAt w0
  bel : Below w0.heap.size w0 w
theorem LW.s {a0 a1 : Addr} {w0 w : World} (h : LW a0 a1 w0 w) : Sents a0 a1 w := h.S.below h.bel
theorem LW.h {a0 a1 : Addr} {w0 w : World} (h : LW a0 a1 w0 w) : ShiftsAt w := shifts_below h.H h.bel
theorem LW.below {a0 a1 : Addr} {w0 w w' : World} (h : LW a0 a1 w0 w) (hb : Below w.heap.size w w') : LW a0 a1 w0 w' := ⟨h.S, h.H, below_then h.bel hb⟩

set_option maxHeartbeats 400000 in
theorem cut_any (x : List UInt8) (n : Nat) (w : World) (hx : x.length ≤ 9223372036854775807) (hn : n ≤ 1000000) :
    Calls Tryd.prog 11 #[.string ⟨x.toArray⟩, .int .i64 (n : Int)] w fun e w' => e = .returned (.string ⟨(x.take n).toArray⟩) ∧ w = w' := by
  obtain ⟨X, hX⟩ : ∃ X : ByteArray, ⟨x.toArray⟩ = X := ⟨_, rfl⟩
  have zX : X.size = x.length := by rw [← hX, mk_size]
  have eX : ∀ a b, X.extract a b = ⟨((x.drop a).take (b - a)).toArray⟩ := fun a b => by rw [extract_mk, ← hX]
  have EX := Lib.hid eX; have HX := Lib.hid hX
  rw [hX]
  clear eX hX
  have hmin : (min (x.length : Int) (n : Int)).toNat = min x.length n := by omega
  have HR : Hid (X.extract 0 (min (x.length : Int) (n : Int)).toNat = ⟨(x.take n).toArray⟩) := Lib.hid (by
    rw [EX.out, hmin]
    rcases Nat.le_total x.length n with h | h
    · rw [Nat.min_eq_left h, List.take_of_length_le h]; simp
    · rw [Nat.min_eq_right h]; simp)
  clear hmin
  go_enter Tryd.func11, Tryd.ntmps11
  go_wp2
  all_goals go_ret
  all_goals exact ⟨ret_str HR.out, rfl⟩

/-! ### the fixed examples -/
def exA : List UInt8 := [116, 104, 101, 32, 114, 97, 105, 110, 32, 105, 110, 32, 115, 112, 97, 105, 110]
def exB : List UInt8 := [97, 108, 108, 32, 116, 104, 101, 32, 114, 97, 105, 110, 32, 105, 110, 32, 109, 97, 121]
def exC : List UInt8 := [116, 104, 101, 32, 114, 97, 105, 110, 32, 105, 110, 32, 115, 112, 97, 105, 78]
theorem ex1 : applyD exA (diffD exA exB) = .ok exB := by kernel_rfl
theorem ex2 : applyD exC (diffD exA exB) = .error 190 := by kernel_rfl
theorem ex3 : applyD [97] [] = .error 10 := by kernel_rfl
theorem ex4 : applyD exA (diffD exA exB ++ [120]) = .error 10 := by kernel_rfl
theorem ex5 : diffD [97, 98, 99, 100, 101, 102, 103, 104] [97, 98, 99, 100, 101, 102, 103, 104] ≠ diffD [97, 98, 99, 100, 101, 102, 103] [97, 98, 99, 100, 101, 102, 103] := by decide +kernel
theorem exl : (diffD exA exB).length ≤ 1000 := by decide +kernel

set_option maxRecDepth 100000 in
set_option maxHeartbeats 2000000 in
theorem sane_any {a0 a1 : Addr} (w : World) (hS : Sents a0 a1 w) (hsh : ShiftsAt w) :
    Calls Tryd.prog 10 #[] w fun e w' => e = .returned (.bool true) ∧ Below w.heap.size w w' := by
  have HL := Lib.hid (LW.mk hS hsh (Below.refl _ _) : LW a0 a1 w w)
  clear hS hsh
  have d1 := fun (wy : World) (h : ShiftsAt wy) => diff_any exA exB wy (by decide) (by decide) h
  have d2 := fun (wy : World) (h : ShiftsAt wy) => diff_any [97, 98, 99, 100, 101, 102, 103, 104] [97, 98, 99, 100, 101, 102, 103, 104] wy (by decide) (by decide) h
  have d3 := fun (wy : World) (h : ShiftsAt wy) => diff_any [97, 98, 99, 100, 101, 102, 103] [97, 98, 99, 100, 101, 102, 103] wy (by decide) (by decide) h
  have e1 := ex1; have e2 := ex2; have e3 := ex3; have e4 := ex4; have e5 := ex5; have el := exl
  generalize diffD exA exB = D at *
  generalize diffD [97, 98, 99, 100, 101, 102, 103, 104] [97, 98, 99, 100, 101, 102, 103, 104] = D1 at *
  generalize diffD [97, 98, 99, 100, 101, 102, 103] [97, 98, 99, 100, 101, 102, 103] = D2 at *
  have a1' := fun (wy : World) (h : LW a0 a1 w wy) => apply_list exA D wy (by decide) (by omega) h.s h.h
  have a2' := fun (wy : World) (h : LW a0 a1 w wy) => apply_list exC D wy (by decide) (by omega) h.s h.h
  have a3' := fun (wy : World) (h : LW a0 a1 w wy) => apply_list [97] [] wy (by decide) (by decide) h.s h.h
  have a4' := fun (wy : World) (h : LW a0 a1 w wy) => apply_list exA (D ++ [120]) wy (by decide) (by simp; omega) h.s h.h
  rw [e1] at a1'
  rw [e2] at a2'
  rw [e3] at a3'
  rw [e4] at a4'
  have HD1 := Lib.hid d1; have HD2 := Lib.hid d2; have HD3 := Lib.hid d3; have HA1 := Lib.hid a1'; have HA2 := Lib.hid a2'; have HA3 := Lib.hid a3'; have HA4 := Lib.hid a4'
  have hne2 : (D1 == D2) = false := by simpa using e5
  have hne3 : (D1 != D2) = true := by simpa using e5
  have hov : ¬ 9223372036854775807 < D.length + 1 := by omega
  clear d1 d2 d3 a1' a2' a3' a4' e1 e2 e3 e4 e5
  go_enter Tryd.func10, Tryd.ntmps10
  go_wp2_with fail
  refine (HD1.out _ HL.out.h).mono ?_
  rintro e w1 ⟨rfl, hb1⟩
  have HL1 := Lib.hid (HL.out.below hb1)
  clear hb1
  go_wp2_with fail
  refine (HA1.out _ HL1.out).mono ?_
  unfold exTup
  rintro e w2 ⟨rfl, hb2⟩
  have HL2 := Lib.hid (HL1.out.below hb2)
  clear hb2
  go_wp2_with fail
  refine (HA2.out _ HL2.out).mono ?_
  unfold exTup
  rintro e w3 ⟨rfl, hb3⟩
  have HL3 := Lib.hid (HL2.out.below hb3)
  clear hb3
  go_wp2_with fail
  refine (HA3.out _ HL3.out).mono ?_
  unfold exTup
  rintro e w4 ⟨rfl, hb4⟩
  have HL4 := Lib.hid (HL3.out.below hb4)
  clear hb4
  go_wp2_with fail
  try simp only [str_add]
  refine (HA4.out _ HL4.out).mono ?_
  unfold exTup
  rintro e w5 ⟨rfl, hb5⟩
  have HL5 := Lib.hid (HL4.out.below hb5)
  clear hb5
  unfold exB
  go_wp2_with fail
  refine (HD2.out _ HL5.out.h).mono ?_
  rintro e w6 ⟨rfl, hb6⟩
  have HL6 := Lib.hid (HL5.out.below hb6)
  clear hb6
  go_wp2_with fail
  refine (HD3.out _ HL6.out.h).mono ?_
  rintro e w7 ⟨rfl, hb7⟩
  have HL7 := Lib.hid (HL6.out.below hb7)
  clear hb7
  go_wp2
  go_ret
  exact ⟨rfl, HL7.out.bel⟩
end Go.Proofs.YtfdholhfdceedaaDoor

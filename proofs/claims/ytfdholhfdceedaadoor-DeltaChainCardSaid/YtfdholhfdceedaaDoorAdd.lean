/- delta's reader: one operation. -/
import Derived.Test.YtfdholhfdceedaaDoorRdr
namespace Go.Proofs.YtfdholhfdceedaaDoor
open Go.RowKit

def addEnd (a0 a1 : Addr) (r : Nat) (d : ByteArray) (w : World) (x : Except Int (List UInt8 × Nat)) (e : Ending) (w' : World) : Prop :=
  ButAt w.heap.size r w w' ∧ match x with
  | .ok (x, k) => e = .returned (encB x) ∧ RdAt r d k w'
  | .error c => e = boom (if c = 10 then a0 else a1)

theorem ButAt.then {r : Nat} {a b c : World} (h : ButAt a.heap.size r a b) (k : ButAt b.heap.size r b c) : ButAt a.heap.size r a c :=
  ⟨k.os.trans h.os, k.tape.trans h.tape, k.output.trans h.output, Nat.le_trans h.size k.size, fun i hi hb => (k.block i (Nat.lt_of_lt_of_le hi h.size) hb).trans (h.block i hi hb)⟩

/-- the sentinels do not lie in the reader -/
def Apart (a0 a1 : Addr) (r : Nat) : Prop := ∀ k, k = 1 ∨ k = 2 ∨ k = a0.block ∨ k = a1.block → k ≠ r

theorem Sents.but {a0 a1 : Addr} {r : Nat} {W W' : World} (h : Sents a0 a1 W) (hap : Apart a0 a1 r) (hb : ButAt W.heap.size r W W') : Sents a0 a1 W' :=
  h.kept fun k hk => hb.block k (h.lt k hk) (hap k hk)

theorem demand_yes {a0 a1 : Addr} (c : Bool) (w : World) (hS : Sents a0 a1 w) (hc : c = true) :
    Calls Tryd.prog 30 #[.bool c] w fun e w' => e = .returned (.tuple #[]) ∧ w = w' := by
  subst hc; exact demand_any true w hS
theorem demand_no {a0 a1 : Addr} (c : Bool) (w : World) (hS : Sents a0 a1 w) (hc : c = false) :
    Calls Tryd.prog 30 #[.bool c] w fun e w' => e = boom a1 ∧ w = w' := by
  subst hc; exact demand_any false w hS

set_option maxRecDepth 100000 in
set_option maxHeartbeats 2000000 in
theorem radd_any {a0 a1 : Addr} (r : Nat) (o d : ByteArray) (a : Nat) (w : World) (ho : o.size ≤ 8192) (hd : d.size ≤ 9223372036854775000) (ha : a ≤ d.size) (hS : Sents a0 a1 w) (hap : Apart a0 a1 r) (hr : RdAt r d a w) :
    Calls Tryd.prog 32 #[.pointer (some ⟨r, 0, none⟩), .string o] w (addEnd a0 a1 r d w (opAt o.data.toList d.data.toList a)) := by
  have HS := Lib.hid hS
  have HR := Lib.hid hr
  have HA := Lib.hid hap
  clear hS hr hap
  obtain ⟨X, hX⟩ : ∃ X, opAt o.data.toList d.data.toList a = X := ⟨_, rfl⟩
  rw [hX]
  have HX := Lib.hid hX; clear hX
  go_enter Tryd.func32, Tryd.ntmps32
  go_wp2_with fail
  refine (rnum_any r d a _ hd ha HS.out HR.out).mono ?_
  intro e w1 hp1
  obtain ⟨R1, hR1⟩ : ∃ R1, intAt d.data.toList a = R1 := ⟨_, rfl⟩
  rw [hR1] at hp1
  cases R1 with
  | none =>
    have hx : X = .error 10 := by rw [← HX.out]; unfold opAt; rw [hR1]
    obtain ⟨hb1, rfl⟩ := hp1
    subst hx
    exact ⟨rfl, hb1, rfl⟩
  | some p =>
    obtain ⟨n, k⟩ := p
    obtain ⟨hb1, rfl, hr1⟩ := hp1
    have hk := intAt_le (by simpa using ha) hR1
    have hS1 := HS.out.but HA.out hb1
    have HR1 := Lib.hid hR1; clear hR1
    have HB1 := Lib.hid hb1; clear hb1
    have Hr1 := Lib.hid hr1; clear hr1
    go_wp2_with fail
    by_cases hn : n < 0
    · refine (demand_no _ _ hS1 (by simp; omega)).mono ?_
      rintro e w2 ⟨rfl, rfl⟩
      have hx : X = .error 190 := by rw [← HX.out]; unfold opAt; rw [HR1.out]; simp [hn]
      subst hx
      exact ⟨rfl, HB1.out, rfl⟩
    · refine (demand_yes _ _ hS1 (by simp; omega)).mono ?_
      rintro e w2 ⟨rfl, rfl⟩
      by_cases hz : n = 0
      · subst hz
        go_wp2_with fail
        refine (rtext_any r d k _ hd (by have := hk.2.1; simpa using this) hS1 Hr1.out).mono ?_
        intro e w2 hp2
        obtain ⟨R2, hR2⟩ : ∃ R2, strAt d.data.toList k = R2 := ⟨_, rfl⟩
        rw [hR2] at hp2
        cases R2 with
        | none =>
          have hx : X = .error 10 := by rw [← HX.out]; unfold opAt; rw [HR1.out]; simp [hR2]
          obtain ⟨hb2, rfl⟩ := hp2
          subst hx
          exact ⟨rfl, HB1.out.then hb2, rfl⟩
        | some p2 =>
          obtain ⟨x, k2⟩ := p2
          obtain ⟨hb2, rfl, hr2⟩ := hp2
          have hS2 := hS1.but HA.out hb2
          have HB2 := Lib.hid (HB1.out.then hb2); clear hb2
          have Hr2 := Lib.hid hr2; clear hr2
          have HX2 : Hid (X = if x = [] then .error 190 else .ok (x, k2)) := Lib.hid (by rw [← HX.out]; unfold opAt; rw [HR1.out]; simp [hR2])
          clear hR2
          cases hx0 : x with
          | nil =>
            subst hx0
            have hx : X = .error 190 := by rw [HX2.out]; rfl
            subst hx
            unfold encB
            go_wp2_with fail
            refine (demand_no _ _ hS2 (by simp)).mono ?_
            rintro e w3 ⟨rfl, rfl⟩
            exact ⟨rfl, HB2.out, rfl⟩
          | cons y l =>
            have hx : X = .ok (y :: l, k2) := by rw [HX2.out, hx0]; rfl
            clear hx0 HX2
            subst hx
            unfold encB
            go_wp2_with fail
            refine (demand_yes _ _ hS2 (by simp)).mono ?_
            rintro e w3 ⟨rfl, rfl⟩
            go_wp2
            go_ret
            exact ⟨HB2.out, rfl, Hr2.out⟩
      · go_wp2_with fail
        refine (rnum_any r d k _ hd (by have := hk.2.1; simpa using this) hS1 Hr1.out).mono ?_
        intro e w2 hp2
        obtain ⟨R2, hR2⟩ : ∃ R2, intAt d.data.toList k = R2 := ⟨_, rfl⟩
        rw [hR2] at hp2
        cases R2 with
        | none =>
          have hx : X = .error 10 := by rw [← HX.out]; unfold opAt; rw [HR1.out]; simp only []; rw [if_neg (by omega), if_neg hz, hR2]
          obtain ⟨hb2, rfl⟩ := hp2
          subst hx
          exact ⟨rfl, HB1.out.then hb2, rfl⟩
        | some p2 =>
          obtain ⟨off, k2⟩ := p2
          obtain ⟨hb2, rfl, hr2⟩ := hp2
          have hk2 := intAt_le hk.2.1 hR2
          have hS2 := hS1.but HA.out hb2
          have HB2 := Lib.hid (HB1.out.then hb2); clear hb2
          have Hr2 := Lib.hid hr2; clear hr2
          have HX2 : Hid (X = if 0 ≤ off ∧ off + n ≤ (o.size : Int) then .ok ((o.data.toList.drop off.toNat).take n.toNat, k2) else .error 190) := Lib.hid (by rw [← HX.out]; unfold opAt; rw [HR1.out]; simp only []; rw [if_neg (by omega), if_neg hz, hR2]; rfl)
          clear hR2
          by_cases h1 : 0 ≤ off
          · obtain ⟨m, rfl⟩ : ∃ m : Nat, off = m := ⟨off.toNat, by omega⟩
            obtain ⟨j, rfl⟩ : ∃ j : Nat, n = j := ⟨n.toNat, by omega⟩
            by_cases h2 : m ≤ o.size
            · by_cases h3 : m + j ≤ o.size
              · go_wp2_with fail
                refine (demand_yes _ _ hS2 (by simp <;> omega)).mono ?_
                rintro e w3 ⟨rfl, rfl⟩
                have hx : X = .ok ((o.data.toList.drop m).take j, k2) := by rw [HX2.out, if_pos (by omega)]; rfl
                subst hx
                go_wp2
                go_ret
                exact ⟨HB2.out, ret_str (by rw [extract_mk, Nat.add_sub_cancel_left]), Hr2.out⟩
              · go_wp2_with fail
                refine (demand_no _ _ hS2 (by simp <;> omega)).mono ?_
                rintro e w3 ⟨rfl, rfl⟩
                have hx : X = .error 190 := by rw [HX2.out, if_neg (by omega)]
                subst hx
                exact ⟨rfl, HB2.out, rfl⟩
            · go_wp2_with fail
              refine (demand_no _ _ hS2 (by simp <;> omega)).mono ?_
              rintro e w3 ⟨rfl, rfl⟩
              have hx : X = .error 190 := by rw [HX2.out, if_neg (by omega)]
              subst hx
              exact ⟨rfl, HB2.out, rfl⟩
          · go_wp2_with fail
            refine (demand_no _ _ hS2 (by simp <;> omega)).mono ?_
            rintro e w3 ⟨rfl, rfl⟩
            have hx : X = .error 190 := by rw [HX2.out, if_neg (by omega)]
            subst hx
            exact ⟨rfl, HB2.out, rfl⟩
end Go.Proofs.YtfdholhfdceedaaDoor

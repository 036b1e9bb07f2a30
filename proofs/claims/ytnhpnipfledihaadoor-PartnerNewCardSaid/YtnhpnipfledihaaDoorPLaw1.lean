/- The law PartnerNew. -/
import Derived.Test.YtnhpnipfledihaaDoorPLawC
namespace Go.Proofs.YtnhpnipfledihaaDoor
open Go.RowKit

set_option maxRecDepth 100000 in
set_option maxHeartbeats 2000000 in
theorem receive_nil (m : Msg) (w : World) :
    Calls Tryd.prog 18 #[.pointer none, m.enc] w fun e w' => e = .returned (.slice none 0 0) ∧ Below w.heap.size w w' := by
  have HB : Hid (∀ o n, Below w.heap.size w ((w.alloc o).drewN n)) := Lib.hid (fun o n => ((Below.refl _ w).alloc (Nat.le_refl _) o).drewN n)
  go_enter Tryd.func18, Tryd.ntmps18
  unfold Msg.enc
  go_wp2_with fail
  go_quiet (fail)
  go_wp2
  go_ret
  exact ⟨rfl, HB.out _ _⟩

theorem fits_yes {id : Int} (h1 : 1 ≤ id) (h2 : id ≤ 8) : ¬ (id < 1 ∨ 8 < id) := by omega

set_option maxRecDepth 100000 in
set_option maxHeartbeats 4000000 in
theorem lawNew_any {a0 a1 : Addr} (id : Int) (w : World) (hS : Sents a0 a1 w) (hsh : ShiftsAt w) :
    Calls Tryd.prog 4 #[.int .i64 id] w fun e w' => e = .returned (.bool true) ∧ Below w.heap.size w w' := by
  have HSN := Lib.hid (sane_any w hS hsh)
  have hdl : ∀ wy, Hid (Calls Tryd.prog 24 #[.int .i64 1, .int .i64 1, .int .i64 1, .string ⟨#[]⟩, .string ⟨#[97]⟩] wy fun e w' => e = .returned (deliverOf 1 1 1 [] [97]).enc ∧ Below wy.heap.size wy w') := fun wy => Lib.hid (deliver_any 1 1 1 [] [97] wy (by simp) (by simp))
  generalize deliverOf 1 1 1 [] [97] = m at *
  clear hS hsh
  by_cases h1 : 1 ≤ id
  · by_cases h2 : id ≤ 8
    · go_enter Tryd.func4, Tryd.ntmps4
      go_wp2_with fail
      refine HSN.out.mono ?_
      rintro e w1 ⟨rfl, hb1⟩
      go_wp2_with fail
      refine (new_in id _ h1 h2).mono ?_
      rintro e w2 ⟨rfl, hp2, hb2⟩
      have HB2 := Lib.hid (below_then hb1 hb2)
      have HIT := Lib.hid (items_any _ _ _ id [] 0 _ hp2)
      have hne : w1.heap.size + 2 ≠ 0 := by omega
      clear hb1 hb2 hp2 HSN
      go_wp2_with fail
      refine HIT.out.mono ?_
      rintro e w3 ⟨vi, rfl, hit, hbi⟩
      obtain ⟨A, cap, rfl, _, _, _⟩ := hit.slice
      have HB3 := Lib.hid (below_then HB2.out hbi)
      clear hit hbi
      go_wp2_with fail
      refine (text_nil 1 _).mono ?_
      rintro e w4 ⟨rfl, rfl⟩
      go_wp2_with fail
      refine (items_nil _).mono ?_
      rintro e w4 ⟨rfl, rfl⟩
      go_wp2_with fail
      refine (hdl _).out.mono ?_
      rintro e w4 ⟨rfl, hb4⟩
      have HB4 := Lib.hid (below_then HB3.out hb4)
      clear hb4
      go_wp2_with fail
      refine (receive_nil m _).mono ?_
      rintro e w5 ⟨rfl, hb5⟩
      have HB5 := Lib.hid (below_then HB4.out hb5)
      clear hb5
      go_wp2
      go_ret
      exact ⟨rfl, HB5.out⟩
    · go_enter Tryd.func4, Tryd.ntmps4
      go_wp2_with fail
      refine HSN.out.mono ?_
      rintro e w1 ⟨rfl, hb1⟩
      have HB3 := Lib.hid hb1
      clear hb1 HSN
      go_wp2_with fail
      refine (new_out id _ (.inr (by omega))).mono ?_
      rintro e w2 ⟨rfl, rfl⟩
      go_wp2_with fail
      refine (text_nil 1 _).mono ?_
      rintro e w4 ⟨rfl, rfl⟩
      go_wp2_with fail
      refine (items_nil _).mono ?_
      rintro e w4 ⟨rfl, rfl⟩
      go_wp2_with fail
      refine (hdl _).out.mono ?_
      rintro e w4 ⟨rfl, hb4⟩
      have HB4 := Lib.hid (below_then HB3.out hb4)
      clear hb4
      go_wp2_with fail
      refine (receive_nil m _).mono ?_
      rintro e w5 ⟨rfl, hb5⟩
      have HB5 := Lib.hid (below_then HB4.out hb5)
      clear hb5
      go_wp2
      go_ret
      exact ⟨ret_bool (by simp; omega), HB5.out⟩
  · go_enter Tryd.func4, Tryd.ntmps4
    go_wp2_with fail
    refine HSN.out.mono ?_
    rintro e w1 ⟨rfl, hb1⟩
    have HB3 := Lib.hid hb1
    clear hb1 HSN
    go_wp2_with fail
    refine (new_out id _ (.inl (by omega))).mono ?_
    rintro e w2 ⟨rfl, rfl⟩
    go_wp2_with fail
    refine (text_nil 1 _).mono ?_
    rintro e w4 ⟨rfl, rfl⟩
    go_wp2_with fail
    refine (items_nil _).mono ?_
    rintro e w4 ⟨rfl, rfl⟩
    go_wp2_with fail
    refine (hdl _).out.mono ?_
    rintro e w4 ⟨rfl, hb4⟩
    have HB4 := Lib.hid (below_then HB3.out hb4)
    clear hb4
    go_wp2_with fail
    refine (receive_nil m _).mono ?_
    rintro e w5 ⟨rfl, hb5⟩
    have HB5 := Lib.hid (below_then HB4.out hb5)
    clear hb5
    go_wp2
    go_ret
    exact ⟨rfl, HB5.out⟩
end Go.Proofs.YtnhpnipfledihaaDoor

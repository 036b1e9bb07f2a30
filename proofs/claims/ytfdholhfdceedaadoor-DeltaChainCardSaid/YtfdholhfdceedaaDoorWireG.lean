import Derived.Test.YtfdholhfdceedaaDoorWireE
namespace Go.Proofs.YtfdholhfdceedaaDoor
open Go.RowKit

def putStr (x : List UInt8) : List UInt8 := putInt x.length ++ x

theorem putInt_len {n : Int} (h1 : -4611686018427387903 ≤ n) (h2 : n ≤ 4611686018427387903) : 0 < (putInt n).length ∧ (putInt n).length ≤ 9 := by
  have hz := zig_lt h1 h2
  obtain ⟨bs, b, e, hc, hb, hn, hl, hv⟩ := groups_form 8 (zig n) (Nat.lt_trans hz (by decide))
  have e9 : groupsF 9 (zig n) = groupsF 8 (zig n) := by
    have := groups_of_val bs b 9 hc hb hn (by omega)
    rw [hv] at this; rw [this, e]
  rw [putInt, e9, e]; simp; omega

set_option maxHeartbeats 400000 in
theorem refPutString_any (x : List UInt8) (w : World) (hx : x.length ≤ 65536) :
    Calls Tryd.prog 38 #[.string ⟨x.toArray⟩] w fun e w' => e = .returned (putTup (putStr x)) ∧ Below w.heap.size w w' := by
  have hl := putInt_len (n := (x.length : Int)) (by omega) (by omega)
  have hfin : putTup (putStr x) = .tuple #[.string ⟨(putInt x.length ++ x).toArray⟩, .int .i64 0] := rfl
  rw [hfin]
  clear hfin
  obtain ⟨P, hP⟩ : ∃ P, putInt (x.length : Int) = P := ⟨_, rfl⟩
  rw [hP] at hl ⊢
  have HP := Lib.hid hP; clear hP
  obtain ⟨hl1, hl2⟩ := hl
  go_enter Tryd.func38, Tryd.ntmps38
  go_wp2_with fail
  refine (refPutInt_any x.length _ (by omega) (by omega)).mono ?_
  rw [HP.out]
  unfold putTup
  rintro e w' ⟨rfl, hb⟩
  go_wp2
  go_ret2
  exact ⟨by rw [← str_add]; rfl, hb⟩

set_option maxHeartbeats 400000 in
theorem number_any (n : Int) (w : World) (h1 : -4611686018427387903 ≤ n) (h2 : n ≤ 4611686018427387903) :
    Calls Tryd.prog 23 #[.int .i64 n] w fun e w' => e = .returned (.string ⟨(putInt n).toArray⟩) ∧ Below w.heap.size w w' := by
  go_enter Tryd.func23, Tryd.ntmps23
  go_wp2_with fail
  refine (refPutInt_any n _ h1 h2).mono ?_
  unfold putTup
  rintro e w' ⟨rfl, hb⟩
  go_wp2
  go_ret
  exact ⟨rfl, hb⟩

end Go.Proofs.YtfdholhfdceedaaDoor

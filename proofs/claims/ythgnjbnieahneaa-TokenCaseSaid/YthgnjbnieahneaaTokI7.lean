import Derived.Test.YthgnjbnieahneaaTokI4
import Derived.Test.YthgnjbnieahneaaTokI6
import Derived.Deep.RegionWith
namespace Go.Proofs.Ythgnjbnieahneaa
open Go.RowKit

/-- block B holds the bytes ys, and they may be written -/
def BytesAt (W : World) (B : Nat) (ys : List UInt8) : Prop := ∀ j (h : j < ys.length), W.cell? ⟨B, j, none⟩ = some (.int .u8 (ys[j].toNat : Int)) ∧ W.frozen? ⟨B, j, none⟩ = false

theorem BytesAt.set {W : World} {B : Nat} {ys : List UInt8} (h : BytesAt W B ys) (k : Nat) (hk : k < ys.length) (c : UInt8) (n : Int) (hn : (c.toNat : Int) = n) : BytesAt (W.setCell ⟨B, k, none⟩ (.int .u8 n)) B (ys.set k c) := by
  intro j hj
  rw [List.length_set] at hj
  rw [World.frozen?_setCell]
  refine ⟨?_, (h j hj).2⟩
  by_cases e : k = j
  · subst e
    rw [World.cell?_setCell_same' _ _ _ (by rw [(h k hk).1]; rfl)]
    simp [hn]
  · rw [World.cell?_setCell_other W ⟨B, k, none⟩ ⟨B, j, none⟩ _ (fun e' => e (by injection e')), (h j hj).1]
    simp [e]

theorem bytesAt_new (w : World) (x : List UInt8) (cp : Nat) : BytesAt (w.alloc (.cells (bytesRow ⟨x.toArray⟩ cp) 5 ((bytesRow ⟨x.toArray⟩ cp).size, (bytesRow ⟨x.toArray⟩ cp).size + 1))).drew w.heap.size x := by
  intro j hj
  show (World.alloc _ _).cell? _ = _ ∧ (World.alloc _ _).frozen? _ = _
  rw [World.cell?_alloc_mark, World.frozen?_alloc_mark, bytesRow_at _ _ _ (by simpa using hj)]
  refine ⟨by simp, ?_⟩
  have : j < (bytesRow ⟨x.toArray⟩ cp).size := by simp [bytesRow]; omega
  simp; omega

theorem case_byte (c : UInt8) (n : Int) (h : ((97 : Int) ≤ c.toNat ∧ (c.toNat : Int) ≤ 122 ∧ n = c.toNat - 97 + 65) ∨ ((65 : Int) ≤ c.toNat ∧ (c.toNat : Int) ≤ 90 ∧ n = c.toNat - 65 + 97)) : ∃ d : UInt8, (d.toNat : Int) = n ∧ alike c d := by
  have e : (UInt8.ofNat n.toNat).toNat = n.toNat := by rw [UInt8.toNat_ofNat']; omega
  exact ⟨UInt8.ofNat n.toNat, by rw [e]; omega, alike_swap (by rw [e]; omega)⟩

def CaseTo (x ys : List UInt8) (k : Nat) : Prop := ∀ i (h : i < x.length) (h' : i < ys.length), alike x[i] ys[i] ∧ (k ≤ i → x[i] = ys[i])
theorem case_keep {x ys : List UInt8} {k : Nat} (h : Hid (CaseTo x ys k)) : Hid (CaseTo x ys (k + 1)) :=
  Lib.hid (fun i h1 h2 => ⟨(h.out i h1 h2).1, fun h3 => (h.out i h1 h2).2 (by omega)⟩)
theorem case_set {x ys : List UInt8} {k : Nat} (h : Hid (CaseTo x ys k)) (hk : k < x.length) (hy : k < ys.length) {c : UInt8} (ha : alike ys[k] c) : Hid (CaseTo x (ys.set k c) (k + 1)) :=
  Lib.hid (fun i h1 h2 => by
    rw [List.length_set] at h2
    by_cases e : k = i
    · subst e
      refine ⟨?_, fun h3 => by omega⟩
      rw [List.getElem_set_self, (h.out k hk hy).2 (Nat.le_refl _)]
      exact ha
    · rw [List.getElem_set_ne e]
      exact ⟨(h.out i h1 h2).1, fun h3 => (h.out i h1 h2).2 (by omega)⟩)

set_option maxHeartbeats 1000000 in
theorem law7_any (s : ByteArray) (which : Int) (hs : s.size ≤ 9223372036854775807) (w : World) :
    Calls Try.prog 9 #[.string s, .int .i64 which] w fun e w' => e = .returned (.bool true) ∧ Below w.heap.size w w' := by
  go_enter Try.func9, Try.ntmps9
  go_wp2_with fail
  refine (sane_any _).mono ?_
  rintro e w1 ⟨rfl, hb1⟩
  go_wp2_with fail
  refine (short_any s _ hs).mono ?_
  rintro e w2 ⟨rfl, rfl⟩
  have hc := cut600_len s.data.toList
  have HX := Lib.hid (rfl : cut600 s.data.toList = cut600 s.data.toList)
  generalize hx0 : cut600 s.data.toList = x at *
  have HX0 := Lib.hid hx0
  clear hx0 HX
  have hx : (⟨x.toArray⟩ : ByteArray).size ≤ 274877906944 := by rw [mk_size]; omega
  have hcv := run_bytes_of_string w1 9 32 5 ⟨x.toArray⟩ Try.underlying9 Try.underlying32 Try.underlying5
  go_wp2_with fail
  obtain ⟨cp, hcp⟩ : ∃ cp, grownCap w1 x.length 0 5 = cp := ⟨_, rfl⟩
  rw [hcp]
  have HBy := Lib.hid (bytesAt_new w1 x cp)
  clear hcp hcv
  obtain ⟨B, hB⟩ : ∃ B, w1.heap.size = B := ⟨_, rfl⟩
  have HB := Lib.hid hB
  have hb2 : Below w1.heap.size w1 (w1.alloc (.cells (bytesRow ⟨x.toArray⟩ cp) 5 ((bytesRow ⟨x.toArray⟩ cp).size, (bytesRow ⟨x.toArray⟩ cp).size + 1))).drew := ((Below.refl _ w1).alloc (Nat.le_refl _) _).drew
  rw [hB] at HBy
  rw [hB]
  clear hB
  go_loopw [7] (fun p wr => ∃ (k : Nat) (ys : List UInt8), p = .int .i64 k ∧ k ≤ x.length ∧ Hid (BytesAt wr B ys) ∧ Hid (ys.length = x.length) ∧ Hid (CaseTo x ys k) ∧ Below w1.heap.size w1 wr)
    (fun p _ => x.length - (intOf p).toNat)
  case atStart => exact ⟨0, x, rfl, by omega, HBy, Lib.hid rfl, Lib.hid (fun i _ _ => ⟨alike_refl _, fun _ => rfl⟩), hb2⟩
  case round =>
    obtain ⟨k, ys, rfl, hk, hby, hyl, hal, hb3⟩ := hrel
    by_cases hlt : k < x.length
    · have hly : k < ys.length := by rw [hyl.out]; exact hlt
      have hcell := (hby.out k hly).1
      have hfr := (hby.out k hly).2
      go_wp2
      all_goals go_roundw
      all_goals first
        | (case rel => exact ⟨k + 1, ys, by go_num, by omega, hby, hyl, case_keep hal, hb3⟩)
        | (case rel =>
            obtain ⟨c, hn, ha⟩ := case_byte ys[k] (ys[k].toNat - 97 + 65) (.inl ⟨by omega, by omega, rfl⟩)
            exact ⟨k + 1, ys.set k c, by go_num, by omega, Lib.hid (hby.out.set k hly c _ hn), Lib.hid (by rw [List.length_set, hyl.out]), case_set hal hlt hly ha, hb3.setCell (by rw [HB.out]; exact Nat.le_refl _) _⟩)
        | (case rel =>
            obtain ⟨c, hn, ha⟩ := case_byte ys[k] (ys[k].toNat - 65 + 97) (.inr ⟨by omega, by omega, rfl⟩)
            exact ⟨k + 1, ys.set k c, by go_num, by omega, Lib.hid (hby.out.set k hly c _ hn), Lib.hid (by rw [List.length_set, hyl.out]), case_set hal hlt hly ha, hb3.setCell (by rw [HB.out]; exact Nat.le_refl _) _⟩)
        | (case measure => simp [intOf]; omega)
    · go_wp2
      have hyy : (⟨ys.toArray⟩ : ByteArray).size ≤ 274877906944 := by rw [mk_size, hyl.out]; omega
      have hsame : sameB (wordsOf x) (wordsOf ys) = true := by
        apply same_eq
        exact wordsGo_alike x ys [] hyl.out.symm (fun i h h' => (hal.out i h h').1)
      have HS := Lib.hid hsame
      have hsh : ∀ W, Calls Try.prog 12 #[.string s] W fun e w' => e = .returned (.string ⟨x.toArray⟩) ∧ W = w' := fun W => by
        have := short_any s W hs; rwa [HX0.out] at this
      have HSH := Lib.hid hsh
      have hd : Below wr.heap.size wr wr.drew := (Below.refl _ wr).drew
      have hcv : ∀ W, Below wr.heap.size wr W → (convert 32 9 (.slice (some ⟨B, 0, none⟩) x.length cp)).run Try.prog W = .ok (.string ⟨ys.toArray⟩) W := fun W hW => by
        rw [← hyl.out]
        exact run_convert_bytes_back _ 32 9 5 ⟨B, 0, none⟩ cp ys Try.underlying32 Try.underlying5 Try.underlying9 (fun j hj => by
          rw [addr_add]
          have := (hby.out j hj).1
          exact (hW.cell (World.block_lt_of_cell? wr _ this)).trans this)
      clear hsh hsame
      go_region_with (first | (go_at_call 12; refine (HSH.out _).mono ?_; rintro e w' ⟨rfl, rfl⟩) | (go_at_call_of 14 (Value.string ⟨x.toArray⟩); refine (Words_any _ hx _).mono ?_; intro e w3 hp3; obtain ⟨v3, rfl, hs3, hbx⟩ := hp3.strs hx; rw [mk_data] at hs3; have hbw := below_then hd hbx) | (go_at_call_of 14 (Value.string ⟨ys.toArray⟩); refine (Words_any _ hyy _).mono ?_; intro e w4 hp4; obtain ⟨v4, rfl, hs4, hbz⟩ := hp4.strs hyy; rw [mk_data] at hs4; have hbw2 := below_then hbw hbz; have hs5 := hs3.below hbz) | (go_at_call 13; refine (same_any _ _ (wordsOf x) (wordsOf ys) _ hs5 hs4).mono ?_; rw [HS.out]; rintro e w5 ⟨rfl, hb5⟩; have hbw3 := below_then hbw2 hb5))
      all_goals go_wp2
      all_goals go_ret
      all_goals exact ⟨rfl, below_then hb1 (below_then hb3 hbw3)⟩
end Go.Proofs.Ythgnjbnieahneaa

import Derived.Test.YthgnjbnieahneaaTokF
import Derived.Test.YthgnjbnieahneaaShelf
namespace Go.Proofs.Ythgnjbnieahneaa
open Go.RowKit

theorem words_count_le (l : List UInt8) : (wordsOf l).length ≤ 2 * l.length := by have := words_lens l; omega

theorem Words_any (s : ByteArray) (hsz : s.size ≤ 274877906944) (w : World) : Calls Try.prog 14 #[.string s] w (WordsPost s w) :=
  callsIn_wide.1 (Words_in 3 (by omega) s (by omega) (by have := words_count_le s.data.toList; simp at this; omega) w)

theorem WordsPost.strs {s : ByteArray} {w w' : World} {e : Ending} (h : WordsPost s w e w') (hsz : s.size ≤ 274877906944) : ∃ v, e = .returned v ∧ StrsAt w' v (wordsOf s.data.toList) ∧ Below w.heap.size w w' := by
  obtain ⟨v, he, ho, hb⟩ := h
  exact ⟨v, he, strsAt_of_owns ho (by have := words_count_le s.data.toList; simp at this; omega), hb⟩

theorem join_calls (v : Value) (xs : List (List UInt8)) (w : World) (h : StrsAt w v xs) (hlen : (normOf xs).length ≤ 140737488355328) :
    Calls Try.prog 23 #[v, .string ⟨#[32]⟩] w fun e w' => e = .returned (.string ⟨(normOf xs).toArray⟩) ∧ Below w.heap.size w w' := by
  obtain ⟨a, c, rfl, hcp, hl, hc⟩ := h
  by_cases h0 : xs = []
  · subst h0
    exact (Try.strings_Join_none a c ⟨#[32]⟩ w).mono fun e w' ⟨he, hw⟩ => ⟨by rw [he]; rfl, by rw [hw]; exact Below.refl _ _⟩
  · obtain ⟨b, off, rfl, hx⟩ := hc 0 (List.length_pos_iff.2 h0)
    have hm : (xs.map (fun x => (⟨x.toArray⟩ : ByteArray))).map (fun y => y.data.toList) = xs := by rw [List.map_map]; simp [Function.comp_def]
    have hj := Try.strings_Join b off c (xs.map (fun x => (⟨x.toArray⟩ : ByteArray))) ⟨#[32]⟩ w (fun j x hjx => by
      rw [List.getElem?_map] at hjx
      obtain ⟨hlt, hget⟩ := List.getElem?_eq_some_iff.1 (show xs[j]? = some xs[j]! by
        cases hh : xs[j]? with
        | none => rw [hh] at hjx; simp at hjx
        | some y => rw [List.getElem!_eq_getElem?_getD, hh]; rfl)
      obtain ⟨b', off', he, hcell⟩ := hc j hlt
      cases he
      rw [hcell]; simp [List.getElem?_eq_getElem hlt] at hjx; rw [← hjx]; rfl) (World.block_lt_of_cell? w _ hx) (by rw [List.length_map]; omega) (by rw [List.length_map]; exact hcp) (by rw [hm]; exact hlen)
    rw [List.length_map, hm] at hj
    exact hj

set_option maxHeartbeats 400000 in
theorem Normal_any (s : ByteArray) (hsz : s.size ≤ 274877906944) (w : World) :
    Calls Try.prog 16 #[.string s] w fun e w' => e = .returned (.string ⟨(normOf (wordsOf s.data.toList)).toArray⟩) ∧ Below w.heap.size w w' := by
  have hlen : (normOf (wordsOf s.data.toList)).length ≤ 140737488355328 := by
    have h1 := words_lens s.data.toList
    have h2 := normOf_len (wordsOf s.data.toList)
    simp at h1; omega
  have HL := Lib.hid hlen; clear hlen
  go_enter Try.func16, Try.ntmps16
  go_wp2_with fail
  refine (Words_any s hsz _).mono ?_
  intro e w1 hp
  obtain ⟨v, rfl, hs, hb⟩ := hp.strs hsz
  go_wp2_with fail
  refine (join_calls v _ _ hs HL.out).mono ?_
  rintro e w2 ⟨rfl, hb2⟩
  go_wp2
  go_ret
  exact ⟨rfl, hb.trans (hb2.mono hb.size)⟩

/-- what the reference's loop has put together -/
def normTo (ws : List (List UInt8)) (k : Nat) : List UInt8 := normOf (ws.take k)
theorem normTo_zero {ws : List (List UInt8)} (h : 0 < ws.length) : normTo ws 1 = ws[0] := by
  cases ws with
  | nil => simp at h
  | cons x r => simp [normTo, normOf, Lib.join_one]
theorem normTo_succ {ws : List (List UInt8)} {k : Nat} (h0 : 0 < k) (h : k < ws.length) : normTo ws (k + 1) = normTo ws k ++ [32] ++ ws[k] := by
  cases ws with
  | nil => simp at h
  | cons x r =>
    cases k with
    | zero => omega
    | succ k =>
      have hk : k < r.length := by simpa using h
      simp only [normTo, normOf, List.take_succ_cons, Lib.join_cons]
      rw [Lib.joinTail_take_succ [32] r k r[k] (List.getElem?_eq_getElem hk)]
      simp

theorem len_le_lens : ∀ {ws : List (List UInt8)} {x : List UInt8}, x ∈ ws → x.length ≤ Lib.lens ws
  | y :: r, x, h => by
    have e : Lib.lens (y :: r) = y.length + Lib.lens r := by simp [Lib.lens]
    rcases List.mem_cons.1 h with rfl | h
    · omega
    · have := len_le_lens h; omega
theorem normTo_len (ws : List (List UInt8)) (k : Nat) : (normTo ws k).length ≤ Lib.lens ws + ws.length := by
  have h1 := normOf_len (ws.take k)
  have h2 := Lib.lens_take_le ws k
  have h3 : (ws.take k).length ≤ ws.length := List.length_take_le' _ _
  unfold normTo; omega

set_option maxHeartbeats 400000 in
theorem refNormal_any (s : ByteArray) (hsz : s.size ≤ 274877906944) (w : World) :
    Calls Try.prog 17 #[.string s] w fun e w' => e = .returned (.string ⟨(normOf (wordsOf s.data.toList)).toArray⟩) ∧ Below w.heap.size w w' := by
  go_enter Try.func17, Try.ntmps17
  go_wp2_with fail
  refine (refWords_any s (by omega) _).mono ?_
  intro e w1 hp
  obtain ⟨v, rfl, hs, hb⟩ := hp.strs hsz
  obtain ⟨xs, hxs⟩ : ∃ xs, wordsOf s.data.toList = xs := ⟨_, rfl⟩
  rw [hxs] at hs
  have hls : Lib.lens xs + xs.length ≤ 549755813888 := by have := words_lens s.data.toList; rw [hxs] at this; simp at this; omega
  have HX := Lib.hid hxs; clear hxs hp
  obtain ⟨a1, c1, rfl, hcp, hl1, hc1⟩ := hs
  have H1 := Lib.hid hc1; clear hc1 hcp
  go_wp2
  go_loop [4, 5] (fun o p => ∃ (k : Nat), p = .int .i64 k ∧ k ≤ xs.length ∧ o = .string ⟨(normTo xs k).toArray⟩) (fun _ p => xs.length - (intOf p).toNat)
  case atStart => exact ⟨0, rfl, by omega, rfl⟩
  case round =>
    obtain ⟨k, rfl, hk, rfl⟩ := hrel
    by_cases hlt : k < xs.length
    · obtain ⟨b1, o1, rfl, hx⟩ := H1.out k hlt
      unfold encW at hx
      have hb1 : (normTo xs k).length ≤ 549755813888 := Nat.le_trans (normTo_len xs k) hls
      have hb2 : xs[k].length ≤ 549755813888 := by have := len_le_lens (List.getElem_mem hlt); omega
      by_cases hk0 : (0 : Int) < k
      · go_wp2
        go_round
        case rel => exact ⟨k + 1, by go_num, by omega, by rw [normTo_succ (by omega) hlt, ← str_add, ← str_add]⟩
        case measure => simp [intOf]; omega
      · have hk1 : (k : Int) ≤ 0 := by omega
        clear hk0
        go_wp2
        go_round
        case rel =>
          obtain rfl : k = 0 := by omega
          exact ⟨1, by go_num, by omega, by rw [normTo_zero hlt]; rfl⟩
        case measure => simp [intOf]; omega
    · go_wp2
      go_ret
      exact ⟨ret_str (by rw [HX.out, normTo, List.take_of_length_le (by omega)]), hb⟩

end Go.Proofs.Ythgnjbnieahneaa

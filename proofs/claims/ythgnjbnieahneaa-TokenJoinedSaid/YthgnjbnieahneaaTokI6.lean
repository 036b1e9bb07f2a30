import Derived.Test.YthgnjbnieahneaaTokI4
import Derived.Test.YthgnjbnieahneaaTokW
namespace Go.Proofs.Ythgnjbnieahneaa
open Go.RowKit

theorem src_of_owns {W : World} {base : Nat} {A : Option Addr} {n c : Nat} {xs : List (List UInt8)} (h : W.ownsRow base 9 1 (.slice A n c) xs.length (xs.map encW)) : n = xs.length ∧ Src W 1 A xs.length (xs.map encW) := by
  have hcells : ∀ g, (Value.slice A n c).ownBlock = some g → ∀ j u, (xs.map encW)[j]? = some u → W.cell? ((⟨g, 0, none⟩ : Addr).add j) = some u := fun g hg => h.cells hg
  rcases h.2 with ⟨hv, h0⟩ | ⟨g, cap, cur, hv, _⟩
  · cases hv; exact ⟨h0.symm, by simp, fun _ => h0, fun _ h => by cases h⟩
  · cases hv
    exact ⟨rfl, by simp, (fun h => by cases h), fun ad e => by cases e; exact hcells g rfl⟩
theorem owns_slice {W : World} {base : Nat} {e : TypeId} {size n : Nat} {v : Value} {xs : List Value} (h : W.ownsRow base e size v n xs) : ∃ A c, v = .slice A n c := by
  rcases h.2 with ⟨rfl, rfl⟩ | ⟨g, cap, cur, rfl, _⟩
  · exact ⟨none, 0, rfl⟩
  · exact ⟨_, _, rfl⟩
theorem one_strs (xs : List (List UInt8)) : ∀ u ∈ xs.map encW, u.oneCell' = true := by
  intro u hu; obtain ⟨x, _, rfl⟩ := List.mem_map.1 hu; rfl

theorem OwnsStrs.keep {W W' : World} {base : Nat} {v : Value} {xs : List (List UInt8)} (h : OwnsStrs W base v xs) (hb : Below W.heap.size W W') : OwnsStrs W' base v xs := by
  refine World.ownsRow.kept h ⟨hb.os, hb.tape, hb.output, hb.size, fun k hk _ => hb.block k hk⟩ (row := none) ?_
  cases v.ownBlock <;> simp

set_option maxHeartbeats 1000000 in
theorem law6_any (s t : ByteArray) (c0 : UInt8) (hs : s.size ≤ 9223372036854775807) (ht : t.size ≤ 9223372036854775807) (w : World) :
    Calls Try.prog 8 #[.string s, .string t, .int .u8 c0.toNat] w fun e w' => e = .returned (.bool true) ∧ Below w.heap.size w w' := by
  obtain ⟨i0, hi, hz0, hz1, hz2⟩ := info_parts infoStr
  go_enter Try.func8, Try.ntmps8
  go_wp2_with fail
  refine (sane_any _).mono ?_
  rintro e w1 ⟨rfl, hb1⟩
  go_wp2_with fail
  refine (short_any s _ hs).mono ?_
  rintro e w2 ⟨rfl, rfl⟩
  have hc := cut600_len s.data.toList
  generalize cut600 s.data.toList = x at *
  have hx : (⟨x.toArray⟩ : ByteArray).size ≤ 274877906944 := by rw [mk_size]; omega
  go_wp2_with fail
  refine (short_any t _ ht).mono ?_
  rintro e w2 ⟨rfl, rfl⟩
  have hc2 := cut600_len t.data.toList
  generalize cut600 t.data.toList = y at *
  have hy : (⟨y.toArray⟩ : ByteArray).size ≤ 274877906944 := by rw [mk_size]; omega
  go_wp2_with fail
  refine (part_any c0 _).mono ?_
  have hwx := words_count_le x
  have hwy := words_count_le y
  have key : ∃ (d : UInt8) (p : Bool) (n : Int), isPart c0 = p ∧ (p = true → n = 46) ∧ (p = false → n = c0.toNat) ∧ (d.toNat : Int) = n ∧ isPart d = false := by
    by_cases hp : isPart c0 = true
    · exact ⟨46, true, 46, hp, fun _ => rfl, (fun h => by cases h), rfl, by decide +kernel⟩
    · exact ⟨c0, false, c0.toNat, by simpa using hp, (fun h => by cases h), fun _ => rfl, rfl, by simpa using hp⟩
  obtain ⟨d, p, n, hp, hn1, hn2, hd, hdp⟩ := key
  rw [hp]
  have HJ := Lib.hid (words_joined hdp x y)
  have HP := Lib.hid hp
  have HD := Lib.hid hd
  clear hp hd hdp
  rintro e w2 ⟨rfl, rfl⟩
  cases p
  all_goals first
    | obtain rfl := hn2 rfl
    | obtain rfl := hn1 rfl
  all_goals
    clear hn1 hn2
    go_wp2_with fail
    refine (Words_any ⟨x.toArray⟩ hx _).mono ?_
    intro e w3 hp3
    obtain ⟨v3, rfl, ho3, hb3⟩ := hp3
    rw [mk_data] at ho3
    obtain ⟨A3, c3, rfl⟩ := owns_slice ho3
    have hs3 := (src_of_owns ho3).2
    have h63 : 0 + (wordsOf x).length ≤ maxLen := by unfold maxLen; omega
    have hby : (0 + (wordsOf x).length) * 16 ≤ 140737488355328 := by omega
    have hn0 : w.heap.size ≤ w3.heap.size := (below_then hb1 hb3).size
    go_wp2_with (at_builtin; refine wpList_append_src _ rfl _ _ 25 rfl w.heap.size 9 i0 (.string .empty) 1 16 Try.underlying25 hi hz0 hz1 hz2 rfl (by decide) (.slice none 0 0) 0 [] rfl (World.ownsRow_nil _ _ _ _) A3 (wordsOf x).length c3 _ rfl hs3 (one_strs _) h63 hby hn0 ?_; intro v4 w4 ho4 hg4)
    simp only [Nat.zero_add, List.nil_append] at ho4
    have hB4 : Below w.heap.size w w4 := (below_then hb1 hb3).grown hg4 hn0 (fun k e => by simp [Value.ownBlock] at e)
    refine (Words_any ⟨y.toArray⟩ hy _).mono ?_
    intro e w5 hp5
    obtain ⟨v5, rfl, ho5, hb5⟩ := hp5
    rw [mk_data] at ho5
    obtain ⟨A5, c5, rfl⟩ := owns_slice ho5
    have hs5 := (src_of_owns ho5).2
    have ho4' : OwnsStrs w5 w.heap.size v4 (wordsOf x) := OwnsStrs.keep ho4 hb5
    have hB5 := below_then hB4 hb5
    have h63b : (wordsOf x).length + (wordsOf y).length ≤ maxLen := by unfold maxLen; omega
    have hbyb : ((wordsOf x).length + (wordsOf y).length) * 16 ≤ 140737488355328 := by omega
    go_wp2_with (at_builtin; refine wpList_append_src _ rfl _ _ 25 rfl w.heap.size 9 i0 (.string .empty) 1 16 Try.underlying25 hi hz0 hz1 hz2 rfl (by decide) v4 (wordsOf x).length _ rfl ho4' A5 (wordsOf y).length c5 _ rfl hs5 (one_strs _) h63b hbyb hB5.size ?_; intro v6 w6 ho6 hg6; have hcv := conv_one w6 _ d HD.out)
    have hcat : (⟨x.toArray⟩ : ByteArray) ++ ⟨#[d]⟩ ++ ⟨y.toArray⟩ = ⟨(x ++ [d] ++ y).toArray⟩ := by
      rw [show (⟨#[d]⟩ : ByteArray) = ⟨[d].toArray⟩ from rfl, str_add, str_add]
    rw [hcat]
    have hz : (⟨(x ++ [d] ++ y).toArray⟩ : ByteArray).size ≤ 274877906944 := by rw [mk_size]; simp; omega
    refine (Words_any _ hz _).mono ?_
    intro e w7 hp7
    obtain ⟨v7, rfl, hs7, hb7⟩ := hp7.strs hz
    rw [mk_data, HJ.out] at hs7
    clear hcat hz hp7 hcv
    have ho6' : OwnsStrs w6 w.heap.size v6 (wordsOf x ++ wordsOf y) := by
      have := ho6; unfold OwnsStrs; rw [List.length_append, List.map_append]; exact this
    have hB6 : Below w.heap.size w w6 := hB5.grown hg6 hB5.size (fun k e => (World.ownsRow.lt ho4' k e).1)
    have hB7 : Below w6.heap.size w6 w7 := below_then ((Below.refl _ w6).alloc (Nat.le_refl _) _) hb7
    have hs6 := (strsAt_of_owns (ho6'.keep hB7) (by rw [List.length_append]; omega))
    go_wp2_with fail
    refine (same_any v7 v6 _ _ _ hs7 hs6).mono ?_
    rw [same_refl]
    rintro e w8 ⟨rfl, hb8⟩
    go_wp2
    go_ret
    exact ⟨rfl, below_then (below_then hB6 hB7) hb8⟩
end Go.Proofs.Ythgnjbnieahneaa

/- merged: two ascending lists into one. -/
import Derived.Test.YtmfnhfkgkdibfaaGreatIAll
import Derived.Test.YtmfnhfkgkdibfaaGreatTokW
import Derived.Test.YtmfnhfkgkdibfaaGreatIxP
import Derived.BigQuiet
namespace Go.Proofs.YtmfnhfkgkdibfaaGreat
open Go.RowKit Go.Sort Go.Proofs

theorem src_of_strs {w : World} {a : Option Addr} {n c : Nat} {xs : List Wd} (h : StrsAt w (.slice a n c) xs) : Src w 1 a xs.length (xs.map encW) := by
  obtain ⟨a', c', e, hle, hl, hc⟩ := h
  injection e with e1 e2 e3
  subst e1
  refine ⟨by simp, fun e => ?_, fun ad e j u hu => ?_⟩
  · cases hx : xs with
    | nil => rfl
    | cons y l => obtain ⟨b, off, h1, _⟩ := hc 0 (by rw [hx]; simp); rw [e] at h1; cases h1
  · rw [List.getElem?_map] at hu
    cases hj : xs[j]? with
    | none => rw [hj] at hu; cases hu
    | some x =>
      rw [hj] at hu; cases hu
      obtain ⟨hjl, rfl⟩ := List.getElem?_eq_some_iff.1 hj
      obtain ⟨b, off, h1, h2⟩ := hc j hjl
      rw [e] at h1; cases h1
      show w.cell? ((⟨b, off, none⟩ : Addr).add j) = _
      rw [← h2]
      unfold Addr.add
      by_cases hj0 : j = 0
      · subst hj0; rfl
      · rw [if_neg hj0]

theorem infoStr' : (Tryz.prog.info? 9).map (fun i => (i.zero, i.size, i.bytes)) = some (some (.string ⟨#[]⟩), 1, 16) := by kernel_rfl
def lenV : Value → Nat
  | .slice _ n _ => n
  | _ => 0
theorem mergeW_len : ∀ (a b : List Wd), (mergeW a b).length = a.length + b.length
  | [], b => by simp [mergeW]
  | x :: a, [] => by simp [mergeW]
  | x :: a, y :: b => by
    unfold mergeW
    split
    · rw [List.length_cons, mergeW_len a (y :: b)]; simp; omega
    · rw [List.length_cons, mergeW_len (x :: a) b]; simp; omega
termination_by a b => a.length + b.length

theorem mergeW_lt {x y : Wd} {a b : List Wd} (h : x < y) : mergeW (x :: a) (y :: b) = x :: mergeW a (y :: b) := by rw [mergeW, if_pos h]
theorem mergeW_ge {x y : Wd} {a b : List Wd} (h : ¬ x < y) : mergeW (x :: a) (y :: b) = y :: mergeW (x :: a) b := by rw [mergeW, if_neg h]
theorem run_tail {a : Option Addr} {n c : Nat} {V : Value} (h : sliced a 1 (n + 1) c 1 = V) (W : World) : (Instr.slice 23 (.slice a (n + 1) c) (some (.int .i64 1)) none none).run Tryz.prog W = .ok V W := by
  have ht : Tryz.prog.underlying 23 = some (.slice (Tryz.prog.elem 23)) := by kernel_rfl
  have he : Tryz.prog.elem 23 = 9 := by kernel_rfl
  rw [run_slice_l W 23 a (n + 1) c ht .i64 1 (by decide) (by omega), he]
  have : (Go.sizeOf 9).run Tryz.prog W = .ok 1 W := Tryz.sizeOf9 W
  rw [this]
  simp only [Result.andThen]
  rw [← h]
  rfl
theorem strs_tail {w : World} {b off n c : Nat} {x : Wd} {l : List Wd} (h : StrsAt w (.slice (some ⟨b, off, none⟩) (n + 1) c) (x :: l)) : ∃ A C, (sliced (some ⟨b, off, none⟩) 1 (n + 1) c 1) = .slice A n C ∧ StrsAt w (.slice A n C) l := by
  obtain ⟨a', c', e, hle, hl, hc⟩ := h
  injection e with e1 e2 e3
  subst e1; subst e3
  simp only [List.length_cons] at e2 hle hl
  obtain rfl : n = l.length := by omega
  refine ⟨_, _, rfl, _, _, rfl, by omega, by omega, fun j hj => ?_⟩
  obtain ⟨b', off', h1, h2⟩ := hc (j + 1) (by simp; omega)
  cases h1
  have hc1 : c ≠ 1 := by omega
  refine ⟨b, off + 1, by simp [hc1, Addr.add], ?_⟩
  rw [show off + 1 + j = off + (j + 1) by omega]
  simpa using h2

set_option maxRecDepth 100000 in
set_option maxHeartbeats 2000000 in
theorem merged_any (va vb : Value) (A B : List Wd) (w : World) (h1 : StrsAt w va A) (h2 : StrsAt w vb B) (hA : A.length ≤ 1000000) (hB : B.length ≤ 1000000) :
    Calls Tryz.prog 39 #[va, vb] w fun e w' => ∃ v, e = .returned v ∧ OwnsStrs w' w.heap.size v (mergeW A B) ∧ Below w.heap.size w w' := by
  obtain ⟨i0, hi, hz0, hz1, hz2⟩ := info_parts infoStr'
  have H1 := Lib.hid h1; have H2 := Lib.hid h2
  obtain ⟨a1, c1, rfl, hle1, hl1, hc1⟩ := h1
  obtain ⟨a2, c2, rfl, hle2, hl2, hc2⟩ := h2
  have HL0 := Lib.hid (mergeW_len A B)
  obtain ⟨R, HR⟩ : ∃ R, Hid (mergeW A B = R) := ⟨_, Lib.hid rfl⟩
  rw [HR.out]
  clear hc1 hc2
  obtain ⟨nA, hnA⟩ : ∃ n, A.length = n := ⟨_, rfl⟩
  obtain ⟨nB, hnB⟩ : ∃ n, B.length = n := ⟨_, rfl⟩
  rw [hnA] at hle1 hl1 hA HL0 ⊢
  rw [hnB] at hle2 hl2 hB HL0 ⊢
  have HNA := Lib.hid hnA; have HNB := Lib.hid hnB
  clear hnA hnB
  have hwr : Go.RowKit.wrap64 ((nA : Int) + nB) = (nA : Int) + nB := IntWalk.wrap64_in _ (by omega)
  go_enter Tryz.func39, Tryz.ntmps39
  go_wp2_with (at_make; refine wpList_make_own _ rfl _ _ 23 rfl w.heap.size 9 i0 _ 1 Tryz.underlying23 hi hz0 hz1 .i64 .i64 _ (nA + nB) rfl rfl (by first | omega | (rw [hwr]; omega)) ?b2 ?b3 ?b4 ?_)
  case b2 => rw [hz2]; omega
  case b3 => unfold maxLen; omega
  case b4 => omega
  intro w1 ho1 hg1
  have hb1 : Below w.heap.size w w1 := (Below.refl _ w).grown hg1 (Nat.le_refl _) (fun j hj => by cases hj)
  go_wp2
  go_loopw [0, 1, 5] (fun u0 u1 u5 wr => ∃ (a b : List Wd) (pre : List Wd), Hid (StrsAt w u0 a) ∧ Hid (StrsAt w u1 b) ∧ Hid (pre ++ mergeW a b = R) ∧ Hid (OwnsStrs wr w.heap.size u5 pre) ∧ pre.length ≤ nA + nB ∧ Hid (Below w.heap.size w wr)) (fun u0 u1 _ _ => lenV u0 + lenV u1)
  case atStart => exact ⟨A, B, [], Lib.hid (by rw [← HNA.out]; exact H1.out), Lib.hid (by rw [← HNB.out]; exact H2.out), Lib.hid HR.out, Lib.hid ho1, by simp, Lib.hid hb1⟩
  case round =>
    obtain ⟨a, b, pre, HS1, HS2, HE, HO, hpl, HB⟩ := hrel
    have h1 := HS1.out.below HB.out
    have h2 := HS2.out.below HB.out
    have hlenR : Hid (pre.length + (a.length + b.length) = nA + nB) := Lib.hid (by
      have e1 := congrArg List.length HE.out
      rw [List.length_append, mergeW_len] at e1
      have e2 := congrArg List.length HR.out
      rw [HL0.out] at e2
      omega)
    have hbs := HB.out.size
    have hbase := hbs
    by_cases hgo : a = [] ∨ b = []
    · -- the rest of one
      obtain ⟨a1', c1', e1, q1, m1, -⟩ := h1
      obtain ⟨a2', c2', e2, q2, m2, -⟩ := h2
      subst e1; subst e2
      have hs1 := src_of_strs (HS1.out.below HB.out)
      have hL := hlenR.out
      have HR9 : Hid (pre ++ a ++ b = R) := Lib.hid (by
        rw [← HE.out, List.append_assoc]
        rcases hgo with rfl | rfl
        · simp [mergeW]
        · rw [mergeW_nil, List.append_nil])
      have HG0 : Hid ((decide ((0 : Int) < (a.length : Int)) && decide ((0 : Int) < (b.length : Int))) = false) := Lib.hid (by
        rcases hgo with rfl | rfl <;> simp)
      have h1c : ∀ (l : List Wd), ∀ u ∈ l.map encW, u.oneCell' = true := fun l u hu => by
        obtain ⟨z, _, rfl⟩ := List.mem_map.1 hu; rfl
      obtain ⟨na, hna⟩ : ∃ n, a.length = n := ⟨_, rfl⟩
      obtain ⟨nb, hnb⟩ : ∃ n, b.length = n := ⟨_, rfl⟩
      have HNa := Lib.hid hna; have HNb := Lib.hid hnb
      have HO' : wr.ownsRow w.heap.size 9 1 u5 pre.length (pre.map encW) := HO.out
      rw [hna] at hs1 hL HS1 q1 m1 HG0 ⊢
      rw [hnb] at hL HS2 q2 m2 HG0 ⊢
      clear hna hnb hgo
      by_cases hna0 : na = 0
      · subst hna0
        go_wp2_with (at_builtin; refine wpList_append_src _ rfl _ _ 23 rfl w.heap.size 9 i0 _ 1 16 Tryz.underlying23 hi hz0 hz1 hz2 rfl (by decide) _ _ _ rfl HO' _ _ _ _ rfl hs1 (h1c a) ?c3 ?c4 ?c5 ?_)
        case c3 => unfold maxLen; omega
        case c4 => omega
        case c5 => omega
        intro v1 w2 ho2 hg2
        have hb2 := HB.out.grown hg2 hbs (fun j e => (HO'.lt j e).1)
        have hs2 : Src w2 1 a2' nb (b.map encW) := by
          have := src_of_strs (HS2.out.below hb2)
          rw [HNb.out] at this
          exact this
        have HB2 := Lib.hid hb2
        have hbs2 := hb2.size
        clear hg2 hb2
        go_wp2_with (at_builtin; refine wpList_append_src _ rfl _ _ 23 rfl w.heap.size 9 i0 _ 1 16 Tryz.underlying23 hi hz0 hz1 hz2 rfl (by decide) _ _ _ rfl ho2 _ _ _ _ rfl hs2 (h1c b) ?d3 ?d4 ?d5 ?_)
        case d3 => unfold maxLen; omega
        case d4 => omega
        case d5 => omega
        intro v3 w3 ho3 hg3
        have hb3 := HB2.out.grown hg3 hbs2 (fun j e => (ho2.lt j e).1)
        clear hg3
        go_wp2
        go_ret
        refine ⟨_, rfl, ?_, hb3⟩
        rw [← HR9.out]
        unfold OwnsStrs
        simpa [List.append_assoc, HNa.out, HNb.out] using ho3
      · obtain rfl : nb = 0 := by
          have := HG0.out
          simp at this
          omega
        have hga : decide ((0 : Int) < (na : Int)) = true := by simp; omega
        go_wp2_with (at_builtin; refine wpList_append_src _ rfl _ _ 23 rfl w.heap.size 9 i0 _ 1 16 Tryz.underlying23 hi hz0 hz1 hz2 rfl (by decide) _ _ _ rfl HO' _ _ _ _ rfl hs1 (h1c a) ?c3 ?c4 ?c5 ?_)
        case c3 => unfold maxLen; omega
        case c4 => omega
        case c5 => omega
        intro v1 w2 ho2 hg2
        have hb2 := HB.out.grown hg2 hbs (fun j e => (HO'.lt j e).1)
        have hs2 : Src w2 1 a2' 0 (b.map encW) := by
          have := src_of_strs (HS2.out.below hb2)
          rw [HNb.out] at this
          exact this
        have HB2 := Lib.hid hb2
        have hbs2 := hb2.size
        clear hg2 hb2
        go_wp2_with (at_builtin; refine wpList_append_src _ rfl _ _ 23 rfl w.heap.size 9 i0 _ 1 16 Tryz.underlying23 hi hz0 hz1 hz2 rfl (by decide) _ _ _ rfl ho2 _ _ _ _ rfl hs2 (h1c b) ?d3 ?d4 ?d5 ?_)
        case d3 => unfold maxLen; omega
        case d4 => omega
        case d5 => omega
        intro v3 w3 ho3 hg3
        have hb3 := HB2.out.grown hg3 hbs2 (fun j e => (ho2.lt j e).1)
        clear hg3
        go_wp2
        go_ret
        refine ⟨_, rfl, ?_, hb3⟩
        rw [← HR9.out]
        unfold OwnsStrs
        simpa [List.append_assoc, HNa.out, HNb.out] using ho3
    · obtain ⟨x, a, rfl⟩ : ∃ x l, a = x :: l := by
        cases a with
        | nil => exact absurd (.inl rfl) hgo
        | cons x l => exact ⟨_, _, rfl⟩
      obtain ⟨y, b, rfl⟩ : ∃ x l, b = x :: l := by
        cases b with
        | nil => exact absurd (.inr rfl) hgo
        | cons x l => exact ⟨_, _, rfl⟩
      obtain ⟨a1', c1', e1, hn1, hm1, hq1⟩ := h1
      obtain ⟨a2', c2', e2, hn2, hm2, hq2⟩ := h2
      subst e1; subst e2
      obtain ⟨ba, oa, rfl, ka⟩ := hq1 0 (by simp)
      obtain ⟨bb, ob, rfl, kb⟩ := hq2 0 (by simp)
      simp only [List.length_cons, List.getElem_cons_zero, Nat.add_zero, encW] at ka kb hn1 hn2 HS1 HS2 ⊢
      clear hq1 hq2 hm1 hm2 hgo
      obtain ⟨Aa, Ca, ea, ta⟩ := strs_tail HS1.out
      obtain ⟨Ab, Cb, eb, tb⟩ := strs_tail HS2.out
      have hra := run_tail ea; have hrb := run_tail eb
      have HTa := Lib.hid ta; have HTb := Lib.hid tb
      have HO' : wr.ownsRow w.heap.size 9 1 u5 pre.length (pre.map encW) := HO.out
      have hL := hlenR.out
      simp only [List.length_cons] at hL
      clear ta tb ea eb
      by_cases hxy : x < y
      · have g1 : Op.bytesLess x y = true := by rw [bytesLess_eq]; simpa using hxy
        have HE2 : Hid ((pre ++ [x]) ++ mergeW a (y :: b) = R) := Lib.hid (by rw [← HE.out, mergeW_lt hxy, List.append_assoc]; rfl)
        clear hxy
        go_upto_region 3 with fail
        go_quiet (fail)
        go_wp2_with (at_builtin; refine wpList_append_own _ rfl _ _ 23 rfl w.heap.size 9 i0 _ 1 16 Tryz.underlying23 hi hz0 hz1 hz2 rfl (by decide) _ _ _ rfl (HO'.alloc _) ⟨wr.heap.size, 0, none⟩ 1 1 [.string ⟨x.toArray⟩] rfl rfl (World.news_of_block (cs := #[.string ⟨x.toArray⟩]) (t := 9) (fr := (0, 0)) (heap_alloc_new wr _)) (by simp [Value.oneCell']) ?c3 ?c4 ?c5 ?_)
        case c3 => unfold maxLen; omega
        case c4 => omega
        case c5 => simp; omega
        intro v' w2 ho2 hg2 _
        have HO2 : Hid (OwnsStrs w2 w.heap.size v' (pre ++ [x])) := Lib.hid (by unfold OwnsStrs; simpa [encW] using ho2)
        have HB2 : Hid (Below w.heap.size w w2) := Lib.hid (((HB.out.drewN _).alloc hbs _).grown hg2 (by simp; omega) (fun j e => (HO'.lt j e).1))
        clear ho2 hg2
        go_wp2
        go_roundw
        case rel => exact ⟨a, y :: b, pre ++ [x], HTa, HS2, HE2, HO2, by simp; omega, HB2⟩
        case measure => simp [lenV]
      · have g1 : Op.bytesLess x y = false := by rw [bytesLess_eq]; simpa using hxy
        have HE2 : Hid ((pre ++ [y]) ++ mergeW (x :: a) b = R) := Lib.hid (by rw [← HE.out, mergeW_ge hxy, List.append_assoc]; rfl)
        clear hxy
        go_upto_region 3 with fail
        go_quiet (fail)
        go_wp2_with (at_builtin; refine wpList_append_own _ rfl _ _ 23 rfl w.heap.size 9 i0 _ 1 16 Tryz.underlying23 hi hz0 hz1 hz2 rfl (by decide) _ _ _ rfl (HO'.alloc _) ⟨wr.heap.size, 0, none⟩ 1 1 [.string ⟨y.toArray⟩] rfl rfl (World.news_of_block (cs := #[.string ⟨y.toArray⟩]) (t := 9) (fr := (0, 0)) (heap_alloc_new wr _)) (by simp [Value.oneCell']) ?c3 ?c4 ?c5 ?_)
        case c3 => unfold maxLen; omega
        case c4 => omega
        case c5 => simp; omega
        intro v' w2 ho2 hg2 _
        have HO2 : Hid (OwnsStrs w2 w.heap.size v' (pre ++ [y])) := Lib.hid (by unfold OwnsStrs; simpa [encW] using ho2)
        have HB2 : Hid (Below w.heap.size w w2) := Lib.hid (((HB.out.drewN _).alloc hbs _).grown hg2 (by simp; omega) (fun j e => (HO'.lt j e).1))
        clear ho2 hg2
        go_wp2
        go_roundw
        case rel => exact ⟨x :: a, b, pre ++ [y], HS1, HTb, HE2, HO2, by simp; omega, HB2⟩
        case measure => simp [lenV]
end Go.Proofs.YtmfnhfkgkdibfaaGreat

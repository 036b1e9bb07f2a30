/- IndexTermOrder. -/
import Derived.Test.YtmfnhfkgkdibfaaGreatIOpn
namespace Go.Proofs.YtmfnhfkgkdibfaaGreat
open Go.RowKit Go.Sort Go.Proofs Go.Maps

theorem few_len (ops : List Op3) : (fewL ops).length ≤ 12 := by unfold fewL; rw [List.length_map, List.length_take]; omega
theorem few_ok {ops : List Op3} (h : ∀ o ∈ ops, okOp o) : ∀ o ∈ fewL ops, okOp o ∧ o.2.2.length ≤ 200 := fun o ho => by
  unfold fewL at ho
  obtain ⟨x, hx, rfl⟩ := List.mem_map.1 ho
  exact ⟨h x (List.mem_of_mem_take hx), by unfold cutOp; rw [List.length_take]; omega⟩
theorem step_small {D : List Dc} {o : Op3} {n : Nat} (h : D.length ≤ n ∧ ∀ d ∈ D, d.2.length ≤ 400) (ho : o.2.2.length ≤ 200) : (stepD D o).length ≤ n + 1 ∧ ∀ d ∈ stepD D o, d.2.length ≤ 400 := by
  unfold stepD
  have hr : ∀ id, (remD D id).length ≤ D.length := fun id => List.length_filter_le _ _
  split
  · exact ⟨by have := hr o.2.1; omega, fun d hd => h.2 d (mem_rem.1 hd).1⟩
  · split
    · refine ⟨?_, fun d hd => ?_⟩
      · unfold putD
        rw [insD_eq, List.length_append, List.length_cons]
        have h1 := congrArg List.length (List.takeWhile_append_dropWhile (p := fun d : Dc => decide (d.1 < (o.2.1, wordsOf o.2.2).1)) (l := remD D o.2.1))
        rw [List.length_append] at h1
        have := hr o.2.1
        omega
      · rcases mem_put.1 hd with rfl | ⟨hd, _⟩
        · have := words_count_le o.2.2; show (wordsOf o.2.2).length ≤ 400; omega
        · exact h.2 d hd
    · exact ⟨by omega, h.2⟩
theorem run_small (l : List Op3) (hl : ∀ o ∈ l, o.2.2.length ≤ 200) : (runD l).length ≤ l.length ∧ ∀ d ∈ runD l, d.2.length ≤ 400 := by
  have key : ∀ k, k ≤ l.length → (runD (l.take k)).length ≤ k ∧ ∀ d ∈ runD (l.take k), d.2.length ≤ 400 := by
    intro k
    induction k with
    | zero => exact fun _ => ⟨by simp [runD], fun d hd => by simp [runD] at hd⟩
    | succ k ih =>
      intro hk
      rw [runD_succ l k hk]
      exact step_small (ih (by omega)) (hl _ (List.getElem_mem hk))
  have := key l.length (Nat.le_refl _)
  rw [List.take_length] at this
  exact this
theorem run_vocab (l : List Op3) (hn : l.length ≤ 12) (hl : ∀ o ∈ l, o.2.2.length ≤ 200) : (vocab (runD l)).length ≤ 4800 := by
  obtain ⟨h1, h2⟩ := run_small l hl
  have h3 := sub_len ((runD l).flatMap (·.2)) (vocab (runD l)) (vocab_nodup _) fun x hx => by
    obtain ⟨d, hd, hxd⟩ := mem_vocab.1 hx
    exact List.mem_flatMap.2 ⟨d, hd, hxd⟩
  have h4 : ∀ D : List Dc, (∀ d ∈ D, d.2.length ≤ 400) → (D.flatMap (·.2)).length ≤ 400 * D.length := fun D => by
    induction D with
    | nil => simp
    | cons d D ih =>
      intro h
      have h1 := ih fun x hx => h x (List.mem_cons_of_mem _ hx)
      have h2 := h d (by simp)
      rw [List.flatMap_cons, List.length_append, List.length_cons]
      omega
  have := h4 _ h2
  omega
/-- all terms -/
def termsAll (D : List Dc) (s : List UInt8) : List (Wd × Nat) := match prefW s with | none => [] | some x => termsD D x
theorem termsQ_eq (D : List Dc) (s : List UInt8) (n : Int) : termsQ D s n = (termsAll D s).take n.toNat := by
  unfold termsQ termsAll
  cases prefW s with
  | none => simp
  | some x => rfl
theorem termsAll_asc (D : List Dc) (s : List UInt8) : TAsc (termsAll D s) := by
  unfold termsAll
  cases prefW s with
  | none => exact .nil
  | some x => exact termsD_asc D x
theorem termsAll_len (D : List Dc) (s : List UInt8) : (termsAll D s).length ≤ (vocab D).length := by
  unfold termsAll
  cases prefW s with
  | none => simp
  | some x =>
    show (termsD D x).length ≤ _
    unfold termsD
    rw [List.length_mergeSort, List.length_map]
    exact List.length_filter_le _ _

set_option maxRecDepth 1000000 in
set_option maxHeartbeats 8000000 in
theorem law6_any (v : Value) (ops : List Op3) (s : ByteArray) (n : Int) (w : World) (h : OpsAt w v ops) (hok : ∀ o ∈ ops, okOp o) (hlen : ∀ o ∈ ops, o.2.2.length ≤ 9223372036854775807) (hs : s.size ≤ 9223372036854775807) (hn0 : -9223372036854775808 ≤ n) (hn1 : n ≤ 9223372036854775807) :
    Calls Tryz.prog 8 #[v, .string s, .int .i64 n] w fun e w' => e = .returned (.bool true) ∧ Below w.heap.size w w' := by
  obtain ⟨x, hx⟩ : ∃ x : List UInt8, s = ⟨x.toArray⟩ := ⟨s.data.toList, by simp⟩
  subst hx
  have hxs : x.length ≤ 9223372036854775807 := by simpa [ByteArray.size] using hs
  have hext : ByteArray.extract ⟨x.toArray⟩ 0 (min (x.length : Int) 40).toNat = ⟨(x.take 40).toArray⟩ := extract_cut x 40
  have hx40 : (x.take 40).length ≤ 1000000 := by rw [List.length_take]; omega
  have HOK := Lib.hid (few_ok hok)
  have HL := Lib.hid hlen
  have HOP := Lib.hid h
  have hfl := few_len ops
  obtain ⟨c, hc⟩ : ∃ c, x.take 40 = c := ⟨_, rfl⟩
  rw [hc] at hext hx40
  clear h hok hlen hs hc
  go_enter Tryz.func8, Tryz.ntmps8
  go_wp2_with fail
  refine (sane_any w).mono ?_
  rintro e w1 ⟨rfl, hb1⟩
  go_wp2_with fail
  refine (few_any v ops w1 (HOP.out.below hb1) HL.out).mono ?_
  rintro e w2 ⟨vf, rfl, hf, hb2⟩
  have HB2 := Lib.hid (bthen hb1 hb2)
  have hof := opsAt_of_owns hf (by omega)
  clear hb1 hb2 hf
  go_wp2_with fail
  refine (run_any vf (fewL ops) w2 hof (by omega) HOK.out).mono ?_
  rintro e w3 ⟨p, S, rfl, hI, -, hb3⟩
  have HB3 := Lib.hid (bthen HB2.out hb3)
  have hvl := run_vocab (fewL ops) hfl fun o ho => (HOK.out o ho).2
  obtain ⟨D, hD⟩ : ∃ D, runD (fewL ops) = D := ⟨_, rfl⟩
  rw [hD] at hI hvl
  have HI := Lib.hid hI
  clear hb3 hof hI hD
  have htl := termsAll_len D c
  have hta := termsAll_asc D c
  have hte := termsQ_eq D c
  obtain ⟨T, hT⟩ : ∃ T, termsAll D c = T := ⟨_, rfl⟩
  rw [hT] at htl hta hte
  have HTA := Lib.hid hta; have HTE := Lib.hid hte
  have hTl : T.length ≤ 4800 := by omega
  have h5 := terms_any w3 HI.out (by omega) c hx40 5000 (by omega) (by omega)
  rw [HTE.out, List.take_of_length_le (show T.length ≤ (5000 : Int).toNat by omega)] at h5
  clear hta hte hT htl
  go_wp2_with fail
  refine h5.mono ?_
  rintro e w4 ⟨va, rfl, ha, hb4⟩
  have HB4 := Lib.hid (bthen HB3.out hb4)
  have HI4 := Lib.hid (HI.out.below hb4)
  have HA := Lib.hid (TermsR.at ha)
  obtain ⟨aa, ca, rfl, hla, hca, -⟩ := HA.out
  clear h5 ha hb4 HI HB3
  go_wp2
  go_loopw [11] (fun i wr => ∃ j : Nat, i = .int .i64 ((j : Int) + 1) ∧ j ≤ T.length ∧ Hid (Below w4.heap.size w4 wr)) (fun i _ => T.length + 1 - (intOf i).toNat)
  case atStart => exact ⟨0, rfl, by omega, Lib.hid (Below.refl _ _)⟩
  case round =>
    obtain ⟨j, rfl, hj, HB⟩ := hrel
    by_cases hjl : j + 1 < T.length
    · have hji : ((j : Int) + 1) < (T.length : Int) := by omega
      obtain ⟨_, _, e1, _, _, kk⟩ := HA.out.below HB.out
      injection e1 with e1 _ _
      subst e1
      obtain ⟨b, off, rfl, a1, a2⟩ := kk j (by omega)
      obtain ⟨b', off', e2, a3, a4⟩ := kk (j + 1) hjl
      injection e2 with e2
      injection e2 with e3 e4
      subst e3; subst e4
      have hlt := List.pairwise_iff_getElem.1 HTA.out j (j + 1) (by omega) hjl (by omega)
      obtain ⟨⟨x1, m1⟩, hx1⟩ : ∃ z, T[j]'(by omega) = z := ⟨_, rfl⟩
      obtain ⟨⟨x2, m2⟩, hx2⟩ : ∃ z, T[j + 1] = z := ⟨_, rfl⟩
      rw [hx1] at a1 a2 hlt
      rw [hx2] at a3 a4 hlt
      simp only at a1 a2 a3 a4
      have hbs := HB.out.size
      rw [← Nat.add_assoc] at a2 a4
      obtain ⟨i1, hi1⟩ : ∃ i : Int, ((m1 : Nat) : Int) = i := ⟨_, rfl⟩
      obtain ⟨i2, hi2⟩ : ∃ i : Int, ((m2 : Nat) : Int) = i := ⟨_, rfl⟩
      rw [hi1] at a2
      rw [hi2] at a4
      have HI1 := Lib.hid hi1; have HI2 := Lib.hid hi2
      have hlt' : i2 < i1 ∨ (i1 = i2 ∧ x1 < x2) := by
        rcases hlt with h | ⟨h1, h2⟩
        · left; simp only at h; omega
        · right; exact ⟨by simp only at h1; omega, h2⟩
      clear hlt hi1 hi2 hx1 hx2 kk
      have a3' := Lib.cell?_alloc_some (.cells #[.string ⟨x1.toArray⟩, .int .i64 i1] 56) a3
      have a4' := Lib.cell?_alloc_some (.cells #[.string ⟨x1.toArray⟩, .int .i64 i1] 56) a4
      have HBn : Hid (Below w4.heap.size w4 ((wr.alloc (.cells #[.string ⟨x1.toArray⟩, .int .i64 i1] 56)).alloc (.cells #[.string ⟨x2.toArray⟩, .int .i64 i2] 56))) := Lib.hid ((HB.out.alloc hbs _).alloc (by simp; omega) _)
      have d1 := Lib.cell?_alloc_some (.cells #[.string ⟨x2.toArray⟩, .int .i64 i2] 56) (show (wr.alloc (.cells #[.string ⟨x1.toArray⟩, .int .i64 i1] 56)).cell? ⟨wr.heap.size, 0, none⟩ = some (.string ⟨x1.toArray⟩) by simp)
      have d2 := Lib.cell?_alloc_some (.cells #[.string ⟨x2.toArray⟩, .int .i64 i2] 56) (show (wr.alloc (.cells #[.string ⟨x1.toArray⟩, .int .i64 i1] 56)).cell? ⟨wr.heap.size, 1, none⟩ = some (.int .i64 i1) by simp)
      have hji2 : ((j : Int)) < (T.length : Int) := by omega
      rcases hlt' with h | ⟨h1, h2⟩
      · have g1 : decide (i1 < i2) = false := by simp; omega
        have g2 : (i1 == i2) = false := by simp; omega
        clear h
        go_wp2
        go_roundw
        case rel => exact ⟨j + 1, by go_num, by omega, HBn⟩
        case measure => simp [intOf]; omega
      · have g1 : decide (i1 < i2) = false := by simp; omega
        have g2 : (i1 == i2) = true := by simp; omega
        have g3 : Op.bytesLess x1 x2 = true := by rw [bytesLess_eq]; simpa using h2
        clear h1 h2
        go_wp2
        go_roundw
        case rel => exact ⟨j + 1, by go_num, by omega, HBn⟩
        case measure => simp [intOf]; omega
    · have HBw := Lib.hid (HB4.out.trans (HB.out.mono HB4.out.size))
      have HIw := Lib.hid (HI4.out.below HB.out)
      have hn := terms_any wr HIw.out (by omega) c hx40 n hn0 hn1
      rw [HTE.out] at hn
      have HAw := Lib.hid (HA.out.below HB.out)
      go_wp2_with fail
      refine hn.mono ?_
      rintro e w9 ⟨vs, rfl, hsm, hb9⟩
      have HB9 := Lib.hid (bthen HBw.out hb9)
      have HS9 := Lib.hid (TermsR.at hsm)
      have HA9 := Lib.hid (HAw.out.below hb9)
      obtain ⟨as_, cs_, rfl, hls, hcs, -⟩ := HS9.out
      clear hn hsm hb9
      obtain ⟨L, hL⟩ : ∃ L, (T.take n.toNat).length = L := ⟨_, rfl⟩
      have hL2 : L = min n.toNat T.length := by rw [← hL, List.length_take]
      have hmx : max 0 (min n (T.length : Int)) = (L : Int) := by omega
      have hcut : Hid (TermsAt w9 (.slice aa L ca) (T.take n.toNat)) := Lib.hid (by
        obtain ⟨a', c', e1, h2, h3, h4⟩ := HA9.out
        injection e1 with e1 _ e3
        subst e1; subst e3
        refine ⟨_, _, by rw [hL], by omega, h3, fun k hk => ?_⟩
        have hk' : k < T.length := by omega
        obtain ⟨b, off, e, k1, k2⟩ := h4 k hk'
        exact ⟨b, off, e, by rw [List.getElem_take]; exact k1, by rw [List.getElem_take]; exact k2⟩)
      rw [hL] at HS9 ⊢
      have hrun := fun W => run_upto_t (a := aa) (n := T.length) (c := ca) (k := L) (by omega) W
      have hsame := sameTerms_true _ _ _ w9 HS9.out hcut.out
      have HL9 := Lib.hid hL
      clear hL2 hL
      go_wp2_with (go_at_call 25; refine hsame.mono ?_; rintro e w10 ⟨rfl, hb10⟩)
      go_ret
      exact ⟨rfl, bthen HB9.out hb10⟩
end Go.Proofs.YtmfnhfkgkdibfaaGreat

/- The reference's add and Terms. The reference's Terms. -/
import Derived.Test.YtmfnhfkgkdibfaaGreatIRfD
import Derived.Test.YtmfnhfkgkdibfaaGreatIL6
namespace Go.Proofs.YtmfnhfkgkdibfaaGreat
open Go.RowKit Go.Sort Go.Proofs Go.Maps

theorem terms_cells {w : World} {ad : Addr} {n c : Nat} {l : List (Wd × Nat)} (h : TermsAt w (.slice (some ad) n c) l) (hne : l ≠ []) : ∃ b off, ad = ⟨b, off, none⟩ ∧ ∀ j u, (l.flatMap termC)[j]? = some u → w.cell? ⟨b, off + j, none⟩ = some u := by
  obtain ⟨a, c', e, -, -, hc⟩ := h
  injection e with e1 _ _
  subst e1
  obtain ⟨b, off, e, -⟩ := hc 0 (List.length_pos_iff.2 hne)
  injection e with e
  refine ⟨b, off, e, fun j u hu => ?_⟩
  rw [flatMap_at termC 2 (by decide) (fun _ => rfl)] at hu
  cases hp : l[j / 2]? with
  | none => rw [hp] at hu; cases hu
  | some p =>
    rw [hp] at hu
    obtain ⟨hj, hpe⟩ := List.getElem?_eq_some_iff.1 hp
    obtain ⟨b', off', e', h1, h2⟩ := hc (j / 2) hj
    injection e' with e'
    rw [e] at e'
    injection e' with e1 e2
    subst e1; subst e2
    rw [hpe] at h1 h2
    have hu : (termC p)[j % 2]? = some u := hu
    rcases Nat.mod_two_eq_zero_or_one j with hm | hm
    · rw [hm] at hu
      cases hu
      rw [show off + j = off + j / 2 * 2 by omega]; exact h1
    · rw [hm] at hu
      cases hu
      rw [show off + j = off + (j / 2 * 2 + 1) by omega]; exact h2
theorem terms_src_upto {w : World} {a : Option Addr} {n c : Nat} {l : List (Wd × Nat)} (h : TermsAt w (.slice a n c) l) {k : Nat} (hk : k ≤ l.length) : Src w 2 a k ((l.take k).flatMap termC) := by
  refine ⟨by rw [termC_len, List.length_take, Nat.min_eq_left hk], fun e => ?_, fun ad e j u hu => ?_⟩
  · obtain ⟨a', c', e', -, -, hc⟩ := h
    rcases Nat.eq_zero_or_pos k with h0 | h0
    · exact h0
    · obtain ⟨b, off, e2, -⟩ := hc 0 (by omega)
      injection e' with e1 _ _
      rw [← e1, e] at e2; cases e2
  · subst e
    by_cases hne : l = []
    · subst hne; simp at hu
    · obtain ⟨b, off, rfl, hc⟩ := terms_cells h hne
      rw [add_plain]
      refine hc j u ?_
      rw [← List.take_append_drop k l, List.flatMap_append]
      exact List.getElem?_append_left (List.getElem?_eq_some_iff.1 hu).1 |>.trans hu
theorem terms_src_from {w : World} {a : Option Addr} {n c : Nat} {l : List (Wd × Nat)} (h : TermsAt w (.slice a n c) l) {k : Nat} (hk : k ≤ l.length) : ∃ a', sliced a k n c 2 = .slice a' (n - k) (c - k) ∧ Src w 2 a' (n - k) ((l.drop k).flatMap termC) := by
  have hh := h
  obtain ⟨a0, c0, e0, hle, -, hc⟩ := hh
  injection e0 with e1 e2 e3
  subst e1; subst e2; subst e3
  refine ⟨_, rfl, by rw [termC_len, List.length_drop], fun e => ?_, fun ad e j u hu => ?_⟩
  · rcases Nat.lt_or_ge k l.length with h0 | h0
    · obtain ⟨b, off, e2, -⟩ := hc 0 (by omega)
      subst e2
      split at e <;> cases e
    · omega
  · rcases Nat.lt_or_ge k l.length with h0 | h0
    · rw [if_neg (by omega)] at e
      obtain ⟨b0, off0, e2, -⟩ := hc 0 (by omega)
      subst e2
      obtain ⟨b, off, e3, hcc⟩ := terms_cells h (fun e => by subst e; simp at h0)
      injection e3 with e3 e4
      subst e3; subst e4
      simp only [Option.map_some, Option.some.injEq] at e
      subst e
      rw [add_plain, add_plain, Nat.add_assoc]
      refine hcc _ u ?_
      rw [← List.take_append_drop k l, List.flatMap_append, List.getElem?_append_right (by rw [termC_len, List.length_take]; omega), termC_len, List.length_take, Nat.min_eq_left hk]
      rw [show k * 2 + j - k * 2 = j by omega]
      exact hu
    · rw [List.drop_of_length_le h0] at hu; simp at hu
theorem run_from_t {a : Option Addr} {n c k : Nat} {V : Value} (hk : k ≤ n) (h : sliced a k n c 2 = V) (W : World) : (Instr.slice 46 (.slice a n c) (some (.int .i64 k)) none none).run Tryz.prog W = .ok V W := by
  have ht : Tryz.prog.underlying 46 = some (.slice (Tryz.prog.elem 46)) := by kernel_rfl
  have he : Tryz.prog.elem 46 = 56 := by kernel_rfl
  rw [run_slice_l W 46 a n c ht .i64 k (by omega) (by omega), he]
  have : (Go.sizeOf 56).run Tryz.prog W = .ok 2 W := Tryz.sizeOf56 W
  rw [this]
  simp only [Result.andThen]
  rw [← h]
  rfl
/-- where the terms before a term end -/
theorem atT_of {l : List (Wd × Nat)} {t : Wd × Nat} {k : Nat} (hk : k ≤ l.length) (hlt : ∀ j (h : j < l.length), j < k → TLt l[j] t) (hend : ∀ h : k < l.length, ¬ TLt l[k] t) : k = atT l t := by
  have key : ∀ (l : List (Wd × Nat)) (k : Nat), k ≤ l.length → (∀ j (h : j < l.length), j < k → TLt l[j] t) → (∀ h : k < l.length, ¬ TLt l[k] t) → k = (l.takeWhile fun x => decide (TLt x t)).length := by
    intro l
    induction l with
    | nil => intro k hk _ _; simp at hk; simp [hk]
    | cons x l ih =>
      intro k hk h1 h2
      rw [List.takeWhile_cons]
      cases k with
      | zero =>
        have := h2 (by simp)
        simp only [List.getElem_cons_zero] at this
        simp [this]
      | succ k =>
        have hx := h1 0 (by simp) (by omega)
        simp only [List.getElem_cons_zero] at hx
        simp only [hx, decide_true, if_true, List.length_cons]
        rw [← ih k (by simpa using hk) (fun j hj hjk => by
          have := h1 (j + 1) (by simp; omega) (by omega)
          simpa using this) (fun h => by
          have := h2 (by simp; omega)
          simpa using this)]
  exact key l k hk hlt hend
theorem addT_len (l : List (Wd × Nat)) (t : Wd × Nat) : (addT l t).length ≤ l.length + 1 := by
  unfold addT
  split
  · omega
  · rw [List.length_append, List.length_cons, List.length_take, List.length_drop]; omega

set_option maxRecDepth 100000 in
set_option maxHeartbeats 8000000 in
theorem refAdd_any (w : World) (vl : Value) (l : List (Wd × Nat)) (hl : TermsAt w vl l) (hlen : l.length ≤ 1000000) (t : Wd × Nat) :
    Calls Tryz.prog 55 #[vl, .agg #[.string ⟨t.1.toArray⟩, .int .i64 t.2]] w fun e w' => ∃ v, e = .returned v ∧ TermsAt w' v (addT l t) ∧ Below w.heap.size w w' := by
  obtain ⟨i0, hi, hz0, hz1, hz2⟩ := info_parts infoTerm
  obtain ⟨ts, tm⟩ := t
  simp only
  have HT := Lib.hid hl
  have HADD : Hid (∀ k, k ≤ l.length → k = atT l (ts, tm) → l[k]? ≠ some (ts, tm) → addT l (ts, tm) = (l.take k ++ [(ts, tm)]) ++ l.drop k) := Lib.hid (fun k _ hk hne => by
    unfold addT
    rw [← hk, if_neg hne]; simp)
  have HSAM : Hid (∀ k, k = atT l (ts, tm) → l[k]? = some (ts, tm) → addT l (ts, tm) = l) := Lib.hid (fun k hk he => by
    unfold addT
    rw [← hk, if_pos he])
  obtain ⟨a, c, rfl, hle, hcm, hc⟩ := hl
  have HC := Lib.hid hc
  obtain ⟨R, hR⟩ : ∃ R, addT l (ts, tm) = R := ⟨_, rfl⟩
  rw [hR] at HADD HSAM
  rw [hR]
  have hat := fun k hk h1 h2 => atT_of (l := l) (t := (ts, tm)) (k := k) hk h1 h2
  have HAT := Lib.hid hat
  obtain ⟨ti, hti⟩ : ∃ i : Int, ((tm : Nat) : Int) = i := ⟨_, rfl⟩
  have HTI := Lib.hid hti
  obtain ⟨w1, hw1⟩ : ∃ w1, w.alloc (.cells #[.string ⟨ts.toArray⟩, .int .i64 ti] 56) = w1 := ⟨_, rfl⟩
  have hb1 : Below w.heap.size w w1 := by rw [← hw1]; exact (Below.refl _ w).alloc (Nat.le_refl _) _
  have hblk : w1.heap[w.heap.size]? = some (.cells #[.string ⟨ts.toArray⟩, .int .i64 ti] 56 (0, 0)) := by rw [← hw1]; exact heap_alloc_new _ _
  have hsz : w.heap.size < w1.heap.size := by rw [← hw1]; simp
  have t1 : w1.cell? ⟨w.heap.size, 0, none⟩ = some (.string ⟨ts.toArray⟩) := by rw [Lib.cell_of_heap hblk]; rfl
  have t2 : w1.cell? ⟨w.heap.size, 1, none⟩ = some (.int .i64 ti) := by rw [Lib.cell_of_heap hblk]; rfl
  have HB1 := Lib.hid hb1
  rw [hti]
  clear hc hR hat hti hblk hb1
  go_enter Tryz.func55, Tryz.ntmps55
  go_wp2
  go_loopw [5] (fun i wr => ∃ k : Nat, i = .int .i64 k ∧ k ≤ l.length ∧ Hid (∀ j (h : j < l.length), j < k → TLt l[j] (ts, tm)) ∧ Hid (Below w1.heap.size w1 wr)) (fun i _ => l.length - (intOf i).toNat)
  case atStart => exact ⟨0, rfl, by omega, Lib.hid (fun j _ hj => by omega), Lib.hid (Below.refl _ _)⟩
  case round =>
    obtain ⟨k, rfl, hk, HLT, HB⟩ := hrel
    have hbs := HB.out.size
    have s1 : wr.cell? ⟨w.heap.size, 0, none⟩ = some (.string ⟨ts.toArray⟩) := (HB.out.cell (World.block_lt_of_cell? w1 _ t1)).trans t1
    have s2 : wr.cell? ⟨w.heap.size, 1, none⟩ = some (.int .i64 ti) := (HB.out.cell (World.block_lt_of_cell? w1 _ t2)).trans t2
    have HTr := Lib.hid ((HT.out.below HB1.out).below HB.out)
    by_cases hgo : ∃ h : k < l.length, TLt (l[k]'h) (ts, tm)
    · obtain ⟨hkl, hlt⟩ := hgo
      have hki : (k : Int) < (l.length : Int) := by omega
      have g0 : decide ((k : Int) < (l.length : Int)) = true := by rw [decide_eq_true_iff]; omega
      have HLT2 : Hid (∀ j (h : j < l.length), j < k + 1 → TLt l[j] (ts, tm)) := Lib.hid (fun j hj hjk => by
        by_cases e : j = k
        · subst e; exact hlt
        · exact HLT.out j hj (by omega))
      obtain ⟨_, _, e1, _, _, hcc⟩ := HTr.out
      injection e1 with e1 e2 e3
      subst e1
      clear e2 e3
      obtain ⟨b, off, rfl, k1, k2⟩ := hcc k hkl
      obtain ⟨⟨xs, xm⟩, hx⟩ : ∃ z, l[k] = z := ⟨_, rfl⟩
      rw [hx] at k1 k2 hlt
      simp only at k1 k2
      rw [← Nat.add_assoc] at k2
      obtain ⟨xi, hxi⟩ : ∃ i : Int, ((xm : Nat) : Int) = i := ⟨_, rfl⟩
      rw [hxi] at k2
      have hor : (ti < xi) ∨ (xi = ti ∧ xs < ts) := by
        have h0 := HTI.out
        rcases hlt with h | ⟨h1, h2⟩
        · left; simp only at h; omega
        · right; simp only at h1; exact ⟨by omega, h2⟩
      clear hx hxi hlt HLT hcc
      rcases hor with h | ⟨h1, h2⟩
      · have g1 : decide (ti < xi) = true := by rw [decide_eq_true_iff]; exact h
        clear h
        go_wp2_with fail
        go_quiet (fail)
        go_wp2
        go_roundw
        case rel => exact ⟨k + 1, by go_num, by omega, HLT2, Lib.hid (HB.out.drewN _)⟩
        case measure => simp [intOf]; omega
      · have g1 : decide (ti < xi) = false := by rw [decide_eq_false_iff_not]; omega
        have g2 : (xi == ti) = true := by simpa using h1
        have g3 : Op.bytesLess xs ts = true := by rw [bytesLess_eq]; simpa using h2
        clear h1 h2
        go_wp2_with fail
        go_quiet (fail)
        go_wp2
        go_roundw
        case rel => exact ⟨k + 1, by go_num, by omega, HLT2, Lib.hid (HB.out.drewN _)⟩
        case measure => simp [intOf]; omega
    · have hat := HAT.out k hk HLT.out (fun h hlt => hgo ⟨h, hlt⟩)
      have HA := Lib.hid hat
      have HBw := Lib.hid (bthen HB1.out HB.out)
      by_cases heq : l[k]? = some (ts, tm)
      · have HR := Lib.hid (HSAM.out k hat heq)
        obtain ⟨hkl, hx⟩ := List.getElem?_eq_some_iff.1 heq
        have hki : (k : Int) < (l.length : Int) := by omega
        have g0 : decide ((k : Int) < (l.length : Int)) = true := by rw [decide_eq_true_iff]; omega
        obtain ⟨_, _, e1, _, _, hcc⟩ := HTr.out
        injection e1 with e1 e2 e3
        subst e1
        clear e2 e3
        obtain ⟨b, off, rfl, k1, k2⟩ := hcc k hkl
        rw [hx] at k1 k2
        simp only at k1 k2
        rw [← Nat.add_assoc, HTI.out] at k2
        have g3 : Op.bytesLess ts ts = false := by rw [bytesLess_eq]; simp [List.lt_irrefl]
        clear hx heq hat hgo HLT hcc
        go_wp2_with fail
        go_quiet (fail)
        go_wp2_with fail
        go_quiet (fail)
        go_wp2
        go_ret
        exact ⟨_, rfl, by rw [HR.out]; exact (HTr.out.below ((Below.refl _ wr).drewN _)).below ((Below.refl _ _).drewN _), (HBw.out.drewN _).drewN _⟩
      · have HR := Lib.hid (HADD.out k hk hat heq)
        have hcase : (∃ (b off : Nat) (xs : Wd) (xi : Int), a = some ⟨b, off, none⟩ ∧ wr.cell? ⟨b, off + k * 2, none⟩ = some (.string ⟨xs.toArray⟩) ∧ wr.cell? ⟨b, off + k * 2 + 1, none⟩ = some (.int .i64 xi) ∧ (k : Int) < (l.length : Int) ∧ decide ((k : Int) < (l.length : Int)) = true ∧ decide (ti < xi) = false ∧ (xi == ti) = false)
            ∨ (∃ (b off : Nat) (xs : Wd), a = some ⟨b, off, none⟩ ∧ wr.cell? ⟨b, off + k * 2, none⟩ = some (.string ⟨xs.toArray⟩) ∧ wr.cell? ⟨b, off + k * 2 + 1, none⟩ = some (.int .i64 ti) ∧ (k : Int) < (l.length : Int) ∧ decide ((k : Int) < (l.length : Int)) = true ∧ Op.bytesLess xs ts = false ∧ (xs == ts) = false)
            ∨ (decide ((k : Int) < (l.length : Int)) = false ∧ decide (k < l.length) = false ∧ ¬ (k : Int) < (l.length : Int)) := by
          by_cases hkl : k < l.length
          · obtain ⟨_, _, e1, _, _, hcc⟩ := HTr.out
            injection e1 with e1 e2 e3
            subst e1
            obtain ⟨b, off, ha, k1, k2⟩ := hcc k hkl
            have hnt : ¬ TLt l[k] (ts, tm) := fun h => hgo ⟨hkl, h⟩
            have hne : l[k] ≠ (ts, tm) := fun e => heq (by rw [List.getElem?_eq_getElem hkl, e])
            obtain ⟨⟨xs, xm⟩, hx⟩ : ∃ z, l[k] = z := ⟨_, rfl⟩
            rw [hx] at k1 k2 hnt hne
            simp only at k1 k2
            rw [← Nat.add_assoc] at k2
            have h0 := HTI.out
            rcases Nat.lt_trichotomy xm tm with h | h | h
            · exact .inl ⟨b, off, xs, _, ha, k1, k2, by omega, by rw [decide_eq_true_iff]; omega, by rw [decide_eq_false_iff_not]; omega, by rw [beq_eq_false_iff_ne]; omega⟩
            · subst h
              rw [h0] at k2
              refine .inr (.inl ⟨b, off, xs, ha, k1, k2, by omega, by rw [decide_eq_true_iff]; omega, ?_, ?_⟩)
              · rw [bytesLess_eq]
                rw [decide_eq_false_iff_not]
                exact fun h => hnt (.inr ⟨rfl, h⟩)
              · rw [beq_eq_false_iff_ne]
                exact fun e => hne (by rw [e])
            · exact absurd (.inl h) hnt
          · exact .inr (.inr ⟨by rw [decide_eq_false_iff_not]; omega, by rw [decide_eq_false_iff_not]; omega, by omega⟩)
        have HS1 : Hid (∀ W, Below w.heap.size w W → Src W 2 a k ((l.take k).flatMap termC)) := Lib.hid (fun W hb => terms_src_upto (HT.out.below hb) hk)
        obtain ⟨a', hsl', -⟩ := terms_src_from HT.out hk
        have HS2 : Hid (∀ W, Below w.heap.size w W → Src W 2 a' (l.length - k) ((l.drop k).flatMap termC)) := Lib.hid (fun W hb => by
          obtain ⟨a2, h1, h2⟩ := terms_src_from (HT.out.below hb) hk
          rw [hsl'] at h1
          injection h1 with h1 _ _
          subst h1; exact h2)
        have hone : ∀ l : List (Wd × Nat), ∀ u ∈ l.flatMap termC, u.oneCell' = true := fun l u hu => by
          obtain ⟨p, hp, hup⟩ := List.mem_flatMap.1 hu
          simp only [termC, List.mem_cons, List.not_mem_nil, or_false] at hup
          rcases hup with rfl | rfl <;> rfl
        have HO1 := Lib.hid (hone (l.take k))
        have HO2 := Lib.hid (hone (l.drop k))
        have hru := fun W => run_upto_t (a := a) (n := l.length) (c := c) (k := k) (by omega) W
        have hrf := fun W => run_from_t (a := a) (n := l.length) (c := c) (k := k) hk hsl' W
        have hlen1 : Hid ((l.take k).length = k) := Lib.hid (by rw [List.length_take]; omega)
        obtain ⟨m, hm⟩ : ∃ m, l.length - k = m := ⟨_, rfl⟩
        rw [hm] at hrf HS2
        have hm256 : m ≤ 1000000 := by omega
        have HM := Lib.hid hm
        clear hm hgo hat heq HLT hsl' hone
        rcases hcase with ⟨b, off, xs, xi, rfl, k1, k2, hki, g0, g1, g2⟩ | ⟨b, off, xs, rfl, k1, k2, hki, g0, g3, g4⟩ | ⟨g0, g1, g2⟩
        all_goals
          go_wp2_with fail
          go_quiet (fail)
          go_wp2_with fail
          go_quiet (fail)
          have HBd : Hid (∀ n, Below w.heap.size w (wr.drewN n)) := Lib.hid (fun n => HBw.out.drewN n)
          have hw0 : w.heap.size ≤ wr.heap.size := HBw.out.size
          go_wp2_with (at_builtin; refine wpList_append_src _ rfl _ _ 46 rfl w.heap.size 56 i0 _ 2 24 Tryz.underlying46 hi hz0 hz1 hz2 rfl (by decide) (.slice none 0 0) 0 [] rfl (World.ownsRow_nil _ _ _ _) _ k _ _ rfl (HS1.out _ (HBd.out _)) HO1.out (by unfold maxLen; omega) (by omega) hw0 ?_)
          intro v2 w2 ho2 hg2
          have hb2 : Below wr.heap.size wr w2 := ((Below.refl _ wr).drewN _).grown hg2 (Nat.le_refl _) (fun j e => by cases e)
          have HB2 := Lib.hid (HBw.out.trans (hb2.mono hw0))
          have p1 : w2.cell? ⟨w.heap.size, 0, none⟩ = some (.string ⟨ts.toArray⟩) := (hb2.cell (World.block_lt_of_cell? wr _ s1)).trans s1
          have p2 : w2.cell? ⟨w.heap.size, 1, none⟩ = some (.int .i64 ti) := (hb2.cell (World.block_lt_of_cell? wr _ s2)).trans s2
          obtain ⟨a2, c2, rfl⟩ := row_form ho2
          have HO2r := Lib.hid ho2
          clear ho2 hg2 hb2
          go_wp2_with (at_builtin; refine wpList_append_own _ rfl _ _ 46 rfl w.heap.size 56 i0 _ 2 24 Tryz.underlying46 hi hz0 hz1 hz2 rfl (by decide) _ _ _ rfl (HO2r.out.alloc _) ⟨w2.heap.size, 0, none⟩ 1 1 [.string ⟨ts.toArray⟩, .int .i64 ti] rfl rfl (World.news_of_block (cs := #[.string ⟨ts.toArray⟩, .int .i64 ti]) (t := 56) (fr := (0, 0)) (heap_alloc_new w2 _)) (by simp [Value.oneCell']) (by unfold maxLen; omega) (by omega) (by have := HB2.out.size; first | omega | (simp; omega)) ?_)
          intro v4 w4 ho4 hg4 _
          have HB4 := Lib.hid ((HB2.out.alloc HB2.out.size _).grown hg4 (by have := HB2.out.size; simp; omega) (fun j e => (HO2r.out.lt j e).1))
          clear hg4
          obtain ⟨a4, c4, rfl⟩ := row_form ho4
          have HO4 := Lib.hid ho4
          have hw4 := HB4.out.size
          clear ho4
          go_wp2_with (at_builtin; refine wpList_append_src _ rfl _ _ 46 rfl w.heap.size 56 i0 _ 2 24 Tryz.underlying46 hi hz0 hz1 hz2 rfl (by decide) _ (k + 1) _ rfl HO4.out _ m _ _ rfl (HS2.out _ HB4.out) HO2.out (by unfold maxLen; omega) (by omega) hw4 ?_)
          intro v6 w6 ho6 hg6
          have HB6 := Lib.hid (HB4.out.grown hg6 hw4 (fun j e => (HO4.out.lt j e).1))
          have HO6 := Lib.hid ho6
          clear ho6 hg6
          go_wp2
          go_ret
          refine ⟨_, rfl, ?_, HB6.out⟩
          rw [HR.out]
          refine TermsR.at (base := w.heap.size) ?_
          have e1 : ((l.take k ++ [(ts, tm)]) ++ l.drop k).length = k + 1 + m := by have := HM.out; have := hlen1.out; rw [List.length_append, List.length_append, List.length_drop]; simp only [List.length_singleton]; omega
          unfold TermsR
          rw [e1, List.flatMap_append, List.flatMap_append]
          have := HO6.out
          rw [← HTI.out] at this
          simpa [termC] using this


theorem termsR_snoc (D : List Dc) (p : Wd) (ws : List Wd) (x : Wd) : termsR D p (ws ++ [x]) = if p.isPrefixOf x then addT (termsR D p ws) (x, dn D x) else termsR D p ws := by
  unfold termsR; rw [List.foldl_append]; rfl
theorem termsR_len (D : List Dc) (p : Wd) (ws : List Wd) : (termsR D p ws).length ≤ ws.length := by
  have key : ∀ k, k ≤ ws.length → (termsR D p (ws.take k)).length ≤ k := by
    intro k
    induction k with
    | zero => intro _; simp [termsR]
    | succ k ih =>
      intro hk
      rw [List.take_succ_eq_append_getElem (by omega), termsR_snoc]
      have := ih (by omega)
      split
      · exact Nat.le_trans (addT_len _ _) (by omega)
      · omega
  have := key ws.length (Nat.le_refl _)
  rwa [List.take_length] at this
theorem flatP_len : ∀ {P : List Pd}, (∀ p ∈ P, p.1.2.length ≤ 1000) → (P.flatMap fun p => p.1.2).length ≤ P.length * 1000
  | [], _ => by simp
  | p :: P, h => by
    rw [List.flatMap_cons, List.length_append, List.length_cons]
    have := flatP_len (P := P) fun q hq => h q (List.mem_cons_of_mem _ hq)
    have := h p (by simp)
    omega
theorem docsQ_dn {D : List Dc} (hA : Asc D) (hI : Ids D) {x : Wd} (hx : okWord x) : (docsQ D x).length = dn D x := by
  unfold docsQ; rw [wordOf_word hx]; exact docs_len hA hI x

set_option maxRecDepth 100000 in
set_option maxHeartbeats 16000000 in
theorem refTerms_any {T : Nat → Prop} {y : Nat} {D : List Dc} (w : World) (h : RefAt T w y D) (hA : Asc D) (hI : Ids D) (ho : ∀ d ∈ D, ∀ x ∈ d.2, okWord x) (s : List UInt8) (hs : s.length ≤ 1000000) (n : Int) (hn0 : -9223372036854775808 ≤ n) (hn1 : n ≤ 9223372036854775807) :
    Calls Tryz.prog 27 #[.pointer (some ⟨y, 0, none⟩), .string ⟨s.toArray⟩, .int .i64 n] w fun e w' => ∃ v, e = .returned v ∧ TermsAt w' v (termsQ D s n) ∧ Below w.heap.size w w' := by
  have HW := Lib.hid (refWord_any s (by omega) w)
  have HH := Lib.hid h
  have hsmall := h.small
  have hlen := h.len
  obtain ⟨v, P, hD, hy, hv, hP⟩ := h.parts
  have hpl : P.length ≤ 256 := by rw [hD, List.length_map] at hlen; exact hlen
  obtain ⟨a, c, rfl, hle, hcm, hc⟩ := hv
  have cy : w.cell? ⟨y, 0, none⟩ = some (.slice a P.length c) := by rw [Lib.cell_of_heap hy]; rfl
  have HC := Lib.hid hc
  have HPs := Lib.hid hP
  have hyl := h.ylt
  have HOK : Hid (∀ p ∈ P, ∀ x ∈ p.1.2, okWord x) := Lib.hid (fun p hp x hx => ho p.1 (by rw [hD]; exact List.mem_map_of_mem hp) x hx)
  have HSM : Hid (∀ p ∈ P, p.1.2.length ≤ 1000) := Lib.hid (fun p hp => hsmall p.1 (by rw [hD]; exact List.mem_map_of_mem hp))
  have HDN := Lib.hid (fun x hx => docsQ_dn hA hI (x := x) hx)
  have HFIND := Lib.hid (fun W (hb : Below w.heap.size w W) (x : Wd) (hx : x.length ≤ 1000000) => refFind_any W (h.below hb) hA hI x hx)
  have HALL : Hid (∀ p, termsR D p (P.flatMap fun p => p.1.2) = termsD D p) := Lib.hid (fun p => by
    rw [← termsR_eq, hD, List.flatMap_map])
  clear h hy hc hP hlen hsmall ho hD hA hI
  by_cases hbad : s ≠ [] ∧ wordOf s = none
  · obtain ⟨hs0, hw⟩ := hbad
    have hR : Hid (termsQ D s n = []) := Lib.hid (by unfold termsQ prefW; rw [if_neg hs0, hw])
    have HW1 := HW.out
    rw [hw] at HW1
    simp only [Option.getD_none] at HW1
    have g1 : (!s.isEmpty) = true := by simpa using hs0
    have g2 : s.isEmpty = false := by simpa using hs0
    clear HW hw
    go_enter Tryz.func27, Tryz.ntmps27
    go_wp2_with fail
    refine HW1.mono ?_
    rintro e w1 ⟨rfl, hb1⟩
    have HB1 := Lib.hid hb1
    clear hb1 HW1
    go_wp2
    go_ret
    exact ⟨_, rfl, by rw [hR.out]; exact ⟨_, _, rfl, by simp, by simp, fun k h => by simp at h⟩, HB1.out⟩
  · obtain ⟨p, hp, hpw, hor⟩ : ∃ p, (wordOf s).getD [] = p ∧ prefW s = some p ∧ (p ≠ [] ∨ (s = [] ∧ p = [])) := by
      unfold prefW
      by_cases hs0 : s = []
      · subst hs0; exact ⟨[], rfl, rfl, .inr ⟨rfl, rfl⟩⟩
      · rw [if_neg hs0]
        cases hw : wordOf s with
        | none => exact absurd ⟨hs0, hw⟩ hbad
        | some x => exact ⟨x, rfl, rfl, .inl (wordOf_len hw).1⟩
    have hp30 : p.length ≤ 30 := by
      rw [← hp]
      cases hw : wordOf s with
      | none => simp
      | some x => exact (wordOf_len hw).2
    have HR : Hid (termsQ D s n = (termsD D p).take n.toNat) := Lib.hid (by unfold termsQ; rw [hpw])
    have HW1 := HW.out
    rw [hp] at HW1
    have HWW := Lib.hid HW1
    clear HW hp hpw hbad HW1
    have hor2 : (p.isEmpty = false) ∨ (s = [] ∧ p.isEmpty = true) := by
      rcases hor with h | ⟨h1, h2⟩
      · exact .inl (by simpa using h)
      · exact .inr ⟨h1, by simpa using h2⟩
    have hrow0 := fun (x : Wd) (l : List Wd) => termsR_snoc D p l x
    have HSN := Lib.hid hrow0
    clear hrow0 hor
    rcases hor2 with hpe | ⟨rfl, hpe⟩
    all_goals
      go_enter Tryz.func27, Tryz.ntmps27
      go_wp2_with fail
      refine HWW.out.mono ?_
      rintro e w1 ⟨rfl, hb1⟩
      have HB1 := Lib.hid hb1
      clear hb1 HWW
      go_wp2
      go_loopw [8, 9] (fun u i wr => ∃ k : Nat, i = .int .i64 k ∧ k ≤ P.length ∧ Hid (TermsAt wr u (termsR D p ((P.take k).flatMap fun p => p.1.2))) ∧ Hid (Below w.heap.size w wr)) (fun _ i _ => P.length - (intOf i).toNat)
      case atStart => exact ⟨0, rfl, by omega, Lib.hid ⟨_, _, rfl, by simp [termsR], by simp, fun k h => by simp [termsR] at h⟩, HB1⟩
      case round =>
        obtain ⟨k, rfl, hk, HO, HB⟩ := hrel
        have cyr : wr.cell? ⟨y, 0, none⟩ = some (.slice a P.length c) := cell_same (HB.out.block y hyl) cy
        by_cases hkl : k < P.length
        · have hki : (k : Int) < (P.length : Int) := by omega
          obtain ⟨b, off, rfl, hT, k1, k2⟩ := HC.out k hkl
          have hbl := World.block_lt_of_cell? w _ k1
          have c2w : w.cell? ⟨b, off + k * 2 + 1, none⟩ = some P[k].2 := k2
          have HT : Hid ((P.take (k + 1)).flatMap (fun p => p.1.2) = (P.take k).flatMap (fun p => p.1.2) ++ P[k].1.2) := Lib.hid (by rw [List.take_succ_eq_append_getElem hkl, List.flatMap_append]; simp)
          have hst := HPs.out P[k] (List.getElem_mem hkl)
          have hok := HOK.out P[k] (List.getElem_mem hkl)
          have hfl : ((P.take k).flatMap fun p => p.1.2).length ≤ 256000 := by
            have := flatP_len (P := P.take k) fun q hq => HSM.out q (List.mem_of_mem_take hq)
            rw [List.length_take] at this
            omega
          obtain ⟨⟨⟨i1, ws⟩, u0⟩, hx⟩ : ∃ z, P[k] = z := ⟨_, rfl⟩
          rw [hx] at c2w HT hst hok
          simp only at c2w hst hok HT
          obtain ⟨au, cu, rfl, hu1, hu2, hu3⟩ := hst
          have HU := Lib.hid hu3; have HOKw := Lib.hid hok
          have HC2 := Lib.hid c2w
          obtain ⟨Wk, hWk⟩ : ∃ l, (P.take k).flatMap (fun p => p.1.2) = l := ⟨_, rfl⟩
          rw [hWk] at HO HT hfl
          clear k1 k2 hx hu3 hok c2w hWk
          go_wp2
          go_loopw [8, 10] (fun u i wi => ∃ m : Nat, i = .int .i64 m ∧ m ≤ ws.length ∧ Hid (TermsAt wi u (termsR D p (Wk ++ ws.take m))) ∧ Hid (Below w.heap.size w wi)) (fun _ i _ => ws.length - (intOf i).toNat)
          case atStart => exact ⟨0, rfl, by omega, Lib.hid (by rw [List.take_zero, List.append_nil]; exact HO.out), HB⟩
          case round =>
            obtain ⟨m, rfl, hm, HM, HBm⟩ := hrel
            have cym : wr.cell? ⟨y, 0, none⟩ = some (.slice (some ⟨b, off, none⟩) P.length c) := cell_same (HBm.out.block y hyl) cy
            have c2 : wr.cell? ⟨b, off + k * 2 + 1, none⟩ = some (.slice au ws.length cu) := cell_same (HBm.out.block b hbl) HC2.out
            by_cases hml : m < ws.length
            · have hmi : (m : Int) < (ws.length : Int) := by omega
              obtain ⟨bw, ow, rfl, hTw, kw⟩ := HU.out m hml
              have cw : wr.cell? ⟨bw, ow + m, none⟩ = some (encW ws[m]) := cell_same (HBm.out.block bw (World.block_lt_of_cell? w _ kw)) kw
              have hxo := HOKw.out ws[m] (List.getElem_mem hml)
              have HS : Hid (termsR D p (Wk ++ ws.take (m + 1)) = if p.isPrefixOf ws[m] then addT (termsR D p (Wk ++ ws.take m)) (ws[m], dn D ws[m]) else termsR D p (Wk ++ ws.take m)) := Lib.hid (by rw [List.take_succ_eq_append_getElem hml, ← List.append_assoc, HSN.out])
              have hll : (termsR D p (Wk ++ ws.take m)).length ≤ 300000 := by
                have := termsR_len D p (Wk ++ ws.take m)
                rw [List.length_append, List.length_take] at this
                omega
              obtain ⟨x, hx⟩ : ∃ x, ws[m] = x := ⟨_, rfl⟩
              rw [hx] at cw hxo HS
              unfold encW at cw
              have hx30 := hxo.2.1
              have HDx := Lib.hid (HDN.out x hxo)
              obtain ⟨Q, hQ⟩ : ∃ l, termsR D p (Wk ++ ws.take m) = l := ⟨_, rfl⟩
              rw [hQ] at HM HS hll
              have HFx := Lib.hid (fun W hb => HFIND.out W hb x (by omega))
              clear kw hx hxo hQ
              obtain ⟨B, hB⟩ : ∃ B, p.isPrefixOf x = B := ⟨_, rfl⟩
              have hbg := begins_any x p wr
              rw [hB] at hbg HS
              have HBG := Lib.hid hbg
              clear hbg hB
              go_wp2_with fail
              refine HBG.out.mono ?_
              rintro e w2 ⟨rfl, rfl⟩
              cases B with
              | true =>
                have HS2 : Hid (termsR D p (Wk ++ ws.take (m + 1)) = addT Q (x, dn D x)) := Lib.hid (by rw [HS.out]; rfl)
                clear HS
                go_wp2_with fail
                refine (HFx.out _ HBm.out).mono ?_
                rintro e w3 ⟨vf, rfl, hrf, hb3⟩
                have HB3 := Lib.hid (HBm.out.trans (hb3.mono HBm.out.size))
                have HM3 := Lib.hid (HM.out.below hb3)
                obtain ⟨af, cf, rfl⟩ := row_form hrf
                rw [HDx.out] at *
                have HADD := Lib.hid (refAdd_any w3 _ Q HM3.out (by omega) (x, dn D x))
                obtain ⟨dd, hdd⟩ : ∃ d, dn D x = d := ⟨_, rfl⟩
                rw [hdd] at HADD HS2 ⊢
                clear hrf hb3 hdd HFx
                go_wp2_with fail
                refine HADD.out.mono ?_
                rintro e w4 ⟨v4, rfl, ht4, hb4⟩
                have HM4 : Hid (TermsAt w4 v4 (termsR D p (Wk ++ ws.take (m + 1)))) := Lib.hid (by rw [HS2.out]; exact ht4)
                have HB4 := Lib.hid (HB3.out.trans (hb4.mono HB3.out.size))
                clear ht4 hb4 HADD HM HM3
                go_wp2
                go_roundw
                case rel => exact ⟨m + 1, by go_num, by omega, HM4, HB4⟩
                case measure => simp [intOf]; omega
              | false =>
                have HM4 : Hid (TermsAt wr u8 (termsR D p (Wk ++ ws.take (m + 1)))) := Lib.hid (by rw [HS.out]; exact HM.out)
                clear HS HM HFx
                go_wp2
                go_roundw
                case rel => exact ⟨m + 1, by go_num, by omega, HM4, HBm⟩
                case measure => simp [intOf]; omega
            · have HM4 : Hid (TermsAt wr u8 (termsR D p ((P.take (k + 1)).flatMap fun p => p.1.2))) := Lib.hid (by
                have := HM.out
                rw [List.take_of_length_le (by omega)] at this
                rw [HT.out]; exact this)
              clear HM
              go_wp2
              go_roundw
              case rel => exact ⟨k + 1, by go_num, by omega, HM4, HBm⟩
              case measure => simp [intOf]; omega
        · have HO9 : Hid (TermsAt wr u8 (termsD D p)) := Lib.hid (by
            have := HO.out
            rw [List.take_of_length_le (by omega), HALL.out] at this
            exact this)
          clear HO
          obtain ⟨L, hL⟩ : ∃ L, termsD D p = L := ⟨_, rfl⟩
          rw [hL] at HO9 HR
          obtain ⟨aL, cL, rfl, hl1, hl2, hl3⟩ := HO9.out
          obtain ⟨M, hM⟩ : ∃ M, (L.take n.toNat).length = M := ⟨_, rfl⟩
          have hM2 : M = min n.toNat L.length := by rw [← hM, List.length_take]
          have hmx : max 0 (min n (L.length : Int)) = (M : Int) := by omega
          have HL3 := Lib.hid hl3
          have HMM := Lib.hid hM
          have hrun := fun W => run_upto_t (a := aL) (n := L.length) (c := cL) (k := M) (by omega) W
          have hMl : M ≤ L.length := by omega
          clear hl3 hM2 hM hL
          go_wp2
          go_ret
          refine ⟨_, rfl, ?_, HB.out⟩
          rw [HR.out]
          refine ⟨aL, cL, by rw [HMM.out]; rfl, by rw [HMM.out]; omega, hl2, fun j hj => ?_⟩
          have hj2 : j < L.length := by rw [HMM.out] at hj; omega
          obtain ⟨b, off, e, k1, k2⟩ := HL3.out j hj2
          exact ⟨b, off, e, by rw [List.getElem_take]; exact k1, by rw [List.getElem_take]; exact k2⟩
end Go.Proofs.YtmfnhfkgkdibfaaGreat

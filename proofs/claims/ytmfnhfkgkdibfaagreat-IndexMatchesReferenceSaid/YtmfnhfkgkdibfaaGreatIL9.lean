/- The index and the reference's index side by side. IndexMatchesReference. -/
import Derived.Test.YtmfnhfkgkdibfaaGreatIRfF
import Derived.Test.YtmfnhfkgkdibfaaGreatIL8
namespace Go.Proofs.YtmfnhfkgkdibfaaGreat
open Go.RowKit Go.Sort Go.Proofs Go.Maps

/-- both indexes; all their blocks are from B on -/
structure Both (B : Nat) (S T : Nat → Prop) (N : Nat) (w : World) (p y : Nat) (D E : List Dc) : Prop where
  idx : IdxAt S (fun k => k = y) N w p D
  ref : RefAt T w y E
  apart : ∀ k, S k → ¬ T k
  lowS : ∀ k, S k → B ≤ k
  lowT : ∀ k, T k → B ≤ k
  lowY : B ≤ y
/-- what became of the world since w0 -/
def St (B : Nat) (w0 : World) (p y : Nat) (D E : List Dc) (N : Nat) (W : World) : Prop := ∃ S T : Nat → Prop, Both B S T N W p y D E ∧ Below B w0 W

theorem St.below {B : Nat} {w0 : World} {p y : Nat} {D E : List Dc} {N : Nat} {W W' : World} (h : St B w0 p y D E N W) (hb : Below W.heap.size W W') (hB : B ≤ W.heap.size) : St B w0 p y D E N W' := by
  obtain ⟨S, T, h1, h2⟩ := h
  exact ⟨S, T, ⟨h1.idx.below hb, h1.ref.below hb, h1.apart, h1.lowS, h1.lowT, h1.lowY⟩, h2.trans (hb.mono hB)⟩
theorem St.size {B : Nat} {w0 : World} {p y : Nat} {D E : List Dc} {N : Nat} {W : World} (h : St B w0 p y D E N W) : B ≤ W.heap.size := by
  obtain ⟨S, T, h1, h2⟩ := h
  have := h1.ref.ylt
  have := h1.lowY
  omega
theorem St.xstep {B : Nat} {w0 : World} {p y : Nat} {D E D' : List Dc} {N N' : Nat} {W W' : World} {S T : Nat → Prop} (h : Both B S T N W p y D E) (h2 : Below B w0 W) {S' : Nat → Prop} (hI : IdxAt S' (fun k => k = y) N' W' p D') (hb : But S W.heap.size W W') (hs : ∀ k, S' k → S k ∨ W.heap.size ≤ k) : St B w0 p y D' E N' W' := by
  have hBW : B ≤ W.heap.size := by have := h.ref.ylt; have := h.lowY; omega
  refine ⟨S', T, ⟨hI, h.ref.kept hb.size fun k hk => hb.block k ?_ ?_, fun k hk ht => ?_, fun k hk => ?_, h.lowT, h.lowY⟩, h2.trans (hb.below hBW h.lowS)⟩
  · rcases hk with hk | rfl
    · exact h.ref.lt k hk
    · exact h.ref.ylt
  · intro hs
    rcases hk with hk | rfl
    · exact h.apart k hs hk
    · exact h.idx.out k hs rfl
  · rcases hs k hk with h1 | h1
    · exact h.apart k h1 ht
    · have := h.ref.lt k ht; omega
  · rcases hs k hk with h1 | h1
    · exact h.lowS k h1
    · omega
theorem St.ystep {B : Nat} {w0 : World} {p y : Nat} {D E E' : List Dc} {N : Nat} {W W' : World} {S T : Nat → Prop} (h : Both B S T N W p y D E) (h2 : Below B w0 W) {T' : Nat → Prop} (hR : RefAt T' W' y E') (hb : But (fun k => k = y) W.heap.size W W') (ht : ∀ k, T' k → T k ∨ W.heap.size ≤ k) : St B w0 p y D E' N W' := by
  have hBW : B ≤ W.heap.size := by have := h.ref.ylt; have := h.lowY; omega
  refine ⟨S, T', ⟨h.idx.kept hb fun k hk => hk, hR, fun k hk hk2 => ?_, h.lowS, fun k hk => ?_, h.lowY⟩, h2.trans (hb.below hBW fun k hk => by rw [hk]; exact h.lowY)⟩
  · rcases ht k hk2 with h1 | h1
    · exact h.apart k hk h1
    · have := h.idx.lt k hk; omega
  · rcases ht k hk with h1 | h1
    · exact h.lowT k h1
    · omega
theorem St.start {w0 w w' : World} {p : Nat} {S : Nat → Prop} (h : IdxAt S (fun _ => False) 0 w p []) (hS : ∀ k, S k → w0.heap.size ≤ k) (hb : Below w0.heap.size w0 w) (hw : w.alloc (.cells #[.slice none 0 0] 31) = w') : St w0.heap.size w0 p w.heap.size [] [] 0 w' := by
  have hb2 : Below w.heap.size w w' := by rw [← hw]; exact (Below.refl _ w).alloc (Nat.le_refl _) _
  have hsz : w.heap.size < w'.heap.size := by rw [← hw]; simp
  have hI := h.below hb2
  obtain ⟨b1, b2, v, tx, g, h1, h2, h3, h4, h5⟩ := hI.parts
  refine ⟨S, fun _ => False, ⟨⟨.nil, (fun d hd => by cases hd), (fun d hd => by cases hd), (fun d hd => by cases hd), hI.lt, fun k hk e => ?_, hI.own, b1, b2, v, tx, g, h1, h2, ⟨h3.map, h3.own, h3.none, fun id l hl => by simp [wordsAt] at hl⟩, h4, h5⟩,
    ⟨by simp, (fun d hd => by cases hd), fun k hk => hk.elim, hsz, fun h => h, .slice none 0 0, [], rfl, by rw [← hw]; exact heap_alloc_new _ _, ⟨none, 0, rfl, by simp, by omega, fun j hj => by simp at hj⟩, (fun p hp => by cases hp)⟩, fun k _ hk => hk, hS, fun k hk => hk.elim, hb.size⟩, hb.trans (hb2.mono hb.size)⟩
  subst e
  exact Nat.lt_irrefl _ (h.lt _ hk)

def retOf (id : Int) : Int := if 1 ≤ id ∧ id ≤ 256 then 0 else 170
theorem x_put {B : Nat} {w0 : World} {p y : Nat} {D E : List Dc} {N : Nat} {W : World} (h : St B w0 p y D E N W) (hN : N ≤ 500000) (o : Op3) (ho : o.1 ≠ 0) (hs : o.2.2.length ≤ 200) :
    Calls Tryz.prog 15 #[.pointer (some ⟨p, 0, none⟩), .int .i64 o.2.1, .string ⟨o.2.2.toArray⟩] W fun e w' => e = .returned (.int .i64 (retOf o.2.1)) ∧ St B w0 p y (stepD D o) E (N + 1000) w' := by
  obtain ⟨S, T, h1, h2⟩ := h
  unfold stepD retOf
  rw [if_neg ho]
  by_cases hv : 1 ≤ o.2.1 ∧ o.2.1 ≤ 256
  · rw [if_pos hv, if_pos hv]
    refine (put_any W h1.idx hN (fun k hk => by rw [hk]; exact h1.ref.ylt) o.2.1 hv.1 hv.2 o.2.2 hs).mono ?_
    rintro e w' ⟨rfl, S', hI, hb, hs'⟩
    exact ⟨rfl, St.xstep h1 h2 hI hb hs'⟩
  · rw [if_neg hv, if_neg hv]
    refine (put_refused W h1.idx o.2.1 o.2.2 (by omega)).mono ?_
    rintro e w' ⟨rfl, rfl⟩
    exact ⟨rfl, S, T, ⟨h1.idx.more (by omega), h1.ref, h1.apart, h1.lowS, h1.lowT, h1.lowY⟩, h2⟩
theorem y_put {B : Nat} {w0 : World} {p y : Nat} {D E : List Dc} {N : Nat} {W : World} (h : St B w0 p y D E N W) (hA : Asc E) (hI : Ids E) (o : Op3) (ho : o.1 ≠ 0) (hs : o.2.2.length ≤ 200) :
    Calls Tryz.prog 16 #[.pointer (some ⟨y, 0, none⟩), .int .i64 o.2.1, .string ⟨o.2.2.toArray⟩] W fun e w' => e = .returned (.int .i64 (retOf o.2.1)) ∧ St B w0 p y D (stepD E o) N w' := by
  obtain ⟨S, T, h1, h2⟩ := h
  unfold stepD retOf
  rw [if_neg ho]
  by_cases hv : 1 ≤ o.2.1 ∧ o.2.1 ≤ 256
  · rw [if_pos hv, if_pos hv]
    refine (refPut_any W h1.ref hA hI o.2.1 hv.1 hv.2 o.2.2 hs).mono ?_
    rintro e w' ⟨rfl, T', hR, hb, ht⟩
    exact ⟨rfl, St.ystep h1 h2 hR hb ht⟩
  · rw [if_neg hv, if_neg hv]
    refine (refPut_refused W o.2.1 o.2.2 (by omega)).mono ?_
    rintro e w' ⟨rfl, rfl⟩
    exact ⟨rfl, S, T, h1, h2⟩
theorem x_rem {B : Nat} {w0 : World} {p y : Nat} {D E : List Dc} {N : Nat} {W : World} (h : St B w0 p y D E N W) (id : Int) (h1 : -9223372036854775808 ≤ id) (h2 : id ≤ 9223372036854775807) :
    Calls Tryz.prog 13 #[.pointer (some ⟨p, 0, none⟩), .int .i64 id] W fun e w' => e = .returned (.tuple #[]) ∧ St B w0 p y (remD D id) E N w' := by
  obtain ⟨S, T, h3, h4⟩ := h
  refine (remove_any W h3.idx id h1 h2).mono ?_
  rintro e w' ⟨rfl, hI, hb⟩
  exact ⟨rfl, St.xstep h3 h4 hI hb fun k hk => .inl hk⟩
theorem y_rem {B : Nat} {w0 : World} {p y : Nat} {D E : List Dc} {N : Nat} {W : World} (h : St B w0 p y D E N W) (id : Int) :
    Calls Tryz.prog 14 #[.pointer (some ⟨y, 0, none⟩), .int .i64 id] W fun e w' => e = .returned (.tuple #[]) ∧ St B w0 p y D (remD E id) N w' := by
  obtain ⟨S, T, h3, h4⟩ := h
  refine (refRemove_any W h3.ref id).mono ?_
  rintro e w' ⟨rfl, T', hR, hb, ht⟩
  exact ⟨rfl, St.ystep h3 h4 hR hb ht⟩
theorem RefAt.cell {T : Nat → Prop} {w : World} {y : Nat} {D : List Dc} (h : RefAt T w y D) : ∃ a c, w.cell? ⟨y, 0, none⟩ = some (.slice a D.length c) := by
  obtain ⟨v, P, hD, hy, ⟨a, c, hv, _⟩, _⟩ := h.parts
  refine ⟨a, c, ?_⟩
  rw [Lib.cell_of_heap hy, hD, List.length_map, hv]; rfl
theorem sameInts_true (v v' : Value) (l : List Int) (w : World) (h : IntsAt w v l) (h' : IntsAt w v' l) :
    Calls Tryz.prog 19 #[v, v'] w fun e w' => e = .returned (.bool true) ∧ Below w.heap.size w w' := by
  have := sameInts_any v v' l l w h h'
  simpa using this

theorem int_next {a W : World} {v : Value} {l : List Int} (k : Below a.heap.size a W) (h : IntsAt a v l) : IntsAt W v l := h.below k
theorem hit_next {a W : World} {v : Value} {l : List (Int × Nat)} (k : Below a.heap.size a W) (h : HitsAt a v l) : HitsAt W v l := h.below k
theorem term_next {a W : World} {v : Value} {l : List (Wd × Nat)} (k : Below a.heap.size a W) (h : TermsAt a v l) : TermsAt W v l := h.below k

theorem all_at {S Q : Nat → Prop} {N p : Nat} {D : List Dc} (w : World) (h : IdxAt S Q N w p D) (hl : D.length ≤ 256) :
    Calls Tryz.prog 20 #[.pointer (some ⟨p, 0, none⟩)] w fun e w' => ∃ v, e = .returned v ∧ IntsAt w' v (D.map (·.1)) ∧ Below w.heap.size w w' :=
  (all_any w h).mono fun _ _ ⟨v, he, hr, hb⟩ => ⟨v, he, IntsR.at hr (by rw [List.length_map]; omega), hb⟩
theorem refAll_at {T : Nat → Prop} {y : Nat} {D : List Dc} (w : World) (h : RefAt T w y D) :
    Calls Tryz.prog 21 #[.pointer (some ⟨y, 0, none⟩)] w fun e w' => ∃ v, e = .returned v ∧ IntsAt w' v (D.map (·.1)) ∧ Below w.heap.size w w' :=
  (refAll_any w h).mono fun _ _ ⟨v, he, hr, hb⟩ => ⟨v, he, IntsR.at hr (by have := h.len; rw [List.length_map]; omega), hb⟩
theorem hits_at {K : FuncId} {args : Array Value} {w : World} {l : List (Int × Nat)} (h : Calls Tryz.prog K args w fun e w' => ∃ v, e = .returned v ∧ HitsR w.heap.size w' v l ∧ Below w.heap.size w w') :
    Calls Tryz.prog K args w fun e w' => ∃ v, e = .returned v ∧ HitsAt w' v l ∧ Below w.heap.size w w' :=
  h.mono fun _ _ ⟨v, he, hr, hb⟩ => ⟨v, he, HitsR.at hr, hb⟩
theorem terms_at {K : FuncId} {args : Array Value} {w : World} {l : List (Wd × Nat)} (h : Calls Tryz.prog K args w fun e w' => ∃ v, e = .returned v ∧ TermsR w.heap.size w' v l ∧ Below w.heap.size w w') :
    Calls Tryz.prog K args w fun e w' => ∃ v, e = .returned v ∧ TermsAt w' v l ∧ Below w.heap.size w w' :=
  h.mono fun _ _ ⟨v, he, hr, hb⟩ => ⟨v, he, TermsR.at hr, hb⟩

set_option maxRecDepth 1000000 in
set_option maxHeartbeats 16000000 in
theorem lawMatches_any (v : Value) (ops : List Op3) (vq : Value) (qs : List (List UInt8)) (n : Int) (w : World) (h : OpsAt w v ops) (hok : ∀ o ∈ ops, okOp o) (hlen : ∀ o ∈ ops, o.2.2.length ≤ 9223372036854775807) (hq : StrsL w vq qs) (hqs : ∀ s ∈ qs, s.length ≤ 9223372036854775807) (hn0 : -9223372036854775808 ≤ n) (hn1 : n ≤ 9223372036854775807) :
    Calls Tryz.prog 3 #[v, vq, .int .i64 n] w fun e w' => e = .returned (.bool true) ∧ Below w.heap.size w w' := by
  have HOK := Lib.hid (few_ok hok)
  have HL := Lib.hid hlen
  have HOP := Lib.hid h
  have HQ := Lib.hid hq; have HQS := Lib.hid hqs
  have hfl := few_len ops
  obtain ⟨hq5, hq40⟩ := queries_small qs
  have HQ40 := Lib.hid hq40
  clear h hok hlen hq hqs hq40
  go_enter Tryz.func3, Tryz.ntmps3
  go_wp2_with fail
  refine (sane_any w).mono ?_
  rintro e w1 ⟨rfl, hb1⟩
  go_wp2_with fail
  refine (few_any v ops w1 (HOP.out.below hb1) HL.out).mono ?_
  rintro e w2 ⟨vf, rfl, hf, hb2⟩
  have HB2 := Lib.hid (bthen hb1 hb2)
  have hof := opsAt_of_owns hf (by omega)
  obtain ⟨l, hl⟩ : ∃ l, fewL ops = l := ⟨_, rfl⟩
  rw [hl] at hof hfl HOK
  have HOF := Lib.hid hof
  obtain ⟨af, cf, rfl, hfle, -, -⟩ := hof
  clear hb1 hb2 hf hl
  go_wp2_with fail
  refine (new_any _).mono ?_
  rintro e w4 ⟨p, S0, rfl, hI0, hS0, hb4⟩
  obtain ⟨w5, hw5⟩ : ∃ w5, w4.alloc (.cells #[.slice none 0 0] 31) = w5 := ⟨_, rfl⟩
  have HST0 := Lib.hid (St.start hI0 hS0 hb4 hw5)
  have hyl := HST0.out.size
  clear hI0 hS0 hb4
  go_wp2_with fail
  clear hw5
  obtain ⟨y, hy⟩ : ∃ y, w4.heap.size = y := ⟨_, rfl⟩
  rw [hy] at HST0 ⊢
  clear hy
  go_wp2
  go_loopw [11] (fun i wr => ∃ k : Nat, i = .int .i64 k ∧ k ≤ l.length ∧ Hid (St w2.heap.size w2 p y (runD (l.take k)) (runD (l.take k)) (1000 * k) wr)) (fun i _ => l.length - (intOf i).toNat)
  case atStart => exact ⟨0, rfl, by omega, HST0⟩
  case round =>
    obtain ⟨k, rfl, hk, HST⟩ := hrel
    have hBr := HST.out.size
    have HBl : Hid (Below w2.heap.size w2 wr) := Lib.hid (by obtain ⟨_, _, _, h⟩ := HST.out; exact h)
    by_cases hkl : k < l.length
    · have hki : (k : Int) < (l.length : Int) := by omega
      obtain ⟨_, _, e1, _, _, hcc⟩ := HOF.out.below HBl.out
      injection e1 with e1 e2 e3
      subst e1
      clear e2 e3
      obtain ⟨b, off, rfl, c1, c2, c3⟩ := hcc k hkl
      have hox := HOK.out l[k] (List.getElem_mem hkl)
      have HSU := Lib.hid (runD_succ l k hkl)
      have hasc := (run_facts (l.take k)).1
      have hids := (run_facts (l.take k)).2.1
      obtain ⟨⟨x1, x2, x3⟩, hx⟩ : ∃ x, l[k] = x := ⟨_, rfl⟩
      rw [hx] at c1 c2 c3 HSU hox
      simp only at c1 c2 c3
      obtain ⟨⟨⟨ha1, ha2⟩, ha3, ha4⟩, ha5⟩ := hox
      simp only at ha1 ha2 ha3 ha4 ha5
      obtain ⟨D, hD⟩ : ∃ D, runD (l.take k) = D := ⟨_, rfl⟩
      rw [hD] at HST HSU hasc hids
      obtain ⟨D', hD'⟩ : ∃ D, runD (l.take (k + 1)) = D := ⟨_, rfl⟩
      have HD' := Lib.hid hD'
      rw [hD'] at HSU
      have hblt : b < w2.heap.size := by
        obtain ⟨_, _, e1, _, _, hc2⟩ := HOF.out
        injection e1 with e1 _ _
        subst e1
        obtain ⟨b', off', e2, k1, -, -⟩ := hc2 k hkl
        injection e2 with e2
        injection e2 with e2 _
        subst e2
        exact World.block_lt_of_cell? w2 _ k1
      have HC2 : Hid (∀ W D E N, St w2.heap.size w2 p y D E N W → W.cell? ⟨b, off + k * 3 + 1, none⟩ = some (.int .i64 x2)) := Lib.hid (fun W D E N hW => by
        obtain ⟨_, _, _, hb⟩ := hW
        exact cell_same ((hb.block b hblt).trans (HBl.out.block b hblt).symm) c2)
      have HC3 : Hid (∀ W D E N, St w2.heap.size w2 p y D E N W → W.cell? ⟨b, off + k * 3 + 2, none⟩ = some (.string ⟨x3.toArray⟩)) := Lib.hid (fun W D E N hW => by
        obtain ⟨_, _, _, hb⟩ := hW
        exact cell_same ((hb.block b hblt).trans (HBl.out.block b hblt).symm) c3)
      clear hx hcc hD hD'
      by_cases hx0 : x1 = 0
      · have g0 : (x1 == 0) = true := by simpa using hx0
        have hst : D' = remD D x2 := by rw [HSU.out]; unfold stepD; rw [if_pos hx0]
        have HS9 := Lib.hid hst
        clear hx0 hst
        go_wp2_with fail
        refine (x_rem HST.out x2 ha3 ha4).mono ?_
        rintro e w6 ⟨rfl, hs6⟩
        have c2' := HC2.out _ _ _ _ hs6
        have HS6 := Lib.hid hs6
        clear hs6
        go_wp2_with fail
        refine (y_rem HS6.out x2).mono ?_
        rintro e w7 ⟨rfl, hs7⟩
        rw [← HS9.out] at hs7
        have HS7 : Hid (St w2.heap.size w2 p y (runD (l.take (k + 1))) (runD (l.take (k + 1))) (1000 * (k + 1)) w7) := Lib.hid (by
          rw [HD'.out]
          obtain ⟨S, T, h1, h2⟩ := hs7
          exact ⟨S, T, ⟨h1.idx.more (by omega), h1.ref, h1.apart, h1.lowS, h1.lowT, h1.lowY⟩, h2⟩)
        clear hs7
        go_wp2
        go_roundw
        case rel => exact ⟨k + 1, by go_num, by omega, HS7⟩
        case measure => simp [intOf]; omega
      · have g0 : (x1 == 0) = false := by simpa using hx0
        have CX : Hid (Calls Tryz.prog 15 #[.pointer (some ⟨p, 0, none⟩), .int .i64 x2, .string ⟨x3.toArray⟩] wr.drew fun e w' => e = .returned (.int .i64 (retOf x2)) ∧ Hid (St w2.heap.size w2 p y D' D (1000 * k + 1000) w') ∧ w'.cell? ⟨b, off + k * 3 + 1, none⟩ = some (.int .i64 x2) ∧ w'.cell? ⟨b, off + k * 3 + 2, none⟩ = some (.string ⟨x3.toArray⟩)) := Lib.hid (by
          refine (x_put (HST.out.below ((Below.refl _ wr).drew) hBr) (by omega) (x1, x2, x3) hx0 ha5).mono ?_
          rintro e w' ⟨rfl, hs⟩
          rw [← HSU.out] at hs
          exact ⟨rfl, Lib.hid hs, HC2.out _ _ _ _ hs, HC3.out _ _ _ _ hs⟩)
        have CY : Hid (∀ W, Hid (St w2.heap.size w2 p y D' D (1000 * k + 1000) W) → Calls Tryz.prog 16 #[.pointer (some ⟨y, 0, none⟩), .int .i64 x2, .string ⟨x3.toArray⟩] W fun e w' => e = .returned (.int .i64 (retOf x2)) ∧ Hid (St w2.heap.size w2 p y (runD (l.take (k + 1))) (runD (l.take (k + 1))) (1000 * (k + 1)) w') ∧ w'.cell? ⟨b, off + k * 3 + 1, none⟩ = some (.int .i64 x2) ∧ w'.cell? ⟨b, off + k * 3 + 2, none⟩ = some (.string ⟨x3.toArray⟩)) := Lib.hid (fun W hW => by
          refine (y_put hW.out hasc hids (x1, x2, x3) hx0 ha5).mono ?_
          rintro e w' ⟨rfl, hs⟩
          rw [← HSU.out] at hs
          refine ⟨rfl, Lib.hid ?_, HC2.out _ _ _ _ hs, HC3.out _ _ _ _ hs⟩
          rw [HD'.out, show 1000 * (k + 1) = 1000 * k + 1000 by omega]; exact hs)
        obtain ⟨r, hr⟩ : ∃ r, retOf x2 = r := ⟨_, rfl⟩
        rw [hr] at CX CY
        have c2d : wr.drew.cell? ⟨b, off + k * 3 + 1, none⟩ = some (.int .i64 x2) := c2
        have c3d : wr.drew.cell? ⟨b, off + k * 3 + 2, none⟩ = some (.string ⟨x3.toArray⟩) := c3
        clear hx0 hr hasc hids
        go_upto_region 11 with fail
        go_region_held3 (fun w' => w'.cell? ⟨b, off + k * 3 + 1, none⟩ = some (.int .i64 x2) ∧ w'.cell? ⟨b, off + k * 3 + 2, none⟩ = some (.string ⟨x3.toArray⟩))
          (first
            | (with_reducible assumption)
            | (exact ⟨by with_reducible assumption, by with_reducible assumption⟩))
          (first
            | (go_at_call 15; with_reducible (refine CX.out.mono ?_); rintro e wn ⟨rfl, hsn, hcn2, hcn3⟩)
            | (go_at_call 16; with_reducible (refine (CY.out _ (by with_reducible assumption)).mono ?_); rintro e wm ⟨rfl, hsm, hcm2, hcm3⟩)
            | fail)
        go_wp2
        go_roundw
        case rel => exact ⟨k + 1, by go_num, by omega, hsm⟩
        case measure => simp [intOf]; omega
    · have hst : St w2.heap.size w2 p y (runD l) (runD l) 12000 wr := by
        have := HST.out
        rw [List.take_of_length_le (by omega)] at this
        obtain ⟨S, T, h1, h2⟩ := this
        exact ⟨S, T, ⟨h1.idx.more (by omega), h1.ref, h1.apart, h1.lowS, h1.lowT, h1.lowY⟩, h2⟩
      obtain ⟨S, T, hBo, hB2r⟩ := hst
      have HBr : Hid (Below w.heap.size w wr) := Lib.hid (bthen HB2.out hB2r)
      obtain ⟨D, hD⟩ : ∃ D, runD l = D := ⟨_, rfl⟩
      rw [hD] at hBo
      have HX := Lib.hid hBo.idx
      have HY := Lib.hid hBo.ref
      have HA := Lib.hid hBo.idx.asc; have HI := Lib.hid hBo.idx.ids; have HO := Lib.hid hBo.idx.oks
      clear hBo hB2r hD HST HBl HST0 HOF HOK
      go_wp2_with fail
      refine (queries_any vq qs wr (HQ.out.below HBr.out) HQS.out).mono ?_
      rintro e w7 ⟨v7, rfl, ho7, hb7⟩
      have HB7 := Lib.hid (bthen HBr.out hb7)
      have HX7 := Lib.hid (HX.out.below hb7)
      have HY7 := Lib.hid (HY.out.below hb7)
      have HST := Lib.hid (strsAt_of_owns ho7 (by omega))
      obtain ⟨q, hq⟩ : ∃ q, queriesL qs = q := ⟨_, rfl⟩
      rw [hq] at hq5 HQ40 HST
      obtain ⟨aq, cq_, rfl, hqle, -, -⟩ := HST.out
      clear ho7 hb7 HBr hq HX HY
      have hdl := docs_le HA.out HI.out
      obtain ⟨ay, cyc, cy⟩ := HY7.out.cell
      have hq6 : ∀ s ∈ q, s.length ≤ 1000000 := fun s hs => by have := HQ40.out s hs; omega
      have cAll := fun W (h : Below w7.heap.size w7 W) => all_at W (HX7.out.below h) hdl
      have cRAll := fun W (h : Below w7.heap.size w7 W) => refAll_at W (HY7.out.below h)
      have cPh := fun W (h : Below w7.heap.size w7 W) => hits_at (phrase_any W (HX7.out.below h) (by omega) _ q (HST.out.below h) (by omega) hq6)
      have cRPh := fun W (h : Below w7.heap.size w7 W) => hits_at (refPhrase_any W (HY7.out.below h) HA.out HI.out _ q (HST.out.below h) (by omega) hq6)
      have cT := fun s (hs : s.length ≤ 1000000) W (h : Below w7.heap.size w7 W) => terms_at (terms_any W (HX7.out.below h) (by omega) s hs n hn0 hn1)
      have cRT := fun s (hs : s.length ≤ 1000000) W (h : Below w7.heap.size w7 W) => refTerms_any W (HY7.out.below h) HA.out HI.out HO.out s hs n hn0 hn1
      have cLen := fun W (h : Below w7.heap.size w7 W) => len_any W (HX7.out.below h)
      have HCT := Lib.hid cT; have HCRT := Lib.hid cRT
      have KT := Lib.hid (cT [] (by decide)); have KRT := Lib.hid (cRT [] (by decide))
      obtain ⟨L0, hL0⟩ : ∃ L, D.map (·.1) = L := ⟨_, rfl⟩
      obtain ⟨L1, hL1⟩ : ∃ L, phraseQ D q = L := ⟨_, rfl⟩
      obtain ⟨L2, hL2⟩ : ∃ L, termsQ D [] n = L := ⟨_, rfl⟩
      obtain ⟨dl, hdl2⟩ : ∃ d, D.length = d := ⟨_, rfl⟩
      rw [hL0] at cAll cRAll
      rw [hL1] at cPh cRPh
      rw [hL2] at KT KRT
      rw [hdl2] at cLen cy
      have KA := Lib.hid cAll; have KRA := Lib.hid cRAll; have KP := Lib.hid cPh; have KRP := Lib.hid cRPh; have KL := Lib.hid cLen
      have hb0 : Below w7.heap.size w7 w7.drew := (Below.refl _ w7).drew
      have cyd : w7.drew.cell? ⟨y, 0, none⟩ = some (.slice ay dl cyc) := cy
      clear cAll cRAll cPh cRPh cLen cT cRT hL0 hL1 hL2 hdl2 hdl hq6
      go_upto_region 14 with fail
      go_region_held3 (fun w' => w'.cell? ⟨y, 0, none⟩ = some (.slice ay dl cyc) ∧ Below w7.heap.size w7 w')
        (first
          | (with_reducible assumption)
          | (exact s_keep (by with_reducible assumption) (by with_reducible assumption))
          | (exact ⟨by with_reducible assumption, by with_reducible assumption⟩)
          | (exact (s_keep (by with_reducible assumption) (by with_reducible assumption)).1)
          | (exact (s_keep (by with_reducible assumption) (by with_reducible assumption)).2))
        (first
          | (go_at_call 18; with_reducible (refine (KL.out _ (by first | with_reducible assumption | exact And.right (by with_reducible assumption))).mono ?_); rintro e wn ⟨rfl, rfl⟩)
          | (go_at_call 20; with_reducible (refine (KA.out _ (by first | with_reducible assumption | exact And.right (by with_reducible assumption))).mono ?_); rintro e wn ⟨vn, rfl, hrn, hbn⟩)
          | (go_at_call 21; with_reducible (refine (KRA.out _ (by first | with_reducible assumption | exact And.right (by with_reducible assumption))).mono ?_); rintro e wn ⟨vn, rfl, hrn, hbn⟩)
          | (go_at_call 19; refine (sameInts_true _ _ L0 _ (by first | with_reducible assumption | exact int_next (by with_reducible assumption) (by with_reducible assumption)) (by first | with_reducible assumption | exact int_next (by with_reducible assumption) (by with_reducible assumption))).mono ?_; rintro e wn ⟨rfl, hbn⟩)
          | (go_at_call 23; with_reducible (refine (KP.out _ (by first | with_reducible assumption | exact And.right (by with_reducible assumption))).mono ?_); rintro e wn ⟨vn, rfl, hrn, hbn⟩)
          | (go_at_call 24; with_reducible (refine (KRP.out _ (by first | with_reducible assumption | exact And.right (by with_reducible assumption))).mono ?_); rintro e wn ⟨vn, rfl, hrn, hbn⟩)
          | (go_at_call 22; refine (sameHits_true _ _ L1 _ (by first | with_reducible assumption | exact hit_next (by with_reducible assumption) (by with_reducible assumption)) (by first | with_reducible assumption | exact hit_next (by with_reducible assumption) (by with_reducible assumption))).mono ?_; rintro e wn ⟨rfl, hbn⟩)
          | (go_at_call 26; with_reducible (refine (KT.out _ (by first | with_reducible assumption | exact And.right (by with_reducible assumption))).mono ?_); rintro e wn ⟨vn, rfl, hrn, hbn⟩)
          | (go_at_call 27; with_reducible (refine (KRT.out _ (by first | with_reducible assumption | exact And.right (by with_reducible assumption))).mono ?_); rintro e wn ⟨vn, rfl, hrn, hbn⟩)
          | (go_at_call 25; refine (sameTerms_true _ _ L2 _ (by first | with_reducible assumption | exact term_next (by with_reducible assumption) (by with_reducible assumption)) (by first | with_reducible assumption | exact term_next (by with_reducible assumption) (by with_reducible assumption))).mono ?_; rintro e wn ⟨rfl, hbn⟩)
          | fail)
      have HB9 : Hid (Below w7.heap.size w7 _) := Lib.hid (by first | exact And.right (by with_reducible assumption) | exact below_keep (by with_reducible assumption) (And.right (by with_reducible assumption)))
      clear KT KRT KA KRA KP KRP KL
      go_wp2
      go_loopw [13] (fun i wr => ∃ k : Nat, i = .int .i64 k ∧ k ≤ q.length ∧ Hid (Below w7.heap.size w7 wr)) (fun i _ => q.length - (intOf i).toNat)
      case atStart => exact ⟨0, rfl, by omega, HB9⟩
      case round =>
        obtain ⟨k, rfl, hk, HB⟩ := hrel
        by_cases hkl : k < q.length
        · have hki : (k : Int) < (q.length : Int) := by omega
          have hIx := HX7.out.below HB.out
          have hIy := HY7.out.below HB.out
          obtain ⟨_, _, e1, _, _, hcc⟩ := HST.out.below HB.out
          injection e1 with e1 e2 e3
          subst e1
          clear e2 e3
          obtain ⟨b, off, rfl, ck⟩ := hcc k hkl
          have hsl := HQ40.out q[k] (List.getElem_mem hkl)
          obtain ⟨s, hs⟩ : ∃ s, q[k] = s := ⟨_, rfl⟩
          rw [hs] at ck hsl
          simp only [encW] at ck
          have cD := fun W (h : Below wr.heap.size wr W) => hits_at (docs_any W (hIx.below h) (by omega) s (by omega))
          have cD' := fun W (h : Below wr.heap.size wr W) => hits_at (refFind_any W (hIy.below h) HA.out HI.out s (by omega))
          have cP := fun W (h : Below wr.heap.size wr W) => hits_at (prefix_any W (hIx.below h) (by omega) s (by omega))
          have cP' := fun W (h : Below wr.heap.size wr W) => hits_at (refPrefix_any W (hIy.below h) HA.out HI.out HO.out s (by omega))
          have cT := fun W (h : Below wr.heap.size wr W) => terms_at (terms_any W (hIx.below h) (by omega) s (by omega) n hn0 hn1)
          have cT' := fun W (h : Below wr.heap.size wr W) => refTerms_any W (hIy.below h) HA.out HI.out HO.out s (by omega) n hn0 hn1
          obtain ⟨L1, hL1⟩ : ∃ L, docsQ D s = L := ⟨_, rfl⟩
          obtain ⟨L2, hL2⟩ : ∃ L, prefQ D s = L := ⟨_, rfl⟩
          obtain ⟨L3, hL3⟩ : ∃ L, termsQ D s n = L := ⟨_, rfl⟩
          rw [hL1] at cD cD'
          rw [hL2] at cP cP'
          rw [hL3] at cT cT'
          have KD := Lib.hid cD; have KD' := Lib.hid cD'; have KP := Lib.hid cP; have KP' := Lib.hid cP'; have KT := Lib.hid cT; have KT' := Lib.hid cT'
          have hb0 : Below wr.heap.size wr wr.drew := (Below.refl _ wr).drew
          have ckd : wr.drew.cell? ⟨b, off + k, none⟩ = some (.string ⟨s.toArray⟩) := ck
          clear cD cD' cP cP' cT cT' hL1 hL2 hL3 hcc hIx hIy hs
          go_upto_region 19 with fail
          go_region_held3 (fun w' => w'.cell? ⟨b, off + k, none⟩ = some (.string ⟨s.toArray⟩) ∧ Below wr.heap.size wr w')
            (first
              | (with_reducible assumption)
              | (exact s_keep (by with_reducible assumption) (by with_reducible assumption))
              | (exact ⟨by with_reducible assumption, by with_reducible assumption⟩)
              | (exact (s_keep (by with_reducible assumption) (by with_reducible assumption)).1)
              | (exact (s_keep (by with_reducible assumption) (by with_reducible assumption)).2))
            (first
              | (go_at_call 28; with_reducible (refine (KD.out _ (by first | with_reducible assumption | exact And.right (by with_reducible assumption))).mono ?_); rintro e wn ⟨vn, rfl, hrn, hbn⟩)
              | (go_at_call 29; with_reducible (refine (KD'.out _ (by first | with_reducible assumption | exact And.right (by with_reducible assumption))).mono ?_); rintro e wn ⟨vn, rfl, hrn, hbn⟩)
              | (go_at_call 30; with_reducible (refine (KP.out _ (by first | with_reducible assumption | exact And.right (by with_reducible assumption))).mono ?_); rintro e wn ⟨vn, rfl, hrn, hbn⟩)
              | (go_at_call 31; with_reducible (refine (KP'.out _ (by first | with_reducible assumption | exact And.right (by with_reducible assumption))).mono ?_); rintro e wn ⟨vn, rfl, hrn, hbn⟩)
              | (go_at_call 26; with_reducible (refine (KT.out _ (by first | with_reducible assumption | exact And.right (by with_reducible assumption))).mono ?_); rintro e wn ⟨vn, rfl, hrn, hbn⟩)
              | (go_at_call 27; with_reducible (refine (KT'.out _ (by first | with_reducible assumption | exact And.right (by with_reducible assumption))).mono ?_); rintro e wn ⟨vn, rfl, hrn, hbn⟩)
              | (go_at_call 22; refine (sameHits_true _ _ L1 _ (by first | with_reducible assumption | exact hit_next (by with_reducible assumption) (by with_reducible assumption)) (by first | with_reducible assumption | exact hit_next (by with_reducible assumption) (by with_reducible assumption))).mono ?_; rintro e wn ⟨rfl, hbn⟩)
              | (go_at_call 22; refine (sameHits_true _ _ L2 _ (by first | with_reducible assumption | exact hit_next (by with_reducible assumption) (by with_reducible assumption)) (by first | with_reducible assumption | exact hit_next (by with_reducible assumption) (by with_reducible assumption))).mono ?_; rintro e wn ⟨rfl, hbn⟩)
              | (go_at_call 25; refine (sameTerms_true _ _ L3 _ (by first | with_reducible assumption | exact term_next (by with_reducible assumption) (by with_reducible assumption)) (by first | with_reducible assumption | exact term_next (by with_reducible assumption) (by with_reducible assumption))).mono ?_; rintro e wn ⟨rfl, hbn⟩)
              | fail)
          all_goals
            go_wp2
            go_roundw
            case rel => exact ⟨k + 1, by go_num, by omega, Lib.hid (HB.out.trans ((by first | exact And.right (by with_reducible assumption) | exact below_keep (by with_reducible assumption) (And.right (by with_reducible assumption)) : Below wr.heap.size wr _).mono HB.out.size))⟩
            case measure => simp [intOf]; omega
        · go_wp2
          go_ret
          exact ⟨rfl, bthen HB7.out HB.out⟩
end Go.Proofs.YtmfnhfkgkdibfaaGreat

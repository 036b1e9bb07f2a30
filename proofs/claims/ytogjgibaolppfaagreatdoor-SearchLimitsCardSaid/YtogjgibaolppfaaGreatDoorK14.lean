/- Facts and contracts for the laws of the sender, part 14. Conditions: those that each theorem names. -/
import Derived.Test.YtogjgibaolppfaaGreatDoorK13
import Derived.Test.YtogjgibaolppfaaGreatDoorK09
import Derived.StillTailTactics
/- Phrase. -/
namespace Go.Proofs.YtogjgibaolppfaaGreatDoor
open Go.RowKit Go.Sort Go.Proofs Go.Maps Go.ChangeMaps Go.WideMaps

/-- the words for which the arguments stand -/
def wordsQ : List (List UInt8) → Option (List Wd)
  | [] => some []
  | s :: l => match wordOf s with | none => none | some x => (wordsQ l).map (x :: ·)
/-- what Phrase answers -/
def phraseQ (D : List Dc) (l : List (List UInt8)) : List (Int × Nat) := if l = [] then [] else match wordsQ l with | none => [] | some ws => phraseD D ws
theorem wordsQ_step {l : List (List UInt8)} {k : Nat} {pre : List Wd} (h : wordsQ l = (wordsQ (l.drop k)).map (pre ++ ·)) (hk : k < l.length) {x : Wd} (hx : wordOf l[k] = some x) : wordsQ l = (wordsQ (l.drop (k + 1))).map ((pre ++ [x]) ++ ·) := by
  rw [h, List.drop_eq_getElem_cons hk, wordsQ, hx]
  simp only [Option.map_map]
  congr 1
  funext z
  simp
theorem wordsQ_none {l : List (List UInt8)} {k : Nat} {pre : List Wd} (h : wordsQ l = (wordsQ (l.drop k)).map (pre ++ ·)) (hk : k < l.length) (hx : wordOf l[k] = none) : wordsQ l = none := by
  rw [h, List.drop_eq_getElem_cons hk, wordsQ, hx]; rfl
theorem wordsQ_end {l : List (List UInt8)} {pre : List Wd} (h : wordsQ l = (wordsQ (l.drop l.length)).map (pre ++ ·)) : wordsQ l = some pre := by
  rw [h, List.drop_length]; simp [wordsQ]

theorem occ_head {t p : List Wd} {x : Wd} (h : 0 < occ t (x :: p)) : x ∈ t := by
  unfold occ occS at h
  obtain ⟨k, _, hk⟩ := List.countP_pos_iff.1 h
  rw [List.isPrefixOf_iff_prefix] at hk
  obtain ⟨r, hr⟩ := hk
  exact List.mem_of_mem_drop (i := k) (by rw [← hr]; simp)
theorem occ_le {t p : List Wd} (hp : p ≠ []) : occ t p ≤ t.length := by
  unfold occ occS
  refine Nat.le_trans List.countP_le_length ?_
  rw [List.length_range]
  have := List.length_pos_iff.2 hp
  omega

theorem strs_grown {w w' : World} {v : Value} {xs : List Wd} {row : Option Nat} (h : StrsAt w v xs) (hg : w.grownBy w' row) (hr : ∀ j, row = some j → ∀ cs t fr, w.heap[j]? ≠ some (.cells cs t fr)) : StrsAt w' v xs := by
  obtain ⟨a, c, hv, hle, hl, hc⟩ := h
  refine ⟨a, c, hv, hle, hl, fun j hj => ?_⟩
  obtain ⟨b, off, ha, h1⟩ := hc j hj
  refine ⟨b, off, ha, ?_⟩
  rw [← h1]
  simp only [World.cell?]
  rw [hg.block b (World.block_lt_of_cell? w _ h1) (fun e => ?_)]
  simp only [World.cell?] at h1
  cases hb : w.heap[b]? with
  | none => rw [hb] at h1; cases h1
  | some o =>
    cases o with
    | cells cs t fr => exact hr b e.symm cs t fr hb
    | _ => rw [hb] at h1; cases h1
theorem nats_grown {w w' : World} {v : Value} {xs : List Nat} {row : Option Nat} (h : NatsAt w v xs) (hg : w.grownBy w' row) (hr : ∀ j, row = some j → ∀ cs t fr, w.heap[j]? ≠ some (.cells cs t fr)) : NatsAt w' v xs := by
  obtain ⟨a, c, hv, hle, hc⟩ := h
  refine ⟨a, c, hv, hle, fun j hj => ?_⟩
  obtain ⟨b, off, ha, h1⟩ := hc j hj
  refine ⟨b, off, ha, ?_⟩
  rw [← h1]
  simp only [World.cell?]
  rw [hg.block b (World.block_lt_of_cell? w _ h1) (fun e => ?_)]
  simp only [World.cell?] at h1
  cases hb : w.heap[b]? with
  | none => rw [hb] at h1; cases h1
  | some o =>
    cases o with
    | cells cs t fr => exact hr b e.symm cs t fr hb
    | _ => rw [hb] at h1; cases h1
theorem RMap.nocells {κ : Type} {K : κ → Lit} {k b n : Nat} {f : κ → Option Value} {w : World} (h : RMap K k b n f w) (cs : Array Value) (t : TypeId) (fr : Nat × Nat) : w.heap[b]? ≠ some (.cells cs t fr) := by
  obtain ⟨es, c, hb⟩ := h.obj
  rw [hb]; intro e; cases e
theorem iter_nocells {w : World} {k : TypeId} {b r n : Nat} {D : DataW Value} {left : Lit → Bool} {cnt : Nat} (h : w.ranges Tryz.prog k rawE b r n D left cnt) (cs : Array Value) (t : TypeId) (fr : Nat × Nat) : w.heap[r]? ≠ some (.cells cs t fr) := by
  obtain ⟨_, _, _, _, _, _, _, _, _, hit, _⟩ := h
  rw [hit]; intro e; cases e

/-- the counts so far -/
def onD (c : Int → Nat) (done : List Int) (id : Int) : Nat := if id ∈ done then c id else 0
theorem onD_put {c : Int → Nat} {done : List Int} {x : Int} (hc : 0 < c x) : (fun y => if y = x then some (.int .i64 (c x : Int)) else cntM (onD c done) y) = cntM (onD c (done ++ [x])) := by
  funext y
  by_cases h : y = x
  · subst h
    simp only [↓reduceIte, cntM, onD, List.mem_append, List.mem_singleton, or_true]
    rw [if_pos hc]
  · simp only [cntM, onD, List.mem_append, List.mem_singleton, h, or_false, if_false]
    try rfl
theorem onD_skip {c : Int → Nat} {done : List Int} {x : Int} (hc : c x = 0) : onD c (done ++ [x]) = onD c done := by
  funext y
  unfold onD
  by_cases h : y = x
  · subst h
    rw [hc]; simp
  · simp [h]

set_option maxRecDepth 100000 in
set_option maxHeartbeats 4000000 in
theorem phrase_any {S Q : Nat → Prop} {N : Nat} {p : Nat} {D : List Dc} (w : World) (h : IdxAt S Q N w p D) (_hN : N ≤ 1000000) (vq : Value) (l : List (List UInt8)) (hq : StrsAt w vq l) (hl : l.length ≤ 1000) (hs : ∀ s ∈ l, s.length ≤ 1000000) :
    Calls Tryz.prog 80 #[.pointer (some ⟨p, 0, none⟩), vq] w fun e w' => ∃ v, e = .returned v ∧ HitsR w.heap.size w' v (phraseQ D l) ∧ Below w.heap.size w w' := by
  have hcw := fun (s : List UInt8) (hs : s.length ≤ 1000000) W => word_any s (by omega) W
  have HI := Lib.hid h
  have HIA := Lib.hid h.asc; have HII := Lib.hid h.ids; have HSM := Lib.hid h.small
  have HS := Lib.hid hs
  obtain ⟨aq, cq, rfl, hqle, -, hqc⟩ := hq
  clear h hs
  obtain ⟨i0, hi, hz0, hz1, hz2⟩ := info_parts infoStr'
  obtain ⟨R, HR⟩ : ∃ R, Hid (phraseQ D l = R) := ⟨_, Lib.hid rfl⟩
  rw [HR.out]
  by_cases hln : l = []
  · subst hln
    have HR0 : Hid (R = []) := Lib.hid (by rw [← HR.out]; rfl)
    clear HR hqc
    go_enter Tryz.func80, Tryz.ntmps80
    go_wp2
    go_ret
    exact ⟨_, rfl, by rw [HR0.out]; exact ⟨rfl, .inl ⟨rfl, rfl⟩⟩, Below.refl _ _⟩
  · have hl0 : 0 < l.length := List.length_pos_iff.2 hln
    have g0 : ((l.length : Int) == 0) = false := by simp; omega
    have HRQ : Hid ((match wordsQ l with | none => [] | some ws => phraseD D ws) = R) := Lib.hid (by rw [← HR.out, phraseQ, if_neg hln])
    have hmm := @run_makeMap Tryz.prog
    have HQ := Lib.hid hqc
    clear HR hln hqc
    go_enter Tryz.func80, Tryz.ntmps80
    go_wp2
    go_loopw [5, 23] (fun u i wr => ∃ (k : Nat) (pre : List Wd), i = .int .i64 k ∧ k ≤ l.length ∧ Hid (pre.length = k) ∧ Hid (wordsQ l = (wordsQ (l.drop k)).map (pre ++ ·)) ∧ Hid (∀ x ∈ pre, x.length ≤ 30) ∧ Hid (OwnsStrs wr w.heap.size u pre) ∧ Hid (Below w.heap.size w wr)) (fun _ i _ => l.length - (intOf i).toNat)
    case atStart => exact ⟨0, [], rfl, by omega, Lib.hid rfl, Lib.hid (by simp), Lib.hid (by simp), Lib.hid ⟨rfl, .inl ⟨rfl, rfl⟩⟩, Lib.hid (Below.refl _ _)⟩
    case round =>
      obtain ⟨k, pre, rfl, hk, HPL, HWQ, HPO, HO, HB⟩ := hrel
      by_cases hkl : k < l.length
      · have hki : (k : Int) < (l.length : Int) := by omega
        obtain ⟨b0, off0, rfl, ck0⟩ := HQ.out k hkl
        have ck : wr.cell? ⟨b0, off0 + k, none⟩ = some (.string ⟨(l[k]).toArray⟩) := (HB.out.cell (p := ⟨b0, off0 + k, none⟩) (World.block_lt_of_cell? w _ ck0)).trans ck0
        have hsl := HS.out l[k] (List.getElem_mem hkl)
        have HW := Lib.hid (hcw l[k] hsl)
        cases hw : wordOf l[k] with
        | none =>
          have HN9 := Lib.hid (wordsQ_none HWQ.out hkl hw)
          have hcw1 := HW.out
          rw [hw] at hcw1
          clear HW hw
          obtain ⟨s, hse⟩ : ∃ s, l[k] = s := ⟨_, rfl⟩
          rw [hse] at ck hcw1
          clear hse ck0 hsl
          simp only [Option.getD_none, Option.isSome_none] at hcw1
          go_wp2_with (go_at_call 63; refine (hcw1 _).mono ?_; rintro e w1 ⟨rfl, hb1⟩)
          go_ret
          refine ⟨_, rfl, ?_, bthen HB.out hb1⟩
          rw [← HRQ.out, HN9.out]
          exact ⟨rfl, .inl ⟨rfl, rfl⟩⟩
        | some x =>
          have HN9 := Lib.hid (wordsQ_step HWQ.out hkl hw)
          have hxl := wordOf_len hw
          have hcw1 := HW.out
          rw [hw] at hcw1
          clear HW hw
          obtain ⟨s, hse⟩ : ∃ s, l[k] = s := ⟨_, rfl⟩
          rw [hse] at ck hcw1
          clear hse ck0 hsl
          simp only [Option.getD_some, Option.isSome_some] at hcw1
          go_wp2_with fail
          refine (hcw1 _).mono ?_
          rintro e w1 ⟨rfl, hb1⟩
          have HB1 := Lib.hid (bthen HB.out hb1)
          have HO1 : w1.ownsRow w.heap.size 9 1 u5 pre.length (pre.map encW) := World.ownsRow.kept (row := none) HO.out ⟨hb1.os, hb1.tape, hb1.output, hb1.size, fun k hk _ => hb1.block k hk⟩ (by cases u5.ownBlock <;> simp)
          have hbs := HB1.out.size
          have hplb : pre.length ≤ 1000 := by have := HPL.out; omega
          clear hb1 HO
          go_wp2_with (at_builtin; refine wpList_append_own _ rfl _ _ 28 rfl w.heap.size 9 i0 _ 1 16 Tryz.underlying28 hi hz0 hz1 hz2 rfl (by decide) _ _ _ rfl (HO1.alloc _) ⟨w1.heap.size, 0, none⟩ 1 1 [.string ⟨x.toArray⟩] rfl rfl (World.news_of_block (cs := #[.string ⟨x.toArray⟩]) (t := 9) (fr := (0, 0)) (heap_alloc_new w1 _)) (by simp [Value.oneCell']) ?c3 ?c4 ?c5 ?_)
          case c3 => unfold maxLen; omega
          case c4 => omega
          case c5 => simp; omega
          intro v' w2 ho2 hg2 _
          have HO2 : Hid (OwnsStrs w2 w.heap.size v' (pre ++ [x])) := Lib.hid (by unfold OwnsStrs; simpa [encW] using ho2)
          have HB2 : Hid (Below w.heap.size w w2) := Lib.hid ((HB1.out.alloc hbs _).grown hg2 (by simp; omega) (fun j e => (HO1.lt j e).1))
          have HPO2 : Hid (∀ z ∈ pre ++ [x], z.length ≤ 30) := Lib.hid (fun z hz => by
            rcases List.mem_append.1 hz with h | h
            · exact HPO.out z h
            · simp at h; subst h; exact hxl.2)
          have HPL2 : Hid ((pre ++ [x]).length = k + 1) := Lib.hid (by have := HPL.out; simp; omega)
          clear ho2 hg2
          go_wp2
          go_roundw
          case rel => exact ⟨k + 1, pre ++ [x], by go_num, by omega, HPL2, HN9, HPO2, HO2, HB2⟩
          case measure => simp [intOf]; omega
      · obtain rfl : k = l.length := by omega
        have HWS := Lib.hid (wordsQ_end HWQ.out)
        have HRW : Hid (phraseD D pre = R) := Lib.hid (by rw [← HRQ.out, HWS.out])
        have hpre : pre ≠ [] := by
          intro e
          have := HPL.out
          rw [e] at this
          simp at this
          omega
        have hplen : pre.length ≤ 1000 := by rw [HPL.out]; exact hl
        clear HWS HWQ HRQ
        obtain ⟨x0, p0, rfl⟩ : ∃ x l, pre = x :: l := by
          cases pre with
          | nil => exact absurd rfl hpre
          | cons x l => exact ⟨_, _, rfl⟩
        have hSt := strsAt_of_owns HO.out (by omega)
        have hx0 : x0.length ≤ 30 := HPO.out x0 (by simp)
        obtain ⟨ws, hws⟩ : ∃ ws, x0 :: p0 = ws := ⟨_, rfl⟩
        have HX0 := Lib.hid hws
        have hbo := fun W v (h : StrsAt W v ws) => borders_any v ws W h (by rw [← hws]; simp) (by rw [← hws]; omega)
        rw [hws] at hSt hplen HRW hpre
        obtain ⟨a5, c5, rfl, hle5, hm5, hc5⟩ := hSt
        have hown5 : ∀ ad n c, Value.slice a5 n c = .slice (some ad) n c → w.heap.size ≤ ad.block := fun ad n c e => by
          injection e with e1 _ _
          exact (World.ownsRow.lt HO.out ad.block (by rw [e1]; rfl)).1
        have HS5 : Hid (StrsAt wr (.slice a5 ws.length c5) ws) := Lib.hid ⟨a5, c5, rfl, hle5, hm5, hc5⟩
        obtain ⟨b5, off5, ha5, ck5⟩ := hc5 0 (List.length_pos_iff.2 hpre)
        subst ha5
        obtain ⟨nw, hnw⟩ : ∃ n, ws.length = n + 1 := ⟨ws.length - 1, by have := List.length_pos_iff.2 hpre; omega⟩
        have hx0e : ws[0]'(List.length_pos_iff.2 hpre) = x0 := by subst hws; rfl
        rw [hx0e] at ck5
        rw [hnw] at HS5 hplen hle5 hm5 ⊢
        have HNW := Lib.hid hnw
        clear hc5 HO hws HPO hx0e hown5 hnw
        go_wp2_with fail
        refine (hbo _ _ HS5.out).mono ?_
        rintro e w1 ⟨vb, bk, rfl, hbkl, hnats, hbord, hb1⟩
        have HBK := Lib.hid hbkl; have HBO := Lib.hid hbord
        have HB1 := Lib.hid (bthen HB.out hb1)
        have HS1 := Lib.hid (HS5.out.below hb1)
        have ck1 : w1.cell? ⟨b5, off5, none⟩ = some (.string ⟨x0.toArray⟩) := (hb1.cell (p := ⟨b5, off5, none⟩) (World.block_lt_of_cell? wr _ ck5)).trans ck5
        have hb5l : b5 < w1.heap.size := World.block_lt_of_cell? w1 _ ck1
        clear hbkl hbord ck5 HS5 hbo hb1
        obtain ⟨w2, hw2⟩ : ∃ w2, w1.alloc (.map #[] 0) = w2 := ⟨_, rfl⟩
        have HB2 : Hid (Below w.heap.size w w2) := Lib.hid (by rw [← hw2]; exact HB1.out.alloc HB1.out.size _)
        have hw12 : Below w1.heap.size w1 w2 := by rw [← hw2]; exact (Below.refl _ w1).alloc (Nat.le_refl _) _
        have HS2 := Lib.hid (HS1.out.below hw12)
        have HN2 := Lib.hid (hnats.below hw12)
        have ck2 : w2.cell? ⟨b5, off5, none⟩ = some (.string ⟨x0.toArray⟩) := (hw12.cell (p := ⟨b5, off5, none⟩) hb5l).trans ck1
        have HM2 : Hid (IM w1.heap.size 0 (cntM fun _ => 0) w2) := Lib.hid (by
          have : (cntM fun _ => 0) = fun _ => none := by funext id; simp [cntM]
          rw [← hw2, this]; exact RMap.new w1)
        have hs12 : w1.heap.size < w2.heap.size := HM2.out.lt
        have hs1 := HB1.out.size
        obtain ⟨bc, hbc⟩ : ∃ bc, w1.heap.size = bc := ⟨_, rfl⟩
        rw [hbc] at HM2 hs12 hs1
        clear hnats hw12 ck1 hb5l HS1
        go_wp2_with fail
        have HBC := Lib.hid hbc; have HW2 := Lib.hid hw2
        clear hbc hw2
        have hIw := HI.out.below HB2.out
        obtain ⟨b1, b2, v, tx, g, hp, hne, hTt, hF, hR⟩ := hIw.parts
        have hp1 : w2.cell? ⟨p, 1, none⟩ = some (.map (some b2)) := by rw [Lib.cell_of_heap hp]; rfl
        have hget := (RMap.kept (w' := w2.drew) hF.map rfl).get strKeys (t := 97) Tryz.underlying97 (Tryz.zeroValue81 w2.drew) (strKey (x := x0) (by omega))
        have HT := Lib.hid hTt
        have hin := hF.inner x0
        have hsm := hF.some x0
        clear hF hTt hR
        cases hg : g x0 with
        | none =>
          have hz0 : ∀ id, cntD D x0 id = 0 := fun id => by
            cases hc : cntD D x0 id with
            | zero => rfl
            | succ n => have := hsm.2 ⟨id, by omega⟩; rw [hg] at this; cases this
          have hocz : (docsF D fun l => occ l ws) = fun _ => 0 := by
            funext id
            cases hc : docsF D (fun l => occ l ws) id with
            | zero => rfl
            | succ n =>
              exfalso
              have h0 := hz0 id
              unfold docsF at hc
              unfold cntD docsF at h0
              cases hwa : wordsAt D id with
              | none => rw [hwa] at hc; simp at hc
              | some l2 =>
                rw [hwa] at hc h0
                simp only [Option.map_some, Option.getD_some] at hc h0
                have := List.count_pos_iff.2 (occ_head (p := p0) (t := l2) (x := x0) (by rw [HX0.out, hc]; omega))
                omega
          have hR0 : R = [] := by
            have := HRW.out
            unfold phraseD at this
            rw [hocz, hitsF_zero] at this
            exact this.symm
          have HR0 := Lib.hid hR0
          rw [hg] at hget
          clear hin hsm hg hp hz0 hocz hR0
          first
            | (go_still_tail 7, (by kernel_rfl))
            | fail
          obtain ⟨w3, hw3⟩ : ∃ w3, w2.drew = w3 := ⟨_, rfl⟩
          have HB3 : Hid (Below w.heap.size w w3) := Lib.hid (by rw [← hw3]; exact HB2.out.drew)
          have HM3 : Hid (IM bc 0 (cntM fun _ => 0) w3) := Lib.hid (HM2.out.kept (by rw [← hw3]; rfl))
          change wpList _ _ _ _ _ w2.drew
          rw [hw3] at hget ⊢
          have hrg := run_range_nilMap (P := Tryz.prog) w3 81 3 3 Tryz.underlying81
          have hnx : ∀ ty, (Instr.next (.pointer (some ⟨w3.heap.size, 0, none⟩)) false ty).run Tryz.prog (w3.alloc (.mapIter none 0 #[] 0)) = _ := fun ty => run_next_nilMap w3 ty 0 0 #[]
          have HB4 := Lib.hid (HB3.out.alloc HB3.out.size (.mapIter none 0 #[] 0))
          have HM4 : Hid (IM bc 0 (cntM fun _ => 0) (w3.alloc (.mapIter none 0 #[] 0))) := Lib.hid (HM3.out.kept (Below.heap_alloc _ _ _ HM3.out.lt))
          have hcon := fun W hM => hits_any bc 0 (fun _ => 0) W hM (by omega) (fun id h => by omega) (fun id => by omega)
          simp only [hitsF_zero] at hcon
          clear hw3 HM2 HB2 HS2 HN2
          go_wp2
          refine wp_loop_rounds 1 ?_
          rw [rounds_succ]
          go_wp2_with (go_at_call 64; refine (hcon _ HM4.out).mono ?_; rintro e w9 ⟨v9, rfl, hr, hb9⟩)
          go_ret
          exact ⟨_, rfl, by rw [HR0.out]; exact HitsR.mono hr HB4.out.size, bthen HB4.out hb9⟩
        | some bi =>
          obtain ⟨i1, i2, i3, i4⟩ := hin bi hg
          rw [hg] at hget
          obtain ⟨Di, hDi, hfi⟩ := i4
          have HF := Lib.hid hfi
          have hbiw := HI.out.lt bi i1
          clear hin hsm hg hfi hp
          first
            | (go_still_tail 7, (by kernel_rfl))
            | fail
          obtain ⟨w3, hw3⟩ : ∃ w3, w2.drew = w3 := ⟨_, rfl⟩
          have hD3 : w3.ownsMap Tryz.prog 3 rawE bi N Di := by rw [← hw3]; exact hDi.drew
          have HB3 : Hid (Below w.heap.size w w3) := Lib.hid (by rw [← hw3]; exact HB2.out.drew)
          have HM3 : Hid (IM bc 0 (cntM fun _ => 0) w3) := Lib.hid (HM2.out.kept (by rw [← hw3]; rfl))
          have HS3 : Hid (StrsAt w3 (.slice (some ⟨b5, off5, none⟩) (nw + 1) c5) ws) := Lib.hid (by rw [← hw3]; exact HS2.out)
          have HN3 : Hid (NatsAt w3 vb bk) := Lib.hid (by rw [← hw3]; exact HN2.out)
          have hsz3 : w2.heap.size = w3.heap.size := by rw [← hw3]; rfl
          change wpList _ _ _ _ _ w2.drew
          rw [hw3] at hget ⊢
          rw [hsz3] at hs12
          clear hw3 hsz3 hDi HM2 HS2 HN2 hp1 ck2
          obtain ⟨rB, hrB⟩ : ∃ n, w3.heap.size = n := ⟨_, rfl⟩
          go_wp2_with (at_range; refine wpList_range_own _ rfl _ 81 rfl 3 3 intKeys Tryz.underlying81 _ bi N _ rfl hD3 ?_; intro w4 hrg0 hg0 hs0)
          rw [hrB] at hrg0 hs12
          go_frame
          rw [hrB]
          have HB4 : Hid (Below w.heap.size w w4) := Lib.hid (HB3.out.grown hg0 HB3.out.size (fun j hj => by cases hj))
          have HM4 : Hid (IM bc 0 (cntM fun _ => 0) w4) := Lib.hid (HM3.out.kept (hg0.block _ HM3.out.lt (by simp)))
          have HS4 := Lib.hid (strs_grown HS3.out hg0 (fun j hj => by cases hj))
          have HN4 := Lib.hid (nats_grown HN3.out hg0 (fun j hj => by cases hj))
          have HRBx := Lib.hid hrB
          clear hg0 hs0 HS3 HN3 HM3 hrB hD3
          go_loopw [12] (fun _ wq => ∃ (left : Lit → Bool) (cnt : Nat) (done : List Int), wq.ranges Tryz.prog 3 rawE bi rB N Di left cnt ∧ Hid (Left (Lit.int .i64) (cntM (cntD D x0)) left done) ∧ Hid (done.Nodup ∧ ∀ x ∈ done, 0 < cntD D x0 x) ∧ Hid (IM bc done.length (cntM (onD (docsF D fun l => occ l ws) done)) wq) ∧ Hid (StrsAt wq (.slice (some ⟨b5, off5, none⟩) (nw + 1) c5) ws) ∧ Hid (NatsAt wq vb bk) ∧ Hid (Below w.heap.size w wq)) (fun _ wq => wq.rangeLeft bi rB)
          case atStart => exact ⟨_, _, [], hrg0, Lib.hid (Left.start HF.out), Lib.hid ⟨.nil, fun x hx => by cases hx⟩, Lib.hid (by
            have : onD (docsF D fun l => occ l ws) [] = fun _ => 0 := by funext id; simp [onD]
            rw [this]; exact HM4.out), HS4, HN4, HB4⟩
          case round =>
            obtain ⟨left, cnt, done, hrg, HL, HN, HMq, HSq, HNq, HBq⟩ := hrel
            have hcp := fun id (h : 0 < cntD D x0 id) => docsF_pos HIA.out HII.out h
            have hdl := done_len HN.out.1 HN.out.2 hcp
            have HCP := Lib.hid hcp
            clear hcp
            go_wp2_with (at_next; refine wpList_next_ranges _ rfl _ rfl 3 intKeys rawE (Value.int .i64) id (fun key kl hkey => by obtain ⟨x, rfl, _⟩ := Maps.keyOf_int_inv Tryz.underlying3 hkey; exact ⟨x, rfl⟩) (fun v y _ => ⟨v, rfl⟩) bi rB N _ _ _ rfl hrg ?_ ?_)
            · intro _ hl0
              have hmem : ∀ x, 0 < cntD D x0 x → x ∈ done := fun x h => HL.out.done hl0 x (cntM_isSome.2 h)
              have heq : onD (docsF D fun l => occ l ws) done = docsF D fun l => occ l ws := by
                funext id
                unfold onD
                by_cases hm : id ∈ done
                · rw [if_pos hm]
                · rw [if_neg hm]
                  cases hc : docsF D (fun l => occ l ws) id with
                  | zero => rfl
                  | succ n =>
                    refine absurd (hmem id ?_) hm
                    unfold docsF at hc
                    unfold cntD docsF
                    cases hwa : wordsAt D id with
                    | none => rw [hwa] at hc; simp at hc
                    | some l2 =>
                      rw [hwa] at hc
                      simp only [Option.map_some, Option.getD_some] at hc ⊢
                      exact List.count_pos_iff.2 (occ_head (p := p0) (by rw [HX0.out, hc]; omega))
              have hM9 : IM bc done.length (cntM (docsF D fun l => occ l ws)) wr := by have := HMq.out; rw [heq] at this; exact this
              have hcon := fun W hM => hits_any bc done.length (docsF D fun l => occ l ws) W hM (by omega) (fun id h => docsF_pos HIA.out HII.out h) (fun id => by have := docsF_le HIA.out HSM.out (f := fun l => occ l ws) (fun l => occ_le hpre) id; omega)
              have hRW := HRW.out
              unfold phraseD at hRW
              rw [hRW] at hcon
              have HM9 := Lib.hid hM9
              clear heq hmem hRW hM9
              go_wp2_with (go_at_call 64; refine (hcon _ HM9.out).mono ?_; rintro e w9 ⟨v9, rfl, hr, hb9⟩)
              go_ret
              exact ⟨_, rfl, HitsR.mono hr HBq.out.size, bthen HBq.out hb9⟩
            · intro z cv kl y1 y2 w5 cnt2 hkey hlk hry hat hrg5 hlt hg5 hs5 hen
              obtain ⟨z', ez, rfl, hwz⟩ := Maps.keyOf_int_inv Tryz.underlying3 hkey
              cases ez
              cases hry
              obtain ⟨hcx, hnm⟩ := HL.out.value HF.out hlk hat
              obtain ⟨hc0, rfl⟩ := cntM_some hcx
              have hz := HCP.out z hc0
              have HB5 : Hid (Below w.heap.size w w5) := Lib.hid (HBq.out.grown hg5 HBq.out.size (fun j hj => by cases hj; omega))
              have hit := iter_nocells hrg
              have HS5 := strs_grown HSq.out hg5 (fun j hj cs t fr => by cases hj; exact hit cs t fr)
              have HN5 := nats_grown HNq.out hg5 (fun j hj cs t fr => by cases hj; exact hit cs t fr)
              have hbr : rB ≠ bi := hrg.ne
              have HM5 : IM bc done.length (cntM (onD (docsF D fun l => occ l ws) done)) w5 := HMq.out.kept (hg5.block _ HMq.out.lt (by simp; omega))
              have hIw5 := HI.out.below HB5.out
              obtain ⟨d1, d2, dv, dtx, dg, ep, ene, eT, eF, eR⟩ := hIw5.parts
              have hp0 : w5.cell? ⟨p, 0, none⟩ = some (.map (some d1)) := by rw [Lib.cell_of_heap ep]; rfl
              obtain ⟨l2, hl2⟩ : ∃ l2, wordsAt D z = some l2 := by
                cases hwa : wordsAt D z with
                | none => unfold cntD docsF at hc0; rw [hwa] at hc0; simp at hc0
                | some l2 => exact ⟨_, rfl⟩
              obtain ⟨u, hu, hus⟩ := eT.some z l2 hl2
              have hget5 := eT.map.get intKeys (t := 96) Tryz.underlying96 (Tryz.zeroValue28 w5) (intKey (i := z) (by omega) (by omega))
              rw [hu] at hget5
              simp only [Option.getD_some] at hget5
              have hmc := matches_any u (.slice (some ⟨b5, off5, none⟩) (nw + 1) c5) vb l2 ws bk w5 hus.1 HS5 HN5 hpre HBO.out HBK.out
              have hoc : docsF D (fun l => occ l ws) z = occ l2 ws := by unfold docsF; rw [hl2]; rfl
              rw [← hoc] at hmc
              have hol := docsF_le HIA.out HSM.out (f := fun l => occ l ws) (fun l => occ_le hpre) z
              have HN9 : Hid ((done ++ [z]).Nodup ∧ ∀ y ∈ done ++ [z], 0 < cntD D x0 y) := Lib.hid ⟨by
                rw [List.nodup_append]; exact ⟨HN.out.1, by simp, fun a ha b hb e => by simp at hb; subst hb; exact hnm (e ▸ ha)⟩, fun y hy => by
                rcases List.mem_append.1 hy with h | h
                · exact HN.out.2 y h
                · simp at h; subst h; exact hc0⟩
              have HL9 : Hid (Left (Lit.int .i64) (cntM (cntD D x0)) (fun q => left q && !q.sameKey (.int .i64 z)) (done ++ [z])) := Lib.hid (HL.out.next int_same z)
              obtain ⟨m, hm⟩ : ∃ m : Nat, docsF D (fun l => occ l ws) z = m := ⟨_, rfl⟩
              rw [hm] at hmc hol
              obtain ⟨mi, hmi⟩ : ∃ i : Int, (m : Int) = i := ⟨_, rfl⟩
              rw [hmi] at hmc
              have HMI := Lib.hid hmi
              have HMC := Lib.hid hmc; have HMM := Lib.hid hm; have HH5 := Lib.hid HM5; have HHS := Lib.hid HS5; have HHN := Lib.hid HN5
              have HRL := Lib.hid hrg.left_eq
              clear hmi ep ene eT eF eR hIw5 hus hmc hm HM5 HS5 HN5 hoc hl2 hu hit hrg hg5 hs5
              go_wp2_with fail
              refine HMC.out.mono ?_
              rintro e w6 ⟨rfl, hb6⟩
              have HB6 := Lib.hid (bthen HB5.out hb6)
              have HM6 : IM bc done.length (cntM (onD (docsF D fun l => occ l ws) done)) w6 := HH5.out.kept (hb6.block _ HH5.out.lt)
              have HS6 := HHS.out.below hb6
              have HN6 := HHN.out.below hb6
              have hrg6 := hrg5.kept (w' := w6) (row := none) ⟨hb6.os, hb6.tape, hb6.output, hb6.size, fun k hk _ => hb6.block k hk⟩ (by simp) (by simp)
              by_cases hm0 : m = 0
              · have gm : decide (0 < mi) = false := by rw [← HMI.out]; simp; omega
                have HM9 : Hid (IM bc (done ++ [z]).length (cntM (onD (docsF D fun l => occ l ws) (done ++ [z]))) w6) := Lib.hid (by
                  rw [onD_skip (by rw [HMM.out]; exact hm0)]; exact HM6.mono (by simp))
                have HS9 := Lib.hid HS6; have HN9' := Lib.hid HN6
                have HRE := Lib.hid hrg6.left_eq
                clear HM6 HS6 HN6 hb6 hm0 hrg5
                go_wp2
                go_roundw
                case rel => exact ⟨_, _, _, hrg6, HL9, HN9, HM9, HS9, HN9', HB6⟩
                case measure => rw [HRE.out, HRL.out]; exact hlt
              · have gm : decide (0 < mi) = true := by rw [← HMI.out]; simp; omega
                obtain ⟨w7, hput, hM7, hg7⟩ := HM6.put int_inj (by unfold maxLen; omega) intKeys (t := 81) Tryz.underlying81 (intKey (i := z) (by omega) (by omega)) (.int .i64 (m : Int))
                have hpd := onD_put (c := docsF D fun l => occ l ws) (done := done) (x := z) (by rw [HMM.out]; omega)
                rw [HMM.out] at hpd
                rw [hpd] at hM7
                rw [HMI.out] at hput
                have HM9 : Hid (IM bc (done ++ [z]).length (cntM (onD (docsF D fun l => occ l ws) (done ++ [z]))) w7) := Lib.hid (by
                  rw [List.length_append]; exact hM7)
                have hnc := fun cs t fr => HM6.nocells cs t fr
                have HS9 := Lib.hid (strs_grown HS6 hg7 (fun j hj cs t fr => by cases hj; exact hnc cs t fr))
                have HN9' := Lib.hid (nats_grown HN6 hg7 (fun j hj cs t fr => by cases hj; exact hnc cs t fr))
                have hrg7 := hrg6.kept hg7 (by simp; omega) (by simp; omega)
                have HB7 : Hid (Below w.heap.size w w7) := Lib.hid (HB6.out.grown hg7 HB6.out.size (fun j hj => by cases hj; exact hs1))
                have HRE := Lib.hid hrg7.left_eq
                clear HM6 HS6 HN6 hb6 hm0 hrg5 hrg6 hM7 hg7 hpd hnc
                go_wp2
                go_roundw
                case rel => exact ⟨_, _, _, hrg7, HL9, HN9, HM9, HS9, HN9', HB7⟩
                case measure => rw [HRE.out, HRL.out]; exact hlt
end Go.Proofs.YtogjgibaolppfaaGreatDoor
/- Steps that change an index in memory. -/
namespace Go.Proofs.YtogjgibaolppfaaGreatDoor
open Go.RowKit Go.Sort Go.Proofs Go.Maps Go.ChangeMaps Go.WideMaps

/-- the parts of an index: texts of D, counts c, words l -/
structure PAt (S Q : Nat → Prop) (N p b1 b2 : Nat) (v : Value) (tx : Int → Option Value) (g : Wd → Option Nat) (D : List Dc) (c : Wd → Int → Nat) (l : List Wd) (w : World) : Prop where
  cells : w.heap[p]? = some (.cells #[.map (some b1), .map (some b2), v] 99 (0, 0))
  ne : b1 ≠ b2
  texts : Texts S (fun k => S k ∨ Q k) b1 N tx D w
  found : Found S b1 b2 N g c w
  row : RowS S w v l
  lt : ∀ k, S k → k < w.heap.size
  out : ∀ k, S k → ¬ Q k
  own : S p

section
variable {S Q : Nat → Prop} {N p b1 b2 : Nat} {v : Value} {tx : Int → Option Value} {g : Wd → Option Nat} {D : List Dc} {c : Wd → Int → Nat} {l : List Wd} {w : World}

theorem IdxAt.pat {N : Nat} (h : IdxAt S Q N w p D) : ∃ b1 b2 v tx g, PAt S Q N p b1 b2 v tx g D (cntD D) (vocab D) w := by
  obtain ⟨b1, b2, v, tx, g, h1, h2, h3, h4, h5⟩ := h.parts
  exact ⟨b1, b2, v, tx, g, h1, h2, h3, h4, h5, h.lt, h.out, h.own⟩
theorem PAt.idx (h : PAt S Q N p b1 b2 v tx g D (cntD D) (vocab D) w) (hA : Asc D) (hI : Ids D) (ho : ∀ d ∈ D, ∀ x ∈ d.2, okWord x) (hs : ∀ d ∈ D, d.2.length ≤ 1000) : IdxAt S Q N w p D :=
  ⟨hA, hI, ho, hs, h.lt, h.out, h.own, b1, b2, v, tx, g, h.cells, h.ne, h.texts, h.found, h.row⟩

theorem PAt.below {w' : World} (h : PAt S Q N p b1 b2 v tx g D c l w) (hb : Below w.heap.size w w') : PAt S Q N p b1 b2 v tx g D c l w' := by
  have hk : ∀ k, S k → w'.heap[k]? = w.heap[k]? := fun k hs => hb.block k (h.lt k hs)
  exact ⟨(hk p h.own).trans h.cells, h.ne, ⟨h.texts.map.kept (hk b1 h.texts.own), h.texts.own, h.texts.none, fun id l hl => by
      obtain ⟨u, hu, hs⟩ := h.texts.some id l hl
      exact ⟨u, hu, hs.below hb⟩⟩,
    ⟨h.found.map.kept (hk b2 h.found.own), h.found.own, fun x b hx => by
      obtain ⟨a1, a2, a3, a4⟩ := h.found.inner x b hx
      exact ⟨a1, a2, a3, a4.kept (hk b a1)⟩, h.found.inj, h.found.some⟩,
    h.row.kept fun k _ hs _ => hk k hs, fun k hs => Nat.lt_of_lt_of_le (h.lt k hs) hb.size, h.out, h.own⟩

/-- what lies at a map's block is no cells -/
theorem PAt.rest {w' : World} {b : Nat} (h : PAt S Q N p b1 b2 v tx g D c l w) (hg : w.grownBy w' (some b)) (hb : ∃ es k, w.heap[b]? = some (.map es k)) :
    w'.heap[p]? = some (.cells #[.map (some b1), .map (some b2), v] 99 (0, 0)) ∧ RowS S w' v l ∧ (∀ k, S k → k < w'.heap.size) ∧ (b ≠ b1 → Texts S (fun k => S k ∨ Q k) b1 N tx D w') ∧
    (b ≠ b2 → SM b2 N (fun x => (g x).map fun b => .map (some b)) w') ∧ (∀ x b', g x = some b' → b' ≠ b → IM b' N (cntM (c x)) w') ∧ But S w.heap.size w w' ∨ ¬ S b := by
  by_cases hS : S b
  · left
    obtain ⟨es, k, hbk⟩ := hb
    have hnc : ∀ j, (some b : Option Nat) = some j → ∀ cs t fr, w.heap[j]? ≠ some (.cells cs t fr) := fun j hj cs t fr => by
      cases hj
      rw [hbk]; intro e; cases e
    have hk : ∀ k, S k → k ≠ b → w'.heap[k]? = w.heap[k]? := fun k hs hne => hg.block k (h.lt k hs) (by simpa using hne)
    have hpb : p ≠ b := fun e => by
      have h1 := h.cells
      rw [e, hbk] at h1; cases h1
    refine ⟨(hk p h.own hpb).trans h.cells, h.row.kept fun k _ hs hv => hk k hs fun e => ?_, fun k hs => Nat.lt_of_lt_of_le (h.lt k hs) hg.size, fun hne => ⟨h.texts.map.kept (hk b1 h.texts.own hne.symm), h.texts.own, h.texts.none, fun id l hl => ?_⟩,
      fun hne => h.found.map.kept (hk b2 h.found.own hne.symm), fun x b' hx hne => ?_, But.grown hg (Nat.le_refl _) hS⟩
    · obtain ⟨⟨base, -, h2⟩, _⟩ := h.row
      subst e
      rcases h2 with ⟨e0, _⟩ | ⟨g', cap, cur, e0, _, hg', _⟩
      · rw [e0] at hv; cases hv
      · rw [e0] at hv
        have : g' = k := by simpa [Value.ownBlock] using hv
        rw [this, hbk] at hg'; cases hg'
    · obtain ⟨u, hu, hs⟩ := h.texts.some id l hl
      exact ⟨u, hu, strs_grown hs.1 hg hnc, hs.2⟩
    · obtain ⟨a1, a2, a3, a4⟩ := h.found.inner x b' hx
      exact a4.kept (hk b' a1 hne)
  · exact .inr hS

def subC (c : Wd → Int → Nat) (x : Wd) (id : Int) (y : Wd) (i : Int) : Nat := if y = x ∧ i = id then 0 else c y i
def setC (c : Wd → Int → Nat) (x : Wd) (id : Int) (m : Nat) (y : Wd) (i : Int) : Nat := if y = x ∧ i = id then m else c y i

theorem cntM_del (f : Int → Nat) (id : Int) : (fun y => if y = id then none else cntM f y) = cntM fun i => if i = id then 0 else f i := by
  funext y
  by_cases h : y = id <;> simp [cntM, h]
theorem cntM_put (f : Int → Nat) (id : Int) (m : Nat) (hm : 0 < m) : (fun y => if y = id then some (.int .i64 (m : Int)) else cntM f y) = cntM fun i => if i = id then m else f i := by
  funext y
  by_cases h : y = id <;> simp [cntM, h, hm]

/-- delete(docs, id) -/
theorem PAt.delInner (h : PAt S Q N p b1 b2 v tx g D c l w) {x : Wd} {b : Nat} (hx : g x = some b) {id : Int} (h1 : -9223372036854775808 ≤ id) (h2 : id ≤ 9223372036854775807) (ty : TypeId) :
    ∃ w', (Builtin.delete_ #[81, 3] ty #[.map (some b), .int .i64 id]).run Tryz.prog w = .ok (.tuple #[]) w' ∧ But S w.heap.size w w' ∧
      w'.heap[p]? = some (.cells #[.map (some b1), .map (some b2), v] 99 (0, 0)) ∧ RowS S w' v l ∧ (∀ k, S k → k < w'.heap.size) ∧ Texts S (fun k => S k ∨ Q k) b1 N tx D w' ∧ SM b2 N (fun x => (g x).map fun b => .map (some b)) w' ∧
      (∀ y b', g y = some b' → IM b' N (cntM (subC c x id y)) w') ∧ w.grownBy w' (some b) := by
  obtain ⟨a1, a2, a3, a4⟩ := h.found.inner x b hx
  obtain ⟨w', hrun, hM, hg⟩ := a4.del int_inj intKeys (t := 81) Tryz.underlying81 (intKey h1 h2) ty
  rcases h.rest hg a4.obj with ⟨r1, r2, r3, r4, r5, r6, r7⟩ | hn
  · refine ⟨w', hrun, r7, r1, r2, r3, r4 a2, r5 a3, fun y b' hy => ?_, hg⟩
    by_cases hyx : y = x
    · subst hyx
      rw [hx] at hy; cases hy
      have e2 : subC c y id y = fun i => if i = id then 0 else c y i := by funext i; simp [subC]
      rw [e2, ← cntM_del (c y) id]; exact hM
    · have e : subC c x id y = c y := by funext i; simp [subC, hyx]
      rw [e]
      exact r6 y b' hy fun eb => hyx (h.found.inj y x b (by rw [hy, eb]) hx)
  · exact absurd a1 hn

/-- .. where the word is still somewhere -/
theorem PAt.delInner_stays {w' : World} (h : PAt S Q N p b1 b2 v tx g D c l w) {x : Wd} {id : Int}
    (r1 : w'.heap[p]? = some (.cells #[.map (some b1), .map (some b2), v] 99 (0, 0))) (r2 : RowS S w' v l) (r3 : ∀ k, S k → k < w'.heap.size) (r4 : Texts S (fun k => S k ∨ Q k) b1 N tx D w') (r5 : SM b2 N (fun x => (g x).map fun b => .map (some b)) w')
    (r6 : ∀ y b', g y = some b' → IM b' N (cntM (subC c x id y)) w') (hs : ∃ i, 0 < subC c x id x i) : PAt S Q N p b1 b2 v tx g D (subC c x id) l w' :=
  ⟨r1, h.ne, r4, ⟨r5, h.found.own, fun y b' hy => by
      obtain ⟨a1, a2, a3, a4⟩ := h.found.inner y b' hy
      exact ⟨a1, a2, a3, r6 y b' hy⟩, h.found.inj, fun y => by
      rw [h.found.some y]
      by_cases hyx : y = x
      · subst hyx
        constructor
        · exact fun _ => hs
        · rintro ⟨i, hi⟩
          refine ⟨i, ?_⟩
          unfold subC at hi
          split at hi <;> omega
      · have e : subC c x id y = c y := by funext i; simp [subC, hyx]
        rw [e]⟩, r2, r3, h.out, h.own⟩

/-- delete(x.found, w) of a word that is nowhere -/
theorem PAt.delFound {w' : World} (h : PAt S Q N p b1 b2 v tx g D c l w) {x : Wd} {id : Int} (hxl : x.length ≤ 8192)
    (r1 : w'.heap[p]? = some (.cells #[.map (some b1), .map (some b2), v] 99 (0, 0))) (r2 : RowS S w' v l) (r3 : ∀ k, S k → k < w'.heap.size) (r4 : Texts S (fun k => S k ∨ Q k) b1 N tx D w') (r5 : SM b2 N (fun x => (g x).map fun b => .map (some b)) w')
    (r6 : ∀ y b', g y = some b' → IM b' N (cntM (subC c x id y)) w') (hs : ∀ i, subC c x id x i = 0) (ty : TypeId) :
    ∃ w'', (Builtin.delete_ #[97, 9] ty #[.map (some b2), .string ⟨x.toArray⟩]).run Tryz.prog w' = .ok (.tuple #[]) w'' ∧ But S w'.heap.size w' w'' ∧ PAt S Q N p b1 b2 v tx (fun y => if y = x then none else g y) D (subC c x id) l w'' := by
  obtain ⟨w'', hrun, hM, hg⟩ := r5.del str_inj strKeys (t := 97) Tryz.underlying97 (strKey hxl) ty
  have hb : But S w'.heap.size w' w'' := But.grown hg (Nat.le_refl _) h.found.own
  have hk : ∀ k, S k → k ≠ b2 → w''.heap[k]? = w'.heap[k]? := fun k hs hne => hg.block k (r3 k hs) (by simpa using hne)
  obtain ⟨es, kk, hbk⟩ := r5.obj
  have hpb : p ≠ b2 := fun e => by rw [e, hbk] at r1; cases r1
  refine ⟨w'', hrun, hb, (hk p h.own hpb).trans r1, h.ne, ⟨r4.map.kept (hk b1 r4.own h.ne), r4.own, r4.none, fun i l hl => ?_⟩, ⟨?_, h.found.own, fun y b' hy => ?_, fun y z b hy hz => ?_, fun y => ?_⟩, r2.kept fun k _ hs hv => hk k hs fun e => ?_, fun k hs => Nat.lt_of_lt_of_le (r3 k hs) hg.size, h.out, h.own⟩
  · obtain ⟨u, hu, hs⟩ := r4.some i l hl
    exact ⟨u, hu, strs_grown hs.1 hg (fun j hj cs t fr => by cases hj; rw [hbk]; intro e; cases e), hs.2⟩
  · have e : (fun y => if y = x then none else (g y).map fun b => Value.map (some b)) = fun y => (if y = x then none else g y).map fun b => Value.map (some b) := by
      funext y; by_cases hy : y = x <;> simp [hy]
    rw [← e]; exact hM
  · by_cases hyx : y = x
    · subst hyx; simp at hy
    · simp only [if_neg hyx] at hy
      obtain ⟨a1, a2, a3, a4⟩ := h.found.inner y b' hy
      exact ⟨a1, a2, a3, (r6 y b' hy).kept (hk b' a1 a3)⟩
  · by_cases hyx : y = x
    · subst hyx; simp at hy
    · by_cases hzx : z = x
      · subst hzx; simp at hz
      · simp only [if_neg hyx] at hy
        simp only [if_neg hzx] at hz
        exact h.found.inj y z b hy hz
  · by_cases hyx : y = x
    · subst hyx
      simp only [↓reduceIte, Option.isSome_none, Bool.false_eq_true, false_iff, not_exists]
      intro i; rw [hs i]; omega
    · simp only [if_neg hyx]
      rw [h.found.some y]
      have e : subC c x id y = c y := by funext i; simp [subC, hyx]
      rw [e]
  · obtain ⟨⟨base, -, h2⟩, _⟩ := r2
    subst e
    rcases h2 with ⟨e0, _⟩ | ⟨g', cap, cur, e0, _, hg', _⟩
    · rw [e0] at hv; cases hv
    · rw [e0] at hv
      have : g' = k := by simpa [Value.ownBlock] using hv
      rw [this, hbk] at hg'; cases hg'

/-- delete(x.texts, id) -/
theorem PAt.delText (h : PAt S Q N p b1 b2 v tx g D c l w) (hA : Asc D) {id : Int} (h1 : -9223372036854775808 ≤ id) (h2 : id ≤ 9223372036854775807) (ty : TypeId) :
    ∃ w', (Builtin.delete_ #[96, 3] ty #[.map (some b1), .int .i64 id]).run Tryz.prog w = .ok (.tuple #[]) w' ∧ But S w.heap.size w w' ∧ PAt S Q N p b1 b2 v (fun i => if i = id then none else tx i) g (remD D id) c l w' := by
  obtain ⟨w', hrun, hM, hg⟩ := h.texts.map.del int_inj intKeys (t := 96) Tryz.underlying96 (intKey h1 h2) ty
  obtain ⟨es, kk, hbk⟩ := h.texts.map.obj
  rcases h.rest hg h.texts.map.obj with ⟨r1, r2, r3, r4, r5, r6, r7⟩ | hn
  · refine ⟨w', hrun, r7, r1, h.ne, ⟨hM, h.texts.own, fun i hi => ?_, fun i l hl => ?_⟩, ⟨r5 h.ne, h.found.own, fun x b hx => ?_, h.found.inj, h.found.some⟩, r2, r3, h.out, h.own⟩
    · rw [wordsAt_rem hA] at hi
      by_cases e : i = id
      · simp [e]
      · simp only [if_neg e] at hi ⊢
        exact h.texts.none i hi
    · rw [wordsAt_rem hA] at hl
      by_cases e : i = id
      · simp [e] at hl
      · simp only [if_neg e] at hl ⊢
        obtain ⟨u, hu, hs⟩ := h.texts.some i l hl
        exact ⟨u, hu, strs_grown hs.1 hg (fun j hj cs t fr => by cases hj; rw [hbk]; intro e; cases e), hs.2⟩
    · obtain ⟨a1, a2, a3, a4⟩ := h.found.inner x b hx
      exact ⟨a1, a2, a3, r6 x b hx a2⟩
  · exact absurd h.texts.own hn
end
end Go.Proofs.YtogjgibaolppfaaGreatDoor

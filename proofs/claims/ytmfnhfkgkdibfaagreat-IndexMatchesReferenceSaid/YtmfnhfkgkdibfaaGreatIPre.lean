/- Prefix. -/
import Derived.Test.YtmfnhfkgkdibfaaGreatIWth
import Derived.Carry
namespace Go.Proofs.YtmfnhfkgkdibfaaGreat
open Go.RowKit Go.Sort Go.Proofs Go.Maps Go.ChangeMaps Go.WideMaps

theorem sum_count (f : Wd → Bool) : ∀ (l V : List Wd), V.Nodup → (∀ x ∈ l, f x = true → x ∈ V) → (∀ x ∈ V, f x = true) → (V.map fun x => l.count x).sum = l.countP f
  | [], V, _, _, _ => by
    induction V with
    | nil => rfl
    | cons x V ih => simp_all
  | a :: l, V, hn, h1, h2 => by
    have ih := sum_count f l V hn (fun x hx => h1 x (List.mem_cons_of_mem _ hx)) h2
    have hs : ∀ V : List Wd, (V.map fun x => (a :: l).count x).sum = (V.map fun x => l.count x).sum + V.count a := fun V => by
      induction V with
      | nil => rfl
      | cons x V ih =>
        have e1 : (a :: l).count x = l.count x + (if a == x then 1 else 0) := List.count_cons
        have e2 : (x :: V).count a = V.count a + (if x == a then 1 else 0) := List.count_cons
        rw [List.map_cons, List.sum_cons, ih, List.map_cons, List.sum_cons, e1, e2]
        by_cases hax : a = x
        · subst hax; simp; omega
        · have : ¬ x = a := fun e => hax e.symm
          simp [hax, this]; omega
    rw [hs, ih, hn.count, List.countP_cons]
    by_cases hf : f a = true
    · rw [if_pos (h1 a (by simp) hf), if_pos hf]
    · have : a ∉ V := fun hm => hf (h2 a hm)
      rw [if_neg this, if_neg hf]

/-- how often the words of a list are in a document -/
def sumC (D : List Dc) (ws : List Wd) (id : Int) : Nat := (ws.map fun x => cntD D x id).sum
theorem sumC_succ (D : List Dc) (ws : List Wd) (k : Nat) (h : k < ws.length) (id : Int) : sumC D (ws.take (k + 1)) id = sumC D (ws.take k) id + cntD D ws[k] id := by
  unfold sumC
  rw [List.take_succ_eq_append_getElem h, List.map_append, List.sum_append]
  simp
theorem sumC_pref {D : List Dc} (hA : Asc D) (p : Wd) (id : Int) : sumC D ((vocab D).filter p.isPrefixOf) id = docsF D (fun l => l.countP p.isPrefixOf) id := by
  unfold sumC cntD docsF
  cases hw : wordsAt D id with
  | none =>
    simp only [Option.map_none, Option.getD_none]
    generalize (vocab D).filter p.isPrefixOf = V
    induction V with
    | nil => rfl
    | cons x V ih => simp_all
  | some l =>
    simp only [Option.map_some, Option.getD_some]
    exact sum_count p.isPrefixOf l _ ((vocab_nodup D).filter _) (fun x hx hf => List.mem_filter.2 ⟨mem_vocab.2 ⟨_, (wordsAt_some hA).1 hw, hx⟩, hf⟩) (fun x hx => (List.mem_filter.1 hx).2)
theorem sumC_le {D : List Dc} (h : ∀ x id, cntD D x id ≤ 1000) (ws : List Wd) (id : Int) : sumC D ws id ≤ 1000 * ws.length := by
  unfold sumC
  induction ws with
  | nil => simp
  | cons x ws ih =>
    have := h x id
    simp only [List.map_cons, List.sum_cons, List.length_cons]
    omega

theorem docsF_le {D : List Dc} (hA : Asc D) (hs : ∀ d ∈ D, d.2.length ≤ 1000) {f : List Wd → Nat} (hf : ∀ l, f l ≤ l.length) (id : Int) : docsF D f id ≤ 1000 := by
  unfold docsF
  cases hw : wordsAt D id with
  | none => simp
  | some l =>
    have := hs _ ((wordsAt_some hA).1 hw)
    have h2 := hf l
    simp only [Option.map_some, Option.getD_some] at this ⊢
    omega
/-- what Prefix answers -/
def prefQ (D : List Dc) (s : List UInt8) : List (Int × Nat) := match wordOf s with | none => [] | some x => prefD D x

def addD (base c : Int → Nat) (done : List Int) (id : Int) : Nat := base id + if id ∈ done then c id else 0
theorem cntM_getD (f : Int → Nat) (x : Int) : (cntM f x).getD (.int .i64 0) = .int .i64 (f x : Int) := by
  unfold cntM
  split
  · rfl
  · have : f x = 0 := by omega
    rw [this]; rfl
theorem addD_put {base c : Int → Nat} {done : List Int} {x : Int} (hx : x ∉ done) (hc : 0 < c x) : (fun y => if y = x then some (.int .i64 ((base x : Int) + (c x : Int))) else cntM (addD base c done) y) = cntM (addD base c (done ++ [x])) := by
  funext y
  by_cases h : y = x
  · subst h
    simp only [↓reduceIte, cntM, addD, List.mem_append, List.mem_singleton, or_true]
    rw [if_pos (by omega)]
    simp
  · simp only [cntM, addD, List.mem_append, List.mem_singleton, h, or_false, if_false]
    try rfl

set_option maxRecDepth 100000 in
set_option maxHeartbeats 4000000 in
theorem prefix_any {S Q : Nat → Prop} {N : Nat} {p : Nat} {D : List Dc} (w : World) (h : IdxAt S Q N w p D) (_hN : N ≤ 1000000) (s : List UInt8) (hs : s.length ≤ 1000000) :
    Calls Tryz.prog 30 #[.pointer (some ⟨p, 0, none⟩), .string ⟨s.toArray⟩] w fun e w' => ∃ v, e = .returned v ∧ HitsR w.heap.size w' v (prefQ D s) ∧ Below w.heap.size w w' := by
  have hcw := fun W => word_any s (by omega) W
  have HI := Lib.hid h
  have hcl := fun x id => cntD_le h x id
  have HCL := Lib.hid hcl
  have hvl := vocab_len h.asc h.ids h.small
  have HSM := Lib.hid h.small
  have HIA := Lib.hid h.asc; have HII := Lib.hid h.ids
  clear h hcl
  cases hw : wordOf s with
  | none =>
    have hR : prefQ D s = [] := by unfold prefQ; rw [hw]
    rw [hR]
    rw [hw] at hcw
    clear hR hw
    go_enter Tryz.func30, Tryz.ntmps30
    go_wp2_with (go_at_call 45; refine (hcw _).mono ?_; rintro e w1 ⟨rfl, hb1⟩)
    go_ret
    exact ⟨_, rfl, ⟨rfl, .inl ⟨rfl, rfl⟩⟩, hb1⟩
  | some x =>
    have hR : prefQ D s = hitsF (sumC D ((vocab D).filter x.isPrefixOf)) := by
      unfold prefQ; rw [hw]
      show hitsF _ = _
      congr 1
      funext id
      exact (sumC_pref HIA.out x id).symm
    rw [hR]
    rw [hw] at hcw
    have hxl := wordOf_len hw
    clear hR hw
    simp only [Option.getD_some, Option.isSome_some] at hcw
    have hcwi := fun W (h : IdxAt S Q N W p D) => with_any W h x
    have hse := fun id => sumC_pref HIA.out x id
    have hmemV : ∀ z ∈ (vocab D).filter x.isPrefixOf, z ∈ vocab D := fun z hz => (List.mem_filter.1 hz).1
    have hwl : ((vocab D).filter x.isPrefixOf).length ≤ 256000 := Nat.le_trans (List.length_filter_le _ _) hvl
    obtain ⟨ws, hws⟩ : ∃ ws, (vocab D).filter x.isPrefixOf = ws := ⟨_, rfl⟩
    rw [hws] at hcwi hmemV hwl hse ⊢
    have HSE := Lib.hid hse
    clear hse
    obtain ⟨R, HR⟩ : ∃ R, Hid (hitsF (sumC D ws) = R) := ⟨_, Lib.hid rfl⟩
    have HMV := Lib.hid hmemV
    rw [HR.out]
    clear hws hmemV
    have hmm := @run_makeMap Tryz.prog
    go_enter Tryz.func30, Tryz.ntmps30
    go_wp2_with fail
    refine (hcw _).mono ?_
    rintro e w1 ⟨rfl, hb1⟩
    have hs1 := hb1.size
    -- the map of the counts
    have hb2 : Below w.heap.size w (w1.alloc (.map #[] 0)) := hb1.alloc hs1 _
    have hM0 : IM w1.heap.size 0 (cntM fun _ => 0) (w1.alloc (.map #[] 0)) := by
      have : (cntM fun _ => 0) = fun _ => none := by funext id; simp [cntM]
      rw [this]; exact RMap.new w1
    have HB2 := Lib.hid hb2; have HM0 := Lib.hid hM0
    clear hb2 hM0 hb1
    go_wp2_with fail
    refine (hcwi _ (HI.out.below HB2.out)).mono ?_
    rintro e w3 ⟨v3, rfl, hst, hown, hb3⟩
    have HB3 := Lib.hid (bthen HB2.out hb3)
    have hM3 : IM w1.heap.size 0 (cntM (sumC D (ws.take 0))) w3 := by
      have : sumC D (ws.take 0) = fun _ => 0 := by funext id; simp [sumC]
      rw [this]
      exact HM0.out.kept (hb3.block _ (by simp))
    have HST := Lib.hid hst
    have HOW := Lib.hid (fun ad n c e => HI.out.lt _ (hown ad n c e))
    clear hown
    obtain ⟨a3, c3, rfl, hle3, hm3, hc3⟩ := hst
    have HM3 := Lib.hid hM3
    have HC3 := Lib.hid hc3
    clear hM3 hb3 hc3
    obtain ⟨bc, hbc⟩ : ∃ bc, w1.heap.size = bc := ⟨_, rfl⟩
    rw [hbc] at hs1 HM3
    go_wp2
    have HBC := Lib.hid hbc
    clear hbc
    go_loopw [28] (fun i wr => ∃ k : Nat, i = .int .i64 k ∧ k ≤ ws.length ∧ Hid (IM bc (256 * k) (cntM (sumC D (ws.take k))) wr) ∧ Hid (Below w.heap.size w wr)) (fun i _ => ws.length - (intOf i).toNat)
    case atStart => exact ⟨0, rfl, by omega, HM3, HB3⟩
    case round =>
      obtain ⟨k, rfl, hk, HM, HB⟩ := hrel
      by_cases hkl : k < ws.length
      · have hki : (k : Int) < (ws.length : Int) := by omega
        have hIw := HI.out.below HB.out
        obtain ⟨b1, b2, v, tx, g, hp, hne, hT, hF, hR⟩ := hIw.parts
        have hp1 : wr.cell? ⟨p, 1, none⟩ = some (.map (some b2)) := by rw [Lib.cell_of_heap hp]; rfl
        obtain ⟨d, hd, hyd⟩ := mem_vocab.1 (HMV.out ws[k] (List.getElem_mem hkl))
        have hyl : ws[k].length ≤ 30 := (hIw.oks d hd _ hyd).2.1
        have hget := hF.map.get strKeys (t := 64) Tryz.underlying64 (Tryz.zeroValue67 wr) (strKey (x := ws[k]) (by omega))
        obtain ⟨bi, hbi⟩ := Option.isSome_iff_exists.1 ((hF.some ws[k]).2 ⟨d.1, by
          unfold cntD docsF
          rw [(wordsAt_some hIw.asc).2 hd]
          exact List.count_pos_iff.2 hyd⟩)
        rw [hbi] at hget
        obtain ⟨i1, i2, i3, i4⟩ := hF.inner ws[k] bi hbi
        have hbiw := HI.out.lt bi i1
        obtain ⟨Di, hDi, hfi⟩ := i4
        obtain ⟨b0, off0, ha0, ck0⟩ := HC3.out k hkl
        have hb0 := HOW.out ⟨b0, off0, none⟩ _ _ (by rw [ha0])
        subst ha0
        have ck : wr.cell? ⟨b0, off0 + k, none⟩ = some (.string ⟨(ws[k]).toArray⟩) := by
          rw [HB.out.cell (p := ⟨b0, off0 + k, none⟩) hb0, ← HB3.out.cell (p := ⟨b0, off0 + k, none⟩) hb0]
          exact ck0
        have hsucc := sumC_succ D ws k hkl
        have hcl := fun id => HCL.out ws[k] id
        have hsl := fun id => sumC_le HCL.out (ws.take k) id
        have hcp := fun id (h : 0 < cntD D ws[k] id) => docsF_pos HIA.out HII.out h
        obtain ⟨y, hy⟩ : ∃ y, ws[k] = y := ⟨_, rfl⟩
        rw [hy] at hget hfi ck hsucc hcl hcp hyl
        obtain ⟨cy, hcy⟩ : ∃ f, cntD D y = f := ⟨_, rfl⟩
        rw [hcy] at hfi hsucc hcl hcp
        have HF := Lib.hid hfi; have HSU := Lib.hid hsucc; have HCY := Lib.hid hcl; have HSL := Lib.hid hsl; have HCP := Lib.hid hcp
        clear hp hT hF hR hd hyd hbi hfi hsucc hcl hcy hy hsl hcp ck0 hIw d
        have hbcl := HM.out.lt
        obtain ⟨rB, hrB⟩ : ∃ n, wr.heap.size = n := ⟨_, rfl⟩
        go_wp2_with (at_range; refine wpList_range_own _ rfl _ 67 rfl 3 3 intKeys Tryz.underlying67 _ bi N _ rfl hDi ?_; intro w4 hrg0 hg0 hs0)
        have HB4 : Hid (Below w.heap.size w w4) := Lib.hid (HB.out.grown hg0 HB.out.size (fun j hj => by cases hj))
        have HM4 : Hid (IM bc (256 * k) (cntM (sumC D (ws.take k))) w4) := Lib.hid (HM.out.kept (hg0.block _ hbcl (by simp)))
        rw [hrB] at hrg0 hbcl
        clear hg0 hs0 hrB
        go_loopw [10] (fun _ wq => ∃ (left : Lit → Bool) (cnt : Nat) (done : List Int), wq.ranges Tryz.prog 3 rawE bi rB N Di left cnt ∧ Hid (Left (Lit.int .i64) (cntM cy) left done) ∧ Hid (done.Nodup ∧ ∀ x ∈ done, 0 < cy x) ∧ Hid (IM bc (256 * k + done.length) (cntM (addD (sumC D (ws.take k)) cy done)) wq) ∧ Hid (Below w.heap.size w wq)) (fun _ wq => wq.rangeLeft bi rB)
        case atStart => exact ⟨_, _, [], hrg0, Lib.hid (Left.start HF.out), Lib.hid ⟨.nil, fun x hx => by cases hx⟩, Lib.hid (by
          have : addD (sumC D (ws.take k)) cy [] = sumC D (ws.take k) := by funext id; simp [addD]
          rw [this]; exact HM4.out), HB4⟩
        case round =>
          obtain ⟨left, cnt, done, hrg, HL, HN, HMq, HBq⟩ := hrel
          go_wp2_with (at_next; refine wpList_next_ranges _ rfl _ rfl 3 intKeys rawE (Value.int .i64) id (fun key kl hkey => by obtain ⟨x, rfl, _⟩ := Maps.keyOf_int_inv Tryz.underlying3 hkey; exact ⟨x, rfl⟩) (fun v y _ => ⟨v, rfl⟩) bi rB N _ _ _ rfl hrg ?_ ?_)
          · intro _ hl0
            have hmem : ∀ x, 0 < cy x → x ∈ done := fun x h => HL.out.done hl0 x (cntM_isSome.2 h)
            have hlen2 := done_len HN.out.1 HN.out.2 HCP.out
            have heq : addD (sumC D (ws.take k)) cy done = sumC D (ws.take (k + 1)) := by
              funext id
              rw [HSU.out id]
              unfold addD
              by_cases hm : id ∈ done
              · rw [if_pos hm]
              · rw [if_neg hm]
                cases hc : cy id with
                | zero => rfl
                | succ n => exact absurd (hmem id (by omega)) hm
            have HM5 : Hid (IM bc (256 * (k + 1)) (cntM (sumC D (ws.take (k + 1)))) wr) := Lib.hid (by rw [← heq]; exact HMq.out.mono (by omega))
            clear heq hmem
            go_wp2
            go_roundw
            case rel => exact ⟨k + 1, by go_num, by omega, HM5, HBq⟩
            case measure => simp [intOf]; omega
          · intro z cv kl y1 y2 w2 cnt2 hkey hlk hry hat hrg2 hlt hg2 hs2 hen
            obtain ⟨z', ez, rfl, hwz⟩ := Maps.keyOf_int_inv Tryz.underlying3 hkey
            cases ez
            cases hry
            obtain ⟨hcx, hnm⟩ := HL.out.value HF.out hlk hat
            obtain ⟨hc0, rfl⟩ := cntM_some hcx
            have hz := HCP.out z hc0
            have hbr : rB ≠ bi := hrg.ne
            have hMw2 : IM bc (256 * k + done.length) (cntM (addD (sumC D (ws.take k)) cy done)) w2 := HMq.out.kept (hg2.block _ HMq.out.lt (by simp; omega))
            have HB2w : Hid (Below w.heap.size w w2) := Lib.hid (HBq.out.grown hg2 HBq.out.size (fun j hj => by cases hj; omega))
            have hdl := done_len HN.out.1 HN.out.2 HCP.out
            have hold : addD (sumC D (ws.take k)) cy done z = sumC D (ws.take k) z := by unfold addD; rw [if_neg hnm]; rfl
            have hget2 := hMw2.get intKeys (t := 67) Tryz.underlying67 (Tryz.zeroValue3 w2) (intKey (i := z) (by omega) (by omega))
            obtain ⟨w5, hput, hM5, hg5⟩ := hMw2.put int_inj (by unfold maxLen; omega) intKeys (t := 67) Tryz.underlying67 (intKey (i := z) (by omega) (by omega)) (.int .i64 ((sumC D (ws.take k) z : Int) + (cy z : Int)))
            have hpd := addD_put (base := sumC D (ws.take k)) hnm hc0
            rw [hpd] at hM5
            rw [cntM_getD, hold] at hget2
            have hrg5 := hrg2.kept hg5 (by simp; omega) (by simp; omega)
            have HB5 : Hid (Below w.heap.size w w5) := Lib.hid (HB2w.out.grown hg5 HB2w.out.size (fun j hj => by cases hj; exact hs1))
            have HM5 : Hid (IM bc (256 * k + (done ++ [z]).length) (cntM (addD (sumC D (ws.take k)) cy (done ++ [z]))) w5) := Lib.hid (by
              rw [List.length_append]; exact hM5)
            have HL5 : Hid (Left (Lit.int .i64) (cntM cy) (fun q => left q && !q.sameKey (.int .i64 z)) (done ++ [z])) := Lib.hid (HL.out.next int_same z)
            have HN5 : Hid ((done ++ [z]).Nodup ∧ ∀ y ∈ done ++ [z], 0 < cy y) := Lib.hid ⟨by
                rw [List.nodup_append]; exact ⟨HN.out.1, by simp, fun a ha b hb e => by simp at hb; subst hb; exact hnm (e ▸ ha)⟩, fun y hy => by
                rcases List.mem_append.1 hy with h | h
                · exact HN.out.2 y h
                · simp at h; subst h; exact hc0⟩
            have HRE := Lib.hid hrg5.left_eq; have HRL := Lib.hid hrg.left_eq
            have hm1 := HSL.out z
            have hm2 := HCY.out z
            obtain ⟨m1, hm1e⟩ : ∃ m : Int, ((sumC D (ws.take k) z : Nat) : Int) = m := ⟨_, rfl⟩
            obtain ⟨m2, hm2e⟩ : ∃ m : Int, ((cy z : Nat) : Int) = m := ⟨_, rfl⟩
            have hb1 : 0 ≤ m1 ∧ m1 ≤ 256000000 := by
              have : (ws.take k).length ≤ 256000 := by rw [List.length_take]; omega
              omega
            have hb2 : 0 ≤ m2 ∧ m2 ≤ 1000 := by omega
            rw [hm1e] at hget2
            rw [hm1e, hm2e] at hput
            have HE2 := Lib.hid hm2e
            rw [hm2e] at hen ⊢
            clear hM5 hg5 hg2 hs2 hold hpd hMw2 hm1e hm2e hm1 hm2 hrg2 hrg
            go_wp2
            go_roundw
            case rel => exact ⟨_, _, _, hrg5, HL5, HN5, HM5, HB5⟩
            case measure => rw [HRE.out, HRL.out]; exact hlt
      · obtain rfl : k = ws.length := by omega
        have hcon := fun W hM => hits_any bc (256 * ws.length) (sumC D ws) W hM (by omega) (fun id h => by rw [HSE.out] at h; exact docsF_pos HIA.out HII.out h) (fun id => by rw [HSE.out]; have := docsF_le HIA.out HSM.out (f := fun l => l.countP x.isPrefixOf) (fun l => List.countP_le_length) id; omega)
        rw [HR.out] at hcon
        have HM9 := HM.out
        rw [List.take_length] at HM9
        go_wp2_with (go_at_call 48; refine (hcon _ HM9).mono ?_; rintro e w9 ⟨v9, rfl, hr, hb9⟩)
        go_ret
        exact ⟨_, rfl, HitsR.mono hr HB.out.size, bthen HB.out hb9⟩
end Go.Proofs.YtmfnhfkgkdibfaaGreat

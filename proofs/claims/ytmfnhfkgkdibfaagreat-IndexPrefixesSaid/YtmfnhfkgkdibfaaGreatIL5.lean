/- IndexPrefixes. -/
import Derived.Test.YtmfnhfkgkdibfaaGreatIL8
import Derived.Test.YtmfnhfkgkdibfaaGreatIPfP
import Derived.Test.YtmfnhfkgkdibfaaGreatIInP
namespace Go.Proofs.YtmfnhfkgkdibfaaGreat
open Go.RowKit Go.Sort Go.Proofs Go.Maps

/-- an array of 257 numbers in block b -/
def Arr (w : World) (b : Nat) (f : Int → Nat) : Prop := ∀ j : Nat, j < 257 → w.cell? ⟨b, j, none⟩ = some (.int .i64 (f j)) ∧ w.frozen? ⟨b, j, none⟩ = false
theorem Arr.below {w w' : World} {b : Nat} {f : Int → Nat} (h : Arr w b f) (hb : Below w.heap.size w w') : Arr w' b f := fun j hj => by
  have hk : w'.heap[b]? = w.heap[b]? := hb.block b (World.block_lt_of_cell? w _ (h j hj).1)
  exact ⟨(World.cell?_of_block (a := ⟨b, j, none⟩) hk).trans (h j hj).1, (World.frozen?_of_block (a := ⟨b, j, none⟩) hk).trans (h j hj).2⟩
theorem Arr.drew {w : World} {b : Nat} {f : Int → Nat} (h : Arr w b f) (q : Nat) : Arr (w.drewN q) b f := h.below ((Below.refl _ w).drewN q)
theorem Arr.set {w : World} {b : Nat} {f : Int → Nat} (h : Arr w b f) (n : Nat) (_ : n < 257) (m : Int) (g : Int → Nat) (hg : ((g n : Nat) : Int) = m) (ho : ∀ j : Int, j ≠ n → g j = f j) : Arr (w.setCell ⟨b, n, none⟩ (.int .i64 m)) b g := fun j hj => by
  rw [World.frozen?_setCell]
  refine ⟨?_, (h j hj).2⟩
  by_cases e : n = j
  · subst e
    rw [World.cell?_setCell_same' _ _ _ (by rw [(h n hj).1]; rfl), hg]
  · rw [World.cell?_setCell_other w ⟨b, n, none⟩ ⟨b, j, none⟩ _ (fun e' => e (by injection e')), (h j hj).1, ho j (by omega)]
theorem zeros58 : Tryz.zeroCells58 = Array.replicate 257 (.int .i64 0) := by kernel_rfl
theorem Arr.new (w : World) : Arr (w.alloc (.cells Tryz.zeroCells58 58)) w.heap.size (fun _ => 0) := fun j hj => by
  rw [zeros58]
  refine ⟨?_, Lib.frozen_of_heap (heap_alloc_new _ _) j⟩
  rw [Lib.cell_of_heap (heap_alloc_new _ _)]
  simp [hj]
theorem But.setCell {S : Nat → Prop} {n : Nat} {w w' : World} (h : But S n w w') {b o : Nat} (hb : S b) (v : Value) : But S n w (w'.setCell ⟨b, o, none⟩ v) :=
  ⟨h.os, h.tape, h.output, by simp [h.size], fun k hk hs => (Below.heap_setCell w' ⟨b, o, none⟩ v k (fun e => hs (by rw [e]; exact hb))).trans (h.block k hk hs)⟩
theorem But.drewN {S : Nat → Prop} {n : Nat} {w w' : World} (h : But S n w w') (q : Nat) : But S n w (w'.drewN q) := h.trans (But.of_below ((Below.refl n w').drewN q))
theorem Arr.drew1 {w : World} {b : Nat} {f : Int → Nat} (h : Arr w b f) : Arr w.drew b f := h
theorem But.drew1 {S : Nat → Prop} {n : Nat} {w w' : World} (h : But S n w w') : But S n w w'.drew := h.trans (But.of_below ((Below.refl n w').drew))
theorem flat_prefix {α : Type} (f : α → List (Int × Nat)) (T : List α) (k : Nat) (hk : k < T.length) (m : Nat) : (T.take k).flatMap f ++ (f T[k]).take m <+: T.flatMap f := by
  have e : T = T.take k ++ T[k] :: T.drop (k + 1) := by rw [← List.drop_eq_getElem_cons hk, List.take_append_drop]
  generalize hA : T.take k = A at *
  generalize hB : T.drop (k + 1) = B at *
  generalize hx : T[k] = x at *
  rw [e, List.flatMap_append, List.flatMap_cons]
  refine ⟨(f x).drop m ++ B.flatMap f, ?_⟩
  rw [← List.append_assoc, List.append_assoc (A.flatMap f), List.take_append_drop, List.append_assoc]
theorem pref_facts {D : List Dc} (hA : Asc D) (hs : ∀ d ∈ D, d.2.length ≤ 1000) (s : List UInt8) : HAsc (prefQ D s) ∧ (∀ y ∈ prefQ D s, 1 ≤ y.1 ∧ y.1 ≤ 256 ∧ 0 < y.2) ∧ ∀ id, sumHits (prefQ D s) id ≤ 1000 := by
  obtain ⟨c, h1, h2⟩ := prefQ_form D s
  rw [h1]
  refine ⟨hitsF_asc c, fun y hy => hits_range hy, fun id => ?_⟩
  rw [sumHits_hitsF]
  split
  · exact h2 hs hA id
  · omega
theorem hits_fit5 {W : World} {v : Value} {l : List (Int × Nat)} (h : HitsAt W v l) : ∃ a c, v = .slice a l.length c ∧ l.length ≤ c ∧ c ≤ 9223372036854775807 := by
  obtain ⟨a, c, h1, h2, h3, _⟩ := h; exact ⟨a, c, h1, h2, h3⟩
theorem pref_nil (D : List Dc) : prefQ D [] = [] := rfl
theorem sumHits_snoc (L : List (Int × Nat)) (y : Int × Nat) (id : Int) : sumHits (L ++ [y]) id = sumHits L id + if id = y.1 then y.2 else 0 := by
  rw [sumHits_append]
  congr 1
  by_cases h : id = y.1
  · rw [if_pos h, h, sumHits_cons_same]; rfl
  · rw [if_neg h, sumHits_cons_ne (fun e => h e.symm)]; rfl
set_option maxRecDepth 1000000 in
set_option maxHeartbeats 16000000 in
theorem law5_any (v : Value) (ops : List Op3) (s : ByteArray) (w : World) (h : OpsAt w v ops) (hok : ∀ o ∈ ops, okOp o) (hlen : ∀ o ∈ ops, o.2.2.length ≤ 9223372036854775807) (hs : s.size ≤ 9223372036854775807) :
    Calls Tryz.prog 7 #[v, .string s] w fun e w' => e = .returned (.bool true) ∧ Below w.heap.size w w' := by
  obtain ⟨x, hx⟩ : ∃ x : List UInt8, s = ⟨x.toArray⟩ := ⟨s.data.toList, by simp⟩
  subst hx
  have hxs : x.length ≤ 9223372036854775807 := by simpa [ByteArray.size] using hs
  have hext : ByteArray.extract ⟨x.toArray⟩ 0 (min (x.length : Int) 40).toNat = ⟨(x.take 40).toArray⟩ := extract_cut x 40
  have hx40 : (x.take 40).length ≤ 1000000 := by rw [List.length_take]; omega
  have HOK := Lib.hid (few_ok hok)
  have HL := Lib.hid hlen
  have HOP := Lib.hid h
  have hfl := few_len ops
  obtain ⟨c, hc⟩ : ∃ c, x.take 40 = c := ⟨_, rfl⟩
  rw [hc] at hext hx40
  clear h hok hlen hs hc
  go_enter Tryz.func7, Tryz.ntmps7
  go_wp2_with fail
  refine (sane_any w).mono ?_
  rintro e w1 ⟨rfl, hb1⟩
  go_wp2_with fail
  refine (few_any v ops w1 (HOP.out.below hb1) HL.out).mono ?_
  rintro e w2 ⟨vf, rfl, hf, hb2⟩
  have HB2 := Lib.hid (bthen hb1 hb2)
  have hof := opsAt_of_owns hf (by omega)
  clear hb1 hb2 hf
  go_wp2_with fail
  refine (run_any vf (fewL ops) w2 hof (by omega) HOK.out).mono ?_
  rintro e w3 ⟨p, S, rfl, hI, -, hb3⟩
  have HB3 := Lib.hid (bthen HB2.out hb3)
  have hps : c ≠ [] → ∀ id, sumHits (allHits (runD (fewL ops)) c) id = sumHits (prefQ (runD (fewL ops)) c) id := fun hc id => pref_sums hfl (fun o ho => (HOK.out o ho).2) hI.oks hc id
  obtain ⟨D, hD⟩ : ∃ D, runD (fewL ops) = D := ⟨_, rfl⟩
  rw [hD] at hI hps
  have HI := Lib.hid hI
  have HPS := Lib.hid hps
  clear hb3 hof hI hD hps HB2
  go_upto_region 4 with fail
  go_cut [8] (fun v wx => v = .pointer (some ⟨w3.heap.size, 0, none⟩) ∧ Hid (Arr wx w3.heap.size (fun _ => 0)) ∧ Hid (Below w3.heap.size w3 wx))
  case first =>
    go_wp2
    go_meet
    exact ⟨rfl, Lib.hid (Arr.new w3), Lib.hid ((Below.refl _ w3).alloc (Nat.le_refl _) _)⟩
  case rest =>
    obtain ⟨rfl, HA0, HBx⟩ := hcut
    have HF := Lib.hid (pref_facts HI.out.asc HI.out.small c)
    have HDF := Lib.hid (fun s => docsQ_form D s)
    obtain ⟨bs, hbs⟩ : ∃ b, w3.heap.size = b := ⟨_, rfl⟩
    have hbw : bs < wc.heap.size := by
      rw [← hbs]; exact World.block_lt_of_cell? wc _ (HA0.out 0 (by omega)).1
    rw [hbs] at HA0 HBx ⊢
    have HBS := Lib.hid hbs
    have HI4 := Lib.hid (HI.out.below (by rw [HBS.out]; exact HBx.out))
    clear hbs
    go_upto_if 26 with fail
    go_cut [] (fun wx => Hid (Arr wx bs (sumHits (prefQ D c))) ∧ Hid (Below bs w3 wx))
    case first =>
      by_cases hcn : c = []
      · subst hcn
        go_wp2_with fail
        go_meet
        exact ⟨HA0, HBx⟩
      · have g0 : (!c.isEmpty) = true := by simpa using hcn
        have g1 : c.isEmpty = false := by simpa using hcn
        have HSUM := Lib.hid (HPS.out hcn)
        clear hcn
        go_wp2_with fail
        refine (terms_any wc HI4.out (by omega) c hx40 1000 (by omega) (by omega)).mono ?_
        rintro e w5 ⟨vt, rfl, ht, hb5⟩
        have HA5 := Lib.hid (HA0.out.below hb5)
        have HB5 := Lib.hid (HBx.out.trans (hb5.mono (by omega)))
        have HR5 := Lib.hid ht
        have HL5 : Hid (allHits D c = (termsQ D c 1000).flatMap fun t => docsQ D t.1) := Lib.hid rfl
        have hTok : ∀ t ∈ termsQ D c 1000, t.1.length ≤ 30 := fun t ht => (term_docs HI.out.asc HI.out.ids HI.out.oks (x := t.1) (m := t.2) ht).2.2
        obtain ⟨T, hT⟩ : ∃ T, termsQ D c 1000 = T := ⟨_, rfl⟩
        rw [hT] at HR5 HL5 hTok
        have HTK := Lib.hid hTok
        obtain ⟨at_, ct, hvt, htl, htc, -⟩ := HR5.out.at
        subst hvt
        have hb5s := hb5.size
        clear ht hb5 hT hTok
        go_wp2
        rotate_left
        · exfalso
          have hh : (!c.isEmpty) = false := by assumption
          rw [g0] at hh
          cases hh
        go_loopw [10] (fun i wr => ∃ k : Nat, i = .int .i64 k ∧ k ≤ T.length ∧ Hid (Arr wr bs (sumHits ((T.take k).flatMap fun t => docsQ D t.1))) ∧ Hid (But (fun k => k = bs) w5.heap.size w5 wr)) (fun i _ => T.length - (intOf i).toNat)
        case atStart => exact ⟨0, rfl, by omega, HA5, Lib.hid (But.refl _ _ _)⟩
        case round =>
          obtain ⟨k, rfl, hk, HAk, HBk⟩ := hrel
          have hks := HBk.out.size
          have HBk3 : Hid (Below bs w3 wr) := Lib.hid (HB5.out.trans (HBk.out.below (by omega) fun j hj => by omega))
          by_cases hkl : k < T.length
          · have hki : (k : Int) < (T.length : Int) := by omega
            obtain ⟨_, _, e1, _, _, kk⟩ := TermsR.at (row_kept HR5.out fun j hj => HBk.out.block j (HR5.out.lt j hj).2 (by have := (HR5.out.lt j hj).1; omega))
            injection e1 with e1 e2 e3
            subst e1
            clear e2 e3
            obtain ⟨b, off, rfl, a1, a2⟩ := kk k hkl
            have hx30 := HTK.out T[k] (List.getElem_mem hkl)
            have HFP := Lib.hid (flat_prefix (fun t : Wd × Nat => docsQ D t.1) T k hkl)
            have HT1 : Hid ((T.take (k + 1)).flatMap (fun t => docsQ D t.1) = (T.take k).flatMap (fun t => docsQ D t.1) ++ docsQ D T[k].1) := Lib.hid (by rw [List.take_succ_eq_append_getElem hkl, List.flatMap_append]; simp)
            obtain ⟨⟨x, m⟩, hx⟩ : ∃ z, T[k] = z := ⟨_, rfl⟩
            rw [hx] at a1 hx30 HFP HT1
            simp only at a1 hx30 HFP HT1
            clear hx kk a2
            have HIr := Lib.hid (HI.out.below (by rw [HBS.out]; exact HBk3.out))
            go_wp2_with fail
            refine (docs_any wr HIr.out (by omega) x (by omega)).mono ?_
            rintro e w6 ⟨vh, rfl, hr6, hb6⟩
            have HA6 := Lib.hid (HAk.out.below hb6)
            have HB6 := Lib.hid (HBk.out.trans (But.of_below (hb6.mono hks)))
            have HR6 := Lib.hid hr6
            have HDx := HDF.out x
            have hhl := docsQ_len D x
            obtain ⟨H, hH⟩ : ∃ H, docsQ D x = H := ⟨_, rfl⟩
            rw [hH] at HR6 HFP HT1 HDx hhl
            have HDX := Lib.hid HDx
            obtain ⟨L, hL⟩ : ∃ L, (T.take k).flatMap (fun t => docsQ D t.1) = L := ⟨_, rfl⟩
            rw [hL] at HA6 HFP HT1
            obtain ⟨ah, ch, hvh, hhl2, hhc⟩ := hits_fit5 HR6.out.at
            subst hvh
            have hb6s := hb6.size
            clear hr6 hb6 hH a1 HAk HDx hL
            go_wp2
            go_loopw [12] (fun i wi => ∃ j : Nat, i = .int .i64 j ∧ j ≤ H.length ∧ Hid (Arr wi bs (sumHits (L ++ H.take j))) ∧ Hid (But (fun k => k = bs) w6.heap.size w6 wi)) (fun i _ => H.length - (intOf i).toNat)
            case atStart => exact ⟨0, rfl, by omega, Lib.hid (by rw [List.take_zero, List.append_nil]; exact HA6.out), Lib.hid (But.refl _ _ _)⟩
            case round =>
              obtain ⟨j, rfl, hj, HAj, HBj⟩ := hrel
              by_cases hjl : j < H.length
              · have hji : (j : Int) < (H.length : Int) := by omega
                obtain ⟨_, _, e1, _, _, hcc⟩ := HitsR.at (row_kept HR6.out fun i hi => HBj.out.block i (HR6.out.lt i hi).2 (by have := (HR6.out.lt i hi).1; omega))
                injection e1 with e1 e2 e3
                subst e1
                clear e2 e3
                obtain ⟨bh, oh, rfl, h1, h2⟩ := hcc j hjl
                have hrg : 1 ≤ H[j].1 ∧ H[j].1 ≤ 256 ∧ 0 < H[j].2 := by
                  obtain ⟨cf, hcf⟩ := HDX.out
                  exact hits_range (c := cf) (by rw [← hcf]; exact List.getElem_mem hjl)
                have HSN : Hid (∀ id, sumHits (L ++ H.take (j + 1)) id = sumHits (L ++ H.take j) id + if id = H[j].1 then H[j].2 else 0) := Lib.hid (fun id => by rw [List.take_succ_eq_append_getElem hjl, ← List.append_assoc, sumHits_snoc])
                have hle : ∀ id, sumHits (L ++ H.take (j + 1)) id ≤ 1000 := fun id => by
                  have h3 := sumHits_le_of_prefix (HFP.out (j + 1)) id
                  rw [← HL5.out, HSUM.out id] at h3
                  exact Nat.le_trans h3 (HF.out.2.2 id)
                obtain ⟨⟨i1, c1⟩, hx⟩ : ∃ z, H[j] = z := ⟨_, rfl⟩
                rw [hx] at h1 h2 hrg HSN
                simp only at h1 h2 hrg
                rw [← Nat.add_assoc] at h2
                obtain ⟨r1, r2, r3⟩ := hrg
                obtain ⟨n, rfl⟩ : ∃ n : Nat, i1 = n := ⟨i1.toNat, by omega⟩
                have hca := HAj.out n (by omega)
                have hsn := HSN.out n
                have hle' := hle n
                rw [if_pos rfl] at hsn
                obtain ⟨old, hold⟩ : ∃ o, sumHits (L ++ H.take j) n = o := ⟨_, rfl⟩
                rw [hold] at hca hsn
                obtain ⟨ca, cf⟩ := hca
                have hs1000 : old + c1 ≤ 1000 := by simp only at hsn; omega
                have HSET : Hid (∀ W, Arr W bs (sumHits (L ++ H.take j)) → Arr (W.setCell ⟨bs, n, none⟩ (.int .i64 ((old : Int) + (c1 : Int)))) bs (sumHits (L ++ H.take (j + 1)))) := Lib.hid (fun W hW => hW.set n (by omega) _ _ (by rw [HSN.out, if_pos rfl, hold]; simp) (fun i hi => by rw [HSN.out, if_neg hi]; rfl))
                have hni0 : (0 : Int) ≤ (n : Int) := by omega
                have hni1 : (n : Int) < 257 := by omega
                have hni2 : ¬ (n : Int) < 1 := by omega
                have hni3 : ¬ (256 : Int) < (n : Int) := by omega
                clear hx hcc hle hsn hle' hold HSN
                have hwr : IntKind.i64.wrap ((old : Int) + (c1 : Int)) = (old : Int) + (c1 : Int) := IntWalk.i64_in _ (by omega)
                go_upto_region 16 with fail
                first
                  | (go_still_tail 19, (by kernel_rfl))
                  | fail
                change wpList _ _ _ _ _ wr.drew
                have cad : wr.drew.cell? ⟨bs, n, none⟩ = some (.int .i64 (old : Int)) := ca
                have cfd : wr.drew.frozen? ⟨bs, n, none⟩ = false := cf
                clear hwr
                go_wp2
                go_roundw
                case rel => exact ⟨j + 1, by go_num, by omega, Lib.hid (HSET.out _ HAj.out).drew1, Lib.hid (HBj.out.setCell rfl _).drew1⟩
                case measure => simp [intOf]; omega
              · have HA9 : Hid (Arr wr bs (sumHits ((T.take (k + 1)).flatMap fun t => docsQ D t.1))) := Lib.hid (by
                  rw [HT1.out]
                  have := HAj.out
                  rw [List.take_of_length_le (by omega)] at this
                  exact this)
                have HB9 := Lib.hid (HB6.out.trans (HBj.out.mono HB6.out.size))
                clear HAj
                go_wp2
                go_roundw
                case rel => exact ⟨k + 1, by go_num, by omega, HA9, HB9⟩
                case measure => simp [intOf]; omega
          · have HL9 : Hid (Arr wr bs (sumHits (prefQ D c))) := Lib.hid (by
              have e1 : sumHits ((T.take k).flatMap fun t => docsQ D t.1) = sumHits (prefQ D c) := by
                funext id
                rw [← HSUM.out id, HL5.out, List.take_of_length_le (by omega)]
              rw [← e1]; exact HAk.out)
            clear HAk
            go_wp2
            go_meet
            exact ⟨HL9, HBk3⟩
    case rest =>
      obtain ⟨HA1, HB1⟩ := hcut
      have HI5 := Lib.hid (HI.out.below (by rw [HBS.out]; exact HB1.out))
      have hbw1 : bs < wc.heap.size := World.block_lt_of_cell? wc _ (HA1.out 0 (by omega)).1
      have HB13 : Hid (Below w.heap.size w wc) := Lib.hid (bthen HB3.out (by rw [HBS.out]; exact HB1.out))
      go_wp2_with fail
      refine (prefix_any wc HI5.out (by omega) c hx40).mono ?_
      rintro e w7 ⟨vh, rfl, hr7, hb7⟩
      have HA7 := Lib.hid (HA1.out.below hb7)
      have HB7 := Lib.hid (HB13.out.trans (hb7.mono HB13.out.size))
      have hws : w.heap.size ≤ bs := by have := HB3.out.size; have := HBS.out; omega
      have HR7 := Lib.hid hr7
      have hhl := prefQ_len D c
      obtain ⟨H, hH⟩ : ∃ H, prefQ D c = H := ⟨_, rfl⟩
      rw [hH] at HR7 hhl HA7 HF
      obtain ⟨ah, ch, hvh, hhl2, hhc⟩ := hits_fit5 HR7.out.at
      subst hvh
      have hb7s := hb7.size
      clear hr7 hb7 hH HA1 HB1 HBx HA0 HI4 HPS HI HI5
      go_wp2
      go_loopw [14] (fun i wi => ∃ j : Nat, i = .int .i64 j ∧ j ≤ H.length ∧ Hid (Arr wi bs (sumHits (H.drop j))) ∧ Hid (But (fun k => k = bs) w7.heap.size w7 wi)) (fun i _ => H.length - (intOf i).toNat)
      case atStart => exact ⟨0, rfl, by omega, HA7, Lib.hid (But.refl _ _ _)⟩
      case round =>
        obtain ⟨j, rfl, hj, HAj, HBj⟩ := hrel
        by_cases hjl : j < H.length
        · have hji : (j : Int) < (H.length : Int) := by omega
          obtain ⟨_, _, e1, _, _, hcc⟩ := HitsR.at (row_kept HR7.out fun i hi => HBj.out.block i (HR7.out.lt i hi).2 (by have := (HR7.out.lt i hi).1; omega))
          injection e1 with e1 e2 e3
          subst e1
          clear e2 e3
          obtain ⟨bh, oh, rfl, h1, h2⟩ := hcc j hjl
          have hrg := HF.out.2.1 H[j] (List.getElem_mem hjl)
          have hdr : H.drop j = H[j] :: H.drop (j + 1) := List.drop_eq_getElem_cons hjl
          have hz : sumHits (H.drop (j + 1)) H[j].1 = 0 := sumHits_none fun z hz e => by
            have hA' : HAsc (H.drop j) := List.Pairwise.sublist (List.drop_sublist _ _) HF.out.1
            rw [hdr] at hA'
            have := (List.pairwise_cons.1 hA').1 z hz
            omega
          have hsame : sumHits (H.drop j) H[j].1 = H[j].2 := by rw [hdr, sumHits_cons_same, hz]; omega
          have hoth : ∀ id : Int, id ≠ H[j].1 → sumHits (H.drop (j + 1)) id = sumHits (H.drop j) id := fun id hid => by rw [hdr, sumHits_cons_ne fun e => hid e.symm]
          have hprev : ∀ i, j = i + 1 → ∃ i0 : Int, wr.cell? ⟨bh, oh + i * 2, none⟩ = some (.int .i64 i0) ∧ i0 < H[j].1 := fun i hi => by
            obtain ⟨b', o', e, h3, -⟩ := hcc i (by omega)
            injection e with e
            injection e with e3 e4
            subst e3; subst e4
            exact ⟨_, h3, List.pairwise_iff_getElem.1 HF.out.1 i j (by omega) hjl (by omega)⟩
          obtain ⟨⟨i1, c1⟩, hx⟩ : ∃ z, H[j] = z := ⟨_, rfl⟩
          rw [hx] at h1 h2 hrg hz hsame hoth hprev
          simp only at h1 h2 hrg hz hsame hoth hprev
          rw [← Nat.add_assoc] at h2
          obtain ⟨r1, r2, r3⟩ := hrg
          obtain ⟨n, rfl⟩ : ∃ n : Nat, i1 = n := ⟨i1.toNat, by omega⟩
          obtain ⟨ca, cf⟩ := HAj.out n (by omega)
          rw [hsame] at ca
          have HSET : Hid (∀ W, Arr W bs (sumHits (H.drop j)) → Arr (W.setCell ⟨bs, n, none⟩ (.int .i64 0)) bs (sumHits (H.drop (j + 1)))) := Lib.hid (fun W hW => hW.set n (by omega) _ _ (by rw [hz]; rfl) (fun i hi => hoth i hi))
          have hni0 : (0 : Int) ≤ (n : Int) := by omega
          have hni1 : (n : Int) < 257 := by omega
          have g1 : decide ((n : Int) < 1) = false := by simp; omega
          have g2 : decide ((256 : Int) < (n : Int)) = false := by simp; omega
          have g3 : decide ((c1 : Int) < 1) = false := by simp; omega
          have g4 : ((c1 : Int) != (c1 : Int)) = false := by simp
          clear hx hcc hz hsame hoth hdr
          rcases Nat.eq_zero_or_pos j with hj0 | hj0
          · subst hj0
            simp only [Nat.zero_mul, Nat.add_zero] at h1 h2
            have g5 : decide ((0 : Int) < 0) = false := rfl
            clear hprev
            go_wp2_with fail
            go_quiet (fail)
            go_wp2
            go_roundw
            case rel => exact ⟨1, by go_num, by omega, Lib.hid (HSET.out _ (HAj.out.drew _)), Lib.hid ((HBj.out.drewN _).setCell rfl _)⟩
            case measure => simp [intOf]; omega
          · obtain ⟨i, rfl⟩ : ∃ i, j = i + 1 := ⟨j - 1, by omega⟩
            obtain ⟨i0, h0, hlt⟩ := hprev i rfl
            have g5 : decide ((0 : Int) < (i : Int) + 1) = true := by rw [decide_eq_true_iff]; omega
            have g6 : decide ((n : Int) ≤ i0) = false := by rw [decide_eq_false_iff_not]; omega
            have hii : (i : Int) < (H.length : Int) := by omega
            clear hprev
            go_wp2_with fail
            go_quiet (fail)
            go_wp2
            go_roundw
            case rel => exact ⟨i + 1 + 1, by go_num, by omega, Lib.hid (HSET.out _ (HAj.out.drew _)), Lib.hid ((HBj.out.drewN _).setCell rfl _)⟩
            case measure => simp [intOf]; omega
        · have HA9 : Hid (Arr wr bs (fun _ => 0)) := Lib.hid (by
            have := HAj.out
            rw [List.drop_of_length_le (by omega)] at this
            exact this)
          have HB9 : Hid (Below w.heap.size w wr) := Lib.hid (HB7.out.trans (HBj.out.below HB7.out.size fun k hk => by omega))
          clear HAj
          go_wp2
          go_loopw [15] (fun i wi => ∃ j : Nat, i = .int .i64 j ∧ j ≤ 257 ∧ Hid (Arr wi bs (fun _ => 0)) ∧ Hid (Below w.heap.size w wi)) (fun i _ => 257 - (intOf i).toNat)
          case atStart => exact ⟨0, rfl, by omega, HA9, HB9⟩
          case round =>
            obtain ⟨q, rfl, hq, HAq, HBq⟩ := hrel
            by_cases hql : q < 257
            · have hqi : (q : Int) < 257 := by omega
              obtain ⟨ca, cf⟩ := HAq.out q hql
              go_wp2
              go_roundw
              case rel => exact ⟨q + 1, by go_num, by omega, HAq, HBq⟩
              case measure => simp [intOf]; omega
            · go_wp2
              go_ret
              exact ⟨rfl, HBq.out⟩
end Go.Proofs.YtmfnhfkgkdibfaaGreat

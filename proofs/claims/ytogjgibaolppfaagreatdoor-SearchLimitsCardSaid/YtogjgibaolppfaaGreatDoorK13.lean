/- Facts and contracts for the laws of the sender, part 13. Conditions: those that each theorem names. -/
import Derived.Test.YtogjgibaolppfaaGreatDoorK12
/- Terms. -/
namespace Go.Proofs.YtogjgibaolppfaaGreatDoor
open Go.RowKit Go.Sort Go.Proofs Go.Maps Go.ChangeMaps Go.WideMaps

theorem row_cut {w : World} {base : Nat} {e : TypeId} {size n cap k : Nat} {a : Option Addr} {xs : List Value} (h : w.ownsRow base e size (.slice a n cap) n xs) (hk : k ≤ n) : w.ownsRow base e size (.slice a k cap) k (xs.take (k * size)) := by
  have hle : k * size ≤ n * size := Nat.mul_le_mul_right _ hk
  refine ⟨by rw [List.length_take, h.1]; exact Nat.min_eq_left hle, ?_⟩
  rcases h.2 with ⟨e0, h0⟩ | ⟨g, cap', cur, e0, hb, hg, hn, hm, hs, ht⟩
  · injection e0 with e1 e2 e3
    subst e1; subst e2; subst e3
    obtain rfl : k = 0 := by omega
    exact .inl ⟨rfl, rfl⟩
  · injection e0 with e1 e2 e3
    subst e1; subst e3
    refine .inr ⟨g, cap, cur, rfl, hb, hg, by omega, hm, hs, ?_⟩
    rw [← ht, List.take_take, Nat.min_eq_left hle]

theorem infoTerm : (Tryz.prog.info? 92).map (fun i => (i.zero, i.size, i.bytes)) = some (some (.agg #[.string ⟨#[]⟩, .int .i64 0]), 2, 24) := by kernel_rfl
theorem run_upto_t {a : Option Addr} {n c k : Nat} (hk : k ≤ c) (W : World) : (Instr.slice 89 (.slice a n c) none (some (.int .i64 k)) none).run Tryz.prog W = .ok (.slice a k c) W := by
  have ht : Tryz.prog.underlying 89 = some (.slice (Tryz.prog.elem 89)) := by kernel_rfl
  have he : Tryz.prog.elem 89 = 92 := by kernel_rfl
  rw [run_slice_h W 89 a n c ht .i64 k (by omega) (by omega), he]
  have : (Go.sizeOf 92).run Tryz.prog W = .ok 2 W := Tryz.sizeOf92 W
  rw [this]
  simp only [Result.andThen]
  have h0 : (if c = 0 then a else a.map (·.add (0 * 2))) = a := by
    split
    · rfl
    · cases a with
      | none => rfl
      | some ad => simp [Addr.add]
  show Result.ok (Value.slice (if c = 0 then a else a.map (·.add (0 * 2))) (k - 0) (c - 0)) W = _
  rw [h0]; rfl

/-- the documents of a word -/
theorem dn_ids {D : List Dc} (hA : Asc D) (x : Wd) : ((D.filter fun d => decide (x ∈ d.2)).map (·.1)).Nodup ∧ (∀ id, id ∈ (D.filter fun d => decide (x ∈ d.2)).map (·.1) ↔ (cntM (cntD D x) id).isSome = true) ∧ ((D.filter fun d => decide (x ∈ d.2)).map (·.1)).length = dn D x := by
  refine ⟨ids_nodup (hA.filter _), fun id => ?_, ?_⟩
  · rw [cntM_isSome, List.mem_map]
    unfold cntD docsF
    constructor
    · rintro ⟨d, hd, rfl⟩
      rw [List.mem_filter] at hd
      rw [(wordsAt_some hA).2 hd.1]
      exact List.count_pos_iff.2 (by simpa using hd.2)
    · intro h
      cases hw : wordsAt D id with
      | none => rw [hw] at h; simp at h
      | some l =>
        rw [hw] at h
        exact ⟨(id, l), List.mem_filter.2 ⟨(wordsAt_some hA).1 hw, by simpa using List.count_pos_iff.1 h⟩, rfl⟩
  · rw [List.length_map, dn, List.countP_eq_length_filter]

/-- the words of a list, each with the number of its documents -/
def termsL (D : List Dc) (ws : List Wd) : List (Wd × Nat) := ws.map fun x => (x, dn D x)
theorem terms_of {D : List Dc} {p : Wd} {l : List (Wd × Nat)} (hp : l.Perm (termsL D ((vocab D).filter p.isPrefixOf))) (hs : l.Pairwise fun a b => ltOf cmpT b a = false) : l = termsD D p := by
  refine terms_unique ?_ (termsD_asc D p) fun x => ?_
  · have hn : l.Nodup := hp.nodup_iff.2 (List.pairwise_map.2 (((vocab_nodup D).filter _).imp fun {a b} h e => h (congrArg Prod.fst e)))
    refine (hs.and hn).imp ?_
    rintro a b ⟨h1, h2⟩
    rw [ltT] at h1
    simp only [decide_eq_false_iff_not] at h1
    by_cases h : TLt a b
    · exact h
    · exact absurd (tlt_conn h h1) h2
  · rw [hp.mem_iff, mem_termsD, termsL, List.mem_map]
    constructor
    · rintro ⟨y, hy, rfl⟩
      rw [List.mem_filter] at hy
      exact ⟨hy.1, hy.2, rfl⟩
    · rintro ⟨h1, h2, h3⟩
      exact ⟨x.1, List.mem_filter.2 ⟨h1, h2⟩, by rw [← h3]⟩
theorem dn_le {D : List Dc} (hA : Asc D) (hI : Ids D) (x : Wd) : dn D x ≤ 256 := Nat.le_trans List.countP_le_length (docs_le hA hI)

/-- what Terms answers -/
def prefW (s : List UInt8) : Option Wd := if s = [] then some [] else wordOf s
def termsQ (D : List Dc) (s : List UInt8) (n : Int) : List (Wd × Nat) := match prefW s with | none => [] | some x => (termsD D x).take n.toNat

theorem termsL_len (D : List Dc) (ws : List Wd) : (termsL D ws).length = ws.length := by simp [termsL]
theorem termC_len (l : List (Wd × Nat)) : (l.flatMap termC).length = l.length * 2 := by
  induction l with
  | nil => rfl
  | cons x l ih => rw [List.flatMap_cons, List.length_append, ih]; simp [termC]; omega
theorem flatMap_take {β : Type} (f : β → List Value) (k : Nat) (hk : ∀ x, (f x).length = k) : ∀ (l : List β) (n : Nat), (l.flatMap f).take (n * k) = (l.take n).flatMap f
  | [], n => by simp
  | x :: l, 0 => by simp
  | x :: l, n + 1 => by
    rw [List.flatMap_cons, List.take_succ_cons, List.flatMap_cons, List.take_append, hk, show (n + 1) * k - k = n * k by rw [Nat.add_mul]; omega, flatMap_take f k hk l n, List.take_of_length_le (by rw [hk, Nat.add_mul]; omega)]

set_option maxRecDepth 100000 in
set_option maxHeartbeats 4000000 in
/-- from the words on -/
theorem terms_any {S Q : Nat → Prop} {N : Nat} {p : Nat} {D : List Dc} (w : World) (h : IdxAt S Q N w p D) (_hN : N ≤ 1000000) (s : List UInt8) (hs : s.length ≤ 1000000) (n : Int) (hn0 : -9223372036854775808 ≤ n) (hn1 : n ≤ 9223372036854775807) :
    Calls Tryz.prog 53 #[.pointer (some ⟨p, 0, none⟩), .string ⟨s.toArray⟩, .int .i64 n] w fun e w' => ∃ v, e = .returned v ∧ TermsR w.heap.size w' v (termsQ D s n) ∧ Below w.heap.size w w' := by
  have hcw := fun W => word_any s (by omega) W
  have HI := Lib.hid h
  have hvl := vocab_len h.asc h.ids h.small
  have HIA := Lib.hid h.asc; have HII := Lib.hid h.ids
  clear h
  by_cases hn : n < 1
  · have g0 : decide (n < 1) = true := by simpa using hn
    have hR : termsQ D s n = [] := by
      unfold termsQ
      cases prefW s with
      | none => rfl
      | some x => show List.take _ _ = []; rw [show n.toNat = 0 by omega]; rfl
    rw [hR]
    clear hR hn
    go_enter Tryz.func53, Tryz.ntmps53
    go_wp2
    go_ret
    exact ⟨_, rfl, ⟨rfl, .inl ⟨rfl, rfl⟩⟩, Below.refl _ _⟩
  · have g0 : decide (n < 1) = false := by simpa using hn
    by_cases hse : s = []
    · subst hse
      obtain ⟨x, HX⟩ : ∃ x : Wd, Hid (x = []) := ⟨[], Lib.hid rfl⟩
      have HW : True := trivial
      have hR : termsQ D [] n = (termsD D x).take n.toNat := by unfold termsQ prefW; rw [HX.out]; rfl
      have hwl : ((vocab D).filter x.isPrefixOf).length ≤ 256000 := Nat.le_trans (List.length_filter_le _ _) hvl
      have hcwi : ∀ W (h : IdxAt S Q N W p D), Calls Tryz.prog 88 #[.pointer (some ⟨p, 0, none⟩), .string ⟨#[]⟩] W fun e w' => ∃ v, e = .returned v ∧ StrsAt w' v ((vocab D).filter x.isPrefixOf) ∧ (∀ ad n c, v = .slice (some ad) n c → S ad.block) ∧ Below W.heap.size W w' := fun W h => by
        rw [HX.out]; exact with_any W h []
      have hmemV : ∀ z ∈ (vocab D).filter x.isPrefixOf, z ∈ vocab D := fun z hz => (List.mem_filter.1 hz).1
      have hTO := fun l => terms_of (D := D) (p := x) (l := l)
      rw [hR]
      obtain ⟨ws, hws⟩ : ∃ ws, (vocab D).filter x.isPrefixOf = ws := ⟨_, rfl⟩
      rw [hws] at hcwi hmemV hwl hTO
      obtain ⟨R, hRR⟩ : ∃ R, termsD D x = R := ⟨_, rfl⟩
      rw [hRR] at hTO ⊢
      have HMV := Lib.hid hmemV; have HTO := Lib.hid hTO
      clear hR hws hmemV hTO hRR HW
      obtain ⟨i0, hi, hz0, hz1, hz2⟩ := info_parts infoTerm
      go_enter Tryz.func53, Tryz.ntmps53
      go_wp2_with fail
      refine (hcwi _ HI.out).mono ?_
      rintro e w3 ⟨v3, rfl, hst, hown, hb3⟩
      have HB3 := Lib.hid hb3
      have HOW := Lib.hid (fun ad n c e => HI.out.lt _ (hown ad n c e))
      obtain ⟨a3, c3, rfl, hle3, hm3, hc3⟩ := hst
      have HC3 := Lib.hid hc3
      clear hown hb3 hc3
      go_wp2
      go_loopw [9, 31] (fun u i wr => ∃ k : Nat, i = .int .i64 k ∧ k ≤ ws.length ∧ Hid (TermsR w.heap.size wr u (termsL D (ws.take k))) ∧ Hid (Below w.heap.size w wr)) (fun _ i _ => ws.length - (intOf i).toNat)
      case atStart => exact ⟨0, rfl, by omega, Lib.hid ⟨rfl, .inl ⟨rfl, rfl⟩⟩, HB3⟩
      case round =>
        obtain ⟨k, rfl, hk, HT, HB⟩ := hrel
        by_cases hkl : k < ws.length
        · have hki : (k : Int) < (ws.length : Int) := by omega
          have hIw := HI.out.below HB.out
          obtain ⟨b1, b2, v, tx, g, hp, hne, hTt, hF, hR⟩ := hIw.parts
          have hp1 : wr.cell? ⟨p, 1, none⟩ = some (.map (some b2)) := by rw [Lib.cell_of_heap hp]; rfl
          obtain ⟨d, hd, hyd⟩ := mem_vocab.1 (HMV.out ws[k] (List.getElem_mem hkl))
          have hyl : ws[k].length ≤ 30 := (hIw.oks d hd _ hyd).2.1
          have hget := hF.map.get strKeys (t := 97) Tryz.underlying97 (Tryz.zeroValue81 wr) (strKey (x := ws[k]) (by omega))
          obtain ⟨bi, hbi⟩ := Option.isSome_iff_exists.1 ((hF.some ws[k]).2 ⟨d.1, by
            unfold cntD docsF
            rw [(wordsAt_some hIw.asc).2 hd]
            exact List.count_pos_iff.2 hyd⟩)
          rw [hbi] at hget
          obtain ⟨i1, i2, i3, i4⟩ := hF.inner ws[k] bi hbi
          obtain ⟨q1, q2, q3⟩ := dn_ids hIw.asc ws[k]
          have hlen := i4.len int_same int_form intKeys (t := 81) Tryz.underlying81 q1 q2
          rw [q3] at hlen
          have hdn := dn_le HIA.out HII.out ws[k]
          obtain ⟨b0, off0, ha0, ck0⟩ := HC3.out k hkl
          have hb0 := HOW.out ⟨b0, off0, none⟩ _ _ (by rw [ha0])
          subst ha0
          have ck : wr.cell? ⟨b0, off0 + k, none⟩ = some (.string ⟨(ws[k]).toArray⟩) := by
            rw [HB.out.cell (p := ⟨b0, off0 + k, none⟩) hb0, ← HB3.out.cell (p := ⟨b0, off0 + k, none⟩) hb0]
            exact ck0
          have HSUC : Hid (termsL D (ws.take k) ++ [(ws[k], dn D ws[k])] = termsL D (ws.take (k + 1))) := Lib.hid (by
            unfold termsL
            rw [List.take_succ_eq_append_getElem hkl, List.map_append]; rfl)
          have hll : (termsL D (ws.take k)).length = k := by rw [termsL_len, List.length_take]; omega
          obtain ⟨y, hy⟩ : ∃ y, ws[k] = y := ⟨_, rfl⟩
          rw [hy] at hget ck hyl hlen HSUC hdn
          obtain ⟨L, hL⟩ : ∃ L, termsL D (ws.take k) = L := ⟨_, rfl⟩
          have HT' : wr.ownsRow w.heap.size 92 2 u9 L.length (L.flatMap termC) := by rw [← hL]; exact HT.out
          rw [hL] at HSUC hll
          obtain ⟨m, hm⟩ : ∃ m, dn D y = m := ⟨_, rfl⟩
          rw [hm] at hlen HSUC hdn
          have HLL := Lib.hid hll
          have hLb : L.length ≤ 256000 := by omega
          clear hp hTt hF hR hd hyd hbi hy ck0 hIw d q1 q2 q3 i4 hL hm HT hll
          have hbs := HB.out.size
          go_wp2_with (at_builtin; refine wpList_append_own _ rfl _ _ 89 rfl w.heap.size 92 i0 _ 2 24 Tryz.underlying89 hi hz0 hz1 hz2 rfl (by decide) _ _ _ rfl (HT'.alloc _) ⟨wr.heap.size, 0, none⟩ 1 1 [.string ⟨y.toArray⟩, .int .i64 m] rfl rfl (World.news_of_block (cs := #[.string ⟨y.toArray⟩, .int .i64 m]) (t := 92) (fr := (0, 0)) (heap_alloc_new wr _)) (by simp [Value.oneCell']) ?c3 ?c4 ?c5 ?_)
          case c3 => unfold maxLen; omega
          case c4 => omega
          case c5 => omega
          intro v' w5 hown' hgrow _
          have HT5 : Hid (TermsR w.heap.size w5 v' (termsL D (ws.take (k + 1)))) := Lib.hid (by
            rw [← HSUC.out]
            unfold TermsR
            simpa [List.flatMap_append, termC] using hown')
          have HB5 : Hid (Below w.heap.size w w5) := Lib.hid ((HB.out.alloc hbs _).grown hgrow (by simp; omega) (fun j e => (HT'.lt j e).1))
          clear hown' hgrow
          go_wp2
          go_roundw
          case rel => exact ⟨k + 1, by go_num, by omega, HT5, HB5⟩
          case measure => simp [intOf]; omega
        · obtain rfl : k = ws.length := by omega
          have hT9 := HT.out
          rw [List.take_length] at hT9
          have hco := fun W (h : TermsR w.heap.size W u9 (termsL D ws)) => ordered_terms (termsL D ws) u9 w.heap.size W h (by rw [termsL_len]; omega)
          go_wp2_with fail
          refine (hco _ hT9).mono ?_
          rintro e w9 ⟨rfl, l', hpm, hsr, ho9, hb9⟩
          have hl9 := HTO.out l' hpm hsr
          subst hl9
          have HB9 := Lib.hid (HB.out.trans hb9)
          obtain ⟨a9, c9, hv9⟩ : ∃ a c, u9 = .slice a l'.length c := by
            rcases ho9.2 with ⟨e1, e2⟩ | ⟨g, cap, cur, e1, _⟩
            · exact ⟨none, 0, by rw [e1, e2]⟩
            · exact ⟨_, _, e1⟩
          subst hv9
          have hcap9 : l'.length ≤ c9 := by
            rcases ho9.2 with ⟨e1, e2⟩ | ⟨g, cap, cur, e1, _, _, e3, _⟩
            · omega
            · injection e1 with _ _ e4; omega
          have HO9 := Lib.hid ho9
          clear hpm hsr ho9 hb9 hco hT9 HT
          by_cases hnl : (l'.length : Int) < n
          · have hrun := fun W => run_upto_t (a := a9) (n := l'.length) hcap9 W
            have HR9 : Hid ((l'.take n.toNat) = l') := Lib.hid (List.take_of_length_le (by omega))
            go_wp2
            go_ret
            rw [HR9.out]
            refine ⟨_, rfl, ?_, HB9.out⟩
            show TermsR w.heap.size w9 (.slice a9 (min n (l'.length : Int)).toNat c9) l'
            rw [show (min n (l'.length : Int)).toNat = l'.length by omega]
            exact HO9.out
          · obtain ⟨nn, rfl⟩ : ∃ nn : Nat, n = nn := ⟨n.toNat, by omega⟩
            have hnn : nn ≤ l'.length := by omega
            have hrun := fun W => run_upto_t (a := a9) (n := l'.length) (k := nn) (by omega) W
            go_wp2
            go_ret
            refine ⟨_, rfl, ?_, HB9.out⟩
            have := row_cut HO9.out hnn
            rw [flatMap_take termC 2 (fun _ => rfl)] at this
            show TermsR w.heap.size w9 (.slice a9 (min (nn : Int) (l'.length : Int)).toNat c9) (l'.take ((nn : Nat) : Int).toNat)
            rw [show (min (nn : Int) (l'.length : Int)).toNat = nn by omega, show (((nn : Nat) : Int)).toNat = nn by omega]
            unfold TermsR
            rw [List.length_take, Nat.min_eq_left hnn]
            exact this
    · have gs : (!s.isEmpty) = true := by simpa using hse
      cases hw : wordOf s with
      | none =>
        have hR : termsQ D s n = [] := by unfold termsQ prefW; rw [if_neg hse, hw]
        rw [hR]
        rw [hw] at hcw
        clear hR hw
        go_enter Tryz.func53, Tryz.ntmps53
        go_wp2_with (go_at_call 63; refine (hcw _).mono ?_; rintro e w1 ⟨rfl, hb1⟩)
        go_ret
        exact ⟨_, rfl, ⟨rfl, .inl ⟨rfl, rfl⟩⟩, hb1⟩
      | some x =>
        have HW := Lib.hid hw
        rw [hw] at hcw
        have hxl := wordOf_len hw
        simp only [Option.getD_some, Option.isSome_some] at hcw
        clear hw
        have hR : termsQ D s n = (termsD D x).take n.toNat := by unfold termsQ prefW; rw [if_neg hse, HW.out]
        have hwl : ((vocab D).filter x.isPrefixOf).length ≤ 256000 := Nat.le_trans (List.length_filter_le _ _) hvl
        have hcwi := fun W (h : IdxAt S Q N W p D) => with_any W h x
        have hmemV : ∀ z ∈ (vocab D).filter x.isPrefixOf, z ∈ vocab D := fun z hz => (List.mem_filter.1 hz).1
        have hTO := fun l => terms_of (D := D) (p := x) (l := l)
        rw [hR]
        obtain ⟨ws, hws⟩ : ∃ ws, (vocab D).filter x.isPrefixOf = ws := ⟨_, rfl⟩
        rw [hws] at hcwi hmemV hwl hTO
        obtain ⟨R, hRR⟩ : ∃ R, termsD D x = R := ⟨_, rfl⟩
        rw [hRR] at hTO ⊢
        have HMV := Lib.hid hmemV; have HTO := Lib.hid hTO
        clear hR hws hmemV hTO hRR HW
        obtain ⟨i0, hi, hz0, hz1, hz2⟩ := info_parts infoTerm
        go_enter Tryz.func53, Tryz.ntmps53
        go_wp2_with fail
        refine (hcw _).mono ?_
        rintro e w1 ⟨rfl, hb1⟩
        go_wp2_with fail
        refine (hcwi _ (HI.out.below hb1)).mono ?_
        rintro e w3 ⟨v3, rfl, hst, hown, hb3⟩
        have HB3 := Lib.hid (bthen hb1 hb3)
        have HOW := Lib.hid (fun ad n c e => HI.out.lt _ (hown ad n c e))
        obtain ⟨a3, c3, rfl, hle3, hm3, hc3⟩ := hst
        have HC3 := Lib.hid hc3
        clear hown hb3 hc3
        go_wp2
        go_loopw [9, 31] (fun u i wr => ∃ k : Nat, i = .int .i64 k ∧ k ≤ ws.length ∧ Hid (TermsR w.heap.size wr u (termsL D (ws.take k))) ∧ Hid (Below w.heap.size w wr)) (fun _ i _ => ws.length - (intOf i).toNat)
        case atStart => exact ⟨0, rfl, by omega, Lib.hid ⟨rfl, .inl ⟨rfl, rfl⟩⟩, HB3⟩
        case round =>
          obtain ⟨k, rfl, hk, HT, HB⟩ := hrel
          by_cases hkl : k < ws.length
          · have hki : (k : Int) < (ws.length : Int) := by omega
            have hIw := HI.out.below HB.out
            obtain ⟨b1, b2, v, tx, g, hp, hne, hTt, hF, hR⟩ := hIw.parts
            have hp1 : wr.cell? ⟨p, 1, none⟩ = some (.map (some b2)) := by rw [Lib.cell_of_heap hp]; rfl
            obtain ⟨d, hd, hyd⟩ := mem_vocab.1 (HMV.out ws[k] (List.getElem_mem hkl))
            have hyl : ws[k].length ≤ 30 := (hIw.oks d hd _ hyd).2.1
            have hget := hF.map.get strKeys (t := 97) Tryz.underlying97 (Tryz.zeroValue81 wr) (strKey (x := ws[k]) (by omega))
            obtain ⟨bi, hbi⟩ := Option.isSome_iff_exists.1 ((hF.some ws[k]).2 ⟨d.1, by
              unfold cntD docsF
              rw [(wordsAt_some hIw.asc).2 hd]
              exact List.count_pos_iff.2 hyd⟩)
            rw [hbi] at hget
            obtain ⟨i1, i2, i3, i4⟩ := hF.inner ws[k] bi hbi
            obtain ⟨q1, q2, q3⟩ := dn_ids hIw.asc ws[k]
            have hlen := i4.len int_same int_form intKeys (t := 81) Tryz.underlying81 q1 q2
            rw [q3] at hlen
            have hdn := dn_le HIA.out HII.out ws[k]
            obtain ⟨b0, off0, ha0, ck0⟩ := HC3.out k hkl
            have hb0 := HOW.out ⟨b0, off0, none⟩ _ _ (by rw [ha0])
            subst ha0
            have ck : wr.cell? ⟨b0, off0 + k, none⟩ = some (.string ⟨(ws[k]).toArray⟩) := by
              rw [HB.out.cell (p := ⟨b0, off0 + k, none⟩) hb0, ← HB3.out.cell (p := ⟨b0, off0 + k, none⟩) hb0]
              exact ck0
            have HSUC : Hid (termsL D (ws.take k) ++ [(ws[k], dn D ws[k])] = termsL D (ws.take (k + 1))) := Lib.hid (by
              unfold termsL
              rw [List.take_succ_eq_append_getElem hkl, List.map_append]; rfl)
            have hll : (termsL D (ws.take k)).length = k := by rw [termsL_len, List.length_take]; omega
            obtain ⟨y, hy⟩ : ∃ y, ws[k] = y := ⟨_, rfl⟩
            rw [hy] at hget ck hyl hlen HSUC hdn
            obtain ⟨L, hL⟩ : ∃ L, termsL D (ws.take k) = L := ⟨_, rfl⟩
            have HT' : wr.ownsRow w.heap.size 92 2 u9 L.length (L.flatMap termC) := by rw [← hL]; exact HT.out
            rw [hL] at HSUC hll
            obtain ⟨m, hm⟩ : ∃ m, dn D y = m := ⟨_, rfl⟩
            rw [hm] at hlen HSUC hdn
            have HLL := Lib.hid hll
            have hLb : L.length ≤ 256000 := by omega
            clear hp hTt hF hR hd hyd hbi hy ck0 hIw d q1 q2 q3 i4 hL hm HT hll
            have hbs := HB.out.size
            go_wp2_with (at_builtin; refine wpList_append_own _ rfl _ _ 89 rfl w.heap.size 92 i0 _ 2 24 Tryz.underlying89 hi hz0 hz1 hz2 rfl (by decide) _ _ _ rfl (HT'.alloc _) ⟨wr.heap.size, 0, none⟩ 1 1 [.string ⟨y.toArray⟩, .int .i64 m] rfl rfl (World.news_of_block (cs := #[.string ⟨y.toArray⟩, .int .i64 m]) (t := 92) (fr := (0, 0)) (heap_alloc_new wr _)) (by simp [Value.oneCell']) ?c3 ?c4 ?c5 ?_)
            case c3 => unfold maxLen; omega
            case c4 => omega
            case c5 => omega
            intro v' w5 hown' hgrow _
            have HT5 : Hid (TermsR w.heap.size w5 v' (termsL D (ws.take (k + 1)))) := Lib.hid (by
              rw [← HSUC.out]
              unfold TermsR
              simpa [List.flatMap_append, termC] using hown')
            have HB5 : Hid (Below w.heap.size w w5) := Lib.hid ((HB.out.alloc hbs _).grown hgrow (by simp; omega) (fun j e => (HT'.lt j e).1))
            clear hown' hgrow
            go_wp2
            go_roundw
            case rel => exact ⟨k + 1, by go_num, by omega, HT5, HB5⟩
            case measure => simp [intOf]; omega
          · obtain rfl : k = ws.length := by omega
            have hT9 := HT.out
            rw [List.take_length] at hT9
            have hco := fun W (h : TermsR w.heap.size W u9 (termsL D ws)) => ordered_terms (termsL D ws) u9 w.heap.size W h (by rw [termsL_len]; omega)
            go_wp2_with fail
            refine (hco _ hT9).mono ?_
            rintro e w9 ⟨rfl, l', hpm, hsr, ho9, hb9⟩
            have hl9 := HTO.out l' hpm hsr
            subst hl9
            have HB9 := Lib.hid (HB.out.trans hb9)
            obtain ⟨a9, c9, hv9⟩ : ∃ a c, u9 = .slice a l'.length c := by
              rcases ho9.2 with ⟨e1, e2⟩ | ⟨g, cap, cur, e1, _⟩
              · exact ⟨none, 0, by rw [e1, e2]⟩
              · exact ⟨_, _, e1⟩
            subst hv9
            have hcap9 : l'.length ≤ c9 := by
              rcases ho9.2 with ⟨e1, e2⟩ | ⟨g, cap, cur, e1, _, _, e3, _⟩
              · omega
              · injection e1 with _ _ e4; omega
            have HO9 := Lib.hid ho9
            clear hpm hsr ho9 hb9 hco hT9 HT
            by_cases hnl : (l'.length : Int) < n
            · have hrun := fun W => run_upto_t (a := a9) (n := l'.length) hcap9 W
              have HR9 : Hid ((l'.take n.toNat) = l') := Lib.hid (List.take_of_length_le (by omega))
              go_wp2
              go_ret
              rw [HR9.out]
              refine ⟨_, rfl, ?_, HB9.out⟩
              show TermsR w.heap.size w9 (.slice a9 (min n (l'.length : Int)).toNat c9) l'
              rw [show (min n (l'.length : Int)).toNat = l'.length by omega]
              exact HO9.out
            · obtain ⟨nn, rfl⟩ : ∃ nn : Nat, n = nn := ⟨n.toNat, by omega⟩
              have hnn : nn ≤ l'.length := by omega
              have hrun := fun W => run_upto_t (a := a9) (n := l'.length) (k := nn) (by omega) W
              go_wp2
              go_ret
              refine ⟨_, rfl, ?_, HB9.out⟩
              have := row_cut HO9.out hnn
              rw [flatMap_take termC 2 (fun _ => rfl)] at this
              show TermsR w.heap.size w9 (.slice a9 (min (nn : Int) (l'.length : Int)).toNat c9) (l'.take ((nn : Nat) : Int).toNat)
              rw [show (min (nn : Int) (l'.length : Int)).toNat = nn by omega, show (((nn : Nat) : Int)).toNat = nn by omega]
              unfold TermsR
              rw [List.length_take, Nat.min_eq_left hnn]
              exact this
end Go.Proofs.YtogjgibaolppfaaGreatDoor

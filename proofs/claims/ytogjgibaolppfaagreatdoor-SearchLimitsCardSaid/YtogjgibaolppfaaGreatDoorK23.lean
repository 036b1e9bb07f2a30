/- Facts and contracts for the laws of the sender, part 23. Conditions: those that each theorem names. -/
import Derived.Test.YtogjgibaolppfaaGreatDoorK08
import Derived.Test.YtogjgibaolppfaaGreatDoorK03
import Derived.Test.YtogjgibaolppfaaGreatDoorK18
import Derived.Test.YtogjgibaolppfaaGreatDoorK22
import Derived.Test.YtogjgibaolppfaaGreatDoorK10
/- search: the order of Run's hits. -/
namespace Go.Proofs.YtogjgibaolppfaaGreatDoor
open Go.RowKit Go.Sort Go.Proofs Go.Shelf Go.Lib Go.Maps

/-- the comparison of Run's hits, as a number -/
def cmpH (x y : Int × Nat) : Int := orI (Lib.compareInt y.2 x.2) (Lib.compareInt x.1 y.1)
set_option maxRecDepth 100000 in
set_option maxHeartbeats 1000000 in
theorem run2_cmp (x y : Int × Nat) (W : World) : Calls Tryz.prog 48 #[.agg #[.int .i64 x.1, .int .i64 x.2], .agg #[.int .i64 y.1, .int .i64 y.2]] W fun e w' => e = .returned (.int .i64 (cmpH x y)) ∧ ∃ q os', w' = grow (W.drewN q) os' := by
  obtain ⟨c1, h1⟩ : ∃ c, Lib.compareInt y.2 x.2 = c := ⟨_, rfl⟩
  obtain ⟨c2, h2⟩ : ∃ c, Lib.compareInt x.1 y.1 = c := ⟨_, rfl⟩
  have k1 := fun W' => cmp_int y.2 x.2 W'
  have k2 := fun W' => cmp_int x.1 y.1 W'
  rw [h1] at k1
  rw [h2] at k2
  have hR : cmpH x y = orI c1 c2 := by rw [← h1, ← h2]; rfl
  rw [hR]
  clear h1 h2 hR
  obtain ⟨xa, xb⟩ := x
  obtain ⟨ya, yb⟩ := y
  simp only at k1 k2 ⊢
  obtain ⟨xc, hxc⟩ : ∃ z : Int, (xb : Int) = z := ⟨_, rfl⟩
  obtain ⟨yc, hyc⟩ : ∃ z : Int, (yb : Int) = z := ⟨_, rfl⟩
  rw [hxc, hyc] at k1 ⊢
  clear hxc hyc
  have x0 : ((W.alloc (.cells #[.int .i64 xa, .int .i64 xc] 64)).alloc (.cells #[.int .i64 ya, .int .i64 yc] 64)).cell? ⟨W.heap.size, 0, none⟩ = some (.int .i64 xa) := Lib.cell?_alloc_some _ (by simp)
  have x1 : ((W.alloc (.cells #[.int .i64 xa, .int .i64 xc] 64)).alloc (.cells #[.int .i64 ya, .int .i64 yc] 64)).cell? ⟨W.heap.size, 1, none⟩ = some (.int .i64 xc) := Lib.cell?_alloc_some _ (by simp)
  have y0 : ((W.alloc (.cells #[.int .i64 xa, .int .i64 xc] 64)).alloc (.cells #[.int .i64 ya, .int .i64 yc] 64)).cell? ⟨W.heap.size + 1, 0, none⟩ = some (.int .i64 ya) := by simp
  have y1 : ((W.alloc (.cells #[.int .i64 xa, .int .i64 xc] 64)).alloc (.cells #[.int .i64 ya, .int .i64 yc] 64)).cell? ⟨W.heap.size + 1, 1, none⟩ = some (.int .i64 yc) := by simp
  have hg : (W.alloc (.cells #[.int .i64 xa, .int .i64 xc] 64)).alloc (.cells #[.int .i64 ya, .int .i64 yc] 64) = grow W #[.cells #[.int .i64 xa, .int .i64 xc] 64, .cells #[.int .i64 ya, .int .i64 yc] 64] := by rw [alloc_eq_grow, alloc_eq_grow, grow_grow]; rfl
  have hs : ((W.alloc (.cells #[.int .i64 xa, .int .i64 xc] 64)).alloc (.cells #[.int .i64 ya, .int .i64 yc] 64)).heap.size = W.heap.size + 2 := by simp
  have HG := Lib.hid hg; clear hg
  go_enter Tryz.func48, Tryz.ntmps48
  go_upto_region 1 with fail
  generalize (W.alloc (.cells #[.int .i64 xa, .int .i64 xc] 64)).alloc (.cells #[.int .i64 ya, .int .i64 yc] 64) = W2 at *
  have f0 : (W2.alloc (.cells #[.int .i64 c1, .int .i64 c2] 3)).drew.cell? ⟨W.heap.size + 2, 0, none⟩ = some (.int .i64 c1) := by rw [← hs]; simp
  have f1 : (W2.alloc (.cells #[.int .i64 c1, .int .i64 c2] 3)).drew.cell? ⟨W.heap.size + 2, 1, none⟩ = some (.int .i64 c2) := by rw [← hs]; simp
  go_region_held3 (fun w' => w'.cell? ⟨W.heap.size, 0, none⟩ = some (.int .i64 xa) ∧ w'.cell? ⟨W.heap.size, 1, none⟩ = some (.int .i64 xc) ∧ w'.cell? ⟨W.heap.size + 1, 0, none⟩ = some (.int .i64 ya) ∧ w'.cell? ⟨W.heap.size + 1, 1, none⟩ = some (.int .i64 yc)) (first | assumption | go_keep) (first | (go_at_call 50; first | ((with_reducible (refine (k1 _).mono ?_)); rintro e w' ⟨rfl, rfl⟩) | ((with_reducible (refine (k2 _).mono ?_)); rintro e w' ⟨rfl, rfl⟩)) | (go_at_call 49; (with_reducible (refine (or_int (W.heap.size + 2) c1 c2 _ f0 f1).mono ?_)); rintro e w' ⟨rfl, rfl⟩) | fail)
  go_wp2
  go_ret
  exact ⟨rfl, 1, _, by rw [HG.out, alloc_eq_grow]; show grow (grow (W.drewN 1) _) _ = _; rw [grow_grow]⟩
theorem ltH2 (x y : Int × Nat) : ltOf cmpH x y = decide (HLt x y) := by
  unfold ltOf cmpH orI Lib.compareInt HLt
  by_cases h1 : y.2 < x.2
  · simp [h1]
  · by_cases h2 : x.2 < y.2
    · simp [h1, h2]; omega
    · have h3 : x.2 = y.2 := by omega
      simp only [h3, Int.lt_irrefl, gt_iff_lt, ↓reduceIte, Nat.lt_irrefl, true_and, false_or]
      by_cases h4 : x.1 < y.1
      · simp [h4]
      · by_cases h5 : y.1 < x.1 <;> simp [h4, h5]
theorem swoH2 : SWO (ltOf cmpH) where
  irrefl x := by rw [ltH2]; simpa using hlt_irrefl x
  trans x y z h1 h2 := by rw [ltH2] at *; simp only [decide_eq_true_eq] at *; exact hlt_trans _ _ _ h1 h2
  ntrans x y z h1 h2 := by
    rw [ltH2] at *
    simp only [decide_eq_false_iff_not] at *
    exact hle_trans _ _ _ h2 h1
theorem sort_run (l : List (Int × Nat)) (v : Value) (base : Nat) (w : World) (ho : w.ownsRow base 64 2 v l.length (l.flatMap hitC)) (hlen : l.length ≤ 1000000) :
    Calls Tryz.prog 47 #[v, .func (.func 48) #[] #[]] w fun e w' => e = .returned (.tuple #[]) ∧ ∃ l' : List (Int × Nat), l'.Perm l ∧ l'.Pairwise (fun a b => ¬ HLt b a) ∧ w'.ownsRow base 64 2 v l'.length (l'.flatMap hitC) ∧ Below base w w' := by
  have eg : ∀ args w, (callFunc 48 args).run Tryz.prog w = .ok (.enter 48 args) w := enters_of Tryz.func48 (by kernel_rfl) rfl
  by_cases hl : l = []
  · subst hl
    obtain ⟨p, cap, rfl⟩ : ∃ p cap, v = .slice p 0 cap := by
      rcases ho.2 with ⟨rfl, _⟩ | ⟨g, cap, cur, rfl, _⟩
      · exact ⟨_, _, rfl⟩
      · exact ⟨_, _, rfl⟩
    have hcon := AnyF.slices_SortFunc_none (P := Tryz.prog) { Tryz.sortH with } p cap (.func (.func 48) #[] #[]) w
    change Calls Tryz.prog 47 _ _ _ at hcon
    refine hcon.mono ?_
    rintro e w' ⟨rfl, rfl⟩
    exact ⟨rfl, [], .nil, .nil, ho, Below.refl _ _⟩
  · have hv : v ≠ .slice none 0 0 := by
      rintro rfl
      rcases ho.2 with ⟨_, h0⟩ | ⟨g, cap, cur, e, _⟩
      · exact hl (List.length_eq_zero_iff.1 h0)
      · cases e
    obtain ⟨g, cap, rfl, hb, hlt, hn, hH⟩ := raw_of_ownsRow ho hv
    have hH' : HoldsK hitC 2 w g 0 l.toArray := by unfold HoldsK; rw [flatK_flatMap hitC 2 (by decide) (fun _ => rfl)]; exact hH
    have hcon := AnyQ.slices_SortFunc Tryz.sortH 2 Tryz.isAgg64 Tryz.sizeOf64 hitC (fun _ => rfl) (fun x v hv => by simp [hitC] at hv; rcases hv with rfl | rfl <;> rfl) cmpH swoH2 48 #[] g 0 cap l.toArray w eg (fun _ _ _ _ x y => run2_cmp x y _) hH' hlt (by simp; omega)
    change Calls Tryz.prog 47 _ _ _ at hcon
    refine hcon.mono ?_
    rintro e w' ⟨rfl, d', n, os, hp, hs, rfl⟩
    obtain ⟨h1, h2, h3⟩ := sorted_list hp hs
    have hd : d' = d'.toList.toArray := by simp
    refine ⟨rfl, d'.toList, by simpa using h1, h2.imp fun h => by rw [ltH2] at h; simpa using h, ?_, below_put hb hlt⟩
    unfold sortWorldK putRowK
    rw [hd, flatK_flatMap hitC 2 (by decide) (fun _ => rfl)]
    have := ownsRow_put (q := n) (os := os) (ys := d'.toList.flatMap hitC) ho (by
      have e1 : ∀ L : List (Int × Nat), (L.flatMap hitC).length = L.length * 2 := fun L => by induction L with | nil => rfl | cons x L ih => rw [List.flatMap_cons, List.length_append, ih]; simp [hitC]; omega
      rw [e1]; simp [h3])
    have hlen9 : d'.toList.length = l.length := by simpa using h1.length_eq
    rw [hlen9]
    simpa using this
end Go.Proofs.YtogjgibaolppfaaGreatDoor
/- The calls at a nil index. -/
namespace Go.Proofs.YtogjgibaolppfaaGreatDoor
open Go.RowKit Go.Sort Go.Proofs Go.Maps

theorem nil_remove (id : Int) (w : World) : Calls Tryz.prog 57 #[.pointer none, .int .i64 id] w fun e w' => e = .returned (.tuple #[]) ∧ Below w.heap.size w w' := by
  go_enter Tryz.func57, Tryz.ntmps57
  go_wp2
  (try simp only [Exit.inBlock, Exit.then]); refine bodyPost_ret (results_none rfl _ _ _) rfl ?_
  exact ⟨rfl, (Below.refl _ w).alloc (Nat.le_refl _) _⟩
set_option maxRecDepth 100000 in
theorem nil_put (id : Int) (s : List UInt8) (w : World) : Calls Tryz.prog 34 #[.pointer none, .int .i64 id, .string ⟨s.toArray⟩] w fun e w' => e = .returned (.int .i64 1) ∧ w' = w := by
  go_enter Tryz.func34, Tryz.ntmps34
  go_wp2
  go_ret
  exact ⟨rfl, rfl⟩
set_option maxRecDepth 100000 in
theorem nil_docs (s : List UInt8) (hs : s.length ≤ 1000000) (w : World) : Calls Tryz.prog 37 #[.pointer none, .string ⟨s.toArray⟩] w fun e w' => e = .returned (.slice none 0 0) ∧ Below w.heap.size w w' := by
  have hcw := fun W => word_any s (by omega) W
  generalize (wordOf s).getD [] = x at hcw
  generalize (wordOf s).isSome = b at hcw
  go_enter Tryz.func37, Tryz.ntmps37
  go_wp2_with (go_at_call 63; refine (hcw _).mono ?_; rintro e w1 ⟨rfl, hb1⟩)
  go_ret
  exact ⟨rfl, hb1⟩
set_option maxRecDepth 100000 in
theorem nil_prefix (s : List UInt8) (hs : s.length ≤ 1000000) (w : World) : Calls Tryz.prog 79 #[.pointer none, .string ⟨s.toArray⟩] w fun e w' => e = .returned (.slice none 0 0) ∧ Below w.heap.size w w' := by
  have hcw := fun W => word_any s (by omega) W
  generalize (wordOf s).getD [] = x at hcw
  generalize (wordOf s).isSome = b at hcw
  go_enter Tryz.func79, Tryz.ntmps79
  go_wp2_with (go_at_call 63; refine (hcw _).mono ?_; rintro e w1 ⟨rfl, hb1⟩)
  go_ret
  exact ⟨rfl, hb1⟩
set_option maxRecDepth 100000 in
theorem nil_phrase (v : Value) (w : World) : Calls Tryz.prog 80 #[.pointer none, v] w fun e w' => e = .returned (.slice none 0 0) ∧ w' = w := by
  go_enter Tryz.func80, Tryz.ntmps80
  go_wp2
  go_ret
  exact ⟨rfl, rfl⟩
set_option maxRecDepth 100000 in
theorem nil_terms (s : List UInt8) (n : Int) (w : World) : Calls Tryz.prog 53 #[.pointer none, .string ⟨s.toArray⟩, .int .i64 n] w fun e w' => e = .returned (.slice none 0 0) ∧ w' = w := by
  go_enter Tryz.func53, Tryz.ntmps53
  go_wp2
  go_ret
  exact ⟨rfl, rfl⟩
theorem nil_all (w : World) : Calls Tryz.prog 43 #[.pointer none] w fun e w' => e = .returned (.slice none 0 0) ∧ w' = w := by
  go_enter Tryz.func43, Tryz.ntmps43
  go_wp2
  go_ret
  exact ⟨rfl, rfl⟩
end Go.Proofs.YtogjgibaolppfaaGreatDoor
/- The fixed example, in plain terms. -/
namespace Go.Proofs.YtogjgibaolppfaaGreatDoor

def wRain : Wd := [114, 97, 105, 110]
def wIn : Wd := [105, 110]
def wThe : Wd := [116, 104, 101]
def wCity : Wd := [99, 105, 116, 121]
def wCouncil : Wd := [99, 111, 117, 110, 99, 105, 108]
def saneOps : List Op3 := [(1, 2, [82, 97, 105, 110, 32, 105, 110, 32, 116, 104, 101, 32, 99, 105, 116, 121, 46, 32, 82, 97, 105, 110, 33]), (1, 1, [84, 104, 101, 32, 99, 105, 116, 121, 32, 99, 111, 117, 110, 99, 105, 108]), (1, 9, [120]), (0, 9, [])]
def saneD : List Dc := [(1, [wThe, wCity, wCouncil]), (2, [wRain, wIn, wThe, wCity, wRain])]
set_option maxRecDepth 100000 in
theorem sane_run : runD saneOps = saneD := by decide +kernel
set_option maxRecDepth 100000 in
theorem sane_docs : docsQ saneD [82, 65, 73, 78] = [(2, 2)] := by decide +kernel
set_option maxRecDepth 100000 in
theorem sane_phrase : phraseQ saneD [wThe, wCity] = [(1, 1), (2, 1)] := by decide +kernel
set_option maxRecDepth 100000 in
theorem sane_pref : prefQ saneD [99] = [(1, 2), (2, 1)] := by decide +kernel
def saneT : List (Wd × Nat) := [(wCity, 2), (wThe, 2), (wCouncil, 1), (wIn, 1), (wRain, 1)]
theorem sane_dn : dn saneD wCity = 2 ∧ dn saneD wThe = 2 ∧ dn saneD wCouncil = 1 ∧ dn saneD wIn = 1 ∧ dn saneD wRain = 1 := by decide +kernel
theorem sane_asc : TAsc saneT := by unfold TAsc; decide +kernel
theorem sane_all : termsD saneD [] = saneT := by
  obtain ⟨d1, d2, d3, d4, d5⟩ := sane_dn
  refine terms_unique (termsD_asc _ _) sane_asc fun x => ?_
  rw [mem_termsD, mem_vocab]
  obtain ⟨x1, x2⟩ := x
  simp only [saneD, List.mem_cons, List.not_mem_nil, or_false, exists_eq_or_imp, exists_eq_left, saneT, Prod.mk.injEq]
  constructor
  · rintro ⟨(h | h | h) | (h | h | h | h | h), -, h2⟩ <;> subst h <;> first | (have := h2.trans d1; simp_all) | (have := h2.trans d2; simp_all) | (have := h2.trans d3; simp_all) | (have := h2.trans d4; simp_all) | (have := h2.trans d5; simp_all)
  · rintro (⟨rfl, rfl⟩ | ⟨rfl, rfl⟩ | ⟨rfl, rfl⟩ | ⟨rfl, rfl⟩ | ⟨rfl, rfl⟩)
    · exact ⟨.inl (.inr (.inl rfl)), rfl, d1.symm⟩
    · exact ⟨.inl (.inl rfl), rfl, d2.symm⟩
    · exact ⟨.inl (.inr (.inr rfl)), rfl, d3.symm⟩
    · exact ⟨.inr (.inr (.inl rfl)), rfl, d4.symm⟩
    · exact ⟨.inr (.inl rfl), rfl, d5.symm⟩
theorem sane_terms : termsQ saneD [] 2 = [(wCity, 2), (wThe, 2)] := by
  have : termsQ saneD [] 2 = (termsD saneD []).take 2 := rfl
  rw [this, sane_all]; rfl
end Go.Proofs.YtogjgibaolppfaaGreatDoor
/- sane. -/
namespace Go.Proofs.YtogjgibaolppfaaGreatDoor
open Go.RowKit Go.Sort Go.Proofs Go.Maps

theorem pair_at {base : Nat} {W : World} {v : Value} {e : TypeId} {α : Type} {enc : α → List Value} (hk : ∀ x, (enc x).length = 2) {l : List α} (h : W.ownsRow base e 2 v l.length (l.flatMap enc)) : ∃ a c, v = .slice a l.length c ∧ l.length ≤ c ∧ c ≤ 9223372036854775807 ∧ ∀ k (h : k < l.length), ∃ b off, a = some ⟨b, off, none⟩ ∧ ∀ i, i < 2 → W.cell? ⟨b, off + (k * 2 + i), none⟩ = (enc l[k])[i]? := by
  rcases h.2 with ⟨rfl, h0⟩ | ⟨g, cap, cur, rfl, _, hg, hc, hm, _⟩
  · exact ⟨none, 0, by rw [h0], by omega, by omega, fun j hj => by omega⟩
  · refine ⟨some ⟨g, 0, none⟩, cap, rfl, hc, by unfold maxLen at hm; exact hm, fun j hj => ⟨g, 0, rfl, fun i hi => ?_⟩⟩
    have hcells : ∀ i u, (l.flatMap enc)[i]? = some u → W.cell? ((⟨g, 0, none⟩ : Addr).add i) = some u := h.cells rfl
    have ha : ∀ i, (⟨g, 0, none⟩ : Addr).add i = ⟨g, 0 + i, none⟩ := fun i => by unfold Addr.add; by_cases h0 : i = 0 <;> simp [h0]
    rw [← ha]
    have hat : (l.flatMap enc)[j * 2 + i]? = (enc l[j])[i]? := by
      rw [flatMap_at enc 2 (by decide) hk, show (j * 2 + i) / 2 = j by omega, show (j * 2 + i) % 2 = i by omega, List.getElem?_eq_getElem hj]; rfl
    rw [← hat]
    have hlt : i < (enc l[j]).length := by rw [hk]; exact hi
    rw [hat, List.getElem?_eq_getElem hlt]
    exact hcells _ _ (by rw [hat, List.getElem?_eq_getElem hlt])
theorem HitsR.at {base : Nat} {W : World} {v : Value} {l : List (Int × Nat)} (h : HitsR base W v l) : HitsAt W v l := by
  obtain ⟨a, c, hv, hle, hm, hc⟩ := pair_at (enc := hitC) (fun _ => rfl) h
  exact ⟨a, c, hv, hle, hm, fun k hk => by
    obtain ⟨b, off, ha, hcc⟩ := hc k hk
    exact ⟨b, off, ha, hcc 0 (by decide), hcc 1 (by decide)⟩⟩
theorem TermsR.at {base : Nat} {W : World} {v : Value} {l : List (Wd × Nat)} (h : TermsR base W v l) : TermsAt W v l := by
  obtain ⟨a, c, hv, hle, hm, hc⟩ := pair_at (enc := termC) (fun _ => rfl) h
  exact ⟨a, c, hv, hle, hm, fun k hk => by
    obtain ⟨b, off, ha, hcc⟩ := hc k hk
    exact ⟨b, off, ha, hcc 0 (by decide), hcc 1 (by decide)⟩⟩
theorem IntsR.at {base : Nat} {W : World} {v : Value} {l : List Int} (h : IntsR base W v l) (hl : l.length ≤ 1099511627776) : IntsAt W v l := by
  have hcells : ∀ g, v.ownBlock = some g → ∀ j u, (l.map (Value.int .i64))[j]? = some u → W.cell? ((⟨g, 0, none⟩ : Addr).add j) = some u := fun g hg => World.ownsRow.cells h hg
  rcases h.2 with ⟨rfl, h0⟩ | ⟨g, cap, cur, rfl, _, _, hc, _⟩
  · exact ⟨none, 0, by rw [h0], by omega, hl, fun j hj => by omega⟩
  · refine ⟨some ⟨g, 0, none⟩, cap, rfl, hc, hl, fun j hj => ⟨g, 0, rfl, ?_⟩⟩
    have := hcells g rfl j (.int .i64 l[j]) (by rw [List.getElem?_map, List.getElem?_eq_getElem hj]; rfl)
    rw [Nat.zero_add]
    unfold Addr.add at this
    by_cases h0 : j = 0
    · subst h0; exact this
    · rw [if_neg h0, Nat.zero_add] at this; exact this

end Go.Proofs.YtogjgibaolppfaaGreatDoor
/- Plain: Run's counts. -/
namespace Go.Proofs.YtogjgibaolppfaaGreatDoor
open Go.Maps

theorem cL_le {p : Prt} (hp : okPrt p) (l : List Wd) : cL p l ≤ l.length := by
  unfold cL
  split
  · exact occ_le (List.length_pos_iff.1 hp.pos)
  · split
    · exact List.countP_le_length
    · exact List.count_le_length
theorem sumL_le : ∀ {ps : List Prt}, (∀ p ∈ ps, okPrt p) → ∀ l : List Wd, sumL ps l ≤ ps.length * l.length
  | [], _, l => by simp [sumL]
  | p :: ps, h, l => by
    have h1 := sumL_le (ps := ps) (fun q hq => h q (List.mem_cons_of_mem _ hq)) l
    have h2 := cL_le (h p (by simp)) l
    have e : sumL (p :: ps) l = (if p.neg = true then 0 else cL p l) + sumL ps l := by simp [sumL]
    rw [e, List.length_cons, Nat.succ_mul]
    split <;> omega
theorem cD_le {D : List Dc} (hA : Asc D) (hs : ∀ d ∈ D, d.2.length ≤ 1000) {p : Prt} (hp : okPrt p) (id : Int) : cD D p id ≤ 1000 := docsF_le hA hs (cL_le hp) id
theorem sumD_le {D : List Dc} (hA : Asc D) (hs : ∀ d ∈ D, d.2.length ≤ 1000) {ps : List Prt} (hp : ∀ p ∈ ps, okPrt p) (hl : ps.length ≤ 8) (id : Int) : sumD D ps id ≤ 8000 := by
  unfold sumD docsF
  cases hw : wordsAt D id with
  | none => simp
  | some l =>
    have h1 := hs _ ((wordsAt_some hA).1 hw)
    have h2 := sumL_le hp l
    simp only [Option.map_some, Option.getD_some] at h1 ⊢
    have h3 : ps.length * l.length ≤ 8 * 1000 := Nat.mul_le_mul hl h1
    omega
theorem cD_pos {D : List Dc} (hA : Asc D) (hI : Ids D) {p : Prt} {id : Int} (h : 0 < cD D p id) : 1 ≤ id ∧ id ≤ 256 := docsF_pos hA hI h
theorem hitsP_asc (D : List Dc) (p : Prt) : (hitsP D p).Pairwise fun a b => a.1 < b.1 := hitsF_asc _
theorem mem_hitsP {D : List Dc} {p : Prt} {x : Int × Nat} (h : x ∈ hitsP D p) : 1 ≤ x.1 ∧ x.1 ≤ 256 ∧ 0 < x.2 ∧ x.2 = cD D p x.1 := mem_hitsF.1 h
theorem hitsP_len (D : List Dc) (p : Prt) : (hitsP D p).length ≤ 256 := by
  have hn : ((hitsP D p).map Prod.fst).Pairwise (· < ·) := List.pairwise_map.2 (hitsP_asc D p)
  have h := nodup_len 256 ((hitsP D p).map Prod.fst) (hn.imp fun h => by omega) fun x hx => by
    obtain ⟨y, hy, rfl⟩ := List.mem_map.1 hx
    have := mem_hitsP hy
    omega
  simpa using h
/-- the counts of the first j hits -/
def cJ (D : List Dc) (p : Prt) (j : Nat) : Int → Nat := addD (fun _ => 0) (cD D p) (((hitsP D p).take j).map (·.1))
theorem cJ_zero (D : List Dc) (p : Prt) : cJ D p 0 = fun _ => 0 := by funext id; simp [cJ, addD]
theorem cJ_all {D : List Dc} (hA : Asc D) (hI : Ids D) (p : Prt) : cJ D p (hitsP D p).length = cD D p := by
  funext id
  unfold cJ addD
  rw [List.take_length]
  by_cases h : 0 < cD D p id
  · have hi := cD_pos hA hI h
    have hm : (id, cD D p id) ∈ hitsP D p := mem_hitsF.2 ⟨hi.1, hi.2, h, rfl⟩
    have hm2 : id ∈ (hitsP D p).map (fun x => x.1) := List.mem_map.2 ⟨_, hm, rfl⟩
    rw [if_pos hm2]; exact Nat.zero_add _
  · have : cD D p id = 0 := by omega
    rw [this]; simp
theorem cJ_put {D : List Dc} {p : Prt} {j : Nat} (hj : j < (hitsP D p).length) {x : Int × Nat} (hx : (hitsP D p)[j] = x) : (fun y => if y = x.1 then some (.int .i64 (x.2 : Int)) else cntM (cJ D p j) y) = cntM (cJ D p (j + 1)) := by
  subst hx
  have hm := mem_hitsP (List.getElem_mem hj)
  have hn : ((hitsP D p)[j]).1 ∉ ((hitsP D p).take j).map (·.1) := fun h => by
    obtain ⟨y, hy, he⟩ := List.mem_map.1 h
    obtain ⟨i, hi, hy⟩ := List.getElem_of_mem hy
    rw [List.length_take] at hi
    rw [List.getElem_take] at hy
    have := List.pairwise_iff_getElem.1 (hitsP_asc D p) i j (by omega) hj (by omega)
    rw [hy, he] at this
    omega
  have h := addD_put (base := fun _ => 0) (c := cD D p) (done := ((hitsP D p).take j).map (·.1)) hn (by rw [← hm.2.2.2]; exact hm.2.2.1)
  unfold cJ
  rw [List.take_succ_eq_append_getElem hj, List.map_append]
  simp only [List.map_cons, List.map_nil]
  rw [← h]
  funext y
  simp only [hm.2.2.2]
  simp
theorem ids_le {D : List Dc} (hA : Asc D) (hI : Ids D) (ps : List Prt) : (idsD D ps).length ≤ 256 := by
  unfold idsD
  rw [List.length_map]
  exact Nat.le_trans (List.length_filter_le _ _) (docs_le hA hI)
theorem mem_idsD {D : List Dc} (hI : Ids D) {ps : List Prt} {id : Int} (h : id ∈ idsD D ps) : 1 ≤ id ∧ id ≤ 256 := by
  unfold idsD at h
  obtain ⟨d, hd, rfl⟩ := List.mem_map.1 h
  exact hI d (List.mem_filter.1 hd).1
theorem found_le {D : List Dc} (hA : Asc D) (hI : Ids D) (ps : List Prt) : (foundD D ps).length ≤ 256 := by
  rw [← found_ids hA, List.length_map]
  exact ids_le hA hI ps
theorem sumD_cut {D : List Dc} {ps : List Prt} {k : Nat} (h : k < ps.length) (id : Int) : sumD D (ps.take (k + 1)) id = sumD D (ps.take k) id + if (ps[k]).neg = true then 0 else cD D ps[k] id := by
  rw [List.take_succ_eq_append_getElem h, sumD_snoc]
end Go.Proofs.YtogjgibaolppfaaGreatDoor
/- index.All: never nil. -/
namespace Go.Proofs.YtogjgibaolppfaaGreatDoor
open Go.RowKit Go.Sort Go.Proofs Go.Maps Go.ChangeMaps Go.WideMaps
set_option maxRecDepth 100000 in
set_option maxHeartbeats 2000000 in
theorem all2_any {S Q : Nat → Prop} {N : Nat} {p : Nat} {D : List Dc} (w : World) (h : IdxAt S Q N w p D) :
    Calls Tryz.prog 43 #[.pointer (some ⟨p, 0, none⟩)] w fun e w' => ∃ v, e = .returned v ∧ v ≠ .slice none 0 0 ∧ IntsR w.heap.size w' v (D.map (·.1)) ∧ Below w.heap.size w w' := by
  obtain ⟨i0, hi, hz0, hz1, hz2⟩ := info_parts infoInt
  obtain ⟨b1, b2, v, tx, g, hp, hne, hT, hF, hR⟩ := h.parts
  have hlt := h.lt p h.own
  have hlen := hT.map.len int_same int_form intKeys (t := 96) Tryz.underlying96 (ids_nodup h.asc) (hT.isSome h.asc)
  have hdl := docs_le h.asc h.ids
  have HT := Lib.hid (hT.isSome h.asc)
  have HA := Lib.hid (ids_asc h.asc)
  have HI := Lib.hid (show ∀ x ∈ D.map (·.1), 1 ≤ x ∧ x ≤ 256 from fun x hx => by
    obtain ⟨d, hd, rfl⟩ := List.mem_map.1 hx
    exact h.ids d hd)
  have hp0 : w.cell? ⟨p, 0, none⟩ = some (.map (some b1)) := by rw [Lib.cell_of_heap hp]; rfl
  obtain ⟨M, hD, hf⟩ := hT.map
  rw [List.length_map] at hlen
  obtain ⟨ids, hids⟩ : ∃ ids, D.map (·.1) = ids := ⟨_, rfl⟩
  obtain ⟨n, hn⟩ : ∃ n, D.length = n := ⟨_, rfl⟩
  have hil : ids.length = n := by rw [← hids, ← hn]; simp
  rw [hids] at HT HA HI ⊢
  rw [hn] at hlen hdl
  have HF := Lib.hid hf; have HIL := Lib.hid hil
  clear hp hT hF hR h hids hn hil hf
  go_enter Tryz.func43, Tryz.ntmps43
  go_wp2_with (at_make; refine wpList_make_own _ rfl _ _ 22 rfl w.heap.size 3 i0 _ 1 Tryz.underlying22 hi hz0 hz1 .i64 .i64 _ n rfl rfl rfl ?b2 ?b3 ?b4 ?_)
  case b2 => rw [hz2]; omega
  case b3 => unfold maxLen; omega
  case b4 => omega
  intro w1 ho1 hg1
  have hD1 := hD.kept hg1 (by simp)
  have hb1 : Below w.heap.size w w1 := (Below.refl _ w).grown hg1 (Nat.le_refl _) (fun j hj => by cases hj)
  have hq0 : w1.cell? ⟨p, 0, none⟩ = some (.map (some b1)) := (hb1.cell hlt).trans hp0
  go_wp2_with (at_range; refine wpList_range_own _ rfl _ 96 rfl 3 28 intKeys Tryz.underlying96 _ b1 N _ rfl hD1 ?_; intro w0 hrg0 hg0 hs0)
  go_frame
  have hb0 : Below w.heap.size w w0 := hb1.grown hg0 (by simpa using hb1.size) (fun j hj => by cases hj)
  have HO0 : Hid (w0.ownsRow w.heap.size 3 1 (.slice (some ⟨w.heap.size, 0, none⟩) 0 n) 0 []) := Lib.hid (ho1.kept hg0 (by simp [Value.ownBlock]))
  go_loopw [3] (fun u wr => ∃ (v : Value) (left : Lit → Bool) (cnt : Nat) (done : List Int), v = u ∧ wr.ranges Tryz.prog 3 rawE b1 w1.heap.size N M left cnt ∧ Hid (Left (Lit.int .i64) tx left done) ∧ Hid (done.Nodup ∧ ∀ x ∈ done, x ∈ ids) ∧ Hid (IntsR w.heap.size wr v done) ∧ Hid (Below w.heap.size w wr) ∧ Hid (v ≠ .slice none 0 0)) (fun _ wr => wr.rangeLeft b1 w1.heap.size)
  case atStart => exact ⟨_, _, _, [], rfl, hrg0, Lib.hid (Left.start HF.out), Lib.hid ⟨.nil, fun x hx => by cases hx⟩, HO0, Lib.hid hb0, Lib.hid (by intro e; cases e)⟩
  case round =>
    obtain ⟨v, left, cnt, done, rfl, hrg, HL, HN, HR, HB, HNN⟩ := hrel
    have hdl2 : done.length ≤ 256 := nodup_len 256 done HN.out.1 fun x hx => HI.out x (HN.out.2 x hx)
    go_wp2_with (at_next; refine wpList_next_ranges _ rfl _ rfl 3 intKeys rawE (Value.int .i64) id (fun key kl hkey => by obtain ⟨x, rfl, _⟩ := Maps.keyOf_int_inv Tryz.underlying3 hkey; exact ⟨x, rfl⟩) (fun v y _ => ⟨v, rfl⟩) b1 w1.heap.size N _ _ _ rfl hrg ?_ ?_)
    · intro _ hl0
      have hmem : ∀ x, x ∈ done ↔ x ∈ ids := fun x => ⟨HN.out.2 x, fun h => HL.out.done hl0 x ((HT.out x).1 h)⟩
      have hco := fun W => ordered_ints done v w.heap.size W
      have HM := Lib.hid hmem
      clear hmem
      go_wp2_with (go_at_call 78; refine (hco _ HR.out (by omega)).mono ?_; rintro e w9 ⟨rfl, l', hp, hs, hr, hb9⟩)
      go_ret
      have hl9 : l' = ids := ints_of_done HA.out HN.out.1 HM.out hp hs
      rw [hl9] at hr
      exact ⟨_, rfl, HNN.out, hr, HB.out.trans hb9⟩
    · intro x cv kl y1 y2 w2 cnt2 hkey hlk hry hat hrg2 hlt hg2 hs2 hen
      obtain ⟨x', ex, rfl, hwx⟩ := Maps.keyOf_int_inv Tryz.underlying3 hkey
      cases ex
      cases hry
      obtain ⟨hcx, hnm⟩ := HL.out.value HF.out hlk hat
      have hbs := HB.out.size
      have hne := row_ne_iter HR.out hrg
      have HR2' : w2.ownsRow w.heap.size 3 1 v done.length (done.map (Value.int .i64)) := World.ownsRow.kept HR.out hg2 (.inr fun e => hne e.symm)
      have HB2 : Hid (Below w.heap.size w w2) := Lib.hid (HB.out.grown hg2 hbs (fun j hj => by cases hj; have := hb1.size; omega))
      have hbs2 := HB2.out.size
      have HCx : Hid (Left (Lit.int .i64) tx (fun z => left z && !z.sameKey (.int .i64 x)) (done ++ [x])) := Lib.hid (HL.out.next int_same x)
      have HN2 : Hid ((done ++ [x]).Nodup ∧ ∀ y ∈ done ++ [x], y ∈ ids) := Lib.hid ⟨by
          rw [List.nodup_append]; exact ⟨HN.out.1, by simp, fun a ha b hb e => by simp at hb; subst hb; exact hnm (e ▸ ha)⟩, fun y hy => by
          rcases List.mem_append.1 hy with h | h
          · exact HN.out.2 y h
          · simp at h; subst h; exact (HT.out y).2 (by rw [hcx]; rfl)⟩
      have HRM := Lib.hid hrg2.left_eq; have HRL := Lib.hid hrg.left_eq
      clear hs2
      go_wp2_with (at_builtin; refine wpList_append_own _ rfl _ _ 22 rfl w.heap.size 3 i0 _ 1 8 Tryz.underlying22 hi hz0 hz1 hz2 rfl (by decide) _ _ _ rfl (HR2'.alloc _) ⟨w2.heap.size, 0, none⟩ 1 1 [.int .i64 x] rfl rfl (World.news_of_block (cs := #[.int .i64 x]) (t := 3) (fr := (0, 0)) (heap_alloc_new w2 _)) (by simp [Value.oneCell']) ?c3 ?c4 ?c5 ?_)
      case c3 => unfold maxLen; omega
      case c4 => omega
      case c5 => simp; omega
      intro v' w3 hown' hgrow hnil
      have HNN3 : Hid (v' ≠ .slice none 0 0) := Lib.hid hnil
      clear hnil
      have hbl : b1 < w.heap.size := hD.lt
      have HR3 : Hid (IntsR w.heap.size w3 v' (done ++ [x])) := Lib.hid (by
        unfold IntsR
        simpa using hown')
      have hrg3 := (hrg2.alloc (.cells #[.int .i64 x] 3 (0, 0))).kept hgrow (row_ne_low HR2' hbl) (row_ne_iter (HR2'.alloc (.cells #[.int .i64 x] 3 (0, 0))) (hrg2.alloc (.cells #[.int .i64 x] 3 (0, 0))))
      have HB3 : Hid (Below w.heap.size w w3) := Lib.hid ((HB2.out.alloc hbs2 _).grown hgrow (by simp; omega) (fun j e => (HR2'.lt j e).1))
      have HRE := Lib.hid hrg3.left_eq
      clear hown' hgrow
      go_wp2
      go_roundw
      case rel => exact ⟨_, _, _, _, rfl, hrg3, HCx, HN2, HR3, HB3, HNN3⟩
      case measure => rw [HRE.out, HRL.out]; exact hlt
end Go.Proofs.YtogjgibaolppfaaGreatDoor

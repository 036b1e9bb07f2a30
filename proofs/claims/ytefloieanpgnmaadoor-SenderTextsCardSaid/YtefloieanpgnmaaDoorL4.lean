/- The walk of one law of the sender. Conditions: those that each theorem names. -/
import Derived.Test.YtefloieanpgnmaaDoorK34
import Derived.Test.YtefloieanpgnmaaDoorK35
import Derived.Deep.DeepCutAuto
import Derived.Deep.CutBlock
import Derived.IntWalk
/- SenderTexts: what the law's steps keep. -/
namespace Go.Proofs.YtefloieanpgnmaaDoor
open Go.RowKit

/-- the texts law's state after k steps -/
def txK (L : List Op3) (k : Nat) : (Wld × Sen) × (Nat → Nat → Bool) := (L.take k).foldl textsStep ((wld0, startS), fun _ _ => false)
theorem txK_succ (L : List Op3) {k : Nat} (hk : k < L.length) : txK L (k + 1) = textsStep (txK L k) L[k] := by
  unfold txK
  rw [List.take_succ_eq_append_getElem hk, List.foldl_append]
  rfl
theorem txK_run (L : List Op3) : ∀ k, k ≤ L.length → (txK L k).1 = runD false (wld0, startS) (L.take k)
  | 0, _ => rfl
  | k + 1, hk => by
    rw [txK_succ L (by omega), runD_succ false _ L (by omega), ← txK_run L k (by omega)]
    rfl
theorem txK_ti (L : List Op3) (h60 : L.length ≤ 60) : ∀ k, k ≤ L.length → TI (16 * (k : Int)) (txK L k)
  | 0, _ => TI.start
  | k + 1, hk => by
    rw [txK_succ L (by omega), ← sixteen]
    exact ((txK_ti L h60 k (by omega)).step (by omega) _).1
/-- what the law's last loop finds -/
def fndK (has : Bool) (t : List UInt8) (was : Nat → Bool) (k : Nat) : Bool := !has || (List.range k).any fun i => was (i + 1) && decide (t = txtOf i)
theorem fndK_zero (has : Bool) (t : List UInt8) (was : Nat → Bool) : fndK has t was 0 = !has := by simp [fndK]
theorem fndK_succ (has : Bool) (t : List UInt8) (was : Nat → Bool) {k : Nat} (hk : 1 ≤ k) : fndK has t was (k + 1 - 1) = (fndK has t was (k - 1) || (was k && decide (t = txtOf (k - 1)))) := by
  obtain ⟨n, rfl⟩ : ∃ n, k = n + 1 := ⟨k - 1, by omega⟩
  simp only [Nat.add_sub_cancel]
  unfold fndK
  rw [List.range_succ, List.any_append, Bool.or_assoc]
  simp
theorem fndK_all {has : Bool} {t : List UInt8} {was : Nat → Bool} (h : has = true → ∃ n, 1 ≤ n ∧ n ≤ 100 ∧ was n = true ∧ t = txtOf (n - 1)) : fndK has t was 100 = true := by
  unfold fndK
  cases hh : has
  · rfl
  · obtain ⟨n, h1, h2, h3, h4⟩ := h hh
    rw [Bool.or_eq_true]
    refine .inr (List.any_eq_true.2 ⟨n - 1, List.mem_range.2 (by omega), ?_⟩)
    rw [show n - 1 + 1 = n by omega, h3, decide_eq_true h4]
    rfl
def wasV (was : Nat → Nat → Bool) (o : Nat) : Value := .bool (was (o / 101) (o % 101))
theorem wasV_at (was : Nat → Nat → Bool) {i n : Nat} (hn : n < 101) : wasV was (i * 101 + n) = .bool (was i n) := by
  unfold wasV
  rw [show (i * 101 + n) / 101 = i by omega, show (i * 101 + n) % 101 = n by omega]
/-- the wanted texts of the stories before j are noted -/
def wasJ (was : Nat → Nat → Bool) (W : Wld) (j : Nat) : Nat → Nat → Bool := fun k n => was k n || (decide (1 ≤ k ∧ k < j) && decide (n = W.wanted k))
theorem wasJ_one (was : Nat → Nat → Bool) (W : Wld) : wasJ was W 1 = was := by
  funext k n
  unfold wasJ
  rw [decide_eq_false (show ¬ (1 ≤ k ∧ k < 1) by omega)]
  simp
theorem wasJ_all (was : Nat → Nat → Bool) (W : Wld) : wasJ was W 65 = wasD was W := by
  funext k n
  unfold wasJ wasD
  congr 2
  rw [decide_eq_decide]
  omega
theorem wasJ_set (was : Nat → Nat → Bool) (W : Wld) (hW : W100 W) {j : Nat} (hj : 1 ≤ j ∧ j ≤ 64) : ∀ o, o < 6565 → updV (wasV (wasJ was W j)) (j * 101 + W.wanted j) (.bool true) o = wasV (wasJ was W (j + 1)) o := fun o _ => by
  have hw := hW j
  unfold updV wasV wasJ
  by_cases h : o = j * 101 + W.wanted j
  · rw [if_pos h]
    subst h
    rw [show (j * 101 + W.wanted j) / 101 = j by omega, show (j * 101 + W.wanted j) % 101 = W.wanted j by omega]
    rw [decide_eq_true (show 1 ≤ j ∧ j < j + 1 by omega)]
    simp
  · rw [if_neg h]
    congr 2
    by_cases h1 : o / 101 = j
    · rw [decide_eq_false (show ¬ (1 ≤ o / 101 ∧ o / 101 < j) by omega), Bool.false_and]
      have h2 : o % 101 ≠ W.wanted (o / 101) := fun e => h (by rw [← h1, ← e]; omega)
      rw [decide_eq_false h2, Bool.and_false]
    · congr 1
      rw [decide_eq_decide]
      omega
/-- a sender, the law's world, and what was wanted (of colour 5) -/
structure TxS (a0 a1 : Addr) (w0 : World) (col : Nat → Nat) (w : World) (b q B : Nat) (W : Wld) (S : Sen) (was : Nat → Nat → Bool) : Prop where
  st : St2 a0 a1 w0 col w b q W S
  f : SenF 6565 w B (wasV was)
  b5 : col B = 5
  blt : B < w.heap.size
  low : ∀ k, col k = 5 → w0.heap.size ≤ k
section
variable {a0 a1 : Addr} {w0 : World} {col col' : Nat → Nat} {w w' : World} {b q B : Nat} {W W' : Wld} {S S' : Sen} {was : Nat → Nat → Bool}
theorem TxS.below (h : TxS a0 a1 w0 col w b q B W S was) (hb : Below w.heap.size w w') : TxS a0 a1 w0 col w' b q B W S was := ⟨h.st.below hb, h.f.kept (hb.block B h.blt), h.b5, Nat.lt_of_lt_of_le h.blt hb.size, h.low⟩
theorem TxS.fr {c : Nat} (h : TxS a0 a1 w0 col w b q B W S was) (h2 : St2 a0 a1 w0 col' w' b q W' S') (f : Fr w0 c col col' w w') (hc : c ≠ 5) : TxS a0 a1 w0 col' w' b q B W' S' was := by
  refine ⟨h2, h.f.kept (f.but.block B h.blt (by rw [h.b5]; exact fun e => hc e.symm)), (f.same B h.blt).trans h.b5, Nat.lt_of_lt_of_le h.blt f.but.size, fun k hk => ?_⟩
  have e := col_set f h.st.cl (fun e => hc e.symm) (by decide : (5 : Nat) ≠ 0)
  exact h.low k (by have := congrFun e k; rwa [← this])
/-- a local block's cell is set: a step of colour 5 -/
theorem TxS.put (h : TxS a0 a1 w0 col w b q B W S was) {o : Nat} (ho : o < 6565) {v : Value} {was' : Nat → Nat → Bool} (hf : ∀ x, x < 6565 → updV (wasV was) o v x = wasV was' x) : TxS a0 a1 w0 col (w.setCell ⟨B, o, none⟩ v) b q B W S was' ∧ Fr w0 5 col col w (w.setCell ⟨B, o, none⟩ v) := by
  have hb : But (fun k => col k = 5) w.heap.size w (w.setCell ⟨B, o, none⟩ v) := But.setCell (S := fun k => col k = 5) (But.refl _ _ _) h.b5 v
  have f : Fr w0 5 col col w (w.setCell ⟨B, o, none⟩ v) := ⟨hb, fun _ _ => rfl, fun k hk => .inr (h.st.cl k hk), hb.below h.st.sn.lw.bel.size h.low, h.st.cl.below (by simp)⟩
  exact ⟨⟨h.st.fr3 f (by decide) (by decide), (h.f.set ho v).congr hf, h.b5, by simpa using h.blt, h.low⟩, f⟩
/-- with the call's block -/
structure TxC (a0 a1 : Addr) (w0 : World) (col : Nat → Nat) (w : World) (b q B C : Nat) (W : Wld) (S : Sen) (was : Nat → Nat → Bool) (cs : Array Value) (vi : Value) (cal : Cal) : Prop where
  tx : TxS a0 a1 w0 col w b q B W S was
  c : w.heap[C]? = some (.cells cs 35 (0, 0))
  c0 : col C = 0
  it : ItF col w vi cal
variable {C : Nat} {cs : Array Value} {vi : Value} {cal : Cal}
theorem TxC.clt (h : TxC a0 a1 w0 col w b q B C W S was cs vi cal) : C < w.heap.size := (Array.getElem?_eq_some_iff.1 h.c).1
theorem TxC.below (h : TxC a0 a1 w0 col w b q B C W S was cs vi cal) (hb : Below w.heap.size w w') : TxC a0 a1 w0 col w' b q B C W S was cs vi cal := ⟨h.tx.below hb, (hb.block C h.clt).trans h.c, h.c0, h.it.below hb⟩
theorem TxC.put (h : TxC a0 a1 w0 col w b q B C W S was cs vi cal) {o : Nat} (ho : o < 6565) {v : Value} {was' : Nat → Nat → Bool} (hf : ∀ x, x < 6565 → updV (wasV was) o v x = wasV was' x) : TxC a0 a1 w0 col (w.setCell ⟨B, o, none⟩ v) b q B C W S was' cs vi cal := by
  obtain ⟨h1, f⟩ := h.tx.put ho hf
  have hC := f.loc (by decide) h.c0 h.clt
  exact ⟨h1, hC.1.trans h.c, h.c0, h.it.fr f (by decide)⟩
theorem TxS.next (h : TxS a0 a1 w0 col w b q B W S was) {k : Nat} (hr : RI k W S) (hk : k ≤ 1000) (o : Op3) (ho : okO o) :
    Calls Tryd.prog 9 #[.pointer (some ⟨q, 0, none⟩), .agg #[.int .i64 o.kind, .int .i64 o.story, .int .i64 o.n]] w fun e w' => ∃ (vi : Value) (col' : Nat → Nat) (t : Int) (a : Option Addr) (n c : Nat) (u : Int), callV (W.next o).1 vi = .agg #[.int .i64 (W.next o).1.num, .int .i64 t, .slice a n c, .int .i64 u, .int .i64 (W.next o).1.msg.kind, .int .i64 (W.next o).1.msg.partner, .int .i64 (W.next o).1.msg.seq, .int .i64 (W.next o).1.msg.story, .int .i64 (W.next o).1.msg.base, .int .i64 (W.next o).1.msg.version, .string ⟨(W.next o).1.msg.data.toArray⟩] ∧
      e = .returned (.agg #[.int .i64 (W.next o).1.num, .int .i64 t, .slice a n c, .int .i64 u, .int .i64 (W.next o).1.msg.kind, .int .i64 (W.next o).1.msg.partner, .int .i64 (W.next o).1.msg.seq, .int .i64 (W.next o).1.msg.story, .int .i64 (W.next o).1.msg.base, .int .i64 (W.next o).1.msg.version, .string ⟨(W.next o).1.msg.data.toArray⟩]) ∧
      TxS a0 a1 w0 col' w' b q B (W.next o).2 S was ∧ ItF col' w' vi (W.next o).1 := by
  refine (h.st.next hr hk o ho).mono ?_
  rintro e w' ⟨vi, col', rfl, h1, f, h2⟩
  obtain ⟨t, a, n, c, u, hf⟩ := callV_form h2
  exact ⟨vi, col', t, a, n, c, u, hf, by rw [hf], h.fr h1 f (by decide), h2⟩
theorem TxC.perf (h : TxC a0 a1 w0 col w b q B C W S was cs vi cal) (hc : CalOk (fun k => col k = 1) w vi cal) {cv : Value} (hcv : callV cal vi = cv) :
    Calls Tryd.prog 10 #[cv, .pointer (some ⟨b, 0, none⟩)] w fun e w' => ∃ a c col', e = .returned (.slice a (cal.perform S).1.length c) ∧ ML col' w' (.slice a (cal.perform S).1.length c) (cal.perform S).1 ∧ TxS a0 a1 w0 col' w' b q B W (cal.perform S).2 was := by
  rw [← hcv]
  refine (h.tx.st.perform cal vi hc).mono ?_
  rintro e w' ⟨a, c, col', rfl, hm, hv, hs, f⟩
  exact ⟨a, c, col', rfl, ⟨hm, hv⟩, h.tx.fr hs f (by decide)⟩
end
end Go.Proofs.YtefloieanpgnmaaDoor
/- SenderTexts: the walk. -/
namespace Go.Proofs.YtefloieanpgnmaaDoor
open Go.RowKit

theorem tx_start {a0 a1 : Addr} {w0 w : World} (hlw : LW a0 a1 w0 w) : Calls Tryd.prog 7 #[] w fun e w' => ∃ b q, e = .returned (.tuple #[.pointer (some ⟨b, 0, none⟩), .pointer (some ⟨q, 0, none⟩)]) ∧ ∃ col, St2 a0 a1 w0 col w' b q wld0 startS ∧ ∀ k, col k ≠ 5 := by
  refine (start_c (col := fun _ => 0) hlw (fun _ _ => rfl) 1 2 (by decide) (by decide) (by decide) (fun _ => ⟨(by show (0 : Nat) ≠ 1; decide), (by show (0 : Nat) ≠ 2; decide)⟩)).mono ?_
  rintro e w' ⟨b, q, col', rfl, h1, h2, -, h3, h4, h5⟩
  refine ⟨b, q, rfl, col', ⟨h3, h1, h2⟩, fun k => ?_⟩
  by_cases hk : k < w.heap.size
  · rw [h4 k hk]; show (0 : Nat) ≠ 5; decide
  · rcases h5 k (by omega) with h | h | h <;> rw [h] <;> decide
theorem zero_was : Tryd.zeroCells50 = ((List.range 6565).map (wasV fun _ _ => false)).toArray := by kernel_rfl
set_option maxRecDepth 100000 in
set_option maxHeartbeats 16000000 in
theorem lawTexts_any (v : Value) (l : List Op3) {a0 a1 : Addr} (W : World) (hS : Sents a0 a1 W) (hH : ShiftsAt W) (hops : OpsL W v l) (hok : ∀ o ∈ l, okO o) :
    Calls Tryd.prog 4 #[v] W fun e w' => e = .returned (.bool true) ∧ Below W.heap.size W w' := by
  have HLW : Hid (LW a0 a1 W W) := Lib.hid ⟨hS, hH, Below.refl _ _⟩
  have HSA := Lib.hid (sane_any HLW.out)
  have HOP := Lib.hid hops
  have HOK := Lib.hid hok
  clear hS hH hops hok
  go_enter Tryd.func4, Tryd.ntmps4
  go_upto_region 5 with (first
    | (go_at_call 6; (with_reducible (refine HSA.out.mono ?_)); rintro e w1 ⟨rfl, hb1⟩; have H1 := Lib.hid (HLW.out.below hb1); clear hb1)
    | (go_at_call 7; (refine (tx_start H1.out).mono ?_; rintro e w2 ⟨b, q, rfl, h2⟩; have H2 := Lib.hid h2; clear h2))
    | fail)
  go_upto_region 6 with fail
  obtain ⟨B, hB⟩ : ∃ B, w2.heap.size = B := ⟨_, rfl⟩
  obtain ⟨wB, hwB⟩ : ∃ wB, w2.alloc (.cells Tryd.zeroCells50 50) = wB := ⟨_, rfl⟩
  have HTX : Hid (∃ col, TxS a0 a1 W col wB b q B wld0 startS (fun _ _ => false)) := Lib.hid (by
    obtain ⟨col, hs, hc⟩ := H2.out
    have hb : Below w2.heap.size w2 wB := by rw [← hwB]; exact (Below.refl _ w2).alloc (Nat.le_refl _) _
    have hn : wB.heap[B]? = some (.cells Tryd.zeroCells50 50 (0, 0)) := by rw [← hwB, ← hB]; exact heap_alloc_new w2 _
    have hlt : B < wB.heap.size := (Array.getElem?_eq_some_iff.1 hn).1
    have hw2 := hs.sn.lw.bel.size
    obtain ⟨col', hc'⟩ : ∃ col' : Nat → Nat, ∀ k, col' k = if k = B then 5 else col k := ⟨_, fun k => rfl⟩
    have hlow : ∀ k, k < w2.heap.size → col' k = col k := fun k hk => by rw [hc' k, if_neg (by omega)]
    have hnew : ∀ k, w2.heap.size ≤ k → col' k = 5 ∨ col' k = 0 := fun k hk => by
      rw [hc' k]
      split
      · exact .inl rfl
      · exact .inr (hs.cl k hk)
    refine ⟨col', ⟨fun k hk => ?_, hs.sn.recol hb hlow fun k hk => ?_, hs.wo.recol hb hlow fun k hk => ?_⟩, ?_, ?_, hlt, fun k hk => ?_⟩
    · rw [hc' k, if_neg (by omega)]
      exact hs.cl k (Nat.le_trans hb.size hk)
    · rcases hnew k hk with h | h <;> rw [h] <;> decide
    · rcases hnew k hk with h | h <;> rw [h] <;> decide
    · exact cells_senF (by rw [← zero_was]; exact hn)
    · rw [hc' B, if_pos rfl]
    · by_cases e : k = B
      · omega
      · rw [hc' k, if_neg e] at hk; exact absurd hk (hc k))
  rw [hwB, hB]
  clear hwB hB H2 H1 HSA
  have HFEW : Hid (Calls Tryd.prog 8 #[v] wB fun e w' => ∃ v', e = .returned v' ∧ OpsL W v' (l.take 60) ∧ wB = w') := Lib.hid (few2 v l wB W (HOP.out.below (by obtain ⟨col, h⟩ := HTX.out; exact h.st.sn.lw.bel)) HOP.out)
  go_upto_region 8 with (first
    | (go_at_call 8; (with_reducible (refine HFEW.out.mono ?_)); rintro e wf ⟨v', rfl, hv', rfl⟩)
    | fail)
  obtain ⟨L, hL⟩ : ∃ L, l.take 60 = L := ⟨_, rfl⟩
  have hL60 : L.length ≤ 60 := by rw [← hL, List.length_take]; omega
  have HOL : Hid (∀ o ∈ L, okO o) := Lib.hid (fun o ho => HOK.out o (List.mem_of_mem_take (by rw [hL]; exact ho)))
  rw [hL] at hv'
  obtain ⟨va, vc, rfl, hvc, -, hcel⟩ := hv'
  have HCE := Lib.hid hcel
  have HST : Hid (∃ col, TxS a0 a1 W col wB b q B (txK L 0).1.1 (txK L 0).1.2 (txK L 0).2) := Lib.hid HTX.out
  clear hcel hL HFEW HOK HOP HTX
  go_loopw [8] (fun i wr => ∃ k : Nat, i = .int .i64 k ∧ k ≤ L.length ∧ Hid (∃ col, TxS a0 a1 W col wr b q B (txK L k).1.1 (txK L k).1.2 (txK L k).2)) (fun i _ => L.length - (intOf i).toNat)
  case atStart => exact ⟨0, rfl, Nat.zero_le _, HST⟩
  case round =>
    clear HST
    obtain ⟨k, rfl, hk, HS⟩ := hrel
    by_cases hlt : k < L.length
    · have hki : (k : Int) < (L.length : Int) := by omega
      obtain ⟨ob, oo, rfl, d0, d1, d2⟩ := HCE.out k hlt
      have HBW : Hid (Below W.heap.size W wr) := Lib.hid (by obtain ⟨col, h⟩ := HS.out; exact h.st.sn.lw.bel)
      have hoo := HOL.out _ (List.getElem_mem hlt)
      have hsu := txK_succ L hlt
      have hri := RI.run hL60 false k hk
      have hti := txK_ti L hL60 k hk
      have hrn := RI.run hL60 false (k + 1) hlt
      rw [← txK_run L k hk] at hri
      rw [← txK_run L (k + 1) hlt] at hrn
      obtain ⟨o, ho⟩ : ∃ o, L[k] = o := ⟨_, rfl⟩
      rw [ho] at d0 d1 d2 hoo hsu
      rw [hsu] at hrn
      have oc0 := (HBW.out.cell (World.block_lt_of_cell? W _ d0)).trans d0
      have oc1 := (HBW.out.cell (World.block_lt_of_cell? W _ d1)).trans d1
      have oc2 := (HBW.out.cell (World.block_lt_of_cell? W _ d2)).trans d2
      obtain ⟨col, hT⟩ := HS.out
      obtain ⟨W1, S1, was1, hX⟩ : ∃ W1 S1 was1, txK L k = ((W1, S1), was1) := ⟨_, _, _, rfl⟩
      rw [hX] at hT hri hti hsu hrn
      simp only at hT hri hti
      have hmo := (hti.step (by omega) o).2
      have hw2 := hti.w100.next (next_rel W1 o)
      have HNX := Lib.hid (hT.next hri (by omega) o hoo)
      have HRI := Lib.hid hri
      have HIT : Hid (∀ col w vi c, c ≠ 0 → ItF col w vi (W1.next o).1 → CalOk (fun k => col k = c) w vi (W1.next o).1) := Lib.hid (fun col w vi c h0 hi => hi.ok HRI.out (by omega) o h0)
      have hst1 : textsStep ((W1, S1), was1) o = (({ (W1.next o).2 with flight := (W1.next o).2.flight ++ ((W1.next o).1.perform S1).1 }, ((W1.next o).1.perform S1).2), wasD was1 (W1.next o).2) := rfl
      simp only at hmo
      obtain ⟨cal, W2, hN⟩ : ∃ cal W2, W1.next o = (cal, W2) := ⟨_, _, rfl⟩
      rw [hN] at HNX HIT hst1 hmo hw2
      simp only at HNX HIT hst1 hmo hw2
      obtain ⟨ms, S2, hPf⟩ : ∃ ms S2, cal.perform S1 = (ms, S2) := ⟨_, _, rfl⟩
      have HPF := Lib.hid hPf
      rw [hPf] at hst1 hmo
      simp only at hst1 hmo
      rw [hst1] at hsu hrn
      have HSU := Lib.hid hsu
      have HRN := Lib.hid hrn
      have HMO := Lib.hid hmo
      have HW2 := Lib.hid hw2
      clear hri hti hsu hrn hmo hw2 hst1 hX hN hPf d0 d1 d2 HS HBW ho hoo hT
      go_upto_region 11 with (first
        | (go_at_call 9; (with_reducible (refine HNX.out.mono ?_)); rintro e wN ⟨vi, colN, t, ca, cn, cc, cu, hcv, rfl, hig, hit⟩; have HCV := Lib.hid hcv; have HIG := Lib.hid hig; have HIF := Lib.hid hit; clear hcv hig hit)
        | fail)
      clear oc0 oc1 oc2
      obtain ⟨wC, hwC⟩ : ∃ wC, wN.alloc (.cells #[.int .i64 cal.num, .int .i64 t, .slice ca cn cc, .int .i64 cu, .int .i64 cal.msg.kind, .int .i64 cal.msg.partner, .int .i64 cal.msg.seq, .int .i64 cal.msg.story, .int .i64 cal.msg.base, .int .i64 cal.msg.version, .string ⟨cal.msg.data.toArray⟩] 35) = wC := ⟨_, rfl⟩
      obtain ⟨C, hC⟩ : ∃ C, wN.heap.size = C := ⟨_, rfl⟩
      have HTC : Hid (TxC a0 a1 W colN wC b q B C W2 S1 (wasJ was1 W2 1) #[.int .i64 cal.num, .int .i64 t, .slice ca cn cc, .int .i64 cu, .int .i64 cal.msg.kind, .int .i64 cal.msg.partner, .int .i64 cal.msg.seq, .int .i64 cal.msg.story, .int .i64 cal.msg.base, .int .i64 cal.msg.version, .string ⟨cal.msg.data.toArray⟩] vi cal) := Lib.hid (by
        rw [wasJ_one, ← hwC, ← hC]
        have hb : Below wN.heap.size wN (wN.alloc (.cells #[.int .i64 cal.num, .int .i64 t, .slice ca cn cc, .int .i64 cu, .int .i64 cal.msg.kind, .int .i64 cal.msg.partner, .int .i64 cal.msg.seq, .int .i64 cal.msg.story, .int .i64 cal.msg.base, .int .i64 cal.msg.version, .string ⟨cal.msg.data.toArray⟩] 35)) := (Below.refl _ wN).alloc (Nat.le_refl _) _
        exact ⟨HIG.out.below hb, heap_alloc_new wN _, HIG.out.st.cl _ (Nat.le_refl _), HIF.out.below hb⟩)
      rw [hwC, hC]
      clear hwC hC HIG HIF HNX
      go_upto_region 12 with fail
      go_loopw [10] (fun i wx => ∃ j : Nat, i = .int .i64 j ∧ 1 ≤ j ∧ j ≤ 65 ∧ Hid (TxC a0 a1 W colN wx b q B C W2 S1 (wasJ was1 W2 j) #[.int .i64 cal.num, .int .i64 t, .slice ca cn cc, .int .i64 cu, .int .i64 cal.msg.kind, .int .i64 cal.msg.partner, .int .i64 cal.msg.seq, .int .i64 cal.msg.story, .int .i64 cal.msg.base, .int .i64 cal.msg.version, .string ⟨cal.msg.data.toArray⟩] vi cal)) (fun i _ => 65 - (intOf i).toNat)
      case atStart => exact ⟨1, rfl, by omega, by omega, HTC⟩
      case round =>
        clear HTC
        obtain ⟨j, rfl, hj1, hj65, HT⟩ := hrel
        by_cases hj : j ≤ 64
        · have hji : (j : Int) ≤ 64 := by omega
          have hj0 : (0 : Int) ≤ (j : Int) := by omega
          have hjl : (j : Int) < 65 := by omega
          obtain ⟨n9, hn9⟩ : ∃ n, W2.wanted j = n := ⟨_, rfl⟩
          have hn100 : n9 ≤ 100 := by rw [← hn9]; exact HW2.out j
          have hnl : (n9 : Int) < 101 := by omega
          have c0 : wr.cell? ⟨q, 2 + j, none⟩ = some (.int .i64 n9) := by
            obtain ⟨vf, va, h⟩ := HT.out.tx.st.wo.cell
            rw [(h (2 + j) (by omega)).1, wldV_wanted _ _ _ _ (by omega), hn9]
          obtain ⟨v1, c1⟩ : ∃ v, wr.cell? ⟨B, j * 101 + n9, none⟩ = some v := ⟨_, (HT.out.tx.f (j * 101 + n9) (by omega)).1⟩
          have f1 := (HT.out.tx.f (j * 101 + n9) (by omega)).2
          have HNN := Lib.hid hn9
          clear hn9
          have HT2 : Hid (TxC a0 a1 W colN (wr.setCell ⟨B, j * 101 + n9, none⟩ (.bool true)).drew b q B C W2 S1 (wasJ was1 W2 (j + 1)) #[.int .i64 cal.num, .int .i64 t, .slice ca cn cc, .int .i64 cu, .int .i64 cal.msg.kind, .int .i64 cal.msg.partner, .int .i64 cal.msg.seq, .int .i64 cal.msg.story, .int .i64 cal.msg.base, .int .i64 cal.msg.version, .string ⟨cal.msg.data.toArray⟩] vi cal) := Lib.hid ((HT.out.put (o := j * 101 + n9) (v := .bool true) (by omega) (by rw [← HNN.out]; exact wasJ_set was1 W2 HW2.out ⟨hj1, hj⟩)).below (Below.refl _ _).drew)
          go_wp2_with fail
          go_region_with (fail)
          go_wp2_with fail
          go_roundw
          case rel => exact ⟨j + 1, by go_num, by omega, by omega, HT2⟩
          case measure => simp [intOf]; omega
        · obtain rfl : j = 65 := by omega
          have k0 : wr.cell? ⟨C, 0, none⟩ = some (.int .i64 cal.num) := by rw [Lib.cell_of_heap HT.out.c]; rfl
          have k1 : wr.cell? ⟨C, 1, none⟩ = some (.int .i64 t) := by rw [Lib.cell_of_heap HT.out.c]; rfl
          have k2 : wr.cell? ⟨C, 2, none⟩ = some (.slice ca cn cc) := by rw [Lib.cell_of_heap HT.out.c]; rfl
          have k3 : wr.cell? ⟨C, 3, none⟩ = some (.int .i64 cu) := by rw [Lib.cell_of_heap HT.out.c]; rfl
          have k4 : wr.cell? ⟨C, 4, none⟩ = some (.int .i64 cal.msg.kind) := by rw [Lib.cell_of_heap HT.out.c]; rfl
          have k5 : wr.cell? ⟨C, 5, none⟩ = some (.int .i64 cal.msg.partner) := by rw [Lib.cell_of_heap HT.out.c]; rfl
          have k6 : wr.cell? ⟨C, 6, none⟩ = some (.int .i64 cal.msg.seq) := by rw [Lib.cell_of_heap HT.out.c]; rfl
          have k7 : wr.cell? ⟨C, 7, none⟩ = some (.int .i64 cal.msg.story) := by rw [Lib.cell_of_heap HT.out.c]; rfl
          have k8 : wr.cell? ⟨C, 8, none⟩ = some (.int .i64 cal.msg.base) := by rw [Lib.cell_of_heap HT.out.c]; rfl
          have k9 : wr.cell? ⟨C, 9, none⟩ = some (.int .i64 cal.msg.version) := by rw [Lib.cell_of_heap HT.out.c]; rfl
          have k10 : wr.cell? ⟨C, 10, none⟩ = some (.string ⟨cal.msg.data.toArray⟩) := by rw [Lib.cell_of_heap HT.out.c]; rfl
          have HP1 := Lib.hid (HT.out.perf (HIT.out _ _ _ _ (by decide) HT.out.it) HCV.out)
          rw [wasJ_all, HPF.out] at HP1
          simp only at HP1
          go_upto_region 17 with (first
            | (go_at_call 10; (with_reducible (refine HP1.out.mono ?_)); rintro e wE ⟨a1', c1', colE, rfl, hml, hE⟩; have HE := Lib.hid hE; have HM1 := Lib.hid hml; clear hE hml)
            | fail)
          clear k0 k1 k2 k3 k4 k5 k6 k7 k8 k9 k10 HT HP1
          have HBW2 : Hid (Below W.heap.size W wE) := Lib.hid HE.out.st.sn.lw.bel
          have hms : ms.length ≤ 100000 := by
            have h1 := HRN.out.flen
            simp only [List.length_append] at h1
            omega
          go_loopw [12] (fun i wx => ∃ j : Nat, i = .int .i64 j ∧ j ≤ ms.length ∧ Hid (Below wE.heap.size wE wx)) (fun i _ => ms.length - (intOf i).toNat)
          case atStart => exact ⟨0, rfl, Nat.zero_le _, Lib.hid (Below.refl _ _)⟩
          case round =>
            obtain ⟨j, rfl, hj, HJ⟩ := hrel
            by_cases hjl : j < ms.length
            · have hji : (j : Int) < (ms.length : Int) := by omega
              obtain ⟨g1, o1, rfl, -, hc1, h1⟩ := (HM1.out.below HJ.out).at hjl
              have hcc1 : (ms.length : Int) ≤ (c1' : Int) := by omega
              have hok9 := HMO.out _ (List.getElem_mem hjl)
              obtain ⟨m9, hm9⟩ : ∃ m9, ms[j] = m9 := ⟨_, rfl⟩
              rw [hm9] at hok9 h1
              obtain ⟨kind, partner, seq, story, base, version, data⟩ := m9
              obtain ⟨hs1, hs64, hp2, hway⟩ := hok9
              simp only at hs1 hs64 hp2 hway
              subst hp2
              obtain ⟨i9, rfl⟩ : ∃ i : Nat, story = i := ⟨story.toNat, by omega⟩
              rw [Int.toNat_natCast] at hway
              have x0 := h1 0 (.int .i64 kind) (by omega) rfl
              have x1 := h1 1 (.int .i64 2) (by omega) rfl
              have x2 := h1 2 (.int .i64 seq) (by omega) rfl
              have x3 := h1 3 (.int .i64 i9) (by omega) rfl
              have x4 := h1 4 (.int .i64 base) (by omega) rfl
              have x5 := h1 5 (.int .i64 version) (by omega) rfl
              have x6 := h1 6 (.string ⟨data.toArray⟩) (by omega) rfl
              simp only [Nat.add_zero] at x0
              have hsb1 : decide ((i9 : Int) < 1) = false := decide_eq_false (by omega)
              have hsb2 : decide ((64 : Int) < (i9 : Int)) = false := decide_eq_false (by omega)
              have hsi0 : (0 : Int) ≤ (i9 : Int) := by omega
              have hsi1 : (i9 : Int) < 65 := by omega
              have hi65 : i9 < 65 := by omega
              clear h1 hm9
              go_upto_region 20 with fail
              obtain ⟨wM, hwM⟩ : ∃ wM, wr.alloc (.cells #[.int .i64 kind, .int .i64 2, .int .i64 seq, .int .i64 i9, .int .i64 base, .int .i64 version, .string ⟨data.toArray⟩] 33) = wM := ⟨_, rfl⟩
              obtain ⟨M, hM⟩ : ∃ M, wr.heap.size = M := ⟨_, rfl⟩
              have hmat : wM.heap[M]? = some (.cells #[.int .i64 kind, .int .i64 2, .int .i64 seq, .int .i64 i9, .int .i64 base, .int .i64 version, .string ⟨data.toArray⟩] 33 (0, 0)) := by rw [← hwM, ← hM]; exact heap_alloc_new wr _
              have HJM : Hid (Below wE.heap.size wE wM) := Lib.hid (HJ.out.trans (by rw [← hwM]; exact (Below.refl _ wr).alloc HJ.out.size _))
              rw [hwM, hM]
              have y0 : wM.cell? ⟨M, 0, none⟩ = some (.int .i64 kind) := by rw [Lib.cell_of_heap hmat]; rfl
              have y1 : wM.cell? ⟨M, 1, none⟩ = some (.int .i64 2) := by rw [Lib.cell_of_heap hmat]; rfl
              have y3 : wM.cell? ⟨M, 3, none⟩ = some (.int .i64 i9) := by rw [Lib.cell_of_heap hmat]; rfl
              have y5 : wM.cell? ⟨M, 5, none⟩ = some (.int .i64 version) := by rw [Lib.cell_of_heap hmat]; rfl
              have y6 : wM.cell? ⟨M, 6, none⟩ = some (.string ⟨data.toArray⟩) := by rw [Lib.cell_of_heap hmat]; rfl
              clear hwM hM hmat x0 x1 x2 x3 x4 x5 x6 HJ
              obtain ⟨n9, hn9⟩ : ∃ n, W2.wanted i9 = n := ⟨_, rfl⟩
              have hn100 : n9 ≤ 100 := by rw [← hn9]; exact HW2.out i9
              obtain ⟨nw, hnw⟩ : ∃ x, W2.now = x := ⟨_, rfl⟩
              obtain ⟨ls, hls⟩ : ∃ x, W2.lease = x := ⟨_, rfl⟩
              have HCW : Hid (∀ wx, Below wE.heap.size wE wx → wx.cell? ⟨q, 0, none⟩ = some (.int .i64 nw) ∧ wx.cell? ⟨q, 1, none⟩ = some (.int .i64 ls) ∧ wx.cell? ⟨q, 2 + i9, none⟩ = some (.int .i64 n9)) := Lib.hid (fun wx hb => by
                obtain ⟨vf, va, h⟩ := (HE.out.below hb).st.wo.cell
                refine ⟨by rw [← hnw]; exact (h 0 (by omega)).1, by rw [← hls]; exact (h 1 (by omega)).1, ?_⟩
                rw [(h (2 + i9) (by omega)).1, wldV_wanted _ _ _ _ hi65, hn9])
              obtain ⟨z0, z1, z2⟩ := HCW.out wM HJM.out
              rw [hn9, hnw, hls] at hway
              clear hn9 hnw hls
              go_upto_region 22 with fail
              go_quiet (fail)
              obtain ⟨wP, hq9⟩ : ∃ wx, wM.drewN nq = wx := ⟨_, rfl⟩
              have hb9 : Below wM.heap.size wM wP := by rw [← hq9]; exact (Below.refl _ _).drewN _
              rw [hq9]
              have HJP : Hid (Below wE.heap.size wE wP) := Lib.hid (HJM.out.trans (hb9.mono HJM.out.size))
              replace y0 := (hb9.cell (World.block_lt_of_cell? wM _ y0)).trans y0
              replace y1 := (hb9.cell (World.block_lt_of_cell? wM _ y1)).trans y1
              replace y5 := (hb9.cell (World.block_lt_of_cell? wM _ y5)).trans y5
              replace y6 := (hb9.cell (World.block_lt_of_cell? wM _ y6)).trans y6
              replace z0 := (hb9.cell (World.block_lt_of_cell? wM _ z0)).trans z0
              replace z1 := (hb9.cell (World.block_lt_of_cell? wM _ z1)).trans z1
              clear hq9 hb9
              go_wp2_with fail
              rcases hway with ⟨hn0, hle, rfl, hv⟩ | ⟨hno, rfl, rfl⟩
              · have hnp : decide ((0 : Int) < (n9 : Int)) = true := decide_eq_true (by omega)
                have hnp2 : decide (0 < n9) = true := decide_eq_true (by omega)
                have hnp3 : 0 < n9 := by omega
                have hnl : decide (nw ≤ ls) = true := decide_eq_true hle
                have HV := Lib.hid hv
                obtain ⟨tx9, htx9⟩ : ∃ t, txtOf (n9 - 1) = t := ⟨_, rfl⟩
                have htl : tx9.length ≤ 9223372036854775000 := by rw [← htx9, txt_len]; omega
                have HTX9 : Hid (∀ wx, (wx.cell? ⟨M, 0, none⟩ = some (.int .i64 1) ∧ wx.cell? ⟨M, 5, none⟩ = some (.int .i64 version) ∧ Below wE.heap.size wE wx) → Calls Tryd.prog 13 #[.int .i64 ((n9 : Int) - 1)] wx fun e w' => e = .returned (.string ⟨tx9.toArray⟩) ∧ (w'.cell? ⟨M, 0, none⟩ = some (.int .i64 1) ∧ w'.cell? ⟨M, 5, none⟩ = some (.int .i64 version) ∧ Below wE.heap.size wE w')) := Lib.hid (fun wx hs => by
                  have h := text_any (n9 - 1) wx (by omega)
                  rw [show ((n9 - 1 : Nat) : Int) = (n9 : Int) - 1 by omega, htx9] at h
                  exact h.mono fun e w' h => ⟨h.1, (h.2.cell (World.block_lt_of_cell? wx _ hs.1)).trans hs.1, (h.2.cell (World.block_lt_of_cell? wx _ hs.2.1)).trans hs.2.1, below_then hs.2.2 h.2⟩)
                have HSM9 : Hid (∀ wx, (wx.cell? ⟨M, 0, none⟩ = some (.int .i64 1) ∧ wx.cell? ⟨M, 5, none⟩ = some (.int .i64 version) ∧ Below wE.heap.size wE wx) → Calls Tryd.prog 12 #[.string ⟨tx9.toArray⟩] wx fun e w' => e = .returned (.int .i64 version) ∧ wx = w') := Lib.hid (fun wx hs => by
                  rw [HV.out, htx9]
                  exact sum_l tx9 wx htl ((HE.out.st.sn.lw.below hs.2.2).h))
                clear hn0 hle hv htx9 htl
                go_quiet (fail)
                obtain ⟨wQ, hq9⟩ : ∃ wx, wP.drewN nq = wx := ⟨_, rfl⟩
                have hb9 : Below wP.heap.size wP wQ := by rw [← hq9]; exact (Below.refl _ _).drewN _
                rw [hq9]
                have HJQ : Hid (Below wE.heap.size wE wQ) := Lib.hid (HJP.out.trans (hb9.mono HJP.out.size))
                replace y0 := (hb9.cell (World.block_lt_of_cell? wP _ y0)).trans y0
                replace y5 := (hb9.cell (World.block_lt_of_cell? wP _ y5)).trans y5
                clear hq9 hb9
                go_wp2_with fail
                have hwr9 : IntKind.i64.wrap ((n9 : Int) - 1) = (n9 : Int) - 1 := IntWalk.i64_in _ (by omega)
                have hbd : Below wE.heap.size wE wQ.drew := HJQ.out.drew
                have HS0 : Hid (wQ.drew.cell? ⟨M, 0, none⟩ = some (.int .i64 1) ∧ wQ.drew.cell? ⟨M, 5, none⟩ = some (.int .i64 version) ∧ Below wE.heap.size wE wQ.drew) := Lib.hid ⟨y0, y5, hbd⟩
                clear hbd
                refine wp_region_held_drew (S := (fun w' => w'.cell? ⟨M, 0, none⟩ = some (.int .i64 1) ∧ w'.cell? ⟨M, 5, none⟩ = some (.int .i64 version) ∧ Below wE.heap.size wE w')) (by kernel_rfl) ?_ (fun hHeld => ?_)
                · ((try dsimp only); (first | (with_reducible assumption) | (with_reducible exact HS0.out)))
                refine take_w 0 ⟨_, by simp only [List.getElem?_toArray, List.getElem?_cons_zero]; rfl, by kernel_rfl, by kernel_rfl, by kernel_rfl, ?_⟩
                refine ⟨?_, fun _ _ _ h => h, Or.inl ⟨by rfl, ?_⟩, by assumption, ?_⟩
                rotate_left
                · (intro w hSw; (try dsimp only at hSw); go_simp; try with_reducible rfl)
                try simp only [Act.put, List.setIfInBounds_toArray, List.set_cons_zero, List.set_cons_succ]
                refine take_w 1 ⟨_, by simp only [List.getElem?_toArray, List.getElem?_cons_succ, List.getElem?_cons_zero]; rfl, by kernel_rfl, by kernel_rfl, by kernel_rfl, ?_⟩
                refine ⟨?_, fun _ _ _ h => h, Or.inl ⟨by rfl, ?_⟩, by assumption, ?_⟩
                rotate_left
                · (intro w hSw; (try dsimp only at hSw); go_simp; try with_reducible rfl)
                try simp only [Act.put, List.setIfInBounds_toArray, List.set_cons_zero, List.set_cons_succ]
                refine take_w 2 ⟨_, by simp only [List.getElem?_toArray, List.getElem?_cons_succ, List.getElem?_cons_zero]; rfl, by kernel_rfl, by kernel_rfl, by kernel_rfl, ?_⟩
                refine ⟨?_, fun _ _ _ h => h, Or.inl ⟨by rfl, ?_⟩, by assumption, ?_⟩
                rotate_left
                · (intro w hSw; (try dsimp only at hSw); go_simp; try with_reducible rfl)
                try simp only [Act.put, List.setIfInBounds_toArray, List.set_cons_zero, List.set_cons_succ]
                refine take_w 3 ⟨_, by simp only [List.getElem?_toArray, List.getElem?_cons_succ, List.getElem?_cons_zero]; rfl, by kernel_rfl, by kernel_rfl, by kernel_rfl, ?_⟩
                refine ⟨?_, fun _ _ _ h => h, Or.inl ⟨by rfl, ?_⟩, by assumption, ?_⟩
                rotate_left
                · (intro w hSw; (try dsimp only at hSw); go_simp; try with_reducible rfl)
                try simp only [Act.put, List.setIfInBounds_toArray, List.set_cons_zero, List.set_cons_succ]
                refine take_w 4 ⟨_, by simp only [List.getElem?_toArray, List.getElem?_cons_succ, List.getElem?_cons_zero]; rfl, by kernel_rfl, by kernel_rfl, by kernel_rfl, ?_⟩
                refine ⟨?_, fun _ _ _ h => h, Or.inl ⟨by rfl, ?_⟩, by assumption, ?_⟩
                rotate_left
                · (intro w hSw; (try dsimp only at hSw); go_simp; try with_reducible rfl)
                try simp only [Act.put, List.setIfInBounds_toArray, List.set_cons_zero, List.set_cons_succ]
                refine take_w 5 ⟨_, by simp only [List.getElem?_toArray, List.getElem?_cons_succ, List.getElem?_cons_zero]; rfl, by kernel_rfl, by kernel_rfl, by kernel_rfl, ?_⟩
                refine ⟨?_, fun _ _ _ h => h, Or.inl ⟨by rfl, ?_⟩, by assumption, ?_⟩
                rotate_left
                · (intro w hSw; (try dsimp only at hSw); go_simp; try with_reducible rfl)
                try simp only [Act.put, List.setIfInBounds_toArray, List.set_cons_zero, List.set_cons_succ]
                refine take_w 6 ⟨_, by simp only [List.getElem?_toArray, List.getElem?_cons_succ, List.getElem?_cons_zero]; rfl, by kernel_rfl, by kernel_rfl, by kernel_rfl, ?_⟩
                refine ⟨?_, fun _ _ _ h => h, Or.inl ⟨by rfl, ?_⟩, by assumption, ?_⟩
                rotate_left
                · (intro w hSw; (try dsimp only at hSw); go_simp; try with_reducible rfl)
                try simp only [Act.put, List.setIfInBounds_toArray, List.set_cons_zero, List.set_cons_succ]
                refine take_w 7 ⟨_, by simp only [List.getElem?_toArray, List.getElem?_cons_succ, List.getElem?_cons_zero]; rfl, by kernel_rfl, by kernel_rfl, by kernel_rfl, ?_⟩
                refine ⟨?_, fun _ _ _ h => h, Or.inl ⟨by rfl, ?_⟩, by assumption, ?_⟩
                rotate_left
                · (intro w hSw; (try dsimp only at hSw); go_simp; try with_reducible rfl)
                try simp only [Act.put, List.setIfInBounds_toArray, List.set_cons_zero, List.set_cons_succ]
                refine take_w 8 ⟨_, by simp only [List.getElem?_toArray, List.getElem?_cons_succ, List.getElem?_cons_zero]; rfl, by kernel_rfl, by kernel_rfl, by kernel_rfl, ?_⟩
                refine ⟨?_, fun _ _ _ h => h, Or.inl ⟨by rfl, ?_⟩, by assumption, ?_⟩
                rotate_left
                · (intro w hSw; (try dsimp only at hSw); go_simp; try with_reducible rfl)
                try simp only [Act.put, List.setIfInBounds_toArray, List.set_cons_zero, List.set_cons_succ]
                refine take_w 9 ⟨_, by simp only [List.getElem?_toArray, List.getElem?_cons_succ, List.getElem?_cons_zero]; rfl, by kernel_rfl, by kernel_rfl, by kernel_rfl, ?_⟩
                refine ⟨?_, fun _ _ _ h => h, Or.inl ⟨by rfl, ?_⟩, by assumption, ?_⟩
                rotate_left
                · (intro w hSw; (try dsimp only at hSw); go_simp; try with_reducible rfl)
                try simp only [Act.put, List.setIfInBounds_toArray, List.set_cons_zero, List.set_cons_succ]
                refine take_w 10 ⟨_, by simp only [List.getElem?_toArray, List.getElem?_cons_succ, List.getElem?_cons_zero]; rfl, by kernel_rfl, by kernel_rfl, by kernel_rfl, ?_⟩
                refine ⟨?_, fun _ _ _ h => h, Or.inl ⟨by rfl, ?_⟩, by assumption, ?_⟩
                rotate_left
                · (intro w hSw; (try dsimp only at hSw); go_simp; try with_reducible rfl)
                try simp only [Act.put, List.setIfInBounds_toArray, List.set_cons_zero, List.set_cons_succ]
                refine take_w 11 ⟨_, by simp only [List.getElem?_toArray, List.getElem?_cons_succ, List.getElem?_cons_zero]; rfl, by kernel_rfl, by kernel_rfl, by kernel_rfl, ?_⟩
                refine ⟨?_, fun _ _ _ h => h, Or.inl ⟨by rfl, ?_⟩, by assumption, ?_⟩
                rotate_left
                · (intro w hSw; (try dsimp only at hSw); go_simp; try with_reducible rfl)
                try simp only [Act.put, List.setIfInBounds_toArray, List.set_cons_zero, List.set_cons_succ]
                refine call_w 12 ⟨_, by simp only [List.getElem?_toArray, List.getElem?_cons_succ, List.getElem?_cons_zero]; rfl, by kernel_rfl, ?_, ?_⟩
                · rfl
                intro K hK
                go_simp
                (with_reducible (refine (HTX9.out _ (by assumption)).mono ?_)); rintro e wt ⟨rfl, hbt⟩
                refine hK.out _ _ ?_ (fun hHeld => ?_)
                · ((try dsimp only); (first | (with_reducible assumption) | (with_reducible exact HS0.out)))
                clear hK K
                try simp only [Act.put, List.setIfInBounds_toArray, List.set_cons_zero, List.set_cons_succ]
                refine call_w 13 ⟨_, by simp only [List.getElem?_toArray, List.getElem?_cons_succ, List.getElem?_cons_zero]; rfl, by kernel_rfl, ?_, ?_⟩
                · rfl
                intro K hK
                go_simp
                (with_reducible (refine (HSM9.out _ (by assumption)).mono ?_)); rintro e ws ⟨rfl, rfl⟩
                refine hK.out _ _ ?_ (fun hHeld => ?_)
                · ((try dsimp only); (first | (with_reducible assumption) | (with_reducible exact HS0.out)))
                clear hK K
                try simp only [Act.put, List.setIfInBounds_toArray, List.set_cons_zero, List.set_cons_succ]
                refine take_w 14 ⟨_, by simp only [List.getElem?_toArray, List.getElem?_cons_succ, List.getElem?_cons_zero]; rfl, by kernel_rfl, by kernel_rfl, by kernel_rfl, ?_⟩
                refine ⟨?_, fun _ _ _ h => h, Or.inl ⟨by rfl, ?_⟩, by assumption, ?_⟩
                rotate_left
                · (intro w hSw; (try dsimp only at hSw); go_simp; try with_reducible rfl)
                try simp only [Act.put, List.setIfInBounds_toArray, List.set_cons_zero, List.set_cons_succ]
                refine take_w 15 ⟨_, by simp only [List.getElem?_toArray, List.getElem?_cons_succ, List.getElem?_cons_zero]; rfl, by kernel_rfl, by kernel_rfl, by kernel_rfl, ?_⟩
                refine ⟨?_, fun _ _ _ h => h, Or.inl ⟨by rfl, ?_⟩, by assumption, ?_⟩
                rotate_left
                · (intro w hSw; (try dsimp only at hSw); go_simp; try with_reducible rfl)
                try simp only [Act.put, List.setIfInBounds_toArray, List.set_cons_zero, List.set_cons_succ]
                refine take_w 16 ⟨_, by simp only [List.getElem?_toArray, List.getElem?_cons_succ, List.getElem?_cons_zero]; rfl, by kernel_rfl, by kernel_rfl, by kernel_rfl, ?_⟩
                refine ⟨?_, fun _ _ _ h => h, Or.inl ⟨by rfl, ?_⟩, by assumption, ?_⟩
                rotate_left
                · (intro w hSw; (try dsimp only at hSw); go_simp; try with_reducible rfl)
                try simp only [Act.put, List.setIfInBounds_toArray, List.set_cons_zero, List.set_cons_succ]
                refine take_w 17 ⟨_, by simp only [List.getElem?_toArray, List.getElem?_cons_succ, List.getElem?_cons_zero]; rfl, by kernel_rfl, by kernel_rfl, by kernel_rfl, ?_⟩
                refine ⟨?_, fun _ _ _ h => h, Or.inl ⟨by rfl, ?_⟩, by assumption, ?_⟩
                rotate_left
                · (intro w hSw; (try dsimp only at hSw); go_simp; try with_reducible rfl)
                try simp only [Act.put, List.setIfInBounds_toArray, List.set_cons_zero, List.set_cons_succ]
                refine take_w 18 ⟨_, by simp only [List.getElem?_toArray, List.getElem?_cons_succ, List.getElem?_cons_zero]; rfl, by kernel_rfl, by kernel_rfl, by kernel_rfl, ?_⟩
                refine ⟨?_, fun _ _ _ h => h, Or.inl ⟨by rfl, ?_⟩, by assumption, ?_⟩
                rotate_left
                · (intro w hSw; (try dsimp only at hSw); go_simp; try with_reducible rfl)
                try simp only [Act.put, List.setIfInBounds_toArray, List.set_cons_zero, List.set_cons_succ]
                refine take_w 19 ⟨_, by simp only [List.getElem?_toArray, List.getElem?_cons_succ, List.getElem?_cons_zero]; rfl, by kernel_rfl, by kernel_rfl, by kernel_rfl, ?_⟩
                refine ⟨?_, fun _ _ _ h => h, Or.inl ⟨by rfl, ?_⟩, by assumption, ?_⟩
                rotate_left
                · (intro w hSw; (try dsimp only at hSw); go_simp; try with_reducible rfl)
                try simp only [Act.put, List.setIfInBounds_toArray, List.set_cons_zero, List.set_cons_succ]
                refine take_w 20 ⟨_, by simp only [List.getElem?_toArray, List.getElem?_cons_succ, List.getElem?_cons_zero]; rfl, by kernel_rfl, by kernel_rfl, by kernel_rfl, ?_⟩
                refine ⟨?_, fun _ _ _ h => h, Or.inl ⟨by rfl, ?_⟩, by assumption, ?_⟩
                rotate_left
                · (intro w hSw; (try dsimp only at hSw); go_simp; try with_reducible rfl)
                try simp only [Act.put, List.setIfInBounds_toArray, List.set_cons_zero, List.set_cons_succ]
                refine take_w 21 ⟨_, by simp only [List.getElem?_toArray, List.getElem?_cons_succ, List.getElem?_cons_zero]; rfl, by kernel_rfl, by kernel_rfl, by kernel_rfl, ?_⟩
                refine ⟨undef, fun _ _ _ h => h, Or.inr ⟨by rfl, rfl⟩, by assumption, ?_⟩
                try simp only [Act.put, List.setIfInBounds_toArray, List.set_cons_zero, List.set_cons_succ]
                refine take_w 22 ⟨_, by simp only [List.getElem?_toArray, List.getElem?_cons_succ, List.getElem?_cons_zero]; rfl, by kernel_rfl, by kernel_rfl, by kernel_rfl, ?_⟩
                refine ⟨undef, fun _ _ _ h => h, Or.inr ⟨by rfl, rfl⟩, by assumption, ?_⟩
                try simp only [Act.put, List.setIfInBounds_toArray, List.set_cons_zero, List.set_cons_succ]
                refine take_w 23 ⟨_, by simp only [List.getElem?_toArray, List.getElem?_cons_succ, List.getElem?_cons_zero]; rfl, by kernel_rfl, by kernel_rfl, by kernel_rfl, ?_⟩
                refine ⟨undef, fun _ _ _ h => h, Or.inr ⟨by rfl, rfl⟩, by assumption, ?_⟩
                try simp only [Act.put, List.setIfInBounds_toArray, List.set_cons_zero, List.set_cons_succ]
                refine take_w 24 ⟨_, by simp only [List.getElem?_toArray, List.getElem?_cons_succ, List.getElem?_cons_zero]; rfl, by kernel_rfl, by kernel_rfl, by kernel_rfl, ?_⟩
                refine ⟨undef, fun _ _ _ h => h, Or.inr ⟨by rfl, rfl⟩, by assumption, ?_⟩
                try simp only [Act.put, List.setIfInBounds_toArray, List.set_cons_zero, List.set_cons_succ]
                refine take_w 25 ⟨_, by simp only [List.getElem?_toArray, List.getElem?_cons_succ, List.getElem?_cons_zero]; rfl, by kernel_rfl, by kernel_rfl, by kernel_rfl, ?_⟩
                refine ⟨undef, fun _ _ _ h => h, Or.inr ⟨by rfl, rfl⟩, by assumption, ?_⟩
                try simp only [Act.put, List.setIfInBounds_toArray, List.set_cons_zero, List.set_cons_succ]
                refine take_w 26 ⟨_, by simp only [List.getElem?_toArray, List.getElem?_cons_succ, List.getElem?_cons_zero]; rfl, by kernel_rfl, by kernel_rfl, by kernel_rfl, ?_⟩
                refine ⟨undef, fun _ _ _ h => h, Or.inr ⟨by rfl, rfl⟩, by assumption, ?_⟩
                try simp only [Act.put, List.setIfInBounds_toArray, List.set_cons_zero, List.set_cons_succ]
                refine take_w 27 ⟨_, by simp only [List.getElem?_toArray, List.getElem?_cons_succ, List.getElem?_cons_zero]; rfl, by kernel_rfl, by kernel_rfl, by kernel_rfl, ?_⟩
                refine ⟨undef, fun _ _ _ h => h, Or.inr ⟨by rfl, rfl⟩, by assumption, ?_⟩
                try simp only [Act.put, List.setIfInBounds_toArray, List.set_cons_zero, List.set_cons_succ]
                refine take_w 28 ⟨_, by simp only [List.getElem?_toArray, List.getElem?_cons_succ, List.getElem?_cons_zero]; rfl, by kernel_rfl, by kernel_rfl, by kernel_rfl, ?_⟩
                refine ⟨undef, fun _ _ _ h => h, Or.inr ⟨by rfl, rfl⟩, by assumption, ?_⟩
                try simp only [Act.put, List.setIfInBounds_toArray, List.set_cons_zero, List.set_cons_succ]
                refine take_w 29 ⟨_, by simp only [List.getElem?_toArray, List.getElem?_cons_succ, List.getElem?_cons_zero]; rfl, by kernel_rfl, by kernel_rfl, by kernel_rfl, ?_⟩
                refine ⟨?_, fun _ _ _ h => h, Or.inl ⟨by rfl, ?_⟩, by assumption, ?_⟩
                rotate_left
                · (intro w hSw; (try dsimp only at hSw); go_simp; try with_reducible rfl)
                try simp only [Act.put, List.setIfInBounds_toArray, List.set_cons_zero, List.set_cons_succ]
                refine take_w 30 ⟨_, by simp only [List.getElem?_toArray, List.getElem?_cons_succ, List.getElem?_cons_zero]; rfl, by kernel_rfl, by kernel_rfl, by kernel_rfl, ?_⟩
                refine ⟨?_, fun _ _ _ h => h, Or.inl ⟨by rfl, ?_⟩, by assumption, ?_⟩
                rotate_left
                · (intro w hSw; (try dsimp only at hSw); go_simp; try with_reducible rfl)
                try simp only [Act.put, List.setIfInBounds_toArray, List.set_cons_zero, List.set_cons_succ]
                refine wpAnyH_done (by kernel_rfl) ?_ _
                have HJT : Hid (Below wE.heap.size wE wt) := Lib.hid hbt.2.2
                go_wp2_with fail
                go_roundw
                case rel => exact ⟨j + 1, by go_num, by omega, HJT⟩
                case measure => simp [intOf]; omega
              · have y6b : wP.cell? ⟨M, 6, none⟩ = some (.string ⟨#[]⟩) := y6
                clear y6
                by_cases hn0 : n9 = 0
                · have hnp : decide ((0 : Int) < (n9 : Int)) = false := decide_eq_false (by omega)
                  have hnp2 : decide (0 < n9) = false := decide_eq_false (by omega)
                  have hnp3 : ¬ 0 < n9 := by omega
                  clear hno hn0
                  go_quiet (fail)
                  obtain ⟨wQ, hq9⟩ : ∃ wx, wP.drewN nq = wx := ⟨_, rfl⟩
                  have hb9 : Below wP.heap.size wP wQ := by rw [← hq9]; exact (Below.refl _ _).drewN _
                  rw [hq9]
                  have HJQ : Hid (Below wE.heap.size wE wQ) := Lib.hid (HJP.out.trans (hb9.mono HJP.out.size))
                  replace y0 := (hb9.cell (World.block_lt_of_cell? wP _ y0)).trans y0
                  replace y6b := (hb9.cell (World.block_lt_of_cell? wP _ y6b)).trans y6b
                  clear hq9 hb9
                  go_wp2_with fail
                  go_quiet (fail)
                  obtain ⟨wR, hq9⟩ : ∃ wx, wQ.drewN nq = wx := ⟨_, rfl⟩
                  have hb9 : Below wQ.heap.size wQ wR := by rw [← hq9]; exact (Below.refl _ _).drewN _
                  rw [hq9]
                  have HJR : Hid (Below wE.heap.size wE wR) := Lib.hid (HJQ.out.trans (hb9.mono HJQ.out.size))
                  clear hq9 hb9
                  go_wp2_with fail
                  go_roundw
                  case rel => exact ⟨j + 1, by go_num, by omega, HJR⟩
                  case measure => simp [intOf]; omega
                · have hnp : decide ((0 : Int) < (n9 : Int)) = true := decide_eq_true (by omega)
                  have hnp2 : decide (0 < n9) = true := decide_eq_true (by omega)
                  have hnp3 : 0 < n9 := by omega
                  have hnl : decide (nw ≤ ls) = false := decide_eq_false (fun h => hno ⟨hn0, h⟩)
                  clear hno hn0
                  go_quiet (fail)
                  obtain ⟨wQ, hq9⟩ : ∃ wx, wP.drewN nq = wx := ⟨_, rfl⟩
                  have hb9 : Below wP.heap.size wP wQ := by rw [← hq9]; exact (Below.refl _ _).drewN _
                  rw [hq9]
                  have HJQ : Hid (Below wE.heap.size wE wQ) := Lib.hid (HJP.out.trans (hb9.mono HJP.out.size))
                  replace y0 := (hb9.cell (World.block_lt_of_cell? wP _ y0)).trans y0
                  replace y6b := (hb9.cell (World.block_lt_of_cell? wP _ y6b)).trans y6b
                  clear hq9 hb9
                  go_wp2_with fail
                  go_quiet (fail)
                  obtain ⟨wR, hq9⟩ : ∃ wx, wQ.drewN nq = wx := ⟨_, rfl⟩
                  have hb9 : Below wQ.heap.size wQ wR := by rw [← hq9]; exact (Below.refl _ _).drewN _
                  rw [hq9]
                  have HJR : Hid (Below wE.heap.size wE wR) := Lib.hid (HJQ.out.trans (hb9.mono HJQ.out.size))
                  clear hq9 hb9
                  go_wp2_with fail
                  go_roundw
                  case rel => exact ⟨j + 1, by go_num, by omega, HJR⟩
                  case measure => simp [intOf]; omega
            · have hTS := HE.out.below HJ.out
              have HM := Lib.hid ((HM1.out.below HJ.out).1)
              have HTS := Lib.hid hTS
              obtain ⟨vf, va', hA, hl⟩ := hTS.st.wo
              obtain ⟨fa, fc, hvf, -, -⟩ := hA.flight.form
              subst hvf
              have c67 : wr.cell? ⟨q, 67, none⟩ = some (.slice fa W2.flight.length fc) := (hA.cells 67 (by omega)).1
              have f67 := (hA.cells 67 (by omega)).2
              have hqr : q < wr.heap.size := hA.lt q hA.own
              have HA := Lib.hid hA
              have HL := Lib.hid hl
              have HFL : Hid (W2.flight.length + ms.length ≤ 100000) := Lib.hid (by
                have h1 := HRN.out.flen
                simp only [List.length_append] at h1
                omega)
              clear hTS hA hl
              go_wp2_with (first
                | (at_builtin; refine wpList_flow _ (by rfl) _ _ (by rfl) (by rfl) (by rfl) HA.out.flight HM.out HFL.out hqr ?_)
                | fail)
              intro v9 w9 hr9 hg9 hat9
              obtain ⟨a9, c9, hv9, -, -⟩ := hr9.form
              rw [List.length_append] at hv9
              have hbq : w9.heap[q]? = wr.heap[q]? := hg9.block q hqr fun e => (HA.out.flight.own q e.symm).2 rfl
              have d67 := cell_same hbq c67
              have e67 := frozen_same hbq f67
              have HEND : Hid (∃ col', TxS a0 a1 W col' (w9.setCell ⟨q, 67, none⟩ v9) b q B (txK L (k + 1)).1.1 (txK L (k + 1)).1.2 (txK L (k + 1)).2) := Lib.hid (by
                obtain ⟨col', h1, f⟩ := HTS.out.st.flowed HA.out HL.out hr9 hg9 hat9
                refine ⟨col', ?_⟩
                rw [HSU.out]
                exact HTS.out.fr h1 f (by decide))
              subst hv9
              clear hbq c67 f67 hr9 hg9 hat9
              go_wp2_with fail
              go_roundw
              case rel => exact ⟨k + 1, by go_num, by omega, HEND⟩
              case measure => simp [intOf]; omega
    · obtain rfl : k = L.length := by omega
      obtain ⟨col, hT⟩ := HS.out
      have hti := txK_ti L hL60 L.length (Nat.le_refl _)
      obtain ⟨W1, S1, was1, hX⟩ : ∃ W1 S1 was1, txK L L.length = ((W1, S1), was1) := ⟨_, _, _, rfl⟩
      rw [hX] at hT hti
      simp only at hT
      have HT := Lib.hid hT
      have HTI := Lib.hid hti
      have HBW : Hid (Below W.heap.size W wr) := Lib.hid hT.st.sn.lw.bel
      clear hT hti hX HS
      obtain ⟨wz, hwz⟩ : ∃ wz, wr = wz := ⟨_, rfl⟩
      rw [hwz] at HT HBW ⊢
      clear hwz
      go_upto_region 28 with fail
      go_loopw [16] (fun i wx => ∃ j : Nat, i = .int .i64 j ∧ 1 ≤ j ∧ j ≤ 65 ∧ Hid (Below wz.heap.size wz wx)) (fun i _ => 65 - (intOf i).toNat)
      case atStart => exact ⟨1, rfl, by omega, by omega, Lib.hid (Below.refl _ _)⟩
      case round =>
        obtain ⟨j, rfl, hj1, hj65, HJ⟩ := hrel
        by_cases hj : j ≤ 64
        · have hji : (j : Int) ≤ 64 := by omega
          have hj0 : (0 : Int) ≤ (j : Int) := by omega
          have hjl : (j : Int) < 65 := by omega
          obtain ⟨hs9, hhs⟩ : ∃ b, W1.p.has j = b := ⟨_, rfl⟩
          obtain ⟨tp9, htp⟩ : ∃ t, W1.p.text j = t := ⟨_, rfl⟩
          have d0 : wz.cell? ⟨q, 134 + j, none⟩ = some (.bool hs9) := by
            obtain ⟨vf, va, h⟩ := HT.out.st.wo.cell
            rw [(h (134 + j) (by omega)).1, wldV_has _ _ _ _ (by omega), hhs]
          have d1 : wz.cell? ⟨q, 199 + j, none⟩ = some (.string ⟨tp9.toArray⟩) := by
            obtain ⟨vf, va, h⟩ := HT.out.st.wo.cell
            rw [(h (199 + j) (by omega)).1, wldV_text _ _ _ _ (by omega), htp]
          have h0 := (HJ.out.cell (World.block_lt_of_cell? wz _ d0)).trans d0
          have HD1 := Lib.hid d1
          have HD2 : Hid (∀ n, n < 101 → wz.cell? ⟨B, j * 101 + n, none⟩ = some (.bool (was1 j n))) := Lib.hid (fun n hn => by rw [(HT.out.f (j * 101 + n) (by omega)).1, wasV_at _ hn])
          have hfnd : fndK hs9 tp9 (was1 j) 100 = true := fndK_all (by
            intro hh
            have h := HTI.out.last hj1 hj (by show W1.p.has j = true; rw [hhs]; exact hh)
            rw [← htp]
            exact h)
          have HF := Lib.hid hfnd
          clear d0 d1 hhs htp hfnd
          go_upto_region 32 with fail
          clear h0
          go_loopw [17, 18] (fun f i wx => ∃ k : Nat, f = .bool (fndK hs9 tp9 (was1 j) (k - 1)) ∧ i = .int .i64 k ∧ 1 ≤ k ∧ k ≤ 101 ∧ Hid (Below wz.heap.size wz wx)) (fun _ i _ => 101 - (intOf i).toNat)
          case atStart => exact ⟨1, by rw [fndK_zero], rfl, by omega, by omega, HJ⟩
          case round =>
            clear HJ
            obtain ⟨k, rfl, rfl, hk1, hk101, HJ⟩ := hrel
            by_cases hkl : k ≤ 100
            · have hki : (k : Int) ≤ 100 := by omega
              have hk0 : (0 : Int) ≤ (k : Int) := by omega
              have hkl2 : (k : Int) < 101 := by omega
              have hwr9 : IntKind.i64.wrap ((k : Int) - 1) = (k : Int) - 1 := IntWalk.i64_in _ (by omega)
              have e1 := (HJ.out.cell (World.block_lt_of_cell? wz _ (HD2.out k (by omega)))).trans (HD2.out k (by omega))
              have e2 := (HJ.out.cell (World.block_lt_of_cell? wz _ HD1.out)).trans HD1.out
              have HSU : Hid (fndK hs9 tp9 (was1 j) (k + 1 - 1) = (fndK hs9 tp9 (was1 j) (k - 1) || (was1 j k && decide (tp9 = txtOf (k - 1))))) := Lib.hid (fndK_succ hs9 tp9 (was1 j) hk1)
              obtain ⟨f9, hf9⟩ : ∃ b, fndK hs9 tp9 (was1 j) (k - 1) = b := ⟨_, rfl⟩
              obtain ⟨w9, hw9⟩ : ∃ b, was1 j k = b := ⟨_, rfl⟩
              rw [hf9] at HSU ⊢
              rw [hw9] at HSU e1
              clear hf9 hw9
              go_wp2_with fail
              cases f9
              · cases w9
                · go_quiet (fail)
                  have HBE : Hid (Below wz.heap.size wz (wr.drewN nq)) := Lib.hid (HJ.out.drewN _)
                  go_wp2_with fail
                  go_roundw
                  case rel => exact ⟨k + 1, by rw [HSU.out]; rfl, by go_num, by omega, by omega, HBE⟩
                  case measure => simp [intOf]; omega
                · have HTX9 : Hid (∀ wx, (wx.cell? ⟨B, j * 101 + k, none⟩ = some (.bool true) ∧ wx.cell? ⟨q, 199 + j, none⟩ = some (.string ⟨tp9.toArray⟩) ∧ Below wz.heap.size wz wx) → Calls Tryd.prog 13 #[.int .i64 ((k : Int) - 1)] wx fun e w' => e = .returned (.string ⟨(txtOf (k - 1)).toArray⟩) ∧ (w'.cell? ⟨B, j * 101 + k, none⟩ = some (.bool true) ∧ w'.cell? ⟨q, 199 + j, none⟩ = some (.string ⟨tp9.toArray⟩) ∧ Below wz.heap.size wz w')) := Lib.hid (fun wx hs => by
                    have h := text_any (k - 1) wx (by omega)
                    rw [show ((k - 1 : Nat) : Int) = (k : Int) - 1 by omega] at h
                    exact h.mono fun e w' h => ⟨h.1, (h.2.cell (World.block_lt_of_cell? wx _ hs.1)).trans hs.1, (h.2.cell (World.block_lt_of_cell? wx _ hs.2.1)).trans hs.2.1, below_then hs.2.2 h.2⟩)
                  have HS0 : Hid (wr.drew.cell? ⟨B, j * 101 + k, none⟩ = some (.bool true) ∧ wr.drew.cell? ⟨q, 199 + j, none⟩ = some (.string ⟨tp9.toArray⟩) ∧ Below wz.heap.size wz wr.drew) := Lib.hid ⟨e1, e2, HJ.out.drew⟩
                  refine wp_region_held_drew (S := (fun w' => w'.cell? ⟨B, j * 101 + k, none⟩ = some (.bool true) ∧ w'.cell? ⟨q, 199 + j, none⟩ = some (.string ⟨tp9.toArray⟩) ∧ Below wz.heap.size wz w')) (by kernel_rfl) ?_ (fun hHeld => ?_)
                  · ((try dsimp only); (first | (with_reducible assumption) | (with_reducible exact HS0.out)))
                  refine take_w 0 ⟨_, by simp only [List.getElem?_toArray, List.getElem?_cons_zero]; rfl, by kernel_rfl, by kernel_rfl, by kernel_rfl, ?_⟩
                  refine ⟨?_, fun _ _ _ h => h, Or.inl ⟨by rfl, ?_⟩, by assumption, ?_⟩
                  rotate_left
                  · (intro w hSw; (try dsimp only at hSw); go_simp; try with_reducible rfl)
                  try simp only [Act.put, List.setIfInBounds_toArray, List.set_cons_zero, List.set_cons_succ]
                  refine take_w 1 ⟨_, by simp only [List.getElem?_toArray, List.getElem?_cons_succ, List.getElem?_cons_zero]; rfl, by kernel_rfl, by kernel_rfl, by kernel_rfl, ?_⟩
                  refine ⟨?_, fun _ _ _ h => h, Or.inl ⟨by rfl, ?_⟩, by assumption, ?_⟩
                  rotate_left
                  · (intro w hSw; (try dsimp only at hSw); go_simp; try with_reducible rfl)
                  try simp only [Act.put, List.setIfInBounds_toArray, List.set_cons_zero, List.set_cons_succ]
                  refine take_w 2 ⟨_, by simp only [List.getElem?_toArray, List.getElem?_cons_succ, List.getElem?_cons_zero]; rfl, by kernel_rfl, by kernel_rfl, by kernel_rfl, ?_⟩
                  refine ⟨?_, fun _ _ _ h => h, Or.inl ⟨by rfl, ?_⟩, by assumption, ?_⟩
                  rotate_left
                  · (intro w hSw; (try dsimp only at hSw); go_simp; try with_reducible rfl)
                  try simp only [Act.put, List.setIfInBounds_toArray, List.set_cons_zero, List.set_cons_succ]
                  refine take_w 3 ⟨_, by simp only [List.getElem?_toArray, List.getElem?_cons_succ, List.getElem?_cons_zero]; rfl, by kernel_rfl, by kernel_rfl, by kernel_rfl, ?_⟩
                  refine ⟨?_, fun _ _ _ h => h, Or.inl ⟨by rfl, ?_⟩, by assumption, ?_⟩
                  rotate_left
                  · (intro w hSw; (try dsimp only at hSw); go_simp; try with_reducible rfl)
                  try simp only [Act.put, List.setIfInBounds_toArray, List.set_cons_zero, List.set_cons_succ]
                  refine take_w 4 ⟨_, by simp only [List.getElem?_toArray, List.getElem?_cons_succ, List.getElem?_cons_zero]; rfl, by kernel_rfl, by kernel_rfl, by kernel_rfl, ?_⟩
                  refine ⟨?_, fun _ _ _ h => h, Or.inl ⟨by rfl, ?_⟩, by assumption, ?_⟩
                  rotate_left
                  · (intro w hSw; (try dsimp only at hSw); go_simp; try with_reducible rfl)
                  try simp only [Act.put, List.setIfInBounds_toArray, List.set_cons_zero, List.set_cons_succ]
                  refine take_w 5 ⟨_, by simp only [List.getElem?_toArray, List.getElem?_cons_succ, List.getElem?_cons_zero]; rfl, by kernel_rfl, by kernel_rfl, by kernel_rfl, ?_⟩
                  refine ⟨?_, fun _ _ _ h => h, Or.inl ⟨by rfl, ?_⟩, by assumption, ?_⟩
                  rotate_left
                  · (intro w hSw; (try dsimp only at hSw); go_simp; try with_reducible rfl)
                  try simp only [Act.put, List.setIfInBounds_toArray, List.set_cons_zero, List.set_cons_succ]
                  refine take_w 6 ⟨_, by simp only [List.getElem?_toArray, List.getElem?_cons_succ, List.getElem?_cons_zero]; rfl, by kernel_rfl, by kernel_rfl, by kernel_rfl, ?_⟩
                  refine ⟨?_, fun _ _ _ h => h, Or.inl ⟨by rfl, ?_⟩, by assumption, ?_⟩
                  rotate_left
                  · (intro w hSw; (try dsimp only at hSw); go_simp; try with_reducible rfl)
                  try simp only [Act.put, List.setIfInBounds_toArray, List.set_cons_zero, List.set_cons_succ]
                  refine take_w 7 ⟨_, by simp only [List.getElem?_toArray, List.getElem?_cons_succ, List.getElem?_cons_zero]; rfl, by kernel_rfl, by kernel_rfl, by kernel_rfl, ?_⟩
                  refine ⟨?_, fun _ _ _ h => h, Or.inl ⟨by rfl, ?_⟩, by assumption, ?_⟩
                  rotate_left
                  · (intro w hSw; (try dsimp only at hSw); go_simp; try with_reducible rfl)
                  try simp only [Act.put, List.setIfInBounds_toArray, List.set_cons_zero, List.set_cons_succ]
                  refine take_w 8 ⟨_, by simp only [List.getElem?_toArray, List.getElem?_cons_succ, List.getElem?_cons_zero]; rfl, by kernel_rfl, by kernel_rfl, by kernel_rfl, ?_⟩
                  refine ⟨?_, fun _ _ _ h => h, Or.inl ⟨by rfl, ?_⟩, by assumption, ?_⟩
                  rotate_left
                  · (intro w hSw; (try dsimp only at hSw); go_simp; try with_reducible rfl)
                  try simp only [Act.put, List.setIfInBounds_toArray, List.set_cons_zero, List.set_cons_succ]
                  refine take_w 9 ⟨_, by simp only [List.getElem?_toArray, List.getElem?_cons_succ, List.getElem?_cons_zero]; rfl, by kernel_rfl, by kernel_rfl, by kernel_rfl, ?_⟩
                  refine ⟨?_, fun _ _ _ h => h, Or.inl ⟨by rfl, ?_⟩, by assumption, ?_⟩
                  rotate_left
                  · (intro w hSw; (try dsimp only at hSw); go_simp; try with_reducible rfl)
                  try simp only [Act.put, List.setIfInBounds_toArray, List.set_cons_zero, List.set_cons_succ]
                  refine take_w 10 ⟨_, by simp only [List.getElem?_toArray, List.getElem?_cons_succ, List.getElem?_cons_zero]; rfl, by kernel_rfl, by kernel_rfl, by kernel_rfl, ?_⟩
                  refine ⟨?_, fun _ _ _ h => h, Or.inl ⟨by rfl, ?_⟩, by assumption, ?_⟩
                  rotate_left
                  · (intro w hSw; (try dsimp only at hSw); go_simp; try with_reducible rfl)
                  try simp only [Act.put, List.setIfInBounds_toArray, List.set_cons_zero, List.set_cons_succ]
                  refine take_w 11 ⟨_, by simp only [List.getElem?_toArray, List.getElem?_cons_succ, List.getElem?_cons_zero]; rfl, by kernel_rfl, by kernel_rfl, by kernel_rfl, ?_⟩
                  refine ⟨?_, fun _ _ _ h => h, Or.inl ⟨by rfl, ?_⟩, by assumption, ?_⟩
                  rotate_left
                  · (intro w hSw; (try dsimp only at hSw); go_simp; try with_reducible rfl)
                  try simp only [Act.put, List.setIfInBounds_toArray, List.set_cons_zero, List.set_cons_succ]
                  refine take_w 12 ⟨_, by simp only [List.getElem?_toArray, List.getElem?_cons_succ, List.getElem?_cons_zero]; rfl, by kernel_rfl, by kernel_rfl, by kernel_rfl, ?_⟩
                  refine ⟨?_, fun _ _ _ h => h, Or.inl ⟨by rfl, ?_⟩, by assumption, ?_⟩
                  rotate_left
                  · (intro w hSw; (try dsimp only at hSw); go_simp; try with_reducible rfl)
                  try simp only [Act.put, List.setIfInBounds_toArray, List.set_cons_zero, List.set_cons_succ]
                  refine take_w 13 ⟨_, by simp only [List.getElem?_toArray, List.getElem?_cons_succ, List.getElem?_cons_zero]; rfl, by kernel_rfl, by kernel_rfl, by kernel_rfl, ?_⟩
                  refine ⟨?_, fun _ _ _ h => h, Or.inl ⟨by rfl, ?_⟩, by assumption, ?_⟩
                  rotate_left
                  · (intro w hSw; (try dsimp only at hSw); go_simp; try with_reducible rfl)
                  try simp only [Act.put, List.setIfInBounds_toArray, List.set_cons_zero, List.set_cons_succ]
                  refine take_w 14 ⟨_, by simp only [List.getElem?_toArray, List.getElem?_cons_succ, List.getElem?_cons_zero]; rfl, by kernel_rfl, by kernel_rfl, by kernel_rfl, ?_⟩
                  refine ⟨?_, fun _ _ _ h => h, Or.inl ⟨by rfl, ?_⟩, by assumption, ?_⟩
                  rotate_left
                  · (intro w hSw; (try dsimp only at hSw); go_simp; try with_reducible rfl)
                  try simp only [Act.put, List.setIfInBounds_toArray, List.set_cons_zero, List.set_cons_succ]
                  refine take_w 15 ⟨_, by simp only [List.getElem?_toArray, List.getElem?_cons_succ, List.getElem?_cons_zero]; rfl, by kernel_rfl, by kernel_rfl, by kernel_rfl, ?_⟩
                  refine ⟨?_, fun _ _ _ h => h, Or.inl ⟨by rfl, ?_⟩, by assumption, ?_⟩
                  rotate_left
                  · (intro w hSw; (try dsimp only at hSw); go_simp; try with_reducible rfl)
                  try simp only [Act.put, List.setIfInBounds_toArray, List.set_cons_zero, List.set_cons_succ]
                  refine take_w 16 ⟨_, by simp only [List.getElem?_toArray, List.getElem?_cons_succ, List.getElem?_cons_zero]; rfl, by kernel_rfl, by kernel_rfl, by kernel_rfl, ?_⟩
                  refine ⟨?_, fun _ _ _ h => h, Or.inl ⟨by rfl, ?_⟩, by assumption, ?_⟩
                  rotate_left
                  · (intro w hSw; (try dsimp only at hSw); go_simp; try with_reducible rfl)
                  try simp only [Act.put, List.setIfInBounds_toArray, List.set_cons_zero, List.set_cons_succ]
                  refine call_w 17 ⟨_, by simp only [List.getElem?_toArray, List.getElem?_cons_succ, List.getElem?_cons_zero]; rfl, by kernel_rfl, ?_, ?_⟩
                  · rfl
                  intro K hK
                  go_simp
                  (with_reducible (refine (HTX9.out _ (by assumption)).mono ?_)); rintro e wt ⟨rfl, hbt⟩
                  refine hK.out _ _ ?_ (fun hHeld => ?_)
                  · ((try dsimp only); (first | (with_reducible assumption) | (with_reducible exact HS0.out)))
                  clear hK K
                  try simp only [Act.put, List.setIfInBounds_toArray, List.set_cons_zero, List.set_cons_succ]
                  refine take_w 18 ⟨_, by simp only [List.getElem?_toArray, List.getElem?_cons_succ, List.getElem?_cons_zero]; rfl, by kernel_rfl, by kernel_rfl, by kernel_rfl, ?_⟩
                  refine ⟨?_, fun _ _ _ h => h, Or.inl ⟨by rfl, ?_⟩, by assumption, ?_⟩
                  rotate_left
                  · (intro w hSw; (try dsimp only at hSw); go_simp; try with_reducible rfl)
                  try simp only [Act.put, List.setIfInBounds_toArray, List.set_cons_zero, List.set_cons_succ]
                  refine take_w 19 ⟨_, by simp only [List.getElem?_toArray, List.getElem?_cons_succ, List.getElem?_cons_zero]; rfl, by kernel_rfl, by kernel_rfl, by kernel_rfl, ?_⟩
                  refine ⟨?_, fun _ _ _ h => h, Or.inl ⟨by rfl, ?_⟩, by assumption, ?_⟩
                  rotate_left
                  · (intro w hSw; (try dsimp only at hSw); go_simp; try with_reducible rfl)
                  try simp only [Act.put, List.setIfInBounds_toArray, List.set_cons_zero, List.set_cons_succ]
                  refine take_w 20 ⟨_, by simp only [List.getElem?_toArray, List.getElem?_cons_succ, List.getElem?_cons_zero]; rfl, by kernel_rfl, by kernel_rfl, by kernel_rfl, ?_⟩
                  refine ⟨?_, fun _ _ _ h => h, Or.inl ⟨by rfl, ?_⟩, by assumption, ?_⟩
                  rotate_left
                  · (intro w hSw; (try dsimp only at hSw); go_simp; try with_reducible rfl)
                  try simp only [Act.put, List.setIfInBounds_toArray, List.set_cons_zero, List.set_cons_succ]
                  refine take_w 21 ⟨_, by simp only [List.getElem?_toArray, List.getElem?_cons_succ, List.getElem?_cons_zero]; rfl, by kernel_rfl, by kernel_rfl, by kernel_rfl, ?_⟩
                  refine ⟨?_, fun _ _ _ h => h, Or.inl ⟨by rfl, ?_⟩, by assumption, ?_⟩
                  rotate_left
                  · (intro w hSw; (try dsimp only at hSw); go_simp; try with_reducible rfl)
                  try simp only [Act.put, List.setIfInBounds_toArray, List.set_cons_zero, List.set_cons_succ]
                  refine wpAnyH_done (by kernel_rfl) ?_ _
                  have HBE : Hid (Below wz.heap.size wz wt) := Lib.hid hbt.2.2
                  go_wp2_with fail
                  go_roundw
                  case rel => exact ⟨k + 1, by rw [HSU.out]; exact congrArg Value.bool (Bool.eq_iff_iff.2 (by simp)), by go_num, by omega, by omega, HBE⟩
                  case measure => simp [intOf]; omega
              · go_quiet (fail)
                have HBE : Hid (Below wz.heap.size wz (wr.drewN nq)) := Lib.hid (HJ.out.drewN _)
                go_wp2_with fail
                go_roundw
                case rel => exact ⟨k + 1, by rw [HSU.out]; rfl, by go_num, by omega, by omega, HBE⟩
                case measure => simp [intOf]; omega
            · obtain rfl : k = 101 := by omega
              rw [HF.out]
              go_wp2_with fail
              go_roundw
              case rel => exact ⟨j + 1, by go_num, by omega, by omega, HJ⟩
              case measure => simp [intOf]; omega
        · obtain rfl : j = 65 := by omega
          go_wp2_with fail
          have HEND : Hid (Below W.heap.size W wr) := Lib.hid (HBW.out.trans (HJ.out.mono HBW.out.size))
          go_ret
          exact ⟨rfl, HEND.out⟩
end Go.Proofs.YtefloieanpgnmaaDoor
/- SenderTexts: the walk, at the arguments as they lie. -/
namespace Go.Proofs.YtefloieanpgnmaaDoor
open Go.RowKit

theorem lawTexts_raw (A : Option Addr) (n c : Nat) {a0 a1 : Addr} (W : World) (h : RawStps W A n c) (S : Sents a0 a1 W) (H : ShiftsAt W) :
    Calls Tryd.prog 4 #[.slice A n c] W fun e w' => e = .returned (.bool true) ∧ Below W.heap.size W w' := by
  obtain ⟨l, h1, h2⟩ := ops_of h
  exact lawTexts_any _ l W S H h1 (fun o ho => h2 o ho)
end Go.Proofs.YtefloieanpgnmaaDoor

/- The walk of one law of the sender. Conditions: those that each theorem names. -/
import Derived.Test.YtogjgibaolppfaaGreatDoorK29
import Derived.Test.YtogjgibaolppfaaGreatDoorK27
import Derived.Test.YtogjgibaolppfaaGreatDoorK26
import Derived.Laws.MakeOwn
import Derived.Deep.AppendLies
import Derived.RegionTactic
import Derived.Deep.RegionLaw
/- A fresh slice of parts, and appends of parts at a step of a region. -/
namespace Go.Proofs.YtogjgibaolppfaaGreatDoor
open Go.RowKit Go.Sort Go.Proofs Go.Maps

def mkC : Array Value := madeCells (Value.agg #[.int .i64 0, .slice none 0 0, .bool false]).cells 24
theorem mkC_size : mkC.size = 8 * 3 := by kernel_rfl
theorem make_parts (W : World) : (Instr.makeSlice 26 (.int .i64 0) (.int .i64 8)).run Tryz.prog W = .ok (.slice (some ⟨W.heap.size, 0, none⟩) 0 8) (W.alloc (.cells mkC 53)) := by
  obtain ⟨i0, hi, hz0, hz1, hz2⟩ := info_parts infoPart
  have := run_make W 26 53 i0 _ Tryz.underlying26 hi hz0 .i64 .i64 0 8 (by omega) (by omega) (by rw [hz2]; decide) (by omega)
  rw [hz1] at this
  exact this
theorem parts_made {base : Nat} (X : World) (hb : base ≤ X.heap.size) : PartsR base (X.alloc (.cells mkC 53)) (.slice (some ⟨X.heap.size, 0, none⟩) 0 8) [] :=
  ⟨World.ownsRow_made X mkC 8 hb (by unfold maxLen; omega) mkC_size, fun x hx => by cases hx⟩
theorem parts_app {base : Nat} (X : World) {P Q : List Pv} {v : Value} (hP : PartsR base X v P) {ad : Addr} {c : Nat} (hnews : ∀ j u, (Q.flatMap prtC)[j]? = some u → X.cell? (ad.add j) = some u) (hw : ∀ y ∈ Q, WordsO X y.2 y.1.words) (hbase : base ≤ X.heap.size) (hlen : P.length + Q.length ≤ 1000) :
    ∃ a' c' w', (Builtin.append_ #[26, 26] 26 #[v, .slice (some ad) Q.length c]).run Tryz.prog X = .ok (.slice a' (P.length + Q.length) c') w' ∧ PartsR base w' (.slice a' (P.length + Q.length) c') (P ++ Q) ∧ Below base X w' := by
  obtain ⟨i0, hi, hz0, hz1, hz2⟩ := info_parts infoPart
  obtain ⟨v', w', hr, h1, h2, -⟩ := run_append_own (P := Tryz.prog) X base 26 26 53 i0 _ 3 40 Tryz.underlying26 hi hz0 hz1 hz2 rfl (by decide) v P.length (P.flatMap prtC) hP.1 ad Q.length c (Q.flatMap prtC) (prtC_len Q) hnews (parts_one hw) (by unfold maxLen; omega) (by omega) hbase
  obtain ⟨a', c', hv⟩ := row_form h1
  subst hv
  have hPR := hP.cat hw h1 h2
  exact ⟨a', c', w', hr, by rw [← List.length_append] at hPR ⊢; exact hPR, (Below.refl base X).grown h2 hbase (fun j e => (hP.1.lt j e).1)⟩
theorem op_parts {o : Oper} {a : Act} {K : Act → World → Prop} {Qx : Exit → Act → World → Prop} (X : World) (s x : Operand)
    (ho : o.op = .call { callee := .builtin .append, args := #[s, x], argTypes := #[26, 26] }) (hty : o.type = 26)
    {base : Nat} (P Q : List Pv) (M N : Nat) (hM : Q.length = M) (hN : P.length + Q.length = N) {v : Value} (hs : a.eval s = v) (hP : PartsR base X v P) {ad : Addr} {c : Nat} (hx : a.eval x = .slice (some ad) M c) (hnews : ∀ j u, (Q.flatMap prtC)[j]? = some u → X.cell? (ad.add j) = some u) (hw : ∀ y ∈ Q, WordsO X y.2 y.1.words) (hbase : base ≤ X.heap.size) (hlen : P.length + Q.length ≤ 1000)
    (h : ∀ a' c' w', PartsR base w' (.slice a' N c') (P ++ Q) → Below base X w' → K (a.put o.dst (.slice a' N c')) w') : o.wp Tryz.prog a X K Qx := by
  subst hM
  subst hN
  obtain ⟨a', c', w', hr, h2, h3⟩ := parts_app X hP hnews hw hbase hlen (c := c)
  unfold Oper.wp execOp
  simp only [ho, hty, resolve, invoke, builtin, Sem.run_bind, Sem.run_pure, Result.andThen_ok, List.map_toArray, List.map_cons, List.map_nil, hs, hx, hr]
  exact h a' c' w' h2 h3
theorem step_parts {ops : Array Oper} {o : Oper} {a : Act} {K : Act → World → Prop} {Qx : Exit → Act → World → Prop} {E : Prop} (X : World) (hgd : o.guard = none) (s x : Operand)
    (ho : o.op = .call { callee := .builtin .append, args := #[s, x], argTypes := #[26, 26] }) (hty : o.type = 26)
    {base : Nat} (P Q : List Pv) (M N : Nat) (hM : Q.length = M) (hN : P.length + Q.length = N) {v : Value} (hs : a.eval s = v) (hP : PartsR base X v P) {ad : Addr} {c : Nat} (hx : a.eval x = .slice (some ad) M c) (hnews : ∀ j u, (Q.flatMap prtC)[j]? = some u → X.cell? (ad.add j) = some u) (hw : ∀ y ∈ Q, WordsO X y.2 y.1.words) (hbase : base ≤ X.heap.size) (hlen : P.length + Q.length ≤ 1000)
    (h : ∀ a' c' w', PartsR base w' (.slice a' N c') (P ++ Q) → Below base X w' → K (a.put o.dst (.slice a' N c')) w') :
    if Region.wanted o (yielded ops a.tmps) = true then Oper.wp Tryz.prog o a X K Qx else E := by
  have hw' : Region.wanted o (yielded ops a.tmps) = true := by simp [Region.wanted, hgd]
  rw [if_pos hw']
  exact op_parts X s x ho hty P Q M N hM hN hs hP hx hnews hw hbase hlen h
end Go.Proofs.YtogjgibaolppfaaGreatDoor
/- The law SearchPartition, walked. -/
namespace Go.Proofs.YtogjgibaolppfaaGreatDoor
open Go.RowKit Go.Sort Go.Proofs Go.Maps Go.Lib

theorem parts_app2 {base : Nat} (X : World) {P Q : List Pv} {v : Value} (hP : PartsR base X v P) {ad : Addr} {c : Nat} (hnews : ∀ j u, (Q.flatMap prtC)[j]? = some u → X.cell? (ad.add j) = some u) (hw : ∀ y ∈ Q, WordsO X y.2 y.1.words) (hbase : base ≤ X.heap.size) (hlen : P.length + Q.length ≤ 1000) :
    ∃ a' c' w', (Builtin.append_ #[26, 26] 26 #[v, .slice (some ad) Q.length c]).run Tryz.prog X = .ok (.slice a' (P.length + Q.length) c') w' ∧ PartsR base w' (.slice a' (P.length + Q.length) c') (P ++ Q) ∧ Below base X w' ∧ ∀ k, k < X.heap.size → some k ≠ v.ownBlock → w'.heap[k]? = X.heap[k]? := by
  obtain ⟨i0, hi, hz0, hz1, hz2⟩ := info_parts infoPart
  obtain ⟨v', w', hr, h1, h2, -⟩ := run_append_own (P := Tryz.prog) X base 26 26 53 i0 _ 3 40 Tryz.underlying26 hi hz0 hz1 hz2 rfl (by decide) v P.length (P.flatMap prtC) hP.1 ad Q.length c (Q.flatMap prtC) (prtC_len Q) hnews (parts_one hw) (by unfold maxLen; omega) (by omega) hbase
  obtain ⟨a', c', hv⟩ := row_form h1
  subst hv
  have hPR := hP.cat hw h1 h2
  exact ⟨a', c', w', hr, by rw [← List.length_append] at hPR ⊢; exact hPR, (Below.refl base X).grown h2 hbase (fun j e => (hP.1.lt j e).1), fun k hk hn => h2.block k hk hn⟩
theorem op_parts2 {o : Oper} {a : Act} {K : Act → World → Prop} {Qx : Exit → Act → World → Prop} (X : World) (s x : Operand)
    (ho : o.op = .call { callee := .builtin .append, args := #[s, x], argTypes := #[26, 26] }) (hty : o.type = 26)
    {base : Nat} (P Q : List Pv) (M N : Nat) (hM : Q.length = M) (hN : P.length + Q.length = N) {v : Value} (hs : a.eval s = v) (hP : PartsR base X v P) {ad : Addr} {c : Nat} (hx : a.eval x = .slice (some ad) M c) (hnews : ∀ j u, (Q.flatMap prtC)[j]? = some u → X.cell? (ad.add j) = some u) (hw : ∀ y ∈ Q, WordsO X y.2 y.1.words) (hbase : base ≤ X.heap.size) (hlen : P.length + Q.length ≤ 1000)
    (h : ∀ a' c' w', PartsR base w' (.slice a' N c') (P ++ Q) → Below base X w' → (∀ k, k < X.heap.size → some k ≠ v.ownBlock → w'.heap[k]? = X.heap[k]?) → K (a.put o.dst (.slice a' N c')) w') : o.wp Tryz.prog a X K Qx := by
  subst hM
  subst hN
  obtain ⟨a', c', w', hr, h2, h3, h4⟩ := parts_app2 X hP hnews hw hbase hlen (c := c)
  unfold Oper.wp execOp
  simp only [ho, hty, resolve, invoke, builtin, Sem.run_bind, Sem.run_pure, Result.andThen_ok, List.map_toArray, List.map_cons, List.map_nil, hs, hx, hr]
  exact h a' c' w' h2 h3 h4
theorem step_parts2 {ops : Array Oper} {o : Oper} {a : Act} {K : Act → World → Prop} {Qx : Exit → Act → World → Prop} {E : Prop} (X : World) (hgd : o.guard = none) (s x : Operand)
    (ho : o.op = .call { callee := .builtin .append, args := #[s, x], argTypes := #[26, 26] }) (hty : o.type = 26)
    {base : Nat} (P Q : List Pv) (M N : Nat) (hM : Q.length = M) (hN : P.length + Q.length = N) {v : Value} (hs : a.eval s = v) (hP : PartsR base X v P) {ad : Addr} {c : Nat} (hx : a.eval x = .slice (some ad) M c) (hnews : ∀ j u, (Q.flatMap prtC)[j]? = some u → X.cell? (ad.add j) = some u) (hw : ∀ y ∈ Q, WordsO X y.2 y.1.words) (hbase : base ≤ X.heap.size) (hlen : P.length + Q.length ≤ 1000)
    (h : ∀ a' c' w', PartsR base w' (.slice a' N c') (P ++ Q) → Below base X w' → (∀ k, k < X.heap.size → some k ≠ v.ownBlock → w'.heap[k]? = X.heap[k]?) → K (a.put o.dst (.slice a' N c')) w') :
    if Region.wanted o (yielded ops a.tmps) = true then Oper.wp Tryz.prog o a X K Qx else E := by
  have hw' : Region.wanted o (yielded ops a.tmps) = true := by simp [Region.wanted, hgd]
  rw [if_pos hw']
  exact op_parts2 X s x ho hty P Q M N hM hN hs hP hx hnews hw hbase hlen h
theorem IX.idsC {W : World} {p : Nat} {D : List Dc} (h : IX W p D) (hE : Env W) (v : Value) (l : List Prt) (hl : PartsAt W v l) (hv : ∀ p ∈ l, VocP p) (h1 : 1 ≤ l.length) (h8 : l.length ≤ 8) :
    Calls Tryz.prog 29 #[.pointer (some ⟨p, 0, none⟩), v] W fun e w' => ∃ u, e = .returned (.tuple #[u, .bool true]) ∧ IntsR W.heap.size w' u ((resD D l).map (·.1)) ∧ Below W.heap.size W w' := by
  obtain ⟨S, Q, N, k1, k2⟩ := h
  exact ids_any W k1 k2 hE v l hl hv h1 h8
theorem intsL_of {base : Nat} {W : World} {v : Value} {l : List Int} (h : IntsR base W v l) (_hl : l.length ≤ 1099511627776) (hx : ∀ x ∈ l, I64 x) : IntsL W v l := by
  obtain ⟨a, c, hv, hle, hm, hc⟩ : ∃ a c, v = .slice a l.length c ∧ l.length ≤ c ∧ c ≤ 9223372036854775807 ∧ ∀ j (h : j < l.length), ∃ b off, a = some ⟨b, off, none⟩ ∧ W.cell? ⟨b, off + j, none⟩ = some (.int .i64 l[j]) := by
    rcases h.2 with ⟨rfl, h0⟩ | ⟨g, cap, cur, rfl, _, hg, hc, hm, _⟩
    · exact ⟨none, 0, by rw [h0], by omega, by omega, fun j hj => by omega⟩
    · refine ⟨some ⟨g, 0, none⟩, cap, rfl, hc, by unfold maxLen at hm; exact hm, fun j hj => ⟨g, 0, rfl, ?_⟩⟩
      have := World.ownsRow.cells h (g := g) rfl j (.int .i64 l[j]) (by rw [List.getElem?_map, List.getElem?_eq_getElem hj]; rfl)
      have ha : (⟨g, 0, none⟩ : Addr).add j = ⟨g, 0 + j, none⟩ := by unfold Addr.add; by_cases h0 : j = 0 <;> simp [h0]
      rw [ha] at this
      exact this
  exact ⟨a, c, hv, hle, hm, fun j hj => by
    obtain ⟨b, off, h1, h2⟩ := hc j hj
    exact ⟨b, off, h1, h2, hx _ (List.getElem_mem hj)⟩⟩
/-- the block of the additional part -/
structure PB (b : Nat) (w wx : World) (k : Int) (u : Value) (ng : Bool) : Prop where
  blk : wx.heap[b]? = some (.cells #[.int .i64 k, u, .bool ng] 53 (0, 0))
  lt : w.heap.size ≤ b
  bel : Below w.heap.size w wx
theorem PB.size {b : Nat} {w wx : World} {k : Int} {u : Value} {ng : Bool} (h : PB b w wx k u ng) : b < wx.heap.size := (Array.getElem?_eq_some_iff.1 h.blk).1
theorem PB.below {b : Nat} {w wx wy : World} {k : Int} {u : Value} {ng : Bool} (h : PB b w wx k u ng) (hb : Below wx.heap.size wx wy) : PB b w wy k u ng :=
  ⟨(hb.block _ h.size).trans h.blk, h.lt, h.bel.trans (hb.mono h.bel.size)⟩
theorem PB.cells {b : Nat} {w wx : World} {k : Int} {u : Value} {ng : Bool} (h : PB b w wx k u ng) :
    wx.cell? ⟨b, 0, none⟩ = some (.int .i64 k) ∧ wx.cell? ⟨b, 1, none⟩ = some u ∧ wx.cell? ⟨b, 2, none⟩ = some (.bool ng) ∧ wx.frozen? ⟨b, 2, none⟩ = false :=
  ⟨by rw [Lib.cell_of_heap h.blk]; rfl, by rw [Lib.cell_of_heap h.blk]; rfl, by rw [Lib.cell_of_heap h.blk]; rfl, Lib.frozen_of_heap h.blk 2⟩
theorem PB.set2 {b : Nat} {w wx : World} {k : Int} {u : Value} {ng : Bool} (h : PB b w wx k u ng) (ng' : Bool) : PB b w (wx.setCell ⟨b, 2, none⟩ (.bool ng')) k u ng' :=
  ⟨by simp [World.setCell, Array.getElem?_modify, h.blk], h.lt, h.bel.setCell h.lt _⟩
set_option maxRecDepth 100000 in
set_option maxHeartbeats 8000000 in
theorem lawPart2_any (v : Value) (ds : List Int) (u : Value) (xs : List Int) (n : Int) (hn : I64 n) (w : World) (hv : IntsL w v ds) (hu : IntsL w u xs) (hE : Env w) :
    Calls Tryz.prog 6 #[v, u, .int .i64 n] w fun e w' => e = .returned (.bool true) ∧ Below w.heap.size w w' := by
  have HS := Lib.hid (sane_any w hE)
  have HE := Lib.hid hE
  have HV := Lib.hid hv
  have HU := Lib.hid hu
  obtain ⟨av, cv, hve, hvl, hvm, -⟩ := hv
  subst hve
  have hdm : ds.length ≤ 9223372036854775807 := Nat.le_trans hvl hvm
  obtain ⟨au, cu, hue, -⟩ := hu
  subst hue
  clear hE hvl hvm
  go_enter Tryz.func6, Tryz.ntmps6
  go_upto_region 4 with (first
    | (go_at_call 12; (with_reducible (refine HS.out.mono ?_)); rintro e w1 ⟨rfl, hb⟩; have HB1 := Lib.hid hb; clear hb; have HMA := Lib.hid (made_law _ ds w1 (HV.out.below HB1.out)))
    | (go_at_call 19; (with_reducible (refine HMA.out.mono ?_)); rintro e w2 ⟨p, y, rfl, hI, hb⟩; have HI2 := Lib.hid hI; have HB2 := Lib.hid (bthen HB1.out hb); clear hI hb; have HPS := Lib.hid (parts_law _ xs w2 (HU.out.below HB2.out)))
    | (go_at_call 15; (with_reducible (refine HPS.out.mono ?_)); rintro e w3 ⟨g, c, P, rfl, hP, hL, hb⟩)
    | fail)
  have HB3 := Lib.hid (bthen HB2.out hb)
  have HI3 := Lib.hid (HI2.out.below hb)
  have HP3 := Lib.hid hP
  have HLP := Lib.hid hL
  have hP1 : 1 ≤ P.length := by have := hL.pos; rwa [List.length_map] at this
  have hP6 : P.length ≤ 6 := by have := hL.six; rwa [List.length_map] at this
  have HPT := Lib.hid (lawPart_any n hn w3)
  clear hP hL hb HS HMA HPS HB1 HB2 HI2
  go_upto_region 5 with (first
    | (go_at_call 28; (with_reducible (refine HPT.out.mono ?_)); rintro e w4 ⟨hb4, pt, ua, un, uc, rfl, hvp, hwp⟩; have HB4 := Lib.hid hb4; have HVP := Lib.hid hvp; have HWP := Lib.hid hwp; clear hb4 hvp hwp)
    | fail)
  obtain ⟨w5, hw5⟩ : ∃ w5, w4.alloc (.cells #[.int .i64 (pt.kind : Int), .slice ua un uc, .bool pt.neg] 53) = w5 := ⟨_, rfl⟩
  have HPB5 : Hid (PB w4.heap.size w4 w5 (pt.kind : Int) (.slice ua un uc) pt.neg) := Lib.hid ⟨by rw [← hw5]; exact heap_alloc_new w4 _, Nat.le_refl _, by rw [← hw5]; exact (Below.refl _ w4).alloc (Nat.le_refl _) _⟩
  rw [hw5]
  obtain ⟨bp, hbp⟩ : ∃ bp, w4.heap.size = bp := ⟨_, rfl⟩
  rw [hbp] at HPB5 ⊢
  have HP4 := Lib.hid (HP3.out.below HB4.out)
  have HI4 := Lib.hid (HI3.out.below HB4.out)
  have HW4 := Lib.hid (bthen HB3.out HB4.out)
  obtain ⟨D, hD⟩ : ∃ D, mD ds (min ds.length 12) = D := ⟨_, rfl⟩
  rw [hD] at HI4
  have HID : Hid (∀ (W : World) (v : Value) (l' : List Prt), Below w4.heap.size w4 W → PartsAt W v l' → (∀ p ∈ l', VocP p) → 1 ≤ l'.length → l'.length ≤ 8 →
      Calls Tryz.prog 29 #[.pointer (some ⟨p, 0, none⟩), v] W fun e w' => ∃ u, e = .returned (.tuple #[u, .bool true]) ∧ IntsR W.heap.size w' u ((resD D l').map (·.1)) ∧ Below W.heap.size W w') :=
    Lib.hid (fun W v l' hW hl hv h1 h8 => (HI4.out.below hW).idsC (HE.out.below (HW4.out.trans (hW.mono HW4.out.size))) v l' hl hv h1 h8)
  have hasc := HI4.out.asc
  have hids := HI4.out.ids
  obtain ⟨l, hl⟩ : ∃ l, P.map (·.1) = l := ⟨_, rfl⟩
  have hll : l.length = P.length := by rw [← hl, List.length_map]
  rw [hl] at HLP
  have HP4A : Hid (∀ W, Below w4.heap.size w4 W → PartsAt W (.slice (some ⟨g, 0, none⟩) P.length c) l) := Lib.hid (fun W hW => by rw [← hl]; exact (HP4.out.below hW).at)
  have HI5 := Lib.hid (HID.out w5 _ l HPB5.out.bel (HP4A.out w5 HPB5.out.bel) HLP.out.voc (by omega) (by omega))
  have HSP := Lib.hid (fun id => in_split hasc l pt id)
  have HCS := Lib.hid (count_split l pt D)
  have HASC := Lib.hid hasc
  have HIDS := Lib.hid hids
  clear hw5 hD HP3 HI3 HB3 HB4 HPT hasc hids HI4
  go_upto_region 6 with (first
    | (go_at_call 29; (with_reducible (refine HI5.out.mono ?_)); rintro e w6 ⟨u1, rfl, hA, hb⟩)
    | fail)
  have HPB6 := Lib.hid (HPB5.out.below hb)
  have HA6 := Lib.hid hA
  obtain ⟨a1, c1, hu1⟩ := row_form hA
  subst hu1
  obtain ⟨A, hA0⟩ : ∃ A, (resD D l).map (·.1) = A := ⟨_, rfl⟩
  have HAE := Lib.hid hA0
  rw [hA0] at HA6 ⊢
  have hs6 : w5.heap.size ≤ w6.heap.size := hb.size
  have hs5 := HPB5.out.size
  clear hA hb hA0 HI5 HPB5
  obtain ⟨d0, d1, d2, d3⟩ := HPB6.out.cells
  -- REGIONS
  go_upto_region 7 with fail
  have HPB7 : Hid (PB bp w4 (w6.setCell ⟨bp, 2, none⟩ (.bool false)) (pt.kind : Int) (.slice ua un uc) false) := Lib.hid (HPB6.out.set2 false)
  have HA7 : Hid (IntsR w5.heap.size (w6.setCell ⟨bp, 2, none⟩ (.bool false)) (.slice a1 A.length c1) A) := Lib.hid (row_stay HA6.out fun j hj => Below.heap_setCell w6 ⟨bp, 2, none⟩ _ j (by have := (HA6.out.lt j hj).1; simp; omega))
  clear HA6 d0 d1 d2 d3
  obtain ⟨w7, hw7⟩ : ∃ w7, w6.setCell ⟨bp, 2, none⟩ (.bool false) = w7 := ⟨_, rfl⟩
  rw [hw7] at HPB7 HA7 ⊢
  obtain ⟨e0, e1, e2, -⟩ := HPB7.out.cells
  have e0' : w7.drew.cell? ⟨bp, 0, none⟩ = some (.int .i64 (pt.kind : Int)) := e0
  have hbp7 := HPB7.out.size
  have h47 : Hid (w4.heap.size ≤ w7.heap.size) := Lib.hid HPB7.out.bel.size
  have Z1 : Hid (Below w7.heap.size w7 (w7.alloc (.cells mkC 53)).drew) := Lib.hid (((Below.refl _ _).alloc (Nat.le_refl _) _).drew)
  have Z2 : Hid (Below w7.heap.size w7 ((w7.alloc (.cells mkC 53)).alloc (.cells #[.int .i64 (pt.kind : Int), .slice ua un uc, .bool false] 53)).drew) := Lib.hid ((((Below.refl _ w7).alloc (Nat.le_refl _) _).alloc (by simp) _).drew)
  have Z3 : Hid (Below w7.heap.size w7 ((w7.alloc (.cells #[.int .i64 (pt.kind : Int), .slice ua un uc, .bool false] 53)).alloc (.cells mkC 53)).drew) := Lib.hid ((((Below.refl _ w7).alloc (Nat.le_refl _) _).alloc (by simp) _).drew)
  have Y1 := Lib.hid (HPB7.out.bel.trans (Z1.out.mono h47.out))
  have Y2 := Lib.hid (HPB7.out.bel.trans (Z2.out.mono h47.out))
  have Y3 := Lib.hid (HPB7.out.bel.trans (Z3.out.mono h47.out))
  have M1 := Lib.hid (parts_made w7 (Nat.le_refl _))
  have M2 : Hid (PartsR w7.heap.size ((w7.alloc (.cells mkC 53)).alloc (.cells #[.int .i64 (pt.kind : Int), .slice ua un uc, .bool false] 53)) (.slice (some ⟨w7.heap.size, 0, none⟩) 0 8) []) := Lib.hid (M1.out.below ((Below.refl _ _).alloc (Nat.le_refl _) _))
  have M3 : Hid (PartsR w7.heap.size ((w7.alloc (.cells #[.int .i64 (pt.kind : Int), .slice ua un uc, .bool false] 53)).alloc (.cells mkC 53)) (.slice (some ⟨w7.heap.size + 1, 0, none⟩) 0 8) []) := Lib.hid (by
    have := parts_made (base := w7.heap.size) (w7.alloc (.cells #[.int .i64 (pt.kind : Int), .slice ua un uc, .bool false] 53)) (by simp)
    rwa [show (w7.alloc (.cells #[.int .i64 (pt.kind : Int), .slice ua un uc, .bool false] 53)).heap.size = w7.heap.size + 1 by simp] at this)
  have K2 : Hid (((w7.alloc (.cells mkC 53)).alloc (.cells #[.int .i64 (pt.kind : Int), .slice ua un uc, .bool false] 53)).heap[w7.heap.size + 1]? = some (.cells #[.int .i64 (pt.kind : Int), .slice ua un uc, .bool false] 53 (0, 0))) := Lib.hid (by
    have := heap_alloc_new (w7.alloc (.cells mkC 53)) (.cells #[.int .i64 (pt.kind : Int), .slice ua un uc, .bool false] 53)
    rwa [show (w7.alloc (.cells mkC 53)).heap.size = w7.heap.size + 1 by simp] at this)
  have K3 : Hid (((w7.alloc (.cells #[.int .i64 (pt.kind : Int), .slice ua un uc, .bool false] 53)).alloc (.cells mkC 53)).heap[w7.heap.size]? = some (.cells #[.int .i64 (pt.kind : Int), .slice ua un uc, .bool false] 53 (0, 0))) := Lib.hid ((heap_alloc_old _ _ (by simp)).trans (heap_alloc_new _ _))
  have HQV : Hid (∀ p ∈ l ++ [{ pt with neg := false }], VocP p) := Lib.hid (fun p hp => by
    rcases List.mem_append.1 hp with h | h
    · exact HLP.out.voc p h
    · rw [List.mem_singleton.1 h]; exact HVP.out.not false)
  have hmk := make_parts
  obtain ⟨B7, hB7⟩ : ∃ B, (resD D (l ++ [{ pt with neg := false }])).map (·.1) = B := ⟨_, rfl⟩
  have HBE7 := Lib.hid hB7
  have HIB : Hid (∀ (W : World) (v : Value), Below w4.heap.size w4 W → PartsAt W v (l ++ [{ pt with neg := false }]) → Calls Tryz.prog 29 #[.pointer (some ⟨p, 0, none⟩), v] W fun e w' => ∃ u, e = .returned (.tuple #[u, .bool true]) ∧ IntsR W.heap.size w' u B7 ∧ Below W.heap.size W w') := Lib.hid (fun W v hW hx => by
    have := HID.out W v _ hW hx HQV.out (by simp) (by simp; omega)
    rw [hB7] at this
    exact this)
  clear hw7 hB7
  go_cut [14, 15] (fun va vb wx => ∃ a' c', va = .slice a' B7.length c' ∧ vb = .bool true ∧ IntsR w7.heap.size wx va B7 ∧ Below w7.heap.size w7 wx)
  case first =>
    go_region_law (first
      | (refine step_parts2 _ rfl (.tmp 38) (.tmp 39) rfl rfl (base := w7.heap.size) [] P P.length P.length rfl (by simp) rfl (by first | exact M1.out | exact M2.out | exact M3.out) rfl (by first | exact (HP4.out.below Y1.out).1.cells rfl | exact (HP4.out.below Y2.out).1.cells rfl | exact (HP4.out.below Y3.out).1.cells rfl) (by first | exact (HP4.out.below Y1.out).2 | exact (HP4.out.below Y2.out).2 | exact (HP4.out.below Y3.out).2) (by first | exact Z1.out.size | exact Z2.out.size | exact Z3.out.size) (by simp; omega) ?_; intro a1' c1' wB hPB hbB hkB; have hYB : Below w4.heap.size w4 wB := (by first | exact Y1.out.trans (hbB.mono h47.out) | exact Y2.out.trans (hbB.mono h47.out) | exact Y3.out.trans (hbB.mono h47.out)); have hZB : Below w7.heap.size w7 wB := (by first | exact Z1.out.trans hbB | exact Z2.out.trans hbB | exact Z3.out.trans hbB); have b0 := (hZB.cell (p := ⟨bp, 0, none⟩) hbp7).trans e0; have b1 := (hZB.cell (p := ⟨bp, 1, none⟩) hbp7).trans e1; have b2 := (hZB.cell (p := ⟨bp, 2, none⟩) hbp7).trans e2)
      | (refine step_parts2 _ rfl (.tmp 40) (.tmp 42) rfl rfl (base := w7.heap.size) P [(({ pt with neg := false }, .slice ua un uc) : Pv)] 1 (P.length + 1) rfl rfl rfl (by first | exact hPB | exact hPB.below ((Below.refl _ wB).alloc (Nat.le_refl _) _)) rfl (World.news_of_block (cs := #[.int .i64 (pt.kind : Int), .slice ua un uc, .bool false]) (t := 53) (fr := (0, 0)) (by first | exact heap_alloc_new wB _ | exact (hkB _ (by simp) (fun hne => absurd (show some (w7.heap.size + 1) = some w7.heap.size from hne) (by simp))).trans K2.out | exact (hkB _ (by simp; omega) (fun hne => absurd (show some w7.heap.size = some (w7.heap.size + 1) from hne) (by simp))).trans K3.out)) (fun y hy => by rw [List.mem_singleton.1 hy]; first | exact HWP.out.below hYB | exact HWP.out.below (hYB.alloc hYB.size _)) (by first | exact hZB.size | exact (hZB.alloc hZB.size _).size) (by simp; omega) ?_; intro a2' c2' wE hPE hbE hkE; have hYE : Below w4.heap.size w4 wE := (by first | exact hYB.trans (hbE.mono h47.out) | exact (hYB.alloc hYB.size _).trans (hbE.mono h47.out)); have hZE : Below w7.heap.size w7 wE := (by first | exact hZB.trans hbE | exact (hZB.alloc hZB.size _).trans hbE); have hPAE : PartsAt wE (.slice a2' (P.length + 1) c2') (l ++ [{ pt with neg := false }]) := (by have h9 := hPE.at; rw [List.map_append, hl] at h9; exact h9))
      | (go_simp; go_at_call 29; (with_reducible (refine (HIB.out wE _ hYE hPAE).mono ?_)); rintro e wF ⟨uF, rfl, hF, hbF⟩; obtain ⟨aF, cF, huF⟩ := row_form hF; subst huF)
      | fail)
    all_goals
      go_wp2_with fail
      go_meet
      exact ⟨_, _, rfl, rfl, row_mono hF hZE.size, hZE.trans (hbF.mono hZE.size)⟩
  case rest =>
    obtain ⟨a8, c8, rfl, rfl, hB8, hb8⟩ := hcut
    obtain ⟨w8, hw8⟩ : ∃ w8, w8 = wc := ⟨_, rfl⟩
    subst hw8
    have HPB8 := Lib.hid (HPB7.out.below hb8)
    have HA8 : Hid (IntsR w5.heap.size w8 (.slice a1 A.length c1) A) := Lib.hid (row_stay HA7.out fun j hj => hb8.block j (HA7.out.lt j hj).2)
    have HB8 := Lib.hid hB8
    have hs58 : bp < w7.heap.size := hbp7
    clear HA7 hB8 hb8 HIB HQV M1 M2 M3 K2 K3 Y1 Y2 Y3 Z1 Z2 Z3 h47 e0 e1 e2 e0' hmk HPB7 HPB6
    obtain ⟨d0, d1, d2, d3⟩ := HPB8.out.cells
    go_upto_region 9 with fail

    have HPB9 : Hid (PB bp w4 (w8.setCell ⟨bp, 2, none⟩ (.bool true)) (pt.kind : Int) (.slice ua un uc) true) := Lib.hid (HPB8.out.set2 true)
    have HA9 : Hid (IntsR w5.heap.size (w8.setCell ⟨bp, 2, none⟩ (.bool true)) (.slice a1 A.length c1) A) := Lib.hid (row_stay HA8.out fun j hj => Below.heap_setCell w8 ⟨bp, 2, none⟩ _ j (by have := (HA8.out.lt j hj).1; simp; omega))
    have HC9 : Hid (IntsR w7.heap.size (w8.setCell ⟨bp, 2, none⟩ (.bool true)) (.slice a8 B7.length c8) B7) := Lib.hid (row_stay HB8.out fun j hj => Below.heap_setCell w8 ⟨bp, 2, none⟩ _ j (by have := (HB8.out.lt j hj).1; simp; omega))
    clear HA8 HB8 d0 d1 d2 d3
    obtain ⟨w9, hw9⟩ : ∃ w7, w8.setCell ⟨bp, 2, none⟩ (.bool true) = w7 := ⟨_, rfl⟩
    rw [hw9] at HPB9 HA9 HC9 ⊢
    obtain ⟨e0, e1, e2, -⟩ := HPB9.out.cells
    have e0' : w9.drew.cell? ⟨bp, 0, none⟩ = some (.int .i64 (pt.kind : Int)) := e0
    have hbp9 := HPB9.out.size
    have h47 : Hid (w4.heap.size ≤ w9.heap.size) := Lib.hid HPB9.out.bel.size
    have Z1 : Hid (Below w9.heap.size w9 (w9.alloc (.cells mkC 53)).drew) := Lib.hid (((Below.refl _ _).alloc (Nat.le_refl _) _).drew)
    have Z2 : Hid (Below w9.heap.size w9 ((w9.alloc (.cells mkC 53)).alloc (.cells #[.int .i64 (pt.kind : Int), .slice ua un uc, .bool true] 53)).drew) := Lib.hid ((((Below.refl _ w9).alloc (Nat.le_refl _) _).alloc (by simp) _).drew)
    have Z3 : Hid (Below w9.heap.size w9 ((w9.alloc (.cells #[.int .i64 (pt.kind : Int), .slice ua un uc, .bool true] 53)).alloc (.cells mkC 53)).drew) := Lib.hid ((((Below.refl _ w9).alloc (Nat.le_refl _) _).alloc (by simp) _).drew)
    have Y1 := Lib.hid (HPB9.out.bel.trans (Z1.out.mono h47.out))
    have Y2 := Lib.hid (HPB9.out.bel.trans (Z2.out.mono h47.out))
    have Y3 := Lib.hid (HPB9.out.bel.trans (Z3.out.mono h47.out))
    have M1 := Lib.hid (parts_made w9 (Nat.le_refl _))
    have M2 : Hid (PartsR w9.heap.size ((w9.alloc (.cells mkC 53)).alloc (.cells #[.int .i64 (pt.kind : Int), .slice ua un uc, .bool true] 53)) (.slice (some ⟨w9.heap.size, 0, none⟩) 0 8) []) := Lib.hid (M1.out.below ((Below.refl _ _).alloc (Nat.le_refl _) _))
    have M3 : Hid (PartsR w9.heap.size ((w9.alloc (.cells #[.int .i64 (pt.kind : Int), .slice ua un uc, .bool true] 53)).alloc (.cells mkC 53)) (.slice (some ⟨w9.heap.size + 1, 0, none⟩) 0 8) []) := Lib.hid (by
      have := parts_made (base := w9.heap.size) (w9.alloc (.cells #[.int .i64 (pt.kind : Int), .slice ua un uc, .bool true] 53)) (by simp)
      rwa [show (w9.alloc (.cells #[.int .i64 (pt.kind : Int), .slice ua un uc, .bool true] 53)).heap.size = w9.heap.size + 1 by simp] at this)
    have K2 : Hid (((w9.alloc (.cells mkC 53)).alloc (.cells #[.int .i64 (pt.kind : Int), .slice ua un uc, .bool true] 53)).heap[w9.heap.size + 1]? = some (.cells #[.int .i64 (pt.kind : Int), .slice ua un uc, .bool true] 53 (0, 0))) := Lib.hid (by
      have := heap_alloc_new (w9.alloc (.cells mkC 53)) (.cells #[.int .i64 (pt.kind : Int), .slice ua un uc, .bool true] 53)
      rwa [show (w9.alloc (.cells mkC 53)).heap.size = w9.heap.size + 1 by simp] at this)
    have K3 : Hid (((w9.alloc (.cells #[.int .i64 (pt.kind : Int), .slice ua un uc, .bool true] 53)).alloc (.cells mkC 53)).heap[w9.heap.size]? = some (.cells #[.int .i64 (pt.kind : Int), .slice ua un uc, .bool true] 53 (0, 0))) := Lib.hid ((heap_alloc_old _ _ (by simp)).trans (heap_alloc_new _ _))
    have HQV : Hid (∀ p ∈ l ++ [{ pt with neg := true }], VocP p) := Lib.hid (fun p hp => by
      rcases List.mem_append.1 hp with h | h
      · exact HLP.out.voc p h
      · rw [List.mem_singleton.1 h]; exact HVP.out.not true)
    have hmk := make_parts
    obtain ⟨B9, hB9⟩ : ∃ B, (resD D (l ++ [{ pt with neg := true }])).map (·.1) = B := ⟨_, rfl⟩
    have HBE9 := Lib.hid hB9
    have HIB : Hid (∀ (W : World) (v : Value), Below w4.heap.size w4 W → PartsAt W v (l ++ [{ pt with neg := true }]) → Calls Tryz.prog 29 #[.pointer (some ⟨p, 0, none⟩), v] W fun e w' => ∃ u, e = .returned (.tuple #[u, .bool true]) ∧ IntsR W.heap.size w' u B9 ∧ Below W.heap.size W w') := Lib.hid (fun W v hW hx => by
      have := HID.out W v _ hW hx HQV.out (by simp) (by simp; omega)
      rw [hB9] at this
      exact this)
    clear hw9 hB9
    go_cut [16, 17] (fun va vb wx => ∃ a' c', va = .slice a' B9.length c' ∧ vb = .bool true ∧ IntsR w9.heap.size wx va B9 ∧ Below w9.heap.size w9 wx)
    case first =>
      go_region_law (first
        | (refine step_parts2 _ rfl (.tmp 50) (.tmp 51) rfl rfl (base := w9.heap.size) [] P P.length P.length rfl (by simp) rfl (by first | exact M1.out | exact M2.out | exact M3.out) rfl (by first | exact (HP4.out.below Y1.out).1.cells rfl | exact (HP4.out.below Y2.out).1.cells rfl | exact (HP4.out.below Y3.out).1.cells rfl) (by first | exact (HP4.out.below Y1.out).2 | exact (HP4.out.below Y2.out).2 | exact (HP4.out.below Y3.out).2) (by first | exact Z1.out.size | exact Z2.out.size | exact Z3.out.size) (by simp; omega) ?_; intro a1' c1' wB hPB hbB hkB; have hYB : Below w4.heap.size w4 wB := (by first | exact Y1.out.trans (hbB.mono h47.out) | exact Y2.out.trans (hbB.mono h47.out) | exact Y3.out.trans (hbB.mono h47.out)); have hZB : Below w9.heap.size w9 wB := (by first | exact Z1.out.trans hbB | exact Z2.out.trans hbB | exact Z3.out.trans hbB); have b0 := (hZB.cell (p := ⟨bp, 0, none⟩) hbp9).trans e0; have b1 := (hZB.cell (p := ⟨bp, 1, none⟩) hbp9).trans e1; have b2 := (hZB.cell (p := ⟨bp, 2, none⟩) hbp9).trans e2)
        | (refine step_parts2 _ rfl (.tmp 52) (.tmp 54) rfl rfl (base := w9.heap.size) P [(({ pt with neg := true }, .slice ua un uc) : Pv)] 1 (P.length + 1) rfl rfl rfl (by first | exact hPB | exact hPB.below ((Below.refl _ wB).alloc (Nat.le_refl _) _)) rfl (World.news_of_block (cs := #[.int .i64 (pt.kind : Int), .slice ua un uc, .bool true]) (t := 53) (fr := (0, 0)) (by first | exact heap_alloc_new wB _ | exact (hkB _ (by simp) (fun hne => absurd (show some (w9.heap.size + 1) = some w9.heap.size from hne) (by simp))).trans K2.out | exact (hkB _ (by simp; omega) (fun hne => absurd (show some w9.heap.size = some (w9.heap.size + 1) from hne) (by simp))).trans K3.out)) (fun y hy => by rw [List.mem_singleton.1 hy]; first | exact HWP.out.below hYB | exact HWP.out.below (hYB.alloc hYB.size _)) (by first | exact hZB.size | exact (hZB.alloc hZB.size _).size) (by simp; omega) ?_; intro a2' c2' wE hPE hbE hkE; have hYE : Below w4.heap.size w4 wE := (by first | exact hYB.trans (hbE.mono h47.out) | exact (hYB.alloc hYB.size _).trans (hbE.mono h47.out)); have hZE : Below w9.heap.size w9 wE := (by first | exact hZB.trans hbE | exact (hZB.alloc hZB.size _).trans hbE); have hPAE : PartsAt wE (.slice a2' (P.length + 1) c2') (l ++ [{ pt with neg := true }]) := (by have h9 := hPE.at; rw [List.map_append, hl] at h9; exact h9))
        | (go_simp; go_at_call 29; (with_reducible (refine (HIB.out wE _ hYE hPAE).mono ?_)); rintro e wF ⟨uF, rfl, hF, hbF⟩; obtain ⟨aF, cF, huF⟩ := row_form hF; subst huF)
        | fail)
      all_goals
        go_wp2_with fail
        go_meet
        exact ⟨_, _, rfl, rfl, row_mono hF hZE.size, hZE.trans (hbF.mono hZE.size)⟩
    case rest =>

      obtain ⟨aE, cE, rfl, rfl, hCE, hbE⟩ := hcut
      obtain ⟨wE, hwE⟩ : ∃ wE, wE = wc := ⟨_, rfl⟩
      subst hwE
      have HBE := Lib.hid (HW4.out.trans ((HPB9.out.below hbE).bel.mono HW4.out.size))
      have hra : ∀ (ps : List Prt) x, x ∈ (resD D ps).map (·.1) → I64 x := fun ps x hx => by
        obtain ⟨y, hy, rfl⟩ := List.mem_map.1 hx
        have := res_id HIDS.out hy
        unfold I64
        omega
      have hla : ∀ ps : List Prt, ((resD D ps).map (·.1)).length ≤ 256 := fun ps => by rw [List.length_map]; exact res_le HASC.out HIDS.out ps
      have hA256 : A.length ≤ 256 := by rw [← HAE.out]; exact hla _
      have hB256 : B7.length ≤ 256 := by rw [← HBE7.out]; exact hla _
      have hC256 : B9.length ≤ 256 := by rw [← HBE9.out]; exact hla _
      have HLA : Hid (IntsL wE (.slice a1 A.length c1) A) := Lib.hid (intsL_of (row_stay HA9.out fun j hj => hbE.block j (HA9.out.lt j hj).2) (by omega) (by rw [← HAE.out]; exact hra _))
      have HLB : Hid (IntsL wE (.slice a8 B7.length c8) B7) := Lib.hid (intsL_of (row_stay HC9.out fun j hj => hbE.block j (HC9.out.lt j hj).2) (by omega) (by rw [← HBE7.out]; exact hra _))
      have HLC : Hid (IntsL wE (.slice aE B9.length cE) B9) := Lib.hid (intsL_of hCE (by omega) (by rw [← HBE9.out]; exact hra _))
      have hsum : A.length = B7.length + B9.length := by
        rw [← HAE.out, ← HBE7.out, ← HBE9.out, List.length_map, List.length_map, List.length_map, res_len, res_len, res_len]
        exact HCS.out
      have gsum : ((A.length : Int) == (B7.length : Int) + (B9.length : Int)) = true := by rw [beq_iff_eq]; omega
      have HSN : Hid (∀ id, inN A id = inN B7 id + inN B9 id) := Lib.hid (fun id => by rw [← HAE.out, ← HBE7.out, ← HBE9.out]; exact HSP.out id)
      clear hsum hra hla hCE hbE HA9 HC9 HIB HQV M1 M2 M3 K2 K3 Y1 Y2 Y3 Z1 Z2 Z3 h47 e0 e1 e2 e0' hmk HPB9 HPB8 HSP HCS HID HP4 HP4A HLP HE HV HU HVP HWP
      go_wp2_with fail
      go_loopw [7, 18] (fun v7 v18 wr => ∃ d : Nat, v18 = .int .i64 d ∧ d ≤ 14 ∧ v7 = .bool true ∧ wE = wr) (fun _ v18 _ => 14 - (intOf v18).toNat)
      case atStart => exact ⟨0, rfl, Nat.zero_le _, rfl, rfl⟩
      case round =>
        obtain ⟨d, rfl, hd14, rfl, rfl⟩ := hrel
        by_cases hgo : d ≤ ds.length ∧ d ≤ 13
        · have g1 : decide ((d : Int) ≤ (ds.length : Int)) = true := decide_eq_true (by omega)
          have g1' : decide (d ≤ ds.length) = true := decide_eq_true hgo.1
          have g2 : decide ((d : Int) ≤ 13) = true := decide_eq_true (by omega)
          have g2' : decide (d ≤ 13) = true := decide_eq_true hgo.2
          have hI : I64 (d : Int) := by unfold I64; omega
          have HN1 := Lib.hid (in_any _ A (d : Int) hI wE HLA.out)
          have HN2 := Lib.hid (in_any _ B7 (d : Int) hI wE HLB.out)
          have HN3 := Lib.hid (in_any _ B9 (d : Int) hI wE HLC.out)
          have hsn := HSN.out (d : Int)
          have h2 : inN B7 (d : Int) ≤ 1 := by unfold inN; split <;> omega
          have h3 : inN B9 (d : Int) ≤ 1 := by unfold inN; split <;> omega
          obtain ⟨i1, hi1⟩ : ∃ i, inN A (d : Int) = i := ⟨_, rfl⟩
          obtain ⟨i2, hi2⟩ : ∃ i, inN B7 (d : Int) = i := ⟨_, rfl⟩
          obtain ⟨i3, hi3⟩ : ∃ i, inN B9 (d : Int) = i := ⟨_, rfl⟩
          rw [hi1] at HN1 hsn
          rw [hi2] at HN2 hsn h2
          rw [hi3] at HN3 hsn h3
          have ge : ((i1 : Int) == (i2 : Int) + (i3 : Int)) = true := by rw [beq_iff_eq]; omega
          obtain ⟨hg1, hg2⟩ := hgo
          clear hi1 hi2 hi3 hsn hI
          go_wp2_with (first
            | (go_at_call 30; (with_reducible (refine HN1.out.mono ?_)); rintro e wx ⟨rfl, rfl⟩)
            | (go_at_call 30; (with_reducible (refine HN2.out.mono ?_)); rintro e wx ⟨rfl, rfl⟩)
            | (go_at_call 30; (with_reducible (refine HN3.out.mono ?_)); rintro e wx ⟨rfl, rfl⟩)
            | fail)
          go_roundw
          case rel => exact ⟨d + 1, by go_num, by omega, rfl, by first | rfl | trivial⟩
          case measure => simp [intOf]; omega
        · by_cases h6 : d ≤ ds.length
          · have g1 : decide ((d : Int) ≤ (ds.length : Int)) = true := decide_eq_true (by omega)
            have g1' : decide (d ≤ ds.length) = true := decide_eq_true h6
            have g2 : decide ((d : Int) ≤ 13) = false := decide_eq_false (by omega)
            have g2' : decide (d ≤ 13) = false := decide_eq_false (by omega)
            clear hgo h6
            go_wp2_with fail
            go_ret
            exact ⟨rfl, HBE.out⟩
          · have g1 : decide ((d : Int) ≤ (ds.length : Int)) = false := decide_eq_false (by omega)
            have g1' : decide (d ≤ ds.length) = false := decide_eq_false h6
            clear hgo h6
            go_wp2_with fail
            go_ret
            exact ⟨rfl, HBE.out⟩
end Go.Proofs.YtogjgibaolppfaaGreatDoor

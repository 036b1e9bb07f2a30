/- Facts and contracts for the laws of the sender, part 28. Conditions: those that each theorem names. -/
import Derived.Test.YtogjgibaolppfaaGreatDoorK21
import Derived.Test.YtogjgibaolppfaaGreatDoorK24
import Derived.Test.YtogjgibaolppfaaGreatDoorK04
import Derived.Test.YtogjgibaolppfaaGreatDoorK22
import Derived.Deep.RegionLaw
import Derived.Deep.AppendLies
import Derived.Laws.AppendOwn
import Derived.OwnWalk
/- the reference: Parse. -/
namespace Go.Proofs.YtogjgibaolppfaaGreatDoor
open Go.RowKit Go.Shelf Go.Lib Go.Proofs

theorem allParts_bind (l : List (List UInt8)) (k : Nat) (h : k < l.length) (P : List Prt) (G : Option (List Prt)) (hG : G = (allParts (l.drop k)).map (P ++ ·)) :
    (partR l[k] = none → G = none) ∧ (∀ p, partR l[k] = some p → G = (allParts (l.drop (k + 1))).map ((P ++ [p]) ++ ·)) := by
  rw [List.drop_eq_getElem_cons h, allParts] at hG
  refine ⟨fun h => by rw [hG, h]; rfl, fun p h => ?_⟩
  rw [hG, h]
  cases allParts (l.drop (k + 1)) with
  | none => rfl
  | some ps => simp
theorem piecesGo_lens : ∀ (s cur : List UInt8) (q : Bool), (∀ x ∈ piecesGo cur q s, x.length ≤ cur.length + s.length) ∧ (piecesGo cur q s).length ≤ s.length + if cur = [] then 0 else 1
  | [], cur, q => by
    rw [piecesGo_nil]
    split <;> simp_all
  | c :: r, cur, q => by
    rw [piecesGo]
    split
    · have h := piecesGo_lens r (cur ++ [c]) (nextQ c q)
      refine ⟨fun x hx => ?_, ?_⟩
      · have := h.1 x hx
        simp at this ⊢; omega
      · have := h.2
        rw [if_neg (by simp)] at this
        split <;> simp at this ⊢ <;> omega
    · have h := piecesGo_lens r [] (nextQ c q)
      refine ⟨fun x hx => ?_, ?_⟩
      · rcases List.mem_append.1 hx with hx | hx
        · split at hx
          · cases hx
          · rw [List.mem_singleton.1 hx]; exact Nat.le_add_right _ _
        · have := h.1 x hx
          simp at this ⊢; omega
      · have := h.2
        simp only [if_true] at this
        rw [List.length_append]
        split <;> simp at this ⊢ <;> omega
theorem pieces_lens (s : List UInt8) : (∀ x ∈ piecesR s, x.length ≤ s.length) ∧ (piecesR s).length ≤ s.length := by
  have h := piecesGo_lens s [] false
  refine ⟨fun x hx => by have := h.1 x hx; simpa using this, by simpa [piecesR] using h.2⟩
set_option maxRecDepth 100000 in
set_option maxHeartbeats 4000000 in
theorem refParse_any (q : List UInt8) (hq : q.length ≤ 1000) (w : World) :
    Calls Tryz.prog 17 #[.string ⟨q.toArray⟩] w (ParsePost (parseR q) w) := by
  obtain ⟨i0, hi, hz0, hz1, hz2⟩ := info_parts infoPart
  have hpc := refPieces_any ⟨q.toArray⟩ (by show q.toArray.size ≤ _; simp; omega) w
  have hd : (⟨q.toArray⟩ : ByteArray).data.toList = q := by simp
  rw [hd] at hpc
  have hpl := pieces_lens q
  have hR : parseR q = if 300 < q.length ∨ (piecesR q).length < 1 ∨ 8 < (piecesR q).length then none else allParts (piecesR q) := rfl
  obtain ⟨ps, hps⟩ : ∃ ps, piecesR q = ps := ⟨_, rfl⟩
  rw [hps] at hpc hpl hR
  obtain ⟨R, hRR⟩ : ∃ R, parseR q = R := ⟨_, rfl⟩
  rw [hRR] at hR ⊢
  have HR := Lib.hid hR
  have HPL := Lib.hid hpl.1
  have hpl2 : ps.length ≤ 1000 := by have := hpl.2; omega
  clear hd hps hRR hR hpl
  go_enter Tryz.func17, Tryz.ntmps17
  go_wp2_with fail
  refine hpc.mono ?_
  rintro e w1 ⟨v, rfl, hwo, -, hb1⟩
  have HW := Lib.hid hwo
  have HB1 := Lib.hid hb1
  obtain ⟨ap, cp, rfl⟩ := hwo.form
  clear hwo hb1 hpc
  by_cases hbad : 300 < q.length ∨ ps.length < 1 ∨ 8 < ps.length
  · have hRn : R = none := by rw [HR.out, if_pos hbad]
    have HF : Hid (ParsePost R w (.returned (.tuple #[.slice none 0 0, .int .i64 180])) w1) := Lib.hid ⟨HB1.out, by rw [hRn]; rfl⟩
    by_cases h3 : 300 < q.length
    · have g1 : (300 : Int) < (q.length : Int) := by omega
      clear hbad h3 hRn HR
      go_wp2_with fail
      go_ret2
      exact HF.out
    · have g1 : ¬ (300 : Int) < (q.length : Int) := by omega
      by_cases h1 : ps.length < 1
      · have g2 : (ps.length : Int) < 1 := by omega
        clear hbad h3 h1 hRn HR
        go_wp2_with fail
        go_ret2
        exact HF.out
      · have g2 : ¬ (ps.length : Int) < 1 := by omega
        have g3 : (8 : Int) < (ps.length : Int) := by omega
        clear hbad h3 h1 hRn HR
        go_wp2_with fail
        go_ret2
        exact HF.out
  · have g1 : ¬ (300 : Int) < (q.length : Int) := by omega
    have g2 : ¬ (ps.length : Int) < 1 := by omega
    have g3 : ¬ (8 : Int) < (ps.length : Int) := by omega
    have h8 : ps.length ≤ 8 := by omega
    have hRe : R = allParts ps := by rw [HR.out, if_neg hbad]
    have HG : Hid (R = (allParts (ps.drop 0)).map ([] ++ ·)) := Lib.hid (by rw [hRe]; simp)
    clear hbad hRe HR
    go_upto_region 6 with fail
    clear g1 g2 g3
    go_loopw [5, 6] (fun v5 vi wr => ∃ (k : Nat) (P : List Pv), vi = .int .i64 k ∧ k ≤ ps.length ∧ P.length = k ∧ Hid (PartsR w1.heap.size wr v5 P) ∧ Hid (Below w1.heap.size w1 wr) ∧ Hid (R = (allParts (ps.drop k)).map (P.map (·.1) ++ ·))) (fun _ vi _ => ps.length - (intOf vi).toNat)
    case atStart => exact ⟨0, [], rfl, Nat.zero_le _, rfl, Lib.hid (PartsR.nil _ _), Lib.hid (Below.refl _ _), HG⟩
    case round =>
      clear HG
      obtain ⟨k, P, rfl, hk, rfl, HP, HB, HG⟩ := hrel
      obtain ⟨a5, c5, hv5⟩ := row_form HP.out.1
      subst hv5
      have HBW : Hid (Below w.heap.size w wr) := Lib.hid (HB1.out.trans (HB.out.mono HB1.out.size))
      by_cases hlt : P.length < ps.length
      · have hki : (P.length : Int) < (ps.length : Int) := by omega
        have hst := HW.out.at (by omega)
        obtain ⟨a', c', e', hc', hm', hx'⟩ := hst
        obtain ⟨b0, off, e2, cx0⟩ := hx' P.length hlt
        injection e' with e3 e4 e5
        rw [e2] at e3
        subst e3
        have cx : wr.cell? ⟨b0, off + P.length, none⟩ = some (encW ps[P.length]) := (HB.out.cell (World.block_lt_of_cell? w1 _ cx0)).trans cx0
        have hxl := HPL.out ps[P.length] (List.getElem_mem hlt)
        have HST := Lib.hid (allParts_bind ps P.length hlt (P.map (·.1)) R HG.out)
        obtain ⟨x, hx⟩ : ∃ x, ps[P.length] = x := ⟨_, rfl⟩
        rw [hx] at cx hxl HST
        unfold encW at cx
        have hpt := refPart_any ⟨x.toArray⟩ (by show x.toArray.size ≤ _; simp; omega) wr
        have hd : (⟨x.toArray⟩ : ByteArray).data.toList = x := by simp
        rw [hd] at hpt
        obtain ⟨PR, hPR⟩ : ∃ PR, partR x = PR := ⟨_, rfl⟩
        rw [hPR] at hpt HST
        clear hx hd hx' hPR e2 e4 e5 hc' hm' cx0 HG
        go_upto_region 9 with (first
          | (go_at_call 41; (with_reducible (refine hpt.mono ?_)); rintro e w2 ⟨hb2, kd, ua, un, uc, ng, ok, rfl, hpe⟩; have HPE := Lib.hid hpe; have HB2 := Lib.hid hb2; clear hpe hb2)
          | fail)
        obtain ⟨w3, hw3⟩ : ∃ w3, w2.alloc (.cells #[.int .i64 (kd : Int), .slice ua un uc, .bool ng] 53) = w3 := ⟨_, rfl⟩
        obtain ⟨b3, hb3⟩ : ∃ b3, w2.heap.size = b3 := ⟨_, rfl⟩
        have HC3 : Hid (w3.heap[b3]? = some (.cells #[.int .i64 (kd : Int), .slice ua un uc, .bool ng] 53 (0, 0))) := Lib.hid (by rw [← hw3, ← hb3]; exact heap_alloc_new w2 _)
        have HB23 : Hid (Below w2.heap.size w2 w3) := Lib.hid (by rw [← hw3]; exact (Below.refl _ w2).alloc (Nat.le_refl _) _)
        have HBr3 : Hid (Below wr.heap.size wr w3) := Lib.hid (HB2.out.trans (HB23.out.mono HB2.out.size))
        have HP3 : Hid (PartsR w1.heap.size w3 (.slice a5 P.length c5) P) := Lib.hid (HP.out.below HBr3.out)
        have HB3 : Hid (Below w.heap.size w w3) := Lib.hid (HBW.out.trans (HBr3.out.mono HBW.out.size))
        have HB13 : Hid (Below w1.heap.size w1 w3) := Lib.hid (HB.out.trans (HBr3.out.mono HB.out.size))
        rw [hw3, hb3]
        cases ok
        · have hRn : R = none := by
            have h := HPE.out
            cases PR with
            | none => exact HST.out.1 rfl
            | some y => exact absurd h.1 (by decide)
          have HF : Hid (ParsePost R w (.returned (.tuple #[.slice none 0 0, .int .i64 180])) w3) := Lib.hid ⟨HB3.out, by rw [hRn]; rfl⟩
          clear hw3 hb3 HB23 HPE HP HB HB2 hpt HC3 HP3 hRn
          go_wp2_with fail
          go_ret2
          exact HF.out
        · obtain ⟨p, hpr, hkp, hn, hw⟩ : ∃ p : Prt, PR = some p ∧ kd = p.kind ∧ ng = p.neg ∧ WordsO w3 (.slice ua un uc) p.words := by
            have h := HPE.out
            cases PR with
            | none => exact absurd (show true = false from h) (by decide)
            | some y => exact ⟨y, rfl, h.2.1, h.2.2.1, h.2.2.2.below HB23.out⟩
          have HG2 : Hid (R = (allParts (ps.drop (P.length + 1))).map ((P ++ [((p, Value.slice ua un uc) : Pv)]).map (·.1) ++ ·)) := Lib.hid (by
            rw [List.map_append]; exact HST.out.2 p hpr)
          have c0 : w3.cell? ⟨b3, 0, none⟩ = some (.int .i64 (kd : Int)) := by rw [Lib.cell_of_heap HC3.out]; rfl
          have c1 : w3.cell? ⟨b3, 1, none⟩ = some (.slice ua un uc) := by rw [Lib.cell_of_heap HC3.out]; rfl
          have c2 : w3.cell? ⟨b3, 2, none⟩ = some (.bool ng) := by rw [Lib.cell_of_heap HC3.out]; rfl
          have hbs := HB13.out.size
          obtain ⟨wB, hwB⟩ : ∃ wB, w3.alloc (.cells #[.int .i64 (kd : Int), .slice ua un uc, .bool ng] 53) = wB := ⟨_, rfl⟩
          have hbB : Below w3.heap.size w3 wB := by rw [← hwB]; exact (Below.refl _ w3).alloc (Nat.le_refl _) _
          have HPB : Hid (PartsR w1.heap.size wB (.slice a5 P.length c5) P) := Lib.hid (HP3.out.below hbB)
          have HWB : Hid (WordsO wB (.slice ua un uc) p.words) := Lib.hid (hw.below hbB)
          have HBB : Hid (Below w1.heap.size w1 wB) := Lib.hid (HB13.out.trans (hbB.mono HB13.out.size))
          have hrowB := HPB.out.1
          have hnews : wB.heap[w3.heap.size]? = some (.cells #[.int .i64 (kd : Int), .slice ua un uc, .bool ng] 53 (0, 0)) := by rw [← hwB]; exact heap_alloc_new w3 _
          have hszB : w3.heap.size < wB.heap.size := by rw [← hwB]; simp
          have hprt : prtC (p, Value.slice ua un uc) = [.int .i64 (kd : Int), .slice ua un uc, .bool ng] := by rw [hkp, hn]; rfl
          have HPT := Lib.hid hprt
          have h11 := HB1.out.size
          clear hw hkp hn hbB HST HC3 HP3 hw3 hb3 HB23 HPE HP HB HB2 hpt hpr
          go_wp2_with (at_builtin; go_loud (refine wpList_append_own _ rfl _ _ 26 rfl w1.heap.size 53 i0 _ 3 40 Tryz.underlying26 hi hz0 hz1 hz2 rfl (by decide) _ _ _ rfl hrowB ⟨w3.heap.size, 0, none⟩ 1 1 [.int .i64 (kd : Int), .slice ua un uc, .bool ng] rfl rfl (World.news_of_block (cs := #[.int .i64 (kd : Int), .slice ua un uc, .bool ng]) (t := 53) (fr := (0, 0)) hnews) (by simp [Value.oneCell']) ?c3 ?c4 ?c5 ?_))
          case c3 => unfold maxLen; omega
          case c4 => omega
          case c5 => omega
          intro v' w5 ho5 hg5 _
          have HP5 : Hid (PartsR w1.heap.size w5 v' (P ++ [(p, .slice ua un uc)])) := Lib.hid (HPB.out.snoc (x := (p, .slice ua un uc)) HWB.out (by rw [HPT.out]; exact ho5) hg5)
          have HB5 : Hid (Below w1.heap.size w1 w5) := Lib.hid (HBB.out.grown hg5 HBB.out.size (fun j e => (hrowB.lt j e).1))
          clear ho5 hg5 hnews hszB hrowB hwB hprt c0 c1 c2
          go_wp2_with fail
          go_roundw
          case rel => exact ⟨P.length + 1, _, by go_num, by omega, by rw [List.length_append]; rfl, HP5, HB5, HG2⟩
          case measure => simp [intOf]; omega
      · have hPk : P.length = ps.length := by omega
        have hRn : R = some (P.map (·.1)) := by
          rw [HG.out, hPk, List.drop_length]; simp [allParts]
        have HF : Hid (ParsePost R w (.returned (.tuple #[.slice a5 P.length c5, .int .i64 0])) wr) := Lib.hid ⟨HBW.out, by rw [hRn]; exact ⟨_, P, rfl, ⟨HP.out.1.mono_base HB1.out.size, HP.out.2⟩, rfl⟩⟩
        clear hRn HG HP hPk
        have g9 : ¬ (P.length : Int) < (ps.length : Int) := by omega
        go_wp2_with fail
        go_ret2
        exact HF.out
end Go.Proofs.YtogjgibaolppfaaGreatDoor
/- What the laws see of Parse. -/
namespace Go.Proofs.YtogjgibaolppfaaGreatDoor
open Go.RowKit Go.Sort Go.Proofs Go.Maps Go.Lib

/-- the parts and the number that a parse returned -/
def Parsed (R : Option (List Prt)) (W : World) (a : Option Addr) (k c : Nat) (E : Int) : Prop :=
  match R with
  | none => a = none ∧ k = 0 ∧ c = 0 ∧ E = 180
  | some l => E = 0 ∧ k = l.length ∧ PartsAt W (.slice a k c) l
theorem Parsed.of {R : Option (List Prt)} {w w' : World} {e : Ending} (h : ParsePost R w e w') : Below w.heap.size w w' ∧ ∃ a k c E, e = .returned (.tuple #[.slice a k c, .int .i64 E]) ∧ Parsed R w' a k c E := by
  obtain ⟨hb, h⟩ := h
  refine ⟨hb, ?_⟩
  cases R with
  | none => exact ⟨none, 0, 0, 180, h, rfl, rfl, rfl, rfl⟩
  | some l =>
    obtain ⟨v, P, hP, hR, he⟩ := h
    have hat := hR.at
    rw [hP] at hat
    obtain ⟨a, c, hv, -⟩ := hat.at
    subst hv
    exact ⟨a, l.length, c, 0, he, rfl, rfl, hat⟩
theorem Parsed.below {R : Option (List Prt)} {W W' : World} {a : Option Addr} {k c : Nat} {E : Int} (h : Parsed R W a k c E) (hb : Below W.heap.size W W') : Parsed R W' a k c E := by
  cases R with
  | none => exact h
  | some l => exact ⟨h.1, h.2.1, h.2.2.below hb⟩
theorem parse_law (q : List UInt8) (hq : q.length ≤ 1000000) (w : World) (hE : Env w) : Calls Tryz.prog 16 #[.string ⟨q.toArray⟩] w fun e w' => Below w.heap.size w w' ∧ ∃ a k c E, e = .returned (.tuple #[.slice a k c, .int .i64 E]) ∧ Parsed (parseP q) w' a k c E :=
  (parse_any q hq w hE).mono fun _ _ h => Parsed.of h
theorem refParse_law (q : List UInt8) (hq : q.length ≤ 1000) (w : World) : Calls Tryz.prog 17 #[.string ⟨q.toArray⟩] w fun e w' => Below w.heap.size w w' ∧ ∃ a k c E, e = .returned (.tuple #[.slice a k c, .int .i64 E]) ∧ Parsed (parseR q) w' a k c E :=
  (refParse_any q hq w).mono fun _ _ h => Parsed.of h
/-- a list that a parse returned, nil where it refused -/
theorem Parsed.parts {R : Option (List Prt)} {W : World} {a : Option Addr} {k c : Nat} {E : Int} (h : Parsed R W a k c E) : PartsAt W (.slice a k c) (R.getD []) ∧ E = (if R.isSome then 0 else 180) := by
  cases R with
  | none =>
    obtain ⟨rfl, rfl, rfl, rfl⟩ := h
    exact ⟨(PartsR.nil 0 W).at, rfl⟩
  | some l => exact ⟨h.2.2, h.1⟩
end Go.Proofs.YtogjgibaolppfaaGreatDoor
/- the law's Part. -/
namespace Go.Proofs.YtogjgibaolppfaaGreatDoor
open Go.RowKit Go.Lib Go.Proofs

/-- the result's block, and the part under way at block b -/
structure LocB (b : Nat) (w wx : World) (k : Int) (u : Value) (ng : Bool) : Prop where
  res : wx.heap[w.heap.size]? = some (.cells #[.int .i64 0, .slice none 0 0, .bool false] 53 (0, 0))
  blk : wx.heap[b]? = some (.cells #[.int .i64 k, u, .bool ng] 53 (0, 0))
  lt : w.heap.size < b
  bel : Below w.heap.size w wx
theorem LocB.size {b : Nat} {w wx : World} {k : Int} {u : Value} {ng : Bool} (h : LocB b w wx k u ng) : b < wx.heap.size := (Array.getElem?_eq_some_iff.1 h.blk).1
theorem LocB.below {b : Nat} {w wx wy : World} {k : Int} {u : Value} {ng : Bool} (h : LocB b w wx k u ng) (hb : Below wx.heap.size wx wy) : LocB b w wy k u ng := by
  have := h.size
  have := h.lt
  exact ⟨(hb.block _ (by omega)).trans h.res, (hb.block _ (by omega)).trans h.blk, h.lt, h.bel.trans (hb.mono h.bel.size)⟩
theorem LocB.kept {b : Nat} {w wx wy : World} {k : Int} {u : Value} {ng : Bool} (h : LocB b w wx k u ng) (hr : wy.heap[w.heap.size]? = wx.heap[w.heap.size]?) (hb : wy.heap[b]? = wx.heap[b]?) (hB : Below w.heap.size w wy) : LocB b w wy k u ng := ⟨hr.trans h.res, hb.trans h.blk, h.lt, hB⟩
theorem LocB.cells {b : Nat} {w wx : World} {k : Int} {u : Value} {ng : Bool} (h : LocB b w wx k u ng) :
    (wx.cell? ⟨b, 0, none⟩ = some (.int .i64 k) ∧ wx.cell? ⟨b, 1, none⟩ = some u ∧ wx.cell? ⟨b, 2, none⟩ = some (.bool ng)) ∧ wx.frozen? ⟨b, 1, none⟩ = false ∧
    (wx.cell? ⟨w.heap.size, 0, none⟩ = some (.int .i64 0) ∧ wx.cell? ⟨w.heap.size, 1, none⟩ = some (.slice none 0 0) ∧ wx.cell? ⟨w.heap.size, 2, none⟩ = some (.bool false)) ∧
    (wx.frozen? ⟨w.heap.size, 0, none⟩ = false ∧ wx.frozen? ⟨w.heap.size, 1, none⟩ = false ∧ wx.frozen? ⟨w.heap.size, 2, none⟩ = false) :=
  ⟨⟨by rw [Lib.cell_of_heap h.blk]; rfl, by rw [Lib.cell_of_heap h.blk]; rfl, by rw [Lib.cell_of_heap h.blk]; rfl⟩, Lib.frozen_of_heap h.blk 1,
    ⟨by rw [Lib.cell_of_heap h.res]; rfl, by rw [Lib.cell_of_heap h.res]; rfl, by rw [Lib.cell_of_heap h.res]; rfl⟩, ⟨Lib.frozen_of_heap h.res 0, Lib.frozen_of_heap h.res 1, Lib.frozen_of_heap h.res 2⟩⟩
theorem LocB.set1 {b : Nat} {w wx : World} {k : Int} {u : Value} {ng : Bool} (h : LocB b w wx k u ng) (u' : Value) : LocB b w (wx.setCell ⟨b, 1, none⟩ u') k u' ng :=
  ⟨(Below.heap_setCell wx ⟨b, 1, none⟩ _ _ (by have := h.lt; simp; omega)).trans h.res, by simp [World.setCell, Array.getElem?_modify, h.blk], h.lt, h.bel.setCell (by have := h.lt; simp; omega) _⟩

theorem row_new (w : World) (xs : List Wd) (hl : xs.length ≤ 1099511627776) {base : Nat} (hb : base ≤ w.heap.size) : (w.alloc (.cells (xs.map encW).toArray 9)).ownsRow base 9 1 (.slice (some ⟨w.heap.size, 0, none⟩) xs.length xs.length) xs.length (xs.map encW) :=
  ⟨by simp, .inr ⟨w.heap.size, xs.length, _, rfl, hb, heap_alloc_new w _, Nat.le_refl _, by unfold maxLen; omega, by simp, by simp [← List.map_take]⟩⟩
def PartV (w : World) (e : Ending) (w' : World) : Prop :=
  Below w.heap.size w w' ∧ ∃ (p : Prt) (a : Option Addr) (n c : Nat), e = .returned (.agg #[.int .i64 (p.kind : Int), .slice a n c, .bool p.neg]) ∧ VocP p ∧ WordsO w' (.slice a n c) p.words
set_option maxRecDepth 100000 in
set_option maxHeartbeats 4000000 in
theorem lawPart_any (n : Int) (hn : I64 n) (w : World) :
    Calls Tryz.prog 28 #[.int .i64 n] w (PartV w) := by
  have hp : ∀ W, Calls Tryz.prog 31 #[.int .i64 n, .int .i64 1099511627776] W fun e w' => e = .returned (.int .i64 ((pickN n 1099511627776 : Nat) : Int)) ∧ W = w' := fun W => pick_any n hn 1099511627776 (by decide) (by decide) W
  have hlt := pickN_lt (c := n) (n := 1099511627776) (by decide)
  obtain ⟨m, hm⟩ : ∃ m, pickN n 1099511627776 = m := ⟨_, rfl⟩
  rw [hm] at hp hlt
  obtain ⟨i0, hi, hz0, hz1, hz2⟩ := info_parts infoStrP
  have hV : ∀ (j : Nat) (W : World), j < 1099511627776 → Calls Tryz.prog 23 #[.int .i64 (j : Int)] W fun e w' => e = .returned (.string ⟨(vocF j).toArray⟩) ∧ Below W.heap.size W w' := fun j W hj => by
    have hvv : vocF (pickN (j : Int) 7) = vocF j := by rw [vocF_pick (by omega)]; simp
    rw [← hvv]; exact voc_any (j : Int) (by unfold I64; omega) W
  have HV := Lib.hid hV
  obtain ⟨r3, hr3⟩ : ∃ r, m % 3 = r := ⟨_, rfl⟩
  have q1 : (m : Int) % 3 = (r3 : Int) := by omega
  obtain ⟨d3, hd3⟩ : ∃ r, m / 3 = r := ⟨_, rfl⟩
  have q2 : (m : Int) / 3 = (d3 : Int) := by omega
  obtain ⟨r4, hr4⟩ : ∃ r, d3 % 4 = r := ⟨_, rfl⟩
  have q3 : (d3 : Int) % 4 = (r4 : Int) := by omega
  obtain ⟨d12, hd12⟩ : ∃ r, m / 12 = r := ⟨_, rfl⟩
  have q4 : (m : Int) / 12 = (d12 : Int) := by omega
  have hd12l : d12 < 1099511627776 := by omega
  have hV1 := fun W => HV.out d12 W hd12l
  have hm0 : (0 : Int) ≤ (m : Int) := by omega
  have hd0 : (0 : Int) ≤ (d3 : Int) := by omega
  have hr3l : r3 < 3 := by omega
  have hwr : IntKind.i64.wrap (1 + (r3 : Int)) = 1 + (r3 : Int) := IntWalk.i64_in _ (by omega)
  obtain ⟨ng, hng⟩ : ∃ ng, ((r4 : Int) == 0) = ng := ⟨_, rfl⟩
  obtain ⟨kd, hkd⟩ : ∃ kd : Nat, 1 + r3 = kd := ⟨_, rfl⟩
  have hkdi : 1 + (r3 : Int) = (kd : Int) := by omega
  obtain ⟨V, hVV⟩ : ∃ V, vocF d12 = V := ⟨_, rfl⟩
  have hVm : V ∈ vocL := by rw [← hVV]; exact voc_mem d12
  rw [hVV] at hV1
  clear hV hm hn hr3 hd3 hr4 hd12 hVV
  go_enter Tryz.func28, Tryz.ntmps28
  go_upto_region 3 with (first
    | (go_at_call 31; (with_reducible (refine (hp _).mono ?_)); rintro e wx ⟨rfl, rfl⟩)
    | (go_at_call 23; (with_reducible (refine (hV1 _).mono ?_)); rintro e w1 ⟨rfl, hb1⟩; have HB1 := Lib.hid hb1; clear hb1)
    | fail)
  have h10 : (w.alloc (.cells #[.int .i64 0, .slice none 0 0, .bool false] 53)).heap.size = w.heap.size + 1 := by simp
  have hs1 : w.heap.size + 1 ≤ w1.heap.size := by rw [← h10]; exact HB1.out.size
  obtain ⟨w3, hw3⟩ : ∃ w3, ((w1.alloc (.cells #[.string ⟨V.toArray⟩] 9)).alloc (.cells #[.int .i64 (kd : Int), .slice (some ⟨w1.heap.size, 0, none⟩) 1 1, .bool ng] 53)) = w3 := ⟨_, rfl⟩
  have hw2s : (w1.alloc (.cells #[.string ⟨V.toArray⟩] 9)).heap.size = w1.heap.size + 1 := by simp
  have HL3 : Hid (LocB (w1.heap.size + 1) w w3 (kd : Int) (.slice (some ⟨w1.heap.size, 0, none⟩) 1 1) ng) := Lib.hid (by
    rw [← hw3]
    refine ⟨?_, ?_, by omega, ((((Below.refl _ w).alloc (Nat.le_refl _) _).trans (HB1.out.mono (by omega))).alloc (by omega) _).alloc (by omega) _⟩
    · rw [Below.heap_alloc _ _ _ (by omega), Below.heap_alloc _ _ _ (by omega), HB1.out.block _ (by omega)]; exact heap_alloc_new w _
    · rw [← hw2s]; exact heap_alloc_new _ _)
  have HO3 : Hid (w3.ownsRow (w.heap.size + 1) 9 1 (.slice (some ⟨w1.heap.size, 0, none⟩) 1 1) 1 ([V].map encW)) := Lib.hid (by
    rw [← hw3]
    exact (row_new w1 [V] (by simp) (base := w.heap.size + 1) (by omega)).alloc _)
  rw [hw3]
  obtain ⟨b, hb⟩ : ∃ b, w1.heap.size + 1 = b := ⟨_, rfl⟩
  obtain ⟨bw, hbw⟩ : ∃ bw, w1.heap.size = bw := ⟨_, rfl⟩
  rw [hb, hbw] at HL3
  rw [hbw] at HO3
  rw [hb, hbw]
  have hbb : w.heap.size + 1 ≤ bw := by omega
  have hlt3 := HL3.out.lt
  clear hw3 hb hbw hw2s hs1 h10 HB1 hp hV1 q1 q2 q3 q4 hd0 hwr hkdi hng
  by_cases h2 : kd = 2
  · have hkI : (kd : Int) = 2 := by omega
    rw [hkI] at HL3 ⊢
    clear hkI
    obtain ⟨n84, h84⟩ : ∃ r, m / 84 = r := ⟨_, rfl⟩
    have q5 : (m : Int) / 84 = (n84 : Int) := by omega
    obtain ⟨k0, hk0⟩ : ∃ r, n84 % 3 = r := ⟨_, rfl⟩
    have q6 : (n84 : Int) % 3 = (k0 : Int) := by omega
    have q7 : (0 : Int) ≤ (n84 : Int) := by omega
    have hk2 : k0 ≤ 2 := by omega
    obtain ⟨⟨c0, c1, c2⟩, -, -⟩ := HL3.out.cells
    have HQ6 := Lib.hid q6
    clear h84 hk0
    go_upto_region 5 with fail
    clear c0 c1 c2 q5 q6 q7
    have hm9 : (m : Int) ≤ 1099511627776 := by omega
    go_loopw [0, 4] (fun v0 v4 wr => ∃ (k m : Nat) (ws : List Wd) (a : Option Addr) (c : Nat), v0 = .int .i64 m ∧ v4 = .int .i64 k ∧ m < 1099511627776 ∧ k + ws.length ≤ 3 ∧ 1 ≤ ws.length ∧ Hid (LocB b w wr 2 (.slice a ws.length c) ng) ∧ Hid (wr.ownsRow (w.heap.size + 1) 9 1 (.slice a ws.length c) ws.length (ws.map encW)) ∧ Hid (∀ x ∈ ws, x ∈ vocL)) (fun _ v4 _ => (intOf v4).toNat)
    case atStart => exact ⟨k0, m, [V], some ⟨bw, 0, none⟩, 1, rfl, by rw [HQ6.out], hlt, by simp; omega, by simp, HL3, HO3, Lib.hid (fun x hx => by rw [List.mem_singleton.1 hx]; exact hVm)⟩
    case round =>
      clear HL3 HO3 hm9 hm0
      obtain ⟨k, m2, ws, a, c, rfl, rfl, hm2, hkl, hwl, HLr, HOr, HVr⟩ := hrel
      by_cases h0 : k = 0
      · subst h0
        have g0 : ¬ (0 : Int) < ((0 : Nat) : Int) := by omega
        have HFIN : Hid (∀ wx, Below w.heap.size w wx → (∀ j, j < wr.heap.size → j ≠ w.heap.size → wx.heap[j]? = wr.heap[j]?) → PartV w (.returned (.agg #[.int .i64 2, .slice a ws.length c, .bool ng])) wx) := Lib.hid (fun wx hbel hblk => ⟨hbel, ⟨2, ng, ws⟩, a, ws.length, c, rfl, ⟨.inr (.inl rfl), hwl, by show ws.length ≤ 3; omega, fun h => absurd rfl h, HVr.out⟩, by
          have := row_stay HOr.out (w' := wx) fun j hj => by
            have h1 : w.heap.size + 1 ≤ j ∧ j < wr.heap.size := HOr.out.lt j hj
            exact hblk j h1.2 (by omega)
          exact this.mono_base (Nat.zero_le _)⟩)
        obtain ⟨⟨c0, c1, c2⟩, -, ⟨r0, r1, r2⟩, ⟨f0, f1, f2⟩⟩ := HLr.out.cells
        have HBW := Lib.hid HLr.out.bel
        have HW : Hid (∀ (v0 v1 v2 : Value), (∀ j, j < wr.heap.size → j ≠ w.heap.size → (((wr.setCell ⟨w.heap.size, 0, none⟩ v0).setCell ⟨w.heap.size, 1, none⟩ v1).setCell ⟨w.heap.size, 2, none⟩ v2).heap[j]? = wr.heap[j]?)) := Lib.hid (fun v0 v1 v2 j _ hj => by
          rw [Below.heap_setCell _ ⟨w.heap.size, 2, none⟩ _ _ hj, Below.heap_setCell _ ⟨w.heap.size, 1, none⟩ _ _ hj, Below.heap_setCell _ ⟨w.heap.size, 0, none⟩ _ _ hj])
        clear HLr HOr HVr
        go_wp2_with fail
        exact bodyPost_ret (v := .agg #[.int .i64 (2 : Int), .slice a ws.length c, .bool ng]) (by simp [results, Tryz.results28, go_sem, r0, r1, r2]) rfl (HFIN.out _ (((HBW.out.setCell (p := ⟨w.heap.size, 0, none⟩) (Nat.le_refl _) _).setCell (p := ⟨w.heap.size, 1, none⟩) (Nat.le_refl _) _).setCell (p := ⟨w.heap.size, 2, none⟩) (Nat.le_refl _) _) (HW.out _ _ _))
      · obtain ⟨k', rfl⟩ : ∃ k', k = k' + 1 := ⟨k - 1, by omega⟩
        have hkp : (0 : Int) < ((k' + 1 : Nat) : Int) := by omega
        obtain ⟨m3, hm3⟩ : ∃ r, m2 / 7 = r := ⟨_, rfl⟩
        have q1 : (m2 : Int) / 7 = (m3 : Int) := by omega
        have q0 : (0 : Int) ≤ (m2 : Int) := by omega
        have hm3l : m3 < 1099511627776 := by omega
        have hV1 := fun W => HV.out m3 W hm3l
        obtain ⟨X, hX⟩ : ∃ X, vocF m3 = X := ⟨_, rfl⟩
        have hXm : X ∈ vocL := by rw [← hX]; exact voc_mem m3
        rw [hX] at hV1
        have HV1 := Lib.hid hV1
        obtain ⟨⟨-, p1, -⟩, q9, -⟩ := HLr.out.cells
        have hbr := HLr.out.size
        have HNB : Hid (some b ≠ (Value.slice a ws.length c).ownBlock) := Lib.hid (fun e => by
          rcases HOr.out.2 with ⟨h0, -⟩ | ⟨g, cap, cur, h0, -, hg, -⟩
          · injection h0 with _ h9 _
            omega
          · injection h0 with h0 _ _
            subst h0
            have : b = g := by simpa [Value.ownBlock] using e
            subst this
            rw [HLr.out.blk] at hg
            injection hg with hg
            injection hg with _ h _
            exact absurd h (by decide))
        obtain ⟨L, hL⟩ : ∃ L, ws.map encW = L := ⟨_, rfl⟩
        have HOr2 := HOr.out
        rw [hL] at HOr2
        have HO2 := Lib.hid HOr2
        have HLL := Lib.hid hL
        obtain ⟨N, hN⟩ : ∃ N, ws.length = N := ⟨_, rfl⟩
        have HNN := Lib.hid hN
        have hN3 : N ≤ 3 := by omega
        have HLr2 := HLr.out
        rw [hN] at HLr2 HO2 HNB p1
        have HLr3 := Lib.hid HLr2
        clear hX hm3 hV1 hL HOr2 HOr HLr HLr2
        clear hN
        go_upto_region 8 with fail
        have hw2d : Below wr.heap.size wr wr.drew := (Below.refl _ wr).drewN 1
        go_region_law
          (first
            | ((go_simp; go_at_call 23; ((with_reducible (refine (HV1.out _).mono ?_)); rintro e wI ⟨rfl, hbI⟩; have hbI2 : Below wr.heap.size wr wI := hw2d.trans hbI; have hsI : wr.heap.size ≤ wI.heap.size := hbI2.size; have i1 : wI.cell? ⟨b, 1, none⟩ = some (.slice a N c) := cell_same' (hbI2.block _ hbr) p1; have j1 : wI.frozen? ⟨b, 1, none⟩ = false := frozen_same' (hbI2.block _ hbr) q9; have hrowI : wI.ownsRow (w.heap.size + 1) 9 1 (.slice a N c) N L := row_stay HO2.out (fun j hj => hbI2.block j (HO2.out.lt j hj).2); have HROW := Lib.hid hrowI; have HBI := Lib.hid hbI2; have hsB : b < wI.heap.size := (by omega); have iA : (wI.alloc (.cells #[.string ⟨X.toArray⟩] 9)).cell? ⟨b, 1, none⟩ = some (.slice a N c) := cell_same' (heap_alloc_old wI _ hsB) i1; clear hrowI hbI2 hbI)))
            | ((refine step_append_lies _ (by rfl) _ _ _ (by rfl) (w.heap.size + 1) 9 i0 _ 1 16 Tryz.underlying28 hi hz0 hz1 hz2 rfl (by omega) (.slice a N c) N L (by rfl) (by first | exact (HROW.out.alloc _).drew | exact HROW.out.alloc _) ⟨wI.heap.size, 0, none⟩ 1 1 [.string ⟨X.toArray⟩] (by rfl) (by rfl) (World.news_of_block (cs := #[.string ⟨X.toArray⟩]) (t := 9) (fr := (0, 0)) (heap_alloc_new wI _)) (by simp [Value.oneCell']) (by omega) (by unfold maxLen; omega) (by omega) (by simp; omega) (wI.heap.size + 1) (by simp) ?_; intro gg cap' w7 ho7 hg7 hat hlt'; have hbq : w7.heap[b]? = wI.heap[b]? := (hg7.block _ (by simp; omega) HNB.out).trans (heap_alloc_old wI _ (by omega)); have y1 : w7.cell? ⟨b, 1, none⟩ = some (.slice a N c) := cell_same' hbq i1; have x1 : w7.frozen? ⟨b, 1, none⟩ = false := frozen_same' hbq j1; have HBQ := Lib.hid hbq; clear hbq))
            | fail)
        all_goals
          have hgl : w.heap.size + 1 ≤ gg := (ho7.lt gg rfl).1
          have hgb : gg ≠ b := fun e => by
            subst e
            rcases ho7.2 with ⟨h0, -⟩ | ⟨g, cap, cur, h0, -, hg, -⟩
            · cases h0
            · cases h0
              have h5 : w7.heap[gg]? = wr.heap[gg]? := HBQ.out.trans (HBI.out.block _ hbr)
              rw [h5, HLr3.out.blk] at hg
              injection hg with hg
              injection hg with _ h _
              exact absurd h (by decide)
          have hgr : ∀ j, j < w.heap.size + 1 → w7.heap[j]? = wr.heap[j]? := fun j h2 =>
            ((hg7.block j (by simp; omega) (fun e => by have h3 : w.heap.size + 1 ≤ j := (HROW.out.lt j e.symm).1; omega)).trans (heap_alloc_old wI _ (by omega))).trans (HBI.out.block j (by omega))
          have hres : w7.heap[w.heap.size]? = wr.heap[w.heap.size]? := hgr _ (by omega)
          have hblk : w7.heap[b]? = wr.heap[b]? := HBQ.out.trans (HBI.out.block _ (by omega))
          have hbel : Below w.heap.size w w7 := ((HLr3.out.bel.trans (HBI.out.mono HLr3.out.bel.size)).alloc (by have := HBI.out.size; omega) _).grown hg7 (by simp; omega) (fun j e => by have h3 : w.heap.size + 1 ≤ j := (HROW.out.lt j e).1; omega)
          have HL7 : Hid (LocB b w (w7.setCell ⟨b, 1, none⟩ (.slice (some ⟨gg, 0, none⟩) (N + 1) cap')) 2 (.slice (some ⟨gg, 0, none⟩) (ws ++ [X]).length cap') ng) := Lib.hid (by
            have h := (HLr3.out.kept hres hblk hbel).set1 (.slice (some ⟨gg, 0, none⟩) (N + 1) cap')
            rw [List.length_append, HNN.out]; exact h)
          have HO7 : Hid ((w7.setCell ⟨b, 1, none⟩ (.slice (some ⟨gg, 0, none⟩) (N + 1) cap')).ownsRow (w.heap.size + 1) 9 1 (.slice (some ⟨gg, 0, none⟩) (ws ++ [X]).length cap') (ws ++ [X]).length ((ws ++ [X]).map encW)) := Lib.hid (by
            rw [List.length_append, HNN.out, List.map_append, HLL.out]
            exact row_stay ho7 fun j hj => by
              have : j = gg := by simpa [Value.ownBlock] using hj.symm
              subst this
              exact Below.heap_setCell w7 ⟨b, 1, none⟩ _ _ hgb)
          have HV7 : Hid (∀ x ∈ ws ++ [X], x ∈ vocL) := Lib.hid (fun x hx => by
            rcases List.mem_append.1 hx with hx | hx
            · exact HVr.out x hx
            · rw [List.mem_singleton.1 hx]; exact hXm)
          have hlen : k' + (ws ++ [X]).length ≤ 3 := by rw [List.length_append]; simp; omega
          have hlen1 : 1 ≤ (ws ++ [X]).length := by rw [List.length_append]; simp
          have hle9 : N + 1 = (ws ++ [X]).length := by rw [List.length_append, HNN.out]; rfl
          have HLE := Lib.hid hle9
          clear ho7 hg7 hat hlt' HBQ HROW HBI i1 j1 iA y1 x1 hgr hres hblk hbel HLr3 HO2 HNB hle9 HNN
          go_wp2_with fail
          go_roundw
          case rel => exact ⟨k', m3, ws ++ [X], some ⟨gg, 0, none⟩, cap', rfl, by go_num, hm3l, hlen, hlen1, HL7, HO7, HV7⟩
          case measure => simp [intOf]
  · have g2 : ((kd : Int) == 2) = false := by rw [beq_eq_false_iff_ne]; omega
    obtain ⟨wr, hwr9⟩ : ∃ wr, w3 = wr := ⟨_, rfl⟩
    rw [hwr9] at HL3 HO3 ⊢
    have HLr := HL3
    have HFIN : Hid (∀ wx, Below w.heap.size w wx → (∀ j, j < wr.heap.size → j ≠ w.heap.size → wx.heap[j]? = wr.heap[j]?) → PartV w (.returned (.agg #[.int .i64 (kd : Int), .slice (some ⟨bw, 0, none⟩) 1 1, .bool ng])) wx) := Lib.hid (fun wx hbel hblk => ⟨hbel, ⟨kd, ng, [V]⟩, some ⟨bw, 0, none⟩, 1, 1, rfl, ⟨by show kd = 1 ∨ kd = 2 ∨ kd = 3; omega, by simp, by simp, fun _ => rfl, fun x hx => by rw [List.mem_singleton.1 hx]; exact hVm⟩, by
      have := row_stay HO3.out (w' := wx) fun j hj => by
        have h1 : w.heap.size + 1 ≤ j ∧ j < wr.heap.size := HO3.out.lt j hj
        exact hblk j h1.2 (by omega)
      exact this.mono_base (Nat.zero_le _)⟩)
    obtain ⟨⟨c0, c1, c2⟩, -, ⟨r0, r1, r2⟩, ⟨f0, f1, f2⟩⟩ := HLr.out.cells
    have HBW := Lib.hid HLr.out.bel
    have HW : Hid (∀ (v0 v1 v2 : Value), (∀ j, j < wr.heap.size → j ≠ w.heap.size → (((wr.setCell ⟨w.heap.size, 0, none⟩ v0).setCell ⟨w.heap.size, 1, none⟩ v1).setCell ⟨w.heap.size, 2, none⟩ v2).heap[j]? = wr.heap[j]?)) := Lib.hid (fun v0 v1 v2 j _ hj => by
      rw [Below.heap_setCell _ ⟨w.heap.size, 2, none⟩ _ _ hj, Below.heap_setCell _ ⟨w.heap.size, 1, none⟩ _ _ hj, Below.heap_setCell _ ⟨w.heap.size, 0, none⟩ _ _ hj])
    clear HLr HO3 HL3 hwr9
    go_wp2_with fail
    exact bodyPost_ret (v := .agg #[.int .i64 (kd : Int), .slice (some ⟨bw, 0, none⟩) 1 1, .bool ng]) (by simp [results, Tryz.results28, go_sem, r0, r1, r2]) rfl (HFIN.out _ (((HBW.out.setCell (p := ⟨w.heap.size, 0, none⟩) (Nat.le_refl _) _).setCell (p := ⟨w.heap.size, 1, none⟩) (Nat.le_refl _) _).setCell (p := ⟨w.heap.size, 2, none⟩) (Nat.le_refl _) _) (HW.out _ _ _))
end Go.Proofs.YtogjgibaolppfaaGreatDoor
/- the law's Parts. -/
namespace Go.Proofs.YtogjgibaolppfaaGreatDoor
open Go.RowKit Go.Lib Go.Proofs

def pThe : Prt := ⟨1, false, [[116, 104, 101]]⟩
theorem pThe_voc : VocP pThe := ⟨.inl rfl, by decide, by decide, fun _ => rfl, fun x hx => by
  rw [List.mem_singleton.1 hx]; decide⟩
set_option maxRecDepth 100000 in
set_option maxHeartbeats 4000000 in
theorem lawParts_any (v : Value) (x : List Int) (w : World) (hv : IntsL w v x) :
    Calls Tryz.prog 15 #[v] w fun e w' => ∃ (u : Value) (P : List Pv), e = .returned u ∧ PartsR w.heap.size w' u P ∧ (∀ p ∈ P, VocP p.1) ∧ 1 ≤ P.length ∧ P.length ≤ 6 ∧ Below w.heap.size w w' := by
  obtain ⟨i0, hi, hz0, hz1, hz2⟩ := info_parts infoPart
  obtain ⟨a, c, rfl, hle, hcm, hcel⟩ := hv
  have HC := Lib.hid hcel
  clear hcel
  obtain ⟨w2, hw2⟩ : ∃ w2, (w.alloc (.cells #[.string ⟨#[116, 104, 101]⟩] 9)).alloc (.cells #[.int .i64 1, .slice (some ⟨w.heap.size, 0, none⟩) 1 1, .bool false] 53) = w2 := ⟨_, rfl⟩
  have hs1 : (w.alloc (.cells #[.string ⟨#[116, 104, 101]⟩] 9)).heap.size = w.heap.size + 1 := by simp
  have HB2 : Hid (Below w.heap.size w w2) := Lib.hid (by rw [← hw2]; exact ((Below.refl _ w).alloc (Nat.le_refl _) _).alloc (by omega) _)
  have HP2 : Hid (PartsR w.heap.size w2 (.slice (some ⟨w.heap.size + 1, 0, none⟩) 1 1) [(pThe, .slice (some ⟨w.heap.size, 0, none⟩) 1 1)]) := Lib.hid (by
    rw [← hw2]
    refine ⟨⟨rfl, .inr ⟨w.heap.size + 1, 1, _, rfl, by omega, by rw [← hs1]; exact heap_alloc_new _ _, Nat.le_refl _, by unfold maxLen; omega, rfl, rfl⟩⟩, fun y hy => ?_⟩
    rw [List.mem_singleton.1 hy]
    exact World.ownsRow.alloc (wordsO_new w [[116, 104, 101]] (by simp)) _)
  go_enter Tryz.func15, Tryz.ntmps15
  go_wp2_with fail
  clear hw2
  go_loopw [3, 4] (fun v3 v4 wr => ∃ (k : Nat) (P : List Pv), v4 = .int .i64 k ∧ k ≤ x.length ∧ k ≤ 6 ∧ (k = 0 ∨ P.length = k) ∧ 1 ≤ P.length ∧ P.length ≤ 6 ∧ Hid (PartsR w.heap.size wr v3 P) ∧ Hid (∀ p ∈ P, VocP p.1) ∧ Hid (Below w.heap.size w wr)) (fun _ v4 _ => x.length - (intOf v4).toNat)
  case atStart => exact ⟨0, [(pThe, .slice (some ⟨w.heap.size, 0, none⟩) 1 1)], rfl, Nat.zero_le _, Nat.zero_le _, .inl rfl, by simp, by simp, HP2, Lib.hid (fun p hp => by rw [List.mem_singleton.1 hp]; exact pThe_voc), HB2⟩
  case round =>
    clear HP2 HB2
    obtain ⟨k, P, rfl, hk, hk6, hkP, hP1, hP6, HP, HV, HB⟩ := hrel
    obtain ⟨a3, c3, hv3⟩ := row_form HP.out.1
    subst hv3
    by_cases hgo : k < x.length ∧ k < 6
    · have g1 : decide ((k : Int) < (x.length : Int)) = true := decide_eq_true (by omega)
      have g1' : decide (k < x.length) = true := decide_eq_true hgo.1
      have g2 : decide ((k : Int) < 6) = true := decide_eq_true (by omega)
      have g2' : decide (k < 6) = true := decide_eq_true hgo.2
      have hki : (k : Int) < (x.length : Int) := by omega
      obtain ⟨b, off, rfl, ck, hi64⟩ := HC.out k hgo.1
      have ck2 := (HB.out.cell (World.block_lt_of_cell? w _ ck)).trans ck
      obtain ⟨y, hy⟩ : ∃ y, x[k] = y := ⟨_, rfl⟩
      rw [hy] at ck2 hi64
      have HPT := Lib.hid (lawPart_any y hi64 wr)
      clear ck hy hi64
      have HQ : Hid (∃ (Q : List Pv) (u : Value), (if k = 0 then (.slice none 0 0 : Value) else .slice a3 P.length c3) = u ∧ PartsR w.heap.size wr u Q ∧ (∀ p ∈ Q, VocP p.1) ∧ Q.length = k) := Lib.hid (by
        by_cases h0 : k = 0
        · subst h0
          exact ⟨[], .slice none 0 0, rfl, PartsR.nil _ _, fun p hp => (by cases hp), rfl⟩
        · exact ⟨P, _, if_neg h0, HP.out, HV.out, by omega⟩)
      obtain ⟨Q, u, hu, hQ, hQv, hQl⟩ := HQ.out
      have HU := Lib.hid hu; have HQ2 := Lib.hid hQ; have HQV := Lib.hid hQv; have HQL := Lib.hid hQl
      have hq6 : Q.length ≤ 5 := by omega
      clear hu hQ hQv HQ HP HV hQl
      obtain ⟨a4, c4, hv4⟩ := row_form HQ2.out.1
      subst hv4
      go_upto_region 5 with fail
      go_upto_if 19 with fail
      go_cut [3] (fun v wx => v = .slice a4 Q.length c4 ∧ wr = wx)
      case first =>
        by_cases h0 : k = 0
        · subst h0
          have h1 := HU.out
          rw [if_pos rfl] at h1
          have HU1 := Lib.hid h1
          clear h1
          go_wp2_with fail
          go_meet
          exact ⟨HU1.out, rfl⟩
        · have g3 : ((k : Int) == 0) = false := by simpa using h0
          have g3' : (k == 0) = false := by simpa using h0
          have h1 := HU.out
          rw [if_neg h0] at h1
          have HU1 := Lib.hid h1
          clear h1
          go_wp2_with fail
          go_meet
          exact ⟨HU1.out, rfl⟩
      case rest =>
        obtain ⟨rfl, rfl⟩ := hcut
        go_upto_region 7 with fail
        have hrow := HQ2.out.1
        have hbs := HB.out.size
        go_wp2_with (first
          | (go_at_call 28; (with_reducible (refine HPT.out.mono ?_)); rintro e wp ⟨hbp, pt, ua, un, uc, rfl, hvp, hwp⟩; have HBP := Lib.hid hbp; have HVP := Lib.hid hvp; have HWP := Lib.hid hwp; clear hbp hvp hwp)
          | (at_builtin; go_loud (refine wpList_append_own _ rfl _ _ 26 rfl w.heap.size 53 i0 _ 3 40 Tryz.underlying26 hi hz0 hz1 hz2 rfl (by decide) _ _ _ rfl ((row_stay hrow (w' := wp) fun i hi => HBP.out.block i (hrow.lt i hi).2).alloc _) ⟨wp.heap.size, 0, none⟩ 1 1 [.int .i64 (pt.kind : Int), .slice ua un uc, .bool pt.neg] rfl rfl (World.news_of_block (cs := #[.int .i64 (pt.kind : Int), .slice ua un uc, .bool pt.neg]) (t := 53) (fr := (0, 0)) (heap_alloc_new wp _)) (by simp [Value.oneCell']) ?c3 ?c4 ?c5 ?_))
          | fail)
        case c3 => unfold maxLen; omega
        case c4 => omega
        case c5 => have := HBP.out.size; simp; omega
        intro v' w5 ho5 hg5 _
        have hsp := HBP.out.size
        have hPA : PartsR w.heap.size (wp.alloc (.cells #[.int .i64 (pt.kind : Int), .slice ua un uc, .bool pt.neg] 53)) (.slice a4 Q.length c4) Q := (HQ2.out.below HBP.out).below ((Below.refl _ wp).alloc (Nat.le_refl _) _)
        have HP5 : Hid (PartsR w.heap.size w5 v' (Q ++ [(pt, .slice ua un uc)])) := Lib.hid (hPA.snoc (x := (pt, .slice ua un uc)) (HWP.out.below ((Below.refl _ wp).alloc (Nat.le_refl _) _)) ho5 hg5)
        have HB5 : Hid (Below w.heap.size w w5) := Lib.hid (((HB.out.trans (HBP.out.mono hbs)).alloc (by omega) _).grown hg5 (by simp; omega) (fun j e => (hPA.1.lt j e).1))
        have HV5 : Hid (∀ p ∈ Q ++ [((pt, .slice ua un uc) : Pv)], VocP p.1) := Lib.hid (fun p hp => by
          rcases List.mem_append.1 hp with hp | hp
          · exact HQV.out p hp
          · rw [List.mem_singleton.1 hp]; exact HVP.out)
        have HL5 : Hid ((Q ++ [((pt, .slice ua un uc) : Pv)]).length = k + 1) := Lib.hid (by rw [List.length_append, HQL.out]; rfl)
        clear ho5 hg5 hPA
        go_wp2_with fail
        go_roundw
        case rel => exact ⟨k + 1, _, by go_num, by omega, by omega, .inr HL5.out, by rw [HL5.out]; omega, by rw [HL5.out]; omega, HP5, HV5, HB5⟩
        case measure => simp [intOf]; omega
    · have hend : k = x.length ∨ k = 6 := by omega
      have HF := Lib.hid (show ∃ (u : Value) (P' : List Pv), u = .slice a3 P.length c3 ∧ PartsR w.heap.size wr u P' ∧ (∀ p ∈ P', VocP p.1) ∧ 1 ≤ P'.length ∧ P'.length ≤ 6 ∧ Below w.heap.size w wr from ⟨_, P, rfl, HP.out, HV.out, hP1, hP6, HB.out⟩)
      clear HP HV hkP
      by_cases h6 : k < x.length
      · have g1 : decide ((k : Int) < (x.length : Int)) = true := decide_eq_true (by omega)
        have g1' : decide (k < x.length) = true := decide_eq_true h6
        have g2 : decide ((k : Int) < 6) = false := decide_eq_false (by omega)
        have g2' : decide (k < 6) = false := decide_eq_false (by omega)
        clear hend hgo h6
        go_wp2_with fail
        go_ret
        obtain ⟨u, P', e, h⟩ := HF.out
        exact ⟨_, P', rfl, e ▸ h⟩
      · have g1 : decide ((k : Int) < (x.length : Int)) = false := decide_eq_false (by omega)
        have g1' : decide (k < x.length) = false := decide_eq_false h6
        clear hend hgo h6
        go_wp2_with fail
        go_ret
        obtain ⟨u, P', e, h⟩ := HF.out
        exact ⟨_, P', rfl, e ▸ h⟩
end Go.Proofs.YtogjgibaolppfaaGreatDoor

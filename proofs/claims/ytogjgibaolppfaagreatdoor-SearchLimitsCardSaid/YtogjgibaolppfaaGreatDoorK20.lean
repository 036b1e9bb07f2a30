/- Facts and contracts for the laws of the sender, part 20. Conditions: those that each theorem names. -/
import Derived.Test.YtogjgibaolppfaaGreatDoorK19
import Derived.Deep.RegionHeld3
import Derived.Deep.DeepCutAuto
import Derived.Deep.CutBlock
import Derived.StillTailTactics
import Derived.IntWalk
/- search: part. -/
namespace Go.Proofs.YtogjgibaolppfaaGreatDoor
open Go.RowKit Go.Shelf Go.Lib Go.Proofs

def PartEnd (R : Option (Prt × List UInt8)) (k : Nat) (u : Value) (ng ok : Bool) (a : List UInt8) (w' : World) : Prop :=
  match R with
  | none => ok = false
  | some x => ok = true ∧ k = x.1.kind ∧ ng = x.1.neg ∧ a = x.2 ∧ WordsO w' u x.1.words
def PartPost (R : Option (Prt × List UInt8)) (w : World) (e : Ending) (w' : World) : Prop :=
  Below w.heap.size w w' ∧ ∃ (k : Nat) (ua : Option Addr) (un uc : Nat) (ng ok : Bool) (a : List UInt8), e = .returned (.tuple #[.agg #[.int .i64 (k : Int), .slice ua un uc, .bool ng], .string ⟨a.toArray⟩, .bool ok]) ∧ PartEnd R k (.slice ua un uc) ng ok a w'
theorem partP_cut (s : List UInt8) : partP s = part1 (hasC 45 s) (cutSC 45 s) := by
  unfold partP hasC cutSC
  by_cases h : s.head? = some 45
  · rw [if_pos h, if_pos h, decide_eq_true h]
  · rw [if_neg h, if_neg h, decide_eq_false h]

theorem fieldsGo_mem : ∀ (s cur : List UInt8) (x : List UInt8), x ∈ fieldsGo cur s → x.length ≤ cur.length + s.length
  | [], cur, x, h => by
    rw [fieldsGo_nil] at h
    split at h
    · cases h
    · rw [List.mem_singleton.1 h]; exact Nat.le_add_right _ _
  | c :: r, cur, x, h => by
    rw [fieldsGo] at h
    split at h
    · rcases List.mem_append.1 h with h | h
      · split at h
        · cases h
        · rw [List.mem_singleton.1 h]; exact Nat.le_add_right _ _
      · have := fieldsGo_mem r [] x h
        simp at this ⊢; omega
    · have := fieldsGo_mem r (cur ++ [c]) x h
      simp at this ⊢; omega
theorem fields_mem (s : List UInt8) (x : List UInt8) (h : x ∈ fieldsB s) : x.length ≤ s.length := by have := fieldsGo_mem s [] x h; simpa using this
theorem fieldsGo_len : ∀ (s cur : List UInt8), (fieldsGo cur s).length ≤ s.length + if cur = [] then 0 else 1
  | [], cur => by rw [fieldsGo_nil]; split <;> simp_all
  | c :: r, cur => by
    rw [fieldsGo]
    split
    · have := fieldsGo_len r []
      rw [List.length_append]
      split <;> simp_all <;> omega
    · have := fieldsGo_len r (cur ++ [c])
      rw [if_neg (by simp)] at this
      split <;> simp at this ⊢ <;> omega
theorem fields_len (s : List UInt8) : (fieldsB s).length ≤ s.length := by have := fieldsGo_len s []; simpa [fieldsB] using this
/-- the first k words in small letters -/
def mixF (fs : List Wd) (k : Nat) : List Wd := (fs.take k).map lowD ++ fs.drop k
theorem mix_len (fs : List Wd) (k : Nat) : (mixF fs k).length = fs.length := by
  unfold mixF; rw [List.length_append, List.length_map, ← List.length_append, List.take_append_drop]
theorem mix_at {fs : List Wd} {k : Nat} (h : k < fs.length) : (mixF fs k)[k]? = some fs[k] := by
  unfold mixF
  have e : ((fs.take k).map lowD).length = k := by rw [List.length_map, List.length_take]; omega
  rw [List.getElem?_append_right (by omega), e, Nat.sub_self, List.getElem?_drop, Nat.add_zero, List.getElem?_eq_getElem h]
theorem mix_set {fs : List Wd} {k : Nat} (h : k < fs.length) : (mixF fs k).set k (lowD fs[k]) = mixF fs (k + 1) := by
  unfold mixF
  have e : ((fs.take k).map lowD).length = k := by rw [List.length_map, List.length_take]; omega
  rw [List.set_append_right _ _ (by omega), e, Nat.sub_self, List.drop_eq_getElem_cons h, List.set_cons_zero, List.take_succ_eq_append_getElem h, List.map_append, List.append_assoc]
  rfl
theorem mix_all (fs : List Wd) : mixF fs fs.length = fs.map lowD := by unfold mixF; rw [List.take_length, List.drop_length, List.append_nil]
/-- a row's cell, and what a store into it makes of the row -/
theorem row_cell {W : World} {base : Nat} {b n c k : Nat} {xs : List Wd} (h : W.ownsRow base 9 1 (.slice (some ⟨b, 0, none⟩) n c) n (xs.map encW)) {x : Wd} (hk : xs[k]? = some x) : W.cell? ⟨b, k, none⟩ = some (encW x) ∧ W.frozen? ⟨b, k, none⟩ = false := by
  have hb := h.cells (g := b) rfl k (encW x) (by rw [List.getElem?_map, hk]; rfl)
  rcases h.2 with ⟨h0, -⟩ | ⟨g, cap, cur, e, -, hg, -⟩
  · cases h0
  · cases e
    have ha : (⟨b, 0, none⟩ : Addr).add k = ⟨b, k, none⟩ := by unfold Addr.add; by_cases h0 : k = 0 <;> simp [h0]
    rw [ha] at hb
    exact ⟨hb, Lib.frozen_of_heap hg k⟩
theorem row_set {W : World} {base : Nat} {b n c k : Nat} {xs : List Wd} (h : W.ownsRow base 9 1 (.slice (some ⟨b, 0, none⟩) n c) n (xs.map encW)) (_hk : k < n) (y : Wd) : (W.setCell ⟨b, k, none⟩ (encW y)).ownsRow base 9 1 (.slice (some ⟨b, 0, none⟩) n c) n ((xs.set k y).map encW) := by
  refine ⟨by have := h.1; simpa using this, ?_⟩
  rcases h.2 with ⟨h0, -⟩ | ⟨g, cap, cur, e, hb, hg, hn, hm, hs, ht⟩
  · cases h0
  · cases e
    refine .inr ⟨b, c, cur.setIfInBounds k (encW y), rfl, hb, by simp [World.setCell, Array.getElem?_modify, hg], hn, hm, by simpa using hs, ?_⟩
    rw [Array.toList_setIfInBounds, List.take_set, ht, List.map_set]

/-- the call's own two blocks: the result, and the part under way -/
structure Loc (w wx : World) (k : Int) (u : Value) (ng : Bool) : Prop where
  res : wx.heap[w.heap.size]? = some (.cells #[.int .i64 0, .slice none 0 0, .bool false] 53 (0, 0))
  blk : wx.heap[w.heap.size + 1]? = some (.cells #[.int .i64 k, u, .bool ng] 53 (0, 0))
  bel : Below w.heap.size w wx
theorem Loc.size {w wx : World} {k : Int} {u : Value} {ng : Bool} (h : Loc w wx k u ng) : w.heap.size + 1 < wx.heap.size := (Array.getElem?_eq_some_iff.1 h.blk).1
theorem Loc.below {w wx wy : World} {k : Int} {u : Value} {ng : Bool} (h : Loc w wx k u ng) (hb : Below wx.heap.size wx wy) : Loc w wy k u ng := by
  have := h.size
  exact ⟨(hb.block _ (by omega)).trans h.res, (hb.block _ (by omega)).trans h.blk, h.bel.trans (hb.mono h.bel.size)⟩
theorem Loc.kept {w wx wy : World} {k : Int} {u : Value} {ng : Bool} (h : Loc w wx k u ng) (hr : wy.heap[w.heap.size]? = wx.heap[w.heap.size]?) (hb : wy.heap[w.heap.size + 1]? = wx.heap[w.heap.size + 1]?) (hB : Below w.heap.size w wy) : Loc w wy k u ng := ⟨hr.trans h.res, hb.trans h.blk, hB⟩
theorem Loc.cells {w wx : World} {k : Int} {u : Value} {ng : Bool} (h : Loc w wx k u ng) :
    (wx.cell? ⟨w.heap.size + 1, 0, none⟩ = some (.int .i64 k) ∧ wx.cell? ⟨w.heap.size + 1, 1, none⟩ = some u ∧ wx.cell? ⟨w.heap.size + 1, 2, none⟩ = some (.bool ng)) ∧
    (wx.frozen? ⟨w.heap.size + 1, 0, none⟩ = false ∧ wx.frozen? ⟨w.heap.size + 1, 1, none⟩ = false) ∧
    (wx.cell? ⟨w.heap.size, 0, none⟩ = some (.int .i64 0) ∧ wx.cell? ⟨w.heap.size, 1, none⟩ = some (.slice none 0 0) ∧ wx.cell? ⟨w.heap.size, 2, none⟩ = some (.bool false)) ∧
    (wx.frozen? ⟨w.heap.size, 0, none⟩ = false ∧ wx.frozen? ⟨w.heap.size, 1, none⟩ = false ∧ wx.frozen? ⟨w.heap.size, 2, none⟩ = false) :=
  ⟨⟨by rw [Lib.cell_of_heap h.blk]; rfl, by rw [Lib.cell_of_heap h.blk]; rfl, by rw [Lib.cell_of_heap h.blk]; rfl⟩, ⟨Lib.frozen_of_heap h.blk 0, Lib.frozen_of_heap h.blk 1⟩,
    ⟨by rw [Lib.cell_of_heap h.res]; rfl, by rw [Lib.cell_of_heap h.res]; rfl, by rw [Lib.cell_of_heap h.res]; rfl⟩, ⟨Lib.frozen_of_heap h.res 0, Lib.frozen_of_heap h.res 1, Lib.frozen_of_heap h.res 2⟩⟩
theorem Loc.set0 {w wx : World} {k : Int} {u : Value} {ng : Bool} (h : Loc w wx k u ng) (k' : Int) : Loc w (wx.setCell ⟨w.heap.size + 1, 0, none⟩ (.int .i64 k')) k' u ng :=
  ⟨(Below.heap_setCell wx ⟨w.heap.size + 1, 0, none⟩ _ _ (by simp)).trans h.res, by simp [World.setCell, Array.getElem?_modify, h.blk], h.bel.setCell (by simp) _⟩
theorem Loc.set1 {w wx : World} {k : Int} {u : Value} {ng : Bool} (h : Loc w wx k u ng) (u' : Value) : Loc w (wx.setCell ⟨w.heap.size + 1, 1, none⟩ u') k u' ng :=
  ⟨(Below.heap_setCell wx ⟨w.heap.size + 1, 1, none⟩ _ _ (by simp)).trans h.res, by simp [World.setCell, Array.getElem?_modify, h.blk], h.bel.setCell (by simp) _⟩
theorem Loc.start (w : World) (ng : Bool) : Loc w ((w.alloc (.cells #[.int .i64 0, .slice none 0 0, .bool false] 53)).alloc (.cells #[.int .i64 0, .slice none 0 0, .bool ng] 53)) 0 (.slice none 0 0) ng := by
  have h1 : (w.alloc (.cells #[.int .i64 0, .slice none 0 0, .bool false] 53)).heap.size = w.heap.size + 1 := by simp
  refine ⟨?_, ?_, ((Below.refl _ w).alloc (Nat.le_refl _) _).alloc (by simp) _⟩
  · rw [Below.heap_alloc _ _ _ (by omega)]; exact heap_alloc_new w _
  · rw [← h1]; exact heap_alloc_new _ _

set_option maxRecDepth 100000 in
set_option maxHeartbeats 4000000 in
theorem part_phr (s : List UInt8) (ng : Bool) (q : List UInt8) (hl : q.length ≤ 1000) (w : World) (hE : Env w) (hC : ∀ W, Calls Tryz.prog 69 #[.string ⟨s.toArray⟩, .string ⟨#[45]⟩] W fun e w' => e = .returned (.tuple #[.string ⟨(34 :: q).toArray⟩, .bool ng]) ∧ W = w') :
    Calls Tryz.prog 39 #[.string ⟨s.toArray⟩] w (PartPost (part1 ng (34 :: q)) w) := by
  have hC2 := fun W => cutPrefix_any 34 (34 :: q) W
  have HE := Lib.hid hE
  obtain ⟨R, hR⟩ : ∃ R, part1 ng (34 :: q) = R := ⟨_, rfl⟩
  rw [hR]
  have HR := Lib.hid hR
  have g1 : hasC 34 (34 :: q) = true := by unfold hasC; exact decide_eq_true rfl
  have g2 : cutSC 34 (34 :: q) = q := by unfold cutSC; exact if_pos rfl
  rw [g1, g2] at hC2
  have HL := Lib.hid (Loc.start w ng)
  clear g1 g2 hR hE
  go_enter Tryz.func39, Tryz.ntmps39
  go_wp2_with fail
  refine (hC _).mono ?_
  rintro e w1 ⟨rfl, rfl⟩
  go_wp2_with fail
  refine (hC2 _).mono ?_
  rintro e w1 ⟨rfl, rfl⟩
  obtain ⟨w1, hw1⟩ : ∃ w1, ((w.alloc (.cells #[.int .i64 0, .slice none 0 0, .bool false] 53)).alloc (.cells #[.int .i64 0, .slice none 0 0, .bool ng] 53)) = w1 := ⟨_, rfl⟩
  rw [hw1] at HL ⊢
  have hE1 := HE.out.below HL.out.bel
  have hcut := cut_any q (by omega) w1 hE1
  have hlc : (cutQI q).length ≤ 1000 := by
    unfold cutQI
    cases hc : cutQ q with
    | none => exact hl
    | some x => have := (cutQ_some (q := q) (i := x.1) (a := x.2) hc).1; have := congrArg List.length this; simp at this; simp only; omega
  obtain ⟨I, hI⟩ : ∃ I, cutQI q = I := ⟨_, rfl⟩
  obtain ⟨A, hA⟩ : ∃ A, cutQA q = A := ⟨_, rfl⟩
  obtain ⟨oc, hoc⟩ : ∃ oc, (cutQ q).isSome = oc := ⟨_, rfl⟩
  rw [hI, hA, hoc] at hcut
  rw [hI] at hlc
  have HX : Hid (cutQI q = I ∧ cutQA q = A ∧ (cutQ q).isSome = oc) := Lib.hid ⟨hI, hA, hoc⟩
  clear hw1 hC hC2 hI hA hoc
  go_wp2_with fail
  refine hcut.mono ?_
  rintro e w2 ⟨rfl, hb2⟩
  have HL2 := Lib.hid (HL.out.below hb2)
  have HE2 := Lib.hid (hE1.below hb2)
  clear hb2 hE1 hcut HL
  obtain ⟨⟨c0, c1, c2⟩, ⟨f0, f1⟩, -⟩ := HL2.out.cells
  have HL3 := Lib.hid (HL2.out.set0 2)
  obtain ⟨w3, hw3⟩ : ∃ w3, w2.setCell ⟨w.heap.size + 1, 0, none⟩ (.int .i64 2) = w3 := ⟨_, rfl⟩
  have hfld := fun W => fields_any I (by omega) W
  go_wp2_with fail
  refine (hfld _).mono ?_
  rintro e w4 ⟨Ab, rfl, hAb, ho4, hb4⟩
  have HL3' : Hid (Loc w w3 2 (.slice none 0 0) ng) := Lib.hid (by rw [← hw3]; exact HL3.out)
  have HL4 := Lib.hid (HL3'.out.below hb4)
  have HE4 : Hid (Env w4) := Lib.hid (HE.out.below HL4.out.bel)
  have hs3 := HL3'.out.size
  have hne : Ab ≠ w.heap.size + 1 ∧ Ab ≠ w.heap.size := by omega
  clear c0 c1 c2 f0 f1 hw3 HL3 HL3' hb4 hfld
  obtain ⟨fs, hfs⟩ : ∃ fs, fieldsB I = fs := ⟨_, rfl⟩
  rw [hfs] at ho4 ⊢
  have hfl : fs.length ≤ 1000 := by
    rw [← hfs]; exact Nat.le_trans (fields_len I) hlc
  have hfw : ∀ x ∈ fs, x.length ≤ 1000 := fun x hx => by
    rw [← hfs] at hx; exact Nat.le_trans (fields_mem I x hx) hlc
  have HFW := Lib.hid hfw
  have HFS := Lib.hid hfs
  clear hfs hfw
  obtain ⟨⟨c0, c1, c2⟩, ⟨f0, f1⟩, -⟩ := HL4.out.cells
  have HL5 := Lib.hid (HL4.out.set1 (.slice (some ⟨Ab, 0, none⟩) fs.length fs.length))
  obtain ⟨w5, hw5⟩ : ∃ w5, w4.setCell ⟨w.heap.size + 1, 1, none⟩ (.slice (some ⟨Ab, 0, none⟩) fs.length fs.length) = w5 := ⟨_, rfl⟩
  have HO5 : Hid (w5.ownsRow w3.heap.size 9 1 (.slice (some ⟨Ab, 0, none⟩) fs.length fs.length) fs.length ((mixF fs 0).map encW)) := Lib.hid (by
    have e : mixF fs 0 = fs := by simp [mixF]
    rw [e, ← hw5]
    exact row_stay ho4 fun j hj => by
      have : j = Ab := by simpa [Value.ownBlock] using hj.symm
      subst this
      exact Below.heap_setCell w4 ⟨w.heap.size + 1, 1, none⟩ _ _ (by simp; omega))
  rw [hw5] at HL5
  have HE5 : Hid (Env w5) := Lib.hid (HE.out.below HL5.out.bel)
  have d1 : w5.cell? ⟨w.heap.size + 1, 1, none⟩ = some (.slice (some ⟨Ab, 0, none⟩) fs.length fs.length) := HL5.out.cells.1.2.1
  clear ho4 HL4 HE4
  go_wp2_with fail
  clear hw5 c0 c1 c2 f0 f1 d1
  go_loopw [10, 41] (fun vo vi wr => ∃ (k : Nat) (b : Bool), vi = .int .i64 k ∧ k ≤ fs.length ∧ vo = .bool b ∧ Hid (b = (oc && (fs.take k).all isWd)) ∧ Hid (Loc w wr 2 (.slice (some ⟨Ab, 0, none⟩) fs.length fs.length) ng) ∧ Hid (wr.ownsRow w3.heap.size 9 1 (.slice (some ⟨Ab, 0, none⟩) fs.length fs.length) fs.length ((mixF fs k).map encW))) (fun _ vi _ => fs.length - (intOf vi).toNat)
  case atStart => exact ⟨0, oc, rfl, Nat.zero_le _, rfl, Lib.hid (by simp), HL5, HO5⟩
  case round =>
    obtain ⟨k, b, rfl, hk, rfl, HB, HLr, HOr⟩ := hrel
    by_cases hlt : k < fs.length
    · have hki : (k : Int) < (fs.length : Int) := by omega
      obtain ⟨ck, fk⟩ := row_cell HOr.out (mix_at hlt)
      have hxl := HFW.out fs[k] (List.getElem_mem hlt)
      have HT := Lib.hid (List.take_succ_eq_append_getElem hlt)
      have HMS := Lib.hid (mix_set (fs := fs) hlt)
      obtain ⟨x, hx⟩ : ∃ x, fs[k] = x := ⟨_, rfl⟩
      rw [hx] at ck hxl HT HMS
      unfold encW at ck
      have HB2 : Hid ((b && isWd x) = (oc && (fs.take (k + 1)).all isWd)) := Lib.hid (by rw [HT.out, HB.out, List.all_append]; simp [Bool.and_assoc])
      clear hx HT HB
      have hiw := fun W => isWord_any ⟨x.toArray⟩ (by show x.toArray.size ≤ _; simp; omega) W
      have hdl : (⟨x.toArray⟩ : ByteArray).data.toList = x := by simp
      rw [hdl] at hiw
      obtain ⟨iw, hiw2⟩ : ∃ iw, isWd x = iw := ⟨_, rfl⟩
      rw [hiw2] at hiw HB2
      clear hiw2 hdl
      go_upto_region 11 with fail
      go_cut [10] (fun v wx => v = .bool (b && iw) ∧ wr = wx)
      case first =>
        cases b
        · go_wp2_with fail
          go_meet
          exact ⟨rfl, rfl⟩
        · go_wp2_with (first
            | (go_at_call 73; (with_reducible (refine (hiw _).mono ?_)); rintro e wx ⟨rfl, rfl⟩)
            | fail)
          go_meet
          exact ⟨rfl, rfl⟩
      case rest =>
        obtain ⟨rfl, rfl⟩ := hcut
        obtain ⟨b2, hb2⟩ : ∃ b2, (b && iw) = b2 := ⟨_, rfl⟩
        rw [hb2] at HB2 ⊢
        clear hb2 hiw
        have d1 : wr.cell? ⟨w.heap.size + 1, 1, none⟩ = some (.slice (some ⟨Ab, 0, none⟩) fs.length fs.length) := HLr.out.cells.1.2.1
        go_upto_region 12 with fail
        have hlow := fun W (hb : Below wr.heap.size wr W) => lower_any x (by omega) W ((HE.out.below HLr.out.bel).below hb)
        have HLW := Lib.hid hlow
        clear hlow
        have hl5 : w.heap.size + 1 < wr.heap.size := HLr.out.size
        have hlA : Ab < wr.heap.size := World.block_lt_of_cell? wr _ ck
        go_region_held3 (fun w' => w'.cell? ⟨w.heap.size + 1, 1, none⟩ = some (.slice (some ⟨Ab, 0, none⟩) fs.length fs.length))
          (first | assumption | go_keep)
          (first
            | (go_at_call 74; (refine (HLW.out _ ?_).mono ?_); exact (Below.refl _ wr).drewN _; rintro e w6 ⟨rfl, hb6⟩; have d6 := (hb6.cell (p := ⟨w.heap.size + 1, 1, none⟩) hl5).trans d1; have c6 := (hb6.cell (p := ⟨Ab, k, none⟩) hlA).trans ck; have f6 := (hb6.frozen (p := ⟨Ab, k, none⟩) hlA).trans fk)
            | fail)
        have HO6 : Hid (w6.ownsRow w3.heap.size 9 1 (.slice (some ⟨Ab, 0, none⟩) fs.length fs.length) fs.length ((mixF fs k).map encW)) := Lib.hid (row_stay HOr.out fun j hj => by
          have : j = Ab := by simpa [Value.ownBlock] using hj.symm
          subst this
          exact hb6.block _ hlA)
        have HO7 : Hid ((w6.setCell ⟨Ab, k, none⟩ (.string ⟨(lowD x).toArray⟩)).ownsRow w3.heap.size 9 1 (.slice (some ⟨Ab, 0, none⟩) fs.length fs.length) fs.length ((mixF fs (k + 1)).map encW)) := Lib.hid (by rw [← HMS.out]; exact row_set HO6.out hlt _)
        have HL6 := Lib.hid (HLr.out.below (wy := w6) ((below_drewN' (Below.refl _ wr) 1).trans hb6))
        have HL7 : Hid (Loc w (w6.setCell ⟨Ab, k, none⟩ (.string ⟨(lowD x).toArray⟩)) 2 (.slice (some ⟨Ab, 0, none⟩) fs.length fs.length) ng) := Lib.hid (HL6.out.kept
          (Below.heap_setCell w6 ⟨Ab, k, none⟩ _ _ (fun e => hne.2 e.symm)) (Below.heap_setCell w6 ⟨Ab, k, none⟩ _ _ (fun e => hne.1 e.symm)) (HL6.out.bel.setCell (by show w.heap.size ≤ Ab; omega) _))
        clear HO6 HL6 d6 c6 f6 hb6 HLW HMS HOr HLr ck fk d1
        go_wp2_with fail
        go_roundw
        case rel => exact ⟨k + 1, b2, by go_num, by omega, rfl, HB2, HL7, HO7⟩
        case measure => simp [intOf]; omega
    · obtain rfl : k = fs.length := by omega
      rw [List.take_length] at HB
      rw [mix_all] at HOr
      obtain ⟨⟨c0, c1, c2⟩, -, ⟨r0, r1, r2⟩, ⟨f0, f1, f2⟩⟩ := HLr.out.cells
      have HFIN : Hid (∀ wx ok, Below wr.heap.size wr wx ∨ True → (∀ j, j < wr.heap.size → j ≠ w.heap.size → wx.heap[j]? = wr.heap[j]?) → wr.heap.size ≤ wx.heap.size → Below w.heap.size w wx → ok = (b && (decide (1 ≤ fs.length) && decide (fs.length ≤ 8))) → PartPost R w (.returned (.tuple #[.agg #[.int .i64 2, .slice (some ⟨Ab, 0, none⟩) fs.length fs.length, .bool ng], .string ⟨A.toArray⟩, .bool ok])) wx) := Lib.hid (by
        rintro wx ok - hblk - hbel hok
        refine ⟨hbel, 2, _, _, _, ng, ok, A, rfl, ?_⟩
        rw [← HR.out]
        obtain ⟨h1, h2, h3⟩ := HX.out
        have hw := HB.out
        have hokp : okPhr fs = (fs.all isWd && (decide (1 ≤ fs.length) && decide (fs.length ≤ 8))) := rfl
        have hp1 : part1 ng (34 :: q) = match cutQ q with
          | none => none
          | some x => if okPhr (fieldsB x.1) then some (⟨2, ng, (fieldsB x.1).map lowW⟩, x.2) else none := by rw [part1]; exact if_pos rfl
        rw [hp1]
        cases hc : cutQ q with
        | none =>
          rw [hc] at h3
          have : oc = false := h3.symm
          show ok = false
          rw [hok, hw, this]; rfl
        | some y =>
          rw [hc] at h3
          have hoc : oc = true := h3.symm
          have hy1 : y.1 = I := by unfold cutQI at h1; rw [hc] at h1; exact h1
          have hy2 : y.2 = A := by unfold cutQA at h2; rw [hc] at h2; exact h2
          simp only
          rw [hy1, hy2, HFS.out]
          have hok2 : ok = okPhr fs := by rw [hok, hw, hoc, hokp]; simp
          by_cases hph : okPhr fs = true
          · rw [if_pos hph]
            have hall : ∀ x ∈ fs, isWd x = true := by
              rw [hokp] at hph; simp only [Bool.and_eq_true] at hph
              exact List.all_eq_true.1 hph.1
            have hmap : fs.map lowD = fs.map lowW := List.map_congr_left fun x hx => lowD_parts (isWd_mem (hall x hx)).1
            refine ⟨by rw [hok2, hph], rfl, rfl, rfl, ?_⟩
            show WordsO wx _ (fs.map lowW)
            rw [← hmap]
            have hAl : Ab < wr.heap.size := (HOr.out.lt Ab rfl).2
            have := row_stay HOr.out (w' := wx) fun j hj => by
              have : j = Ab := by simpa [Value.ownBlock] using hj.symm
              subst this
              exact hblk _ hAl hne.2
            unfold WordsO
            rw [List.length_map]
            exact this.mono_base (Nat.zero_le _)
          · rw [if_neg hph]
            show ok = false
            rw [hok2]; simpa using hph)
      have hwl : w.heap.size < wr.heap.size := by have := HLr.out.size; omega
      have HBW := Lib.hid HLr.out.bel
      have HW : Hid (∀ (v0 v1 v2 : Value), (∀ j, j < wr.heap.size → j ≠ w.heap.size → (((wr.setCell ⟨w.heap.size, 0, none⟩ v0).setCell ⟨w.heap.size, 1, none⟩ v1).setCell ⟨w.heap.size, 2, none⟩ v2).heap[j]? = wr.heap[j]?)) := Lib.hid (fun v0 v1 v2 j _ hj => by
        rw [Below.heap_setCell _ ⟨w.heap.size, 2, none⟩ _ _ hj, Below.heap_setCell _ ⟨w.heap.size, 1, none⟩ _ _ hj, Below.heap_setCell _ ⟨w.heap.size, 0, none⟩ _ _ hj])
      clear HLr HOr HX HFS HB HFW HL5 HO5 HE5 HL2 HE2 HR
      have hlen0 : (0 : Int) ≤ (fs.length : Int) := by omega
      by_cases hb : b = false
      · subst hb
        go_upto_region 14 with fail
        go_region
        go_wp2_with fail
        exact bodyPost_ret (v := .tuple #[.agg #[.int .i64 2, .slice (some ⟨Ab, 0, none⟩) fs.length fs.length, .bool ng], .string ⟨A.toArray⟩, .bool false]) (by simp [results, Tryz.results39, go_sem, r0, r1, r2]) rfl (HFIN.out _ _ (.inr trivial) (HW.out _ _ _) (by simp) ((((HBW.out.setCell (p := ⟨w.heap.size, 0, none⟩) (Nat.le_refl _) _).setCell (p := ⟨w.heap.size, 1, none⟩) (Nat.le_refl _) _).setCell (p := ⟨w.heap.size, 2, none⟩) (Nat.le_refl _) _).drewN 1) (by rfl))
      · obtain rfl : b = true := by simpa using hb
        by_cases h1 : 1 ≤ fs.length
        · have g1 : decide ((1 : Int) ≤ (fs.length : Int)) = true := by simp; omega
          have g3 : decide (1 ≤ fs.length) = true := decide_eq_true h1
          by_cases h8 : fs.length ≤ 8
          · have g2 : decide ((fs.length : Int) ≤ 8) = true := by simp; omega
            have g4 : decide (fs.length ≤ 8) = true := decide_eq_true h8
            have HG := Lib.hid (And.intro g3 g4)
            clear hb h1 h8 g3 g4
            go_upto_region 14 with fail
            go_region
            go_wp2_with fail
            exact bodyPost_ret (v := .tuple #[.agg #[.int .i64 2, .slice (some ⟨Ab, 0, none⟩) fs.length fs.length, .bool ng], .string ⟨A.toArray⟩, .bool true]) (by simp [results, Tryz.results39, go_sem, r0, r1, r2]) rfl (HFIN.out _ _ (.inr trivial) (HW.out _ _ _) (by simp) ((((HBW.out.setCell (p := ⟨w.heap.size, 0, none⟩) (Nat.le_refl _) _).setCell (p := ⟨w.heap.size, 1, none⟩) (Nat.le_refl _) _).setCell (p := ⟨w.heap.size, 2, none⟩) (Nat.le_refl _) _).drewN 1) (by rw [HG.out.1, HG.out.2]; rfl))
          · have g2 : decide ((fs.length : Int) ≤ 8) = false := by simp; omega
            have g4 : decide (fs.length ≤ 8) = false := decide_eq_false h8
            have HG := Lib.hid (And.intro g3 g4)
            clear hb h1 h8 g3 g4
            go_upto_region 14 with fail
            go_region
            go_wp2_with fail
            exact bodyPost_ret (v := .tuple #[.agg #[.int .i64 2, .slice (some ⟨Ab, 0, none⟩) fs.length fs.length, .bool ng], .string ⟨A.toArray⟩, .bool false]) (by simp [results, Tryz.results39, go_sem, r0, r1, r2]) rfl (HFIN.out _ _ (.inr trivial) (HW.out _ _ _) (by simp) ((((HBW.out.setCell (p := ⟨w.heap.size, 0, none⟩) (Nat.le_refl _) _).setCell (p := ⟨w.heap.size, 1, none⟩) (Nat.le_refl _) _).setCell (p := ⟨w.heap.size, 2, none⟩) (Nat.le_refl _) _).drewN 1) (by rw [HG.out.1, HG.out.2]; rfl))
        · have g1 : decide ((1 : Int) ≤ (fs.length : Int)) = false := by simp; omega
          have g3 : decide (1 ≤ fs.length) = false := decide_eq_false h1
          have HG := Lib.hid g3
          clear hb h1 g3
          go_upto_region 14 with fail
          go_region
          go_wp2_with fail
          exact bodyPost_ret (v := .tuple #[.agg #[.int .i64 2, .slice (some ⟨Ab, 0, none⟩) fs.length fs.length, .bool ng], .string ⟨A.toArray⟩, .bool false]) (by simp [results, Tryz.results39, go_sem, r0, r1, r2]) rfl (HFIN.out _ _ (.inr trivial) (HW.out _ _ _) (by simp) ((((HBW.out.setCell (p := ⟨w.heap.size, 0, none⟩) (Nat.le_refl _) _).setCell (p := ⟨w.heap.size, 1, none⟩) (Nat.le_refl _) _).setCell (p := ⟨w.heap.size, 2, none⟩) (Nat.le_refl _) _).drewN 1) (by rw [HG.out]; rfl))
end Go.Proofs.YtogjgibaolppfaaGreatDoor

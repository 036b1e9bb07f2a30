/- Facts and contracts for the laws of the sender, part 15. Conditions: those that each theorem names. -/
import Derived.Test.YtogjgibaolppfaaGreatDoorK14
import Derived.Test.YtogjgibaolppfaaGreatDoorK07
import Derived.Shelf.SlicesE.DeleteFunc
import Derived.Laws.Cover3
/- The words that are still found: slices.DeleteFunc. -/
namespace Go.Proofs.YtogjgibaolppfaaGreatDoor
open Go.RowKit Go.Sort Go.Proofs Go.Shelf Go.Lib

/-- words of at most 30 bytes -/
abbrev SWd := {x : Wd // x.length ≤ 30}
instance : Inhabited SWd := ⟨⟨[], by simp⟩⟩
def encS (x : SWd) : Value := encW x.1

theorem eqNil_map (t k e : TypeId) (m : Option Nat) (h : Tryz.prog.underlying t = some (.map k e)) (W : World) : (binOp .eql t (.map m) (.map none)).run Tryz.prog W = .ok (.bool m.isNone) W := by
  simp only [binOp]
  simp [run_equal_map_nil W t k e m h]

set_option maxRecDepth 100000 in
theorem rem_closure (p b2 B N : Nat) (g : Wd → Option Nat) (x : Wd) (hx : x.length ≤ 30) (W : World) (h1 : W.cell? ⟨B, 0, none⟩ = some (.pointer (some ⟨p, 0, none⟩))) (h2 : W.cell? ⟨p, 1, none⟩ = some (.map (some b2))) (h3 : SM b2 N (fun x => (g x).map fun b => .map (some b)) W) :
    FnGives Tryz.prog 99 #[.pointer (some ⟨B, 0, none⟩)] #[.string ⟨x.toArray⟩] (.bool (!(g x).isSome)) W := by
  show Calls Tryz.prog 99 #[.string ⟨x.toArray⟩, .pointer (some ⟨B, 0, none⟩)] W _
  have hget := h3.get strKeys (t := 97) Tryz.underlying97 (Tryz.zeroValue81 W) (strKey (x := x) (by omega))
  have heq := fun m W => eqNil_map 81 3 3 m Tryz.underlying81 W
  cases hg : g x with
  | none =>
    rw [hg] at hget
    clear hg h3
    go_enter Tryz.func99, Tryz.ntmps99
    go_wp2
    go_ret
    exact ⟨rfl, 0, rfl⟩
  | some b =>
    rw [hg] at hget
    clear hg h3
    go_enter Tryz.func99, Tryz.ntmps99
    go_wp2
    go_ret
    exact ⟨rfl, 0, rfl⟩

theorem del_any (p b2 B N base gb cap : Nat) (g : Wd → Option Nat) (l : List Wd) (w : World) (hl : ∀ x ∈ l, x.length ≤ 30) (h1 : w.cell? ⟨B, 0, none⟩ = some (.pointer (some ⟨p, 0, none⟩))) (h2 : w.cell? ⟨p, 1, none⟩ = some (.map (some b2))) (h3 : SM b2 N (fun x => (g x).map fun b => .map (some b)) w)
    (ho : w.ownsRow base 9 1 (.slice (some ⟨gb, 0, none⟩) l.length cap) l.length (l.map encW)) (n1 : B ≠ gb) (n2 : p ≠ gb) (n3 : b2 ≠ gb) :
    Calls Tryz.prog 98 #[.slice (some ⟨gb, 0, none⟩) l.length cap, .func (.func 99) #[] #[.pointer (some ⟨B, 0, none⟩)]] w fun e w' =>
      e = .returned (.slice (some ⟨gb, 0, none⟩) (l.filter fun x => (g x).isSome).length cap) ∧ w'.ownsRow base 9 1 (.slice (some ⟨gb, 0, none⟩) (l.filter fun x => (g x).isSome).length cap) (l.filter fun x => (g x).isSome).length ((l.filter fun x => (g x).isSome).map encW) ∧ But (fun k => k = gb) w.heap.size w w' := by
  have eg : ∀ args w, (callFunc 99 args).run Tryz.prog w = .ok (.enter 99 args) w := enters_of Tryz.func99 (by kernel_rfl) rfl
  -- the words as a list of short ones
  obtain ⟨ls, hls⟩ : ∃ ls : List SWd, ls.map (·.1) = l := ⟨l.attach.map fun x => ⟨x.1, hl x.1 x.2⟩, by rw [List.map_map]; simp [Function.comp_def]⟩
  have hlen : ls.length = l.length := by rw [← hls]; simp
  have hmap : l.map encW = ls.map encS := by rw [← hls, List.map_map]; rfl
  have ho' : w.ownsRow base 9 1 (.slice (some ⟨gb, 0, none⟩) ls.length cap) ls.length (ls.map encS) := by rw [hlen, ← hmap]; exact ho
  obtain ⟨gb', cap', e1, _, hlt, hcap, hmx, _, hH⟩ := Lib.holds_of_ownsRow ho' (by intro e; cases e)
  injection e1 with e2 _ e4
  injection e2 with e2
  injection e2 with e2
  subst e2; subst e4
  have hBl := World.block_lt_of_cell? w _ h1
  have hpl := World.block_lt_of_cell? w _ h2
  have hcon := AnyE.slices_DeleteFunc Tryz.del encS (fun _ => rfl) (fun x : SWd => !(g x.1).isSome) 99 #[.pointer (some ⟨B, 0, none⟩)] eg ⟨[], by simp⟩ Tryz.zeroValue9 gb 0 cap ls.toArray w
    (fun W x hb => rem_closure p b2 B N g x.1 x.2 W ((hb.cell (p := ⟨B, 0, none⟩) hBl).trans h1) ((hb.cell (p := ⟨p, 1, none⟩) hpl).trans h2) (h3.kept (hb.block _ h3.lt)))
    (fun n os dk x _ => rem_closure p b2 B N g x.1 x.2 _ (by
        unfold sortWorld
        rw [cell?_grow _ _ _ (by show B < (putRow _ _ _ _ _).heap.size; rw [size_putRow]; exact hBl), cell?_putRow_other _ _ gb 0 _ _ (Or.inl n1)]
        exact h1) (by
        unfold sortWorld
        rw [cell?_grow _ _ _ (by show p < (putRow _ _ _ _ _).heap.size; rw [size_putRow]; exact hpl), cell?_putRow_other _ _ gb 0 _ _ (Or.inl n2)]
        exact h2) (h3.kept (by
        have hk2 : b2 < (putRow encS (Sort.ahead w n) gb 0 dk).heap.size := by rw [size_putRow]; exact h3.lt
        simp only [sortWorld, grow]
        rw [Array.getElem?_append_left hk2]
        simp [putRow, mapBlock, Sort.ahead, Array.getElem?_modify, show gb ≠ b2 from fun e => n3 e.symm])))
    hH (by simp [maxLen] at hmx ⊢; omega) (by simpa using hcap)
  change Calls Tryz.prog 98 _ _ _ at hcon
  have hfil : (ls.filter fun x => (g x.1).isSome).map encS = (l.filter fun x => (g x).isSome).map encW := by
    rw [← hls, List.filter_map, List.map_map]; rfl
  have hfl : (ls.filter fun x => (g x.1).isSome).length = (l.filter fun x => (g x).isSome).length := by
    have := congrArg List.length hfil
    simpa using this
  simp only [Bool.not_not, List.size_toArray, hlen] at hcon
  rw [hfl] at hcon
  refine hcon.mono ?_
  rintro e w' ⟨rfl, q, rfl⟩
  refine ⟨rfl, ?_, ?_⟩
  · have := Lib.ownsRow_putRow (q := q) (k := (l.filter fun x => (g x).isSome).length) (ys := (ls.filter fun x => (g x.1).isSome) ++ List.replicate (l.length - (l.filter fun x => (g x).isSome).length) ⟨[], by simp⟩) ho' (by
      have hle := List.length_filter_le (fun x => (g x).isSome) l
      rw [List.length_append, List.length_replicate, hfl, hlen]; omega) (by rw [hlen]; exact List.length_filter_le _ _)
    rw [List.take_append_of_le_length (by rw [hfl]; exact Nat.le_refl _), List.take_of_length_le (by rw [hfl]; exact Nat.le_refl _), hfil] at this
    exact this
  · exact ⟨rfl, rfl, rfl, by simp [putRow, mapBlock, Sort.ahead], fun k hk hne => by
      simp [putRow, mapBlock, Sort.ahead, Array.getElem?_modify, show gb ≠ k from fun e => hne e.symm]⟩
end Go.Proofs.YtogjgibaolppfaaGreatDoor
/- Remove. -/
namespace Go.Proofs.YtogjgibaolppfaaGreatDoor
open Go.RowKit Go.Sort Go.Proofs Go.Maps Go.ChangeMaps Go.WideMaps

/-- the counts when the first k words of a document are struck -/
def cutC (D : List Dc) (l : List Wd) (id : Int) (k : Nat) (x : Wd) (i : Int) : Nat := if x ∈ l.take k ∧ i = id then 0 else cntD D x i
theorem cutC_zero (D : List Dc) (l : List Wd) (id : Int) : cutC D l id 0 = cntD D := by funext x i; simp [cutC]
theorem cutC_succ (D : List Dc) (l : List Wd) (id : Int) (k : Nat) (h : k < l.length) : subC (cutC D l id k) l[k] id = cutC D l id (k + 1) := by
  funext y i
  unfold subC cutC
  rw [List.take_succ_eq_append_getElem h]
  simp only [List.mem_append, List.mem_singleton]
  by_cases h1 : i = id
  · subst h1
    by_cases h2 : y = l[k]
    · simp [h2]
    · simp [h2]
  · simp [h1]
theorem cutC_end {D : List Dc} (hA : Asc D) (id : Int) : cutC D ((wordsAt D id).getD []) id ((wordsAt D id).getD []).length = cntD (remD D id) := by
  funext x i
  unfold cutC cntD docsF
  rw [List.take_length, wordsAt_rem hA]
  by_cases h : i = id
  · subst h
    simp only [and_true, ↓reduceIte, Option.map_none, Option.getD_none]
    cases hw : wordsAt D i with
    | none => simp
    | some l =>
      simp only [Option.getD_some, Option.map_some]
      by_cases hx : x ∈ l
      · rw [if_pos hx]
      · rw [if_neg hx]; exact List.count_eq_zero.2 hx
  · simp [h]
theorem cntD_ex {D : List Dc} (hA : Asc D) (x : Wd) : (∃ i, 0 < cntD D x i) ↔ ∃ d ∈ D, x ∈ d.2 := by
  constructor
  · rintro ⟨i, hi⟩
    unfold cntD docsF at hi
    cases hw : wordsAt D i with
    | none => rw [hw] at hi; simp at hi
    | some l =>
      rw [hw] at hi
      exact ⟨_, (wordsAt_some hA).1 hw, List.count_pos_iff.1 hi⟩
  · rintro ⟨d, hd, hx⟩
    refine ⟨d.1, ?_⟩
    unfold cntD docsF
    rw [(wordsAt_some hA).2 hd]
    exact List.count_pos_iff.2 hx
/-- the ids at which a count is positive -/
theorem cnt_ids {ids : List Int} (hn : ids.Nodup) {f : Int → Nat} (h : ∀ i, 0 < f i → i ∈ ids) : (ids.filter fun i => decide (0 < f i)).Nodup ∧ ∀ i, i ∈ (ids.filter fun i => decide (0 < f i)) ↔ (cntM f i).isSome = true := by
  refine ⟨hn.filter _, fun i => ?_⟩
  rw [List.mem_filter, cntM_isSome]
  simp only [decide_eq_true_eq]
  exact ⟨fun h => h.2, fun h' => ⟨h i h', h'⟩⟩
theorem cntD_mem {D : List Dc} (hA : Asc D) {x : Wd} {i : Int} (h : 0 < cntD D x i) : i ∈ D.map (·.1) := by
  unfold cntD docsF at h
  cases hw : wordsAt D i with
  | none => rw [hw] at h; simp at h
  | some l => exact List.mem_map.2 ⟨_, (wordsAt_some hA).1 hw, rfl⟩

theorem del_nil (id : Int) (w : World) : (Builtin.delete_ #[81, 3] 0 #[.map none, .int .i64 id]).run Tryz.prog w = .ok (.tuple #[]) w := by
  have hkey : MapKept.IsKey (.int .i64) (.int .i64 id) := rfl
  simp [Builtin.delete_, run_underlying Tryz.underlying81, MapKept.run_checkKey Tryz.underlying3 hkey, Result.andThen]
theorem But.refl (S : Nat → Prop) (n : Nat) (w : World) : But S n w w := But.of_below (Below.refl n w)
theorem But.cell {S : Nat → Prop} {n : Nat} {w w' : World} (h : But S n w w') {a : Addr} (hn : a.block < n) (hs : ¬ S a.block) : w'.cell? a = w.cell? a := World.cell?_of_block (h.block a.block hn hs)

/-- the words anew: a row elsewhere, or the old row cut -/
theorem PAt.setRow {S Q R : Nat → Prop} {N p b1 b2 : Nat} {v v' : Value} {tx : Int → Option Value} {g : Wd → Option Nat} {D : List Dc} {c : Wd → Int → Nat} {l l' : List Wd} {w w' : World} (h : PAt S Q N p b1 b2 v tx g D c l w) (hb : But R w.heap.size w w')
    (hR : ∀ k, R k → S k ∧ k ≠ p ∧ ∃ cs t fr, w.heap[k]? = some (.cells cs t fr)) {base : Nat} (ho : w'.ownsRow base 9 1 v' l'.length (l'.map encW)) (hv : ∀ k, v'.ownBlock = some k → S k ∧ k ≠ p) :
    PAt S Q N p b1 b2 v' tx g D c l' (w'.setCell ⟨p, 2, none⟩ v') ∧ But S w.heap.size w (w'.setCell ⟨p, 2, none⟩ v') := by
  have hpl := h.lt p h.own
  have hp' : w'.heap[p]? = some (.cells #[.map (some b1), .map (some b2), v] 99 (0, 0)) := (hb.block p hpl fun e => (hR p e).2.1 rfl).trans h.cells
  have hset : (w'.setCell ⟨p, 2, none⟩ v').heap[p]? = some (.cells #[.map (some b1), .map (some b2), v'] 99 (0, 0)) := by
    simp [World.setCell, Array.getElem?_modify, hp']
  have hoth : ∀ k, k ≠ p → (w'.setCell ⟨p, 2, none⟩ v').heap[k]? = w'.heap[k]? := fun k hk => Below.heap_setCell _ _ _ _ hk
  have hmap : ∀ k, S k → (∃ es c, w.heap[k]? = some (.map es c)) → (w'.setCell ⟨p, 2, none⟩ v').heap[k]? = w.heap[k]? := fun k hs hm => by
    obtain ⟨es, cl, hm⟩ := hm
    have hkp : k ≠ p := fun e => by rw [e, h.cells] at hm; cases hm
    rw [hoth k hkp]
    refine hb.block k (h.lt k hs) fun hr => ?_
    obtain ⟨_, _, cs, t, fr, hc⟩ := hR k hr
    rw [hm] at hc; cases hc
  have hbut : But (fun k => R k ∨ k = p) w.heap.size w (w'.setCell ⟨p, 2, none⟩ v') :=
    ⟨hb.os, hb.tape, hb.output, by simpa [World.setCell] using hb.size, fun k hk hn => by
      rw [hoth k fun e => hn (.inr e)]
      exact hb.block k hk fun e => hn (.inl e)⟩
  have hsz : (w'.setCell ⟨p, 2, none⟩ v').heap.size = w'.heap.size := by simp [World.setCell]
  refine ⟨⟨hset, h.ne, ⟨h.texts.map.kept (hmap b1 h.texts.own h.texts.map.obj), h.texts.own, h.texts.none, fun id l hl => ?_⟩, ⟨h.found.map.kept (hmap b2 h.found.own h.found.map.obj), h.found.own, fun x b hx => ?_, h.found.inj, h.found.some⟩, ⟨⟨base, ho.1, ?_⟩, fun k hk => (hv k hk).1⟩, fun k hs => ?_, h.out, h.own⟩, hbut.weaken fun k _ hk => ?_⟩
  · obtain ⟨u, hu, hs⟩ := h.texts.some id l hl
    exact ⟨u, hu, hs.but hbut (Nat.le_refl _) fun k hk => .inl (by rcases hk with hk | rfl; exact (hR k hk).1; exact h.own)⟩
  · obtain ⟨a1, a2, a3, a4⟩ := h.found.inner x b hx
    exact ⟨a1, a2, a3, a4.kept (hmap b a1 a4.obj)⟩
  · rcases ho.2 with h0 | ⟨g', cap, cur, e0, e1, e2, e3⟩
    · exact .inl h0
    · exact .inr ⟨g', cap, cur, e0, e1, (hoth g' (hv g' (by rw [e0]; rfl)).2).trans e2, e3⟩
  · rw [hsz]; exact Nat.lt_of_lt_of_le (h.lt k hs) hb.size
  · rcases hk with hk | rfl
    · exact (hR k hk).1
    · exact h.own

theorem vocab_cut {D : List Dc} (hA : Asc D) (id : Int) {q : Wd → Bool} (hq : ∀ x, q x = true ↔ ∃ i, 0 < cntD (remD D id) x i) : (vocab D).filter q = vocab (remD D id) := by
  refine vocab_eq ((vocab_asc D).filter _) fun x => ?_
  rw [List.mem_filter, mem_vocab, hq, cntD_ex (hA.rem id)]
  constructor
  · exact fun h => h.2
  · rintro ⟨d, hd, hx⟩
    exact ⟨⟨d, (mem_rem.1 hd).1, hx⟩, d, hd, hx⟩

set_option maxRecDepth 100000 in
set_option maxHeartbeats 4000000 in
theorem remove_any {S Q : Nat → Prop} {N : Nat} {p : Nat} {D : List Dc} (w : World) (h : IdxAt S Q N w p D) (id : Int) (hi1 : -9223372036854775808 ≤ id) (hi2 : id ≤ 9223372036854775807) :
    Calls Tryz.prog 57 #[.pointer (some ⟨p, 0, none⟩), .int .i64 id] w fun e w' => e = .returned (.tuple #[]) ∧ IdxAt S Q N w' p (remD D id) ∧ But S w.heap.size w w' := by
  have hA := h.asc
  have hpl := h.lt p h.own
  have HA := Lib.hid hA
  have HFin : Hid (∀ b1 b2 v tx g w', PAt S Q N p b1 b2 v tx g (remD D id) (cntD (remD D id)) (vocab (remD D id)) w' → IdxAt S Q N w' p (remD D id)) := Lib.hid (fun b1 b2 v tx g w' hp => hp.idx (hA.rem id) (h.ids.rem id) (fun d hd => h.oks d (mem_rem.1 hd).1) (fun d hd => h.small d (mem_rem.1 hd).1))
  have hSlt := h.lt
  have HOK := Lib.hid h.oks
  obtain ⟨b1, b2, v, tx, g, hp0⟩ := h.pat
  obtain ⟨W0, hW0⟩ : ∃ W0, w.alloc (.cells #[.pointer (some ⟨p, 0, none⟩)] 35) = W0 := ⟨_, rfl⟩
  have hsz0 : W0.heap.size = w.heap.size + 1 := by rw [← hW0]; simp
  have hB0 : Below w.heap.size w W0 := by rw [← hW0]; exact (Below.refl _ w).alloc (Nat.le_refl _) _
  have cB : W0.cell? ⟨w.heap.size, 0, none⟩ = some (.pointer (some ⟨p, 0, none⟩)) := by rw [← hW0]; simp
  have hP := hp0.below hB0
  have HB0 := Lib.hid hB0
  obtain ⟨B, hB⟩ : ∃ B, w.heap.size = B := ⟨_, rfl⟩
  rw [hB] at cB hsz0
  have hSB : ∀ k, S k → k < B := fun k hk => by rw [← hB]; exact hSlt k hk
  -- the document's words
  obtain ⟨l, hl⟩ : ∃ l, (wordsAt D id).getD [] = l := ⟨_, rfl⟩
  obtain ⟨u, hu, hus⟩ : ∃ u, (tx id).getD (.slice none 0 0) = u ∧ ∀ W, Texts S (fun k => S k ∨ Q k) b1 N tx D W → StrsAt W u l := by
    cases hw : wordsAt D id with
    | none =>
      refine ⟨.slice none 0 0, by rw [hP.texts.none id hw]; rfl, fun W _ => ?_⟩
      rw [hw] at hl
      rw [← hl]
      exact ⟨none, 0, rfl, by simp, by simp, fun j hj => by simp at hj⟩
    | some l2 =>
      obtain ⟨u, hu, _⟩ := hP.texts.some id l2 hw
      refine ⟨u, by rw [hu]; rfl, fun W hT => ?_⟩
      obtain ⟨u', hu', hs'⟩ := hT.some id l2 hw
      rw [hu] at hu'; cases hu'
      rw [hw] at hl
      rw [← hl]
      exact hs'.1
  have hlv : ∀ x ∈ l, x ∈ vocab D := fun x hx => by
    cases hw : wordsAt D id with
    | none => rw [hw] at hl; rw [← hl] at hx; simp at hx
    | some l2 => rw [hw] at hl; rw [← hl] at hx; exact mem_vocab.2 ⟨_, (wordsAt_some hA).1 hw, hx⟩
  have hlo : ∀ x ∈ l, x.length ≤ 30 := fun x hx => by
    obtain ⟨d, hd, hx'⟩ := mem_vocab.1 (hlv x hx)
    exact (HOK.out d hd x hx').2.1
  have hvo : ∀ x ∈ vocab D, x.length ≤ 30 := fun x hx => by
    obtain ⟨d, hd, hx'⟩ := mem_vocab.1 hx
    exact (HOK.out d hd x hx').2.1
  have HEND : Hid (cutC D l id l.length = cntD (remD D id)) := Lib.hid (by rw [← hl]; exact cutC_end hA id)
  have HUS := Lib.hid hus; have HLV := Lib.hid hlv; have HLO := Lib.hid hlo; have HVO := Lib.hid hvo; have HBB := Lib.hid hB
  have hget := hP.texts.map.get intKeys (t := 96) Tryz.underlying96 (Tryz.zeroValue28 W0) (intKey hi1 hi2)
  rw [hu] at hget
  have cp0 : W0.cell? ⟨p, 0, none⟩ = some (.map (some b1)) := by rw [Lib.cell_of_heap hP.cells]; rfl
  obtain ⟨a0, c0, hue, -, hlb, -⟩ := hus W0 hP.texts
  subst hue
  have HP := Lib.hid hP
  have HSB := Lib.hid hSB
  clear h hA hp0 hP hus hl hu hlv hlo hvo hSB hSlt
  go_enter Tryz.func57, Tryz.ntmps57
  go_wp2
  go_loopw [4, 17] (fun ug i wr => ∃ (k : Nat) (gone : Bool) (g' : Wd → Option Nat), ug = .bool gone ∧ i = .int .i64 k ∧ k ≤ l.length ∧ Hid (PAt S Q N p b1 b2 v tx g' D (cutC D l id k) (vocab D) wr) ∧ Hid (But S W0.heap.size W0 wr) ∧ Hid (gone = true → 0 < k) ∧ Hid (gone = false → ∀ x, (∃ i, 0 < cntD D x i) → ∃ i, 0 < cutC D l id k x i)) (fun _ i _ => l.length - (intOf i).toNat)
  case atStart => exact ⟨0, false, g, rfl, rfl, by omega, Lib.hid (by rw [cutC_zero]; exact HP.out), Lib.hid (But.refl _ _ _), Lib.hid (fun h => by cases h), Lib.hid (fun _ x hx => by rw [cutC_zero]; exact hx)⟩
  case round =>
    obtain ⟨k, gone, g', rfl, rfl, hk, HPr, HBr, HG1, HG2⟩ := hrel
    have cBr : wr.cell? ⟨B, 0, none⟩ = some (.pointer (some ⟨p, 0, none⟩)) := (HBr.out.cell (a := ⟨B, 0, none⟩) (by show B < W0.heap.size; omega) (fun hs => by have := HSB.out B hs; omega)).trans cB
    have hszr := HBr.out.size
    by_cases hkl : k < l.length
    · have hki : (k : Int) < (l.length : Int) := by omega
      obtain ⟨a', c', ee, -, -, hcells⟩ := HUS.out wr HPr.out.texts
      injection ee with e1 _ _
      subst e1
      obtain ⟨b0, off0, ha0, ck⟩ := hcells k hkl
      subst ha0
      have hxl := HLO.out l[k] (List.getElem_mem hkl)
      have cp1 : wr.cell? ⟨p, 1, none⟩ = some (.map (some b2)) := by rw [Lib.cell_of_heap HPr.out.cells]; rfl
      have hgetx := HPr.out.found.map.get strKeys (t := 97) Tryz.underlying97 (Tryz.zeroValue81 wr) (strKey (x := l[k]) (by omega))
      have HSU := Lib.hid (cutC_succ D l id k hkl)
      have HSM := Lib.hid (HPr.out.found.some l[k])
      have HDI := Lib.hid (fun b (hb : g' l[k] = some b) => HPr.out.delInner hb hi1 hi2 0)
      obtain ⟨x, hx⟩ : ∃ x, l[k] = x := ⟨_, rfl⟩
      rw [hx] at ck hxl hgetx HSU HSM HDI
      simp only [encW] at ck
      cases hg : g' x with
      | none =>
        rw [hg] at hgetx
        have hz : ∀ i, cutC D l id k x i = 0 := fun i => by
          cases hc : cutC D l id k x i with
          | zero => rfl
          | succ n => have := HSM.out.2 ⟨i, by omega⟩; rw [hg] at this; cases this
        have hsub : subC (cutC D l id k) x id = cutC D l id k := by
          funext y i
          unfold subC
          split
          · rename_i h; rw [h.1, hz i]
          · rfl
        obtain ⟨w2, hdel2, hb2, hP2⟩ := HPr.out.delFound (x := x) (id := id) (by omega) HPr.out.cells HPr.out.row HPr.out.lt HPr.out.texts HPr.out.found.map (fun y b' hy => by rw [hsub]; exact (HPr.out.found.inner y b' hy).2.2.2) (fun i => by rw [hsub]; exact hz i) 0
        rw [HSU.out] at hP2
        have hdn : (Builtin.delete_ #[81, 3] 0 #[.map none, .int .i64 id]).run Tryz.prog wr = .ok (.tuple #[]) wr := del_nil id wr
        have HP2 := Lib.hid hP2
        have HB2 := Lib.hid (HBr.out.trans (hb2.mono hszr))
        clear hz hsub hP2 hb2 hg HPr HBr HSM HDI HSU
        go_wp2
        go_roundw
        case rel => exact ⟨k + 1, true, _, rfl, by go_num, by omega, HP2, HB2, Lib.hid (fun _ => by omega), Lib.hid (fun h => by cases h)⟩
        case measure => simp [intOf]; omega
      | some b =>
        rw [hg] at hgetx
        obtain ⟨w1, hdel, hb1, r1, r2, r3, r4, r5, r6, hg1⟩ := HDI.out b hg
        have hI := r6 x b hg
        have hmem : ∀ i, 0 < subC (cutC D l id k) x id x i → i ∈ D.map (·.1) := fun i hi => by
          refine cntD_mem HA.out (x := x) ?_
          unfold subC cutC at hi
          split at hi
          · omega
          · split at hi
            · omega
            · exact hi
        obtain ⟨q1, q2⟩ := cnt_ids (ids_nodup HA.out) hmem
        have hlen := hI.len int_same int_form intKeys (t := 81) Tryz.underlying81 q1 q2
        have hb01 := HBr.out.trans (hb1.mono hszr)
        have hsz1 := hb01.size
        have cB1 : w1.cell? ⟨B, 0, none⟩ = some (.pointer (some ⟨p, 0, none⟩)) := (hb01.cell (a := ⟨B, 0, none⟩) (by show B < W0.heap.size; omega) (fun hs => by have := HSB.out B hs; omega)).trans cB
        have cp1' : w1.cell? ⟨p, 1, none⟩ = some (.map (some b2)) := by rw [Lib.cell_of_heap r1]; rfl
        obtain ⟨L, hL⟩ : ∃ L, ((D.map (·.1)).filter fun i => decide (0 < subC (cutC D l id k) x id x i)) = L := ⟨_, rfl⟩
        rw [hL] at hlen q2
        by_cases hz : L.length = 0
        · have hL0 : L = [] := List.length_eq_zero_iff.1 hz
          have hz0 : ∀ i, subC (cutC D l id k) x id x i = 0 := fun i => by
            cases hc : subC (cutC D l id k) x id x i with
            | zero => rfl
            | succ n =>
              have := (q2 i).2 (cntM_isSome.2 (by omega))
              rw [hL0] at this; cases this
          rw [hz] at hlen
          obtain ⟨w2, hdel2, hb2, hP2⟩ := HPr.out.delFound (x := x) (id := id) (by omega) r1 r2 r3 r4 r5 r6 hz0 0
          rw [HSU.out] at hP2
          have HP2 := Lib.hid hP2
          have HB2 := Lib.hid (hb01.trans (hb2.mono hsz1))
          clear hz hz0 hL0 hL q1 q2 hP2 hb2 hg hg1 HPr HBr HSM HDI HSU r1 r2 r3 r4 r5 r6 hI hb1 hb01 hmem
          go_wp2
          go_roundw
          case rel => exact ⟨k + 1, true, _, rfl, by go_num, by omega, HP2, HB2, Lib.hid (fun _ => by omega), Lib.hid (fun h => by cases h)⟩
          case measure => simp [intOf]; omega
        · obtain ⟨i0, hi0⟩ : ∃ i, i ∈ L := by
            cases hLL : L with
            | nil => rw [hLL] at hz; simp at hz
            | cons i L => exact ⟨i, by simp⟩
          have hex : ∃ i, 0 < subC (cutC D l id k) x id x i := ⟨i0, cntM_isSome.1 ((q2 i0).1 hi0)⟩
          have hP2 := HPr.out.delInner_stays r1 r2 r3 r4 r5 r6 hex
          have HG3 : Hid (gone = false → ∀ y, (∃ i, 0 < cntD D y i) → ∃ i, 0 < cutC D l id (k + 1) y i) := Lib.hid (fun hgn y hy => by
            rw [← HSU.out]
            by_cases hyx : y = x
            · subst hyx; exact hex
            · obtain ⟨i, hi⟩ := HG2.out hgn y hy
              exact ⟨i, by simpa [subC, hyx] using hi⟩)
          rw [HSU.out] at hP2
          have HP2 := Lib.hid hP2
          have HB2 := Lib.hid hb01
          have HG4 : Hid (gone = true → 0 < k + 1) := Lib.hid (fun _ => by omega)
          obtain ⟨m, hm⟩ : ∃ m : Int, ((L.length : Nat) : Int) = m := ⟨_, rfl⟩
          rw [hm] at hlen
          have gm : (m == 0) = false := by rw [← hm]; simp; exact fun e => hz (by rw [e]; rfl)
          clear hz hex hi0 hL q1 q2 hP2 hg hg1 HPr HBr HSM HDI HSU r1 r2 r3 r4 r5 r6 hI hb1 hb01 hmem hm
          go_wp2
          go_roundw
          case rel => exact ⟨k + 1, gone, _, rfl, by go_num, by omega, HP2, HB2, HG4, HG3⟩
          case measure => simp [intOf]; omega
    · obtain rfl : k = l.length := by omega
      obtain ⟨w1, hdt, hb1, hP1⟩ := HPr.out.delText HA.out hi1 hi2 0
      rw [HEND.out] at hP1
      have cp0r : wr.cell? ⟨p, 0, none⟩ = some (.map (some b1)) := by rw [Lib.cell_of_heap HPr.out.cells]; rfl
      have hb01 := HBr.out.trans (hb1.mono hszr)
      have hsz1 := hb01.size
      have HBF : Hid (But S w.heap.size w w1) := Lib.hid ((But.of_below HB0.out).trans (hb01.mono HB0.out.size))
      cases gone with
      | false =>
        have hvv : vocab D = vocab (remD D id) := by
          refine vocab_eq (vocab_asc D) fun x => ?_
          rw [mem_vocab, ← cntD_ex (HA.out.rem id), ← cntD_ex HA.out]
          constructor
          · intro hx
            have := HG2.out rfl x hx
            rw [HEND.out] at this; exact this
          · rintro ⟨i, hi⟩
            refine ⟨i, ?_⟩
            rw [← HEND.out] at hi
            unfold cutC at hi
            split at hi
            · omega
            · exact hi
        rw [hvv] at hP1
        have HP1 := Lib.hid hP1
        clear hvv hP1 HPr HBr hb1 hb01 HG1 HG2
        go_wp2
        go_end0
        exact ⟨rfl, HFin.out _ _ _ _ _ _ HP1.out, HBF.out⟩
      | true =>
        have hl0 := HG1.out rfl
        have cB1 : w1.cell? ⟨B, 0, none⟩ = some (.pointer (some ⟨p, 0, none⟩)) := (hb01.cell (a := ⟨B, 0, none⟩) (by show B < W0.heap.size; omega) (fun hs => by have := HSB.out B hs; omega)).trans cB
        have cp2 : w1.cell? ⟨p, 2, none⟩ = some v := by rw [Lib.cell_of_heap hP1.cells]; rfl
        have cf2 : w1.frozen? ⟨p, 2, none⟩ = false := Lib.frozen_of_heap hP1.cells 2
        obtain ⟨⟨base, ho⟩, hvS⟩ := hP1.row
        have hvl : vocab D ≠ [] := fun e => by
          have := HLV.out l[0] (List.getElem_mem hl0)
          rw [e] at this; cases this
        obtain ⟨gb, cap, hve⟩ : ∃ gb cap, v = .slice (some ⟨gb, 0, none⟩) (vocab D).length cap := by
          rcases ho.2 with ⟨_, e2⟩ | ⟨g, cap, cur, e1, _⟩
          · exact absurd (List.length_eq_zero_iff.1 e2) hvl
          · exact ⟨_, _, e1⟩
        subst hve
        have hgS : S gb := hvS gb rfl
        have hgc : ∃ cur fr, w1.heap[gb]? = some (.cells cur 9 fr) := by
          rcases ho.2 with ⟨e1, e2⟩ | ⟨g, cap, cur, e1, _, hg, _⟩
          · cases e1
          · injection e1 with e3 _ _
            injection e3 with e3
            injection e3 with e3
            subst e3
            exact ⟨_, _, hg⟩
        obtain ⟨cur, fr, hgc⟩ := hgc
        have n2 : p ≠ gb := fun e => by have h1 := hP1.cells; rw [e, hgc] at h1; cases h1
        have n1 : B ≠ gb := fun e => by have := HSB.out gb hgS; omega
        have n3 : b2 ≠ gb := fun e => by
          obtain ⟨es, cl, h1⟩ := hP1.found.map.obj
          rw [e, hgc] at h1; cases h1
        have hcut := vocab_cut HA.out id (q := fun x => (g' x).isSome) (fun x => hP1.found.some x)
        have hDel : ∀ k, Calls Tryz.prog 98 #[.slice (some ⟨gb, 0, none⟩) (vocab D).length cap, .func (.func 99) #[] #[.pointer (some ⟨B, 0, none⟩)]] (w1.drewN k) fun e w' =>
            e = .returned (.slice (some ⟨gb, 0, none⟩) (vocab (remD D id)).length cap) ∧ (PAt S Q N p b1 b2 (.slice (some ⟨gb, 0, none⟩) (vocab (remD D id)).length cap) (fun i => if i = id then none else tx i) g' (remD D id) (cntD (remD D id)) (vocab (remD D id)) (w'.setCell ⟨p, 2, none⟩ (.slice (some ⟨gb, 0, none⟩) (vocab (remD D id)).length cap)) ∧ But S w1.heap.size w1 (w'.setCell ⟨p, 2, none⟩ (.slice (some ⟨gb, 0, none⟩) (vocab (remD D id)).length cap))) ∧ w'.cell? ⟨B, 0, none⟩ = some (.pointer (some ⟨p, 0, none⟩)) ∧ w'.cell? ⟨p, 2, none⟩ = some (.slice (some ⟨gb, 0, none⟩) (vocab D).length cap) ∧ w'.frozen? ⟨p, 2, none⟩ = false := fun k => by
          have hPk := hP1.below ((Below.refl _ w1).drewN k)
          refine (del_any p b2 B N base gb cap g' (vocab D) (w1.drewN k) HVO.out cB1 (by show w1.cell? _ = _; rw [Lib.cell_of_heap hP1.cells]; rfl) hPk.found.map ho n1 n2 n3).mono ?_
          rintro e w' ⟨rfl, ho', hb'⟩
          rw [hcut] at ho' ⊢
          have hbl : ∀ a : Addr, a.block < w1.heap.size → a.block ≠ gb → w'.heap[a.block]? = w1.heap[a.block]? := fun a ha hn => hb'.block a.block ha hn
          refine ⟨rfl, hP1.setRow (R := fun k => k = gb) ⟨hb'.os, hb'.tape, hb'.output, hb'.size, hb'.block⟩ (fun k hk => by subst hk; exact ⟨hgS, fun e => n2 e.symm, _, _, _, hgc⟩) ho' (fun k hk => by
            simp [Value.ownBlock] at hk; subst hk; exact ⟨hgS, fun e => n2 e.symm⟩), ?_, ?_, ?_⟩
          · rw [← cB1]; exact World.cell?_of_block (hbl ⟨B, 0, none⟩ (World.block_lt_of_cell? w1 _ cB1) n1)
          · rw [← cp2]; exact World.cell?_of_block (hbl ⟨p, 2, none⟩ (World.block_lt_of_cell? w1 _ cp2) n2)
          · rw [← cf2]; exact World.frozen?_of_block (hbl ⟨p, 2, none⟩ (World.block_lt_of_cell? w1 _ cp2) n2)
        have HW1 := Lib.hid (show True from trivial)
        obtain ⟨nv, hnv⟩ : ∃ n, (vocab D).length = n := ⟨_, rfl⟩
        rw [hnv] at cp2 hDel
        obtain ⟨nm, hnm⟩ : ∃ n, (vocab (remD D id)).length = n := ⟨_, rfl⟩
        rw [hnm] at hDel
        clear hnm hnv hcut hP1 ho HPr HBr hb1 hb01 HG1 HG2 hl0 hvl hvS hgc n1 n2 n3 hgS HEND
        go_upto_region 14 with fail
        have cp2d : w1.drew.cell? ⟨p, 2, none⟩ = some (.slice (some ⟨gb, 0, none⟩) nv cap) := cp2
        have hBp : B ≠ p := by omega
        have hkeep : ∀ (W : World) (u : Value), W.cell? ⟨B, 0, none⟩ = some (.pointer (some ⟨p, 0, none⟩)) → (W.setCell ⟨p, 2, none⟩ u).cell? ⟨B, 0, none⟩ = some (.pointer (some ⟨p, 0, none⟩)) := fun W u h => (World.cell?_of_block (Below.heap_setCell W ⟨p, 2, none⟩ u B hBp)).trans h
        have cB1d : w1.drew.cell? ⟨B, 0, none⟩ = some (.pointer (some ⟨p, 0, none⟩)) := cB1
        first
          | (go_region_with (first | (go_at_call 98; refine (hDel 1).mono ?_; rintro e w9 ⟨rfl, ⟨hp9, hb9⟩, k1, k2, k3⟩) | fail))
          | fail
        all_goals (go_end0; exact ⟨rfl, HFin.out _ _ _ _ _ _ hp9, HBF.out.trans (hb9.mono HBF.out.size)⟩)
end Go.Proofs.YtogjgibaolppfaaGreatDoor

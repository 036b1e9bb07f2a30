/- Facts and contracts for the laws of the sender, part 16. Conditions: those that each theorem names. -/
import Derived.Test.YtogjgibaolppfaaGreatDoorK15
/- Steps of Put: the parts of an index while a word is being laid. -/
namespace Go.Proofs.YtogjgibaolppfaaGreatDoor
open Go.RowKit Go.Sort Go.Proofs Go.Maps Go.ChangeMaps Go.WideMaps

/-- the parts, but for which words are found -/
structure PAtX (S Q : Nat → Prop) (N p b1 b2 : Nat) (v : Value) (tx : Int → Option Value) (g : Wd → Option Nat) (D : List Dc) (c : Wd → Int → Nat) (l : List Wd) (w : World) : Prop where
  cells : w.heap[p]? = some (.cells #[.map (some b1), .map (some b2), v] 99 (0, 0))
  ne : b1 ≠ b2
  texts : Texts S (fun k => S k ∨ Q k) b1 N tx D w
  map : SM b2 N (fun x => (g x).map fun b => .map (some b)) w
  own2 : S b2
  inner : ∀ x b, g x = some b → S b ∧ b ≠ b1 ∧ b ≠ b2 ∧ IM b N (cntM (c x)) w
  inj : ∀ x y b, g x = some b → g y = some b → x = y
  row : RowS S w v l
  lt : ∀ k, S k → k < w.heap.size
  out : ∀ k, S k → ¬ Q k
  own : S p

section
variable {S Q : Nat → Prop} {N p b1 b2 : Nat} {v : Value} {tx : Int → Option Value} {g : Wd → Option Nat} {D : List Dc} {c : Wd → Int → Nat} {l : List Wd} {w : World}

theorem PAt.x (h : PAt S Q N p b1 b2 v tx g D c l w) : PAtX S Q N p b1 b2 v tx g D c l w := ⟨h.cells, h.ne, h.texts, h.found.map, h.found.own, h.found.inner, h.found.inj, h.row, h.lt, h.out, h.own⟩
theorem PAtX.full (h : PAtX S Q N p b1 b2 v tx g D c l w) (hs : ∀ x, (g x).isSome = true ↔ ∃ id, 0 < c x id) : PAt S Q N p b1 b2 v tx g D c l w := ⟨h.cells, h.ne, h.texts, ⟨h.map, h.own2, h.inner, h.inj, hs⟩, h.row, h.lt, h.out, h.own⟩

/-- what others change -/
theorem PAtX.kept {R : Nat → Prop} {w' : World} (h : PAtX S Q N p b1 b2 v tx g D c l w) (hb : But R w.heap.size w w') (hR : ∀ k, R k → Q k) : PAtX S Q N p b1 b2 v tx g D c l w' := by
  have hk : ∀ k, S k → w'.heap[k]? = w.heap[k]? := fun k hs => hb.block k (h.lt k hs) fun hr => h.out k hs (hR k hr)
  exact ⟨(hk p h.own).trans h.cells, h.ne, ⟨h.texts.map.kept (hk b1 h.texts.own), h.texts.own, h.texts.none, fun id l hl => by
      obtain ⟨u, hu, hs⟩ := h.texts.some id l hl
      exact ⟨u, hu, hs.but hb (Nat.le_refl _) fun k hr => .inr (hR k hr)⟩⟩,
    h.map.kept (hk b2 h.own2), h.own2, fun x b hx => by
      obtain ⟨a1, a2, a3, a4⟩ := h.inner x b hx
      exact ⟨a1, a2, a3, a4.kept (hk b a1)⟩, h.inj, h.row.kept fun k _ hs _ => hk k hs, fun k hs => Nat.lt_of_lt_of_le (h.lt k hs) hb.size, h.out, h.own⟩
theorem PAtX.below {w' : World} (h : PAtX S Q N p b1 b2 v tx g D c l w) (hb : Below w.heap.size w w') : PAtX S Q N p b1 b2 v tx g D c l w' := h.kept (R := fun _ => False) (But.of_below hb) fun _ h => h.elim
/-- other owned blocks -/
theorem PAtX.change {S' Q' : Nat → Prop} (h : PAtX S Q N p b1 b2 v tx g D c l w) (hS : ∀ k, S k → S' k) (hlt : ∀ k, S' k → k < w.heap.size) (hout : ∀ k, S' k → ¬ Q' k) (hA : ∀ k, S' k ∨ Q' k → (S k ∨ Q k) ∨ w.heap.size ≤ k) : PAtX S' Q' N p b1 b2 v tx g D c l w :=
  ⟨h.cells, h.ne, ⟨h.texts.map, hS _ h.texts.own, h.texts.none, fun id l hl => by
      obtain ⟨u, hu, hs⟩ := h.texts.some id l hl
      refine ⟨u, hu, hs.1, fun hne b off n c e hb => ?_⟩
      rcases hA b hb with h1 | h1
      · exact hs.2 hne b off n c e h1
      · obtain ⟨a, c', e2, _, _, hc⟩ := hs.1
        obtain ⟨b', off', ha, hcell⟩ := hc 0 (List.length_pos_iff.2 hne)
        rw [e] at e2
        injection e2 with e3 _ _
        rw [ha] at e3
        injection e3 with e3
        injection e3 with e3 _
        have := World.block_lt_of_cell? w _ hcell
        simp only at this
        omega⟩, h.map, hS _ h.own2, fun x b hx => by
      obtain ⟨a1, a2, a3, a4⟩ := h.inner x b hx
      exact ⟨hS _ a1, a2, a3, a4⟩, h.inj, ⟨h.row.1, fun k hk => hS _ (h.row.2 k hk)⟩, hlt, hout, hS _ h.own⟩
theorem PAtX.more {M : Nat} (h : PAtX S Q N p b1 b2 v tx g D c l w) (hM : N ≤ M) : PAtX S Q M p b1 b2 v tx g D c l w :=
  ⟨h.cells, h.ne, ⟨h.texts.map.mono hM, h.texts.own, h.texts.none, h.texts.some⟩, h.map.mono hM, h.own2, fun x b hx => by
      obtain ⟨a1, a2, a3, a4⟩ := h.inner x b hx
      exact ⟨a1, a2, a3, a4.mono hM⟩, h.inj, h.row, h.lt, h.out, h.own⟩

/-- a map's block of the index turns: what stays -/
theorem PAtX.rest {w' : World} {b : Nat} (h : PAtX S Q N p b1 b2 v tx g D c l w) (hg : w.grownBy w' (some b)) (hb : ∃ es k, w.heap[b]? = some (.map es k)) (hS : S b) :
    w'.heap[p]? = some (.cells #[.map (some b1), .map (some b2), v] 99 (0, 0)) ∧ RowS S w' v l ∧ (∀ k, S k → k < w'.heap.size) ∧ (b ≠ b1 → Texts S (fun k => S k ∨ Q k) b1 N tx D w') ∧
    (b ≠ b2 → SM b2 N (fun x => (g x).map fun b => .map (some b)) w') ∧ (∀ x b', g x = some b' → b' ≠ b → IM b' N (cntM (c x)) w') ∧ But S w.heap.size w w' := by
  obtain ⟨es, k, hbk⟩ := hb
  have hnc : ∀ j, (some b : Option Nat) = some j → ∀ cs t fr, w.heap[j]? ≠ some (.cells cs t fr) := fun j hj cs t fr => by
    cases hj
    rw [hbk]; intro e; cases e
  have hk : ∀ k, S k → k ≠ b → w'.heap[k]? = w.heap[k]? := fun k hs hne => hg.block k (h.lt k hs) (by simpa using hne)
  have hpb : p ≠ b := fun e => by
    have h1 := h.cells
    rw [e, hbk] at h1; cases h1
  refine ⟨(hk p h.own hpb).trans h.cells, h.row.kept fun k _ hs hv => hk k hs fun e => ?_, fun k hs => Nat.lt_of_lt_of_le (h.lt k hs) hg.size, fun hne => ⟨h.texts.map.kept (hk b1 h.texts.own hne.symm), h.texts.own, h.texts.none, fun id l hl => ?_⟩,
    fun hne => h.map.kept (hk b2 h.own2 hne.symm), fun x b' hx hne => ?_, But.grown hg (Nat.le_refl _) hS⟩
  · obtain ⟨⟨base, -, h2⟩, _⟩ := h.row
    subst e
    rcases h2 with ⟨e0, _⟩ | ⟨g', cap, cur, e0, _, hg', _⟩
    · rw [e0] at hv; cases hv
    · rw [e0] at hv
      have : g' = k := by simpa [Value.ownBlock] using hv
      rw [this, hbk] at hg'; cases hg'
  · obtain ⟨u, hu, hs⟩ := h.texts.some id l hl
    exact ⟨u, hu, strs_grown hs.1 hg hnc, hs.2⟩
  · obtain ⟨a1, a2, a3, a4⟩ := h.inner x b' hx
    exact a4.kept (hk b' a1 hne)

/-- docs[id]++ -/
theorem PAtX.inc (h : PAtX S Q N p b1 b2 v tx g D c l w) (hN : N < maxLen) {x : Wd} {b : Nat} (hx : g x = some b) {id : Int} (h1 : -9223372036854775808 ≤ id) (h2 : id ≤ 9223372036854775807) :
    (Instr.lookup 81 (.map (some b)) (.int .i64 id) false).run Tryz.prog w = .ok (.int .i64 (c x id : Int)) w ∧
    ∃ w', (Instr.mapUpdate 81 (.map (some b)) (.int .i64 id) (.int .i64 ((c x id : Int) + 1))).run Tryz.prog w = .ok () w' ∧ But S w.heap.size w w' ∧ PAtX S Q (N + 1) p b1 b2 v tx g D (setC c x id (c x id + 1)) l w' := by
  obtain ⟨a1, a2, a3, a4⟩ := h.inner x b hx
  have hget := a4.get intKeys (t := 81) Tryz.underlying81 (Tryz.zeroValue3 w) (intKey h1 h2)
  rw [cntM_getD] at hget
  obtain ⟨w', hrun, hM, hg⟩ := a4.put int_inj hN intKeys (t := 81) Tryz.underlying81 (intKey h1 h2) (.int .i64 ((c x id : Int) + 1))
  obtain ⟨r1, r2, r3, r4, r5, r6, r7⟩ := h.rest hg a4.obj a1
  have hput := cntM_put (c x) id (c x id + 1) (by omega)
  rw [Int.natCast_add] at hput
  have hc1 : ((1 : Nat) : Int) = 1 := rfl
  rw [hc1] at hput
  rw [hput] at hM
  refine ⟨hget, w', hrun, r7, r1, h.ne, ⟨(r4 a2).map.mono (by omega), (r4 a2).own, (r4 a2).none, (r4 a2).some⟩, (r5 a3).mono (by omega), h.own2, fun y b' hy => ?_, h.inj, r2, r3, h.out, h.own⟩
  obtain ⟨e1, e2, e3, e4⟩ := h.inner y b' hy
  refine ⟨e1, e2, e3, ?_⟩
  by_cases hyx : y = x
  · subst hyx
    rw [hx] at hy; cases hy
    have e : setC c y id (c y id + 1) y = fun i => if i = id then c y id + 1 else c y i := by funext i; simp [setC]
    rw [e]; exact hM
  · have e : setC c x id (c x id + 1) y = c y := by funext i; simp [setC, hyx]
    rw [e]
    exact (r6 y b' hy fun eb => hyx (h.inj y x b (by rw [hy, eb]) hx)).mono (by omega)

/-- docs = map[int]int{}; x.found[w] = docs -/
theorem PAtX.new {Q' : Nat → Prop} (h : PAtX S Q N p b1 b2 v tx g D c l w) (hN : N < maxLen) {x : Wd} (hxl : x.length ≤ 8192) (hx : g x = none) (hc : ∀ i, c x i = 0) (hQ : ∀ k, Q' k → Q k) (hnb : ¬ Q' w.heap.size) :
    ∃ w', (Instr.mapUpdate 97 (.map (some b2)) (.string ⟨x.toArray⟩) (.map (some w.heap.size))).run Tryz.prog (w.alloc (.map #[] 0)) = .ok () w' ∧ But S w.heap.size w w' ∧
      PAtX (fun k => S k ∨ k = w.heap.size) Q' (N + 1) p b1 b2 v tx (fun y => if y = x then some w.heap.size else g y) D c l w' := by
  have hb5 : Below w.heap.size w (w.alloc (.map #[] 0)) := (Below.refl _ w).alloc (Nat.le_refl _) _
  have h5 := h.below hb5
  obtain ⟨w', hrun, hM, hg⟩ := h5.map.put str_inj hN strKeys (t := 97) Tryz.underlying97 (strKey hxl) (.map (some w.heap.size))
  obtain ⟨r1, r2, r3, r4, r5, r6, r7⟩ := h5.rest hg h5.map.obj h.own2
  have hnew : IM w.heap.size 0 (cntM (c x)) (w.alloc (.map #[] 0)) := by
    have : cntM (c x) = fun _ => none := by funext i; simp [cntM, hc i]
    rw [this]; exact RMap.new w
  have hne2 : w.heap.size ≠ b2 := fun e => by have := h.lt b2 h.own2; omega
  have hne1 : w.heap.size ≠ b1 := fun e => by have := h.lt b1 h.texts.own; omega
  have hT := r4 (fun e => h.ne e.symm)
  have hbut : But S w.heap.size w w' := (But.of_below hb5).trans (r7.mono (by simp))
  refine ⟨w', hrun, hbut, r1, h.ne, ⟨hT.map.mono (by omega), .inl hT.own, hT.none, fun id l hl => ?_⟩, ?_, .inl h.own2, fun y b hy => ?_, fun y z b hy hz => ?_, ⟨r2.1, fun k hk => .inl (r2.2 k hk)⟩, fun k hk => ?_, fun k hk hq => ?_, .inl h.own⟩
  · obtain ⟨u, hu, hs⟩ := hT.some id l hl
    refine ⟨u, hu, hs.1, fun hne b off n cc e hb => ?_⟩
    rcases hb with (hb | hb) | hb
    · exact hs.2 hne b off n cc e (.inl hb)
    · -- the new block is no row of strings
      subst hb
      obtain ⟨u0, hu0, hs0⟩ := h.texts.some id l hl
      rw [hu] at hu0; cases hu0
      obtain ⟨a, c', e2, _, _, hcc⟩ := hs0.1
      obtain ⟨b', off', ha, hcell⟩ := hcc 0 (List.length_pos_iff.2 hne)
      rw [e] at e2
      injection e2 with e3 _ _
      rw [ha] at e3
      injection e3 with e3
      injection e3 with e3 _
      have := World.block_lt_of_cell? w _ hcell
      simp only at this
      omega
    · exact hs.2 hne b off n cc e (.inr (hQ b hb))
  · have e : (fun y => if y = x then some (Value.map (some w.heap.size)) else (g y).map fun b => Value.map (some b)) = fun y => (if y = x then some w.heap.size else g y).map fun b => Value.map (some b) := by
      funext y; by_cases hy : y = x <;> simp [hy]
    rw [← e]; exact hM
  · by_cases hyx : y = x
    · subst hyx
      simp only [↓reduceIte, Option.some.injEq] at hy
      subst hy
      exact ⟨.inr rfl, hne1, hne2, (hnew.kept (hg.block _ hnew.lt (by simpa using hne2))).mono (by omega)⟩
    · simp only [if_neg hyx] at hy
      obtain ⟨a1, a2, a3, a4⟩ := h.inner y b hy
      exact ⟨.inl a1, a2, a3, (r6 y b hy a3).mono (by omega)⟩
  · by_cases hyx : y = x
    · by_cases hzx : z = x
      · rw [hyx, hzx]
      · simp only [if_pos hyx, Option.some.injEq] at hy
        simp only [if_neg hzx] at hz
        have := h.lt b (h.inner z b hz).1
        omega
    · by_cases hzx : z = x
      · simp only [if_pos hzx, Option.some.injEq] at hz
        simp only [if_neg hyx] at hy
        have := h.lt b (h.inner y b hy).1
        omega
      · simp only [if_neg hyx] at hy
        simp only [if_neg hzx] at hz
        exact h.inj y z b hy hz
  · rcases hk with hk | rfl
    · exact r3 k hk
    · exact Nat.lt_of_lt_of_le hnew.lt hg.size
  · rcases hk with hk | rfl
    · exact h.out k hk (hQ k hq)
    · exact hnb hq

/-- x.texts[id] = words -/
theorem PAtX.putText (h : PAtX S Q N p b1 b2 v tx g D c l w) (hN : N < maxLen) (hA : Asc D) {id : Int} (h1 : -9223372036854775808 ≤ id) (h2 : id ≤ 9223372036854775807) {u : Value} {ws : List Wd} (hu : StrsOut (fun k => S k ∨ Q k) w u ws) :
    ∃ w', (Instr.mapUpdate 96 (.map (some b1)) (.int .i64 id) u).run Tryz.prog w = .ok () w' ∧ But S w.heap.size w w' ∧ PAtX S Q (N + 1) p b1 b2 v (fun i => if i = id then some u else tx i) g (putD D id ws) c l w' := by
  obtain ⟨w', hrun, hM, hg⟩ := h.texts.map.put int_inj hN intKeys (t := 96) Tryz.underlying96 (intKey h1 h2) u
  obtain ⟨es, kk, hbk⟩ := h.texts.map.obj
  obtain ⟨r1, r2, r3, r4, r5, r6, r7⟩ := h.rest hg h.texts.map.obj h.texts.own
  have hnc : ∀ j, (some b1 : Option Nat) = some j → ∀ cs t fr, w.heap[j]? ≠ some (.cells cs t fr) := fun j hj cs t fr => by
    cases hj
    rw [hbk]; intro e; cases e
  refine ⟨w', hrun, r7, r1, h.ne, ⟨hM, h.texts.own, fun i hi => ?_, fun i l hl => ?_⟩, (r5 h.ne).mono (by omega), h.own2, fun x b hx => ?_, h.inj, r2, r3, h.out, h.own⟩
  · rw [wordsAt_put hA] at hi
    by_cases e : i = id
    · simp [e] at hi
    · simp only [if_neg e] at hi ⊢
      exact h.texts.none i hi
  · rw [wordsAt_put hA] at hl
    by_cases e : i = id
    · simp only [if_pos e, Option.some.injEq] at hl ⊢
      subst hl
      exact ⟨u, rfl, strs_grown hu.1 hg hnc, hu.2⟩
    · simp only [if_neg e] at hl ⊢
      obtain ⟨u', hu', hs⟩ := h.texts.some i l hl
      exact ⟨u', hu', strs_grown hs.1 hg hnc, hs.2⟩
  · obtain ⟨a1, a2, a3, a4⟩ := h.inner x b hx
    exact ⟨a1, a2, a3, (r6 x b hx a2).mono (by omega)⟩
end
end Go.Proofs.YtogjgibaolppfaaGreatDoor

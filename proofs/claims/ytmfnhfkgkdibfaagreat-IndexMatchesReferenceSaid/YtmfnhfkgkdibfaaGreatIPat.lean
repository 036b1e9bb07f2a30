/- Steps that change an index in memory. -/
import Derived.Test.YtmfnhfkgkdibfaaGreatIPhr
namespace Go.Proofs.YtmfnhfkgkdibfaaGreat
open Go.RowKit Go.Sort Go.Proofs Go.Maps Go.ChangeMaps Go.WideMaps

/-- the parts of an index: texts of D, counts c, words l -/
structure PAt (S Q : Nat → Prop) (N p b1 b2 : Nat) (v : Value) (tx : Int → Option Value) (g : Wd → Option Nat) (D : List Dc) (c : Wd → Int → Nat) (l : List Wd) (w : World) : Prop where
  cells : w.heap[p]? = some (.cells #[.map (some b1), .map (some b2), v] 66 (0, 0))
  ne : b1 ≠ b2
  texts : Texts S (fun k => S k ∨ Q k) b1 N tx D w
  found : Found S b1 b2 N g c w
  row : RowS S w v l
  lt : ∀ k, S k → k < w.heap.size
  out : ∀ k, S k → ¬ Q k
  own : S p

section
variable {S Q : Nat → Prop} {N p b1 b2 : Nat} {v : Value} {tx : Int → Option Value} {g : Wd → Option Nat} {D : List Dc} {c : Wd → Int → Nat} {l : List Wd} {w : World}

theorem IdxAt.pat {N : Nat} (h : IdxAt S Q N w p D) : ∃ b1 b2 v tx g, PAt S Q N p b1 b2 v tx g D (cntD D) (vocab D) w := by
  obtain ⟨b1, b2, v, tx, g, h1, h2, h3, h4, h5⟩ := h.parts
  exact ⟨b1, b2, v, tx, g, h1, h2, h3, h4, h5, h.lt, h.out, h.own⟩
theorem PAt.idx (h : PAt S Q N p b1 b2 v tx g D (cntD D) (vocab D) w) (hA : Asc D) (hI : Ids D) (ho : ∀ d ∈ D, ∀ x ∈ d.2, okWord x) (hs : ∀ d ∈ D, d.2.length ≤ 1000) : IdxAt S Q N w p D :=
  ⟨hA, hI, ho, hs, h.lt, h.out, h.own, b1, b2, v, tx, g, h.cells, h.ne, h.texts, h.found, h.row⟩

theorem PAt.below {w' : World} (h : PAt S Q N p b1 b2 v tx g D c l w) (hb : Below w.heap.size w w') : PAt S Q N p b1 b2 v tx g D c l w' := by
  have hk : ∀ k, S k → w'.heap[k]? = w.heap[k]? := fun k hs => hb.block k (h.lt k hs)
  exact ⟨(hk p h.own).trans h.cells, h.ne, ⟨h.texts.map.kept (hk b1 h.texts.own), h.texts.own, h.texts.none, fun id l hl => by
      obtain ⟨u, hu, hs⟩ := h.texts.some id l hl
      exact ⟨u, hu, hs.below hb⟩⟩,
    ⟨h.found.map.kept (hk b2 h.found.own), h.found.own, fun x b hx => by
      obtain ⟨a1, a2, a3, a4⟩ := h.found.inner x b hx
      exact ⟨a1, a2, a3, a4.kept (hk b a1)⟩, h.found.inj, h.found.some⟩,
    h.row.kept fun k _ hs _ => hk k hs, fun k hs => Nat.lt_of_lt_of_le (h.lt k hs) hb.size, h.out, h.own⟩

/-- what lies at a map's block is no cells -/
theorem PAt.rest {w' : World} {b : Nat} (h : PAt S Q N p b1 b2 v tx g D c l w) (hg : w.grownBy w' (some b)) (hb : ∃ es k, w.heap[b]? = some (.map es k)) :
    w'.heap[p]? = some (.cells #[.map (some b1), .map (some b2), v] 66 (0, 0)) ∧ RowS S w' v l ∧ (∀ k, S k → k < w'.heap.size) ∧ (b ≠ b1 → Texts S (fun k => S k ∨ Q k) b1 N tx D w') ∧
    (b ≠ b2 → SM b2 N (fun x => (g x).map fun b => .map (some b)) w') ∧ (∀ x b', g x = some b' → b' ≠ b → IM b' N (cntM (c x)) w') ∧ But S w.heap.size w w' ∨ ¬ S b := by
  by_cases hS : S b
  · left
    obtain ⟨es, k, hbk⟩ := hb
    have hnc : ∀ j, (some b : Option Nat) = some j → ∀ cs t fr, w.heap[j]? ≠ some (.cells cs t fr) := fun j hj cs t fr => by
      cases hj
      rw [hbk]; intro e; cases e
    have hk : ∀ k, S k → k ≠ b → w'.heap[k]? = w.heap[k]? := fun k hs hne => hg.block k (h.lt k hs) (by simpa using hne)
    have hpb : p ≠ b := fun e => by
      have h1 := h.cells
      rw [e, hbk] at h1; cases h1
    refine ⟨(hk p h.own hpb).trans h.cells, h.row.kept fun k _ hs hv => hk k hs fun e => ?_, fun k hs => Nat.lt_of_lt_of_le (h.lt k hs) hg.size, fun hne => ⟨h.texts.map.kept (hk b1 h.texts.own hne.symm), h.texts.own, h.texts.none, fun id l hl => ?_⟩,
      fun hne => h.found.map.kept (hk b2 h.found.own hne.symm), fun x b' hx hne => ?_, But.grown hg (Nat.le_refl _) hS⟩
    · obtain ⟨⟨base, -, h2⟩, _⟩ := h.row
      subst e
      rcases h2 with ⟨e0, _⟩ | ⟨g', cap, cur, e0, _, hg', _⟩
      · rw [e0] at hv; cases hv
      · rw [e0] at hv
        have : g' = k := by simpa [Value.ownBlock] using hv
        rw [this, hbk] at hg'; cases hg'
    · obtain ⟨u, hu, hs⟩ := h.texts.some id l hl
      exact ⟨u, hu, strs_grown hs.1 hg hnc, hs.2⟩
    · obtain ⟨a1, a2, a3, a4⟩ := h.found.inner x b' hx
      exact a4.kept (hk b' a1 hne)
  · exact .inr hS

def subC (c : Wd → Int → Nat) (x : Wd) (id : Int) (y : Wd) (i : Int) : Nat := if y = x ∧ i = id then 0 else c y i
def setC (c : Wd → Int → Nat) (x : Wd) (id : Int) (m : Nat) (y : Wd) (i : Int) : Nat := if y = x ∧ i = id then m else c y i

theorem cntM_del (f : Int → Nat) (id : Int) : (fun y => if y = id then none else cntM f y) = cntM fun i => if i = id then 0 else f i := by
  funext y
  by_cases h : y = id <;> simp [cntM, h]
theorem cntM_put (f : Int → Nat) (id : Int) (m : Nat) (hm : 0 < m) : (fun y => if y = id then some (.int .i64 (m : Int)) else cntM f y) = cntM fun i => if i = id then m else f i := by
  funext y
  by_cases h : y = id <;> simp [cntM, h, hm]

/-- delete(docs, id) -/
theorem PAt.delInner (h : PAt S Q N p b1 b2 v tx g D c l w) {x : Wd} {b : Nat} (hx : g x = some b) {id : Int} (h1 : -9223372036854775808 ≤ id) (h2 : id ≤ 9223372036854775807) (ty : TypeId) :
    ∃ w', (Builtin.delete_ #[67, 3] ty #[.map (some b), .int .i64 id]).run Tryz.prog w = .ok (.tuple #[]) w' ∧ But S w.heap.size w w' ∧
      w'.heap[p]? = some (.cells #[.map (some b1), .map (some b2), v] 66 (0, 0)) ∧ RowS S w' v l ∧ (∀ k, S k → k < w'.heap.size) ∧ Texts S (fun k => S k ∨ Q k) b1 N tx D w' ∧ SM b2 N (fun x => (g x).map fun b => .map (some b)) w' ∧
      (∀ y b', g y = some b' → IM b' N (cntM (subC c x id y)) w') ∧ w.grownBy w' (some b) := by
  obtain ⟨a1, a2, a3, a4⟩ := h.found.inner x b hx
  obtain ⟨w', hrun, hM, hg⟩ := a4.del int_inj intKeys (t := 67) Tryz.underlying67 (intKey h1 h2) ty
  rcases h.rest hg a4.obj with ⟨r1, r2, r3, r4, r5, r6, r7⟩ | hn
  · refine ⟨w', hrun, r7, r1, r2, r3, r4 a2, r5 a3, fun y b' hy => ?_, hg⟩
    by_cases hyx : y = x
    · subst hyx
      rw [hx] at hy; cases hy
      have e2 : subC c y id y = fun i => if i = id then 0 else c y i := by funext i; simp [subC]
      rw [e2, ← cntM_del (c y) id]; exact hM
    · have e : subC c x id y = c y := by funext i; simp [subC, hyx]
      rw [e]
      exact r6 y b' hy fun eb => hyx (h.found.inj y x b (by rw [hy, eb]) hx)
  · exact absurd a1 hn

/-- .. where the word is still somewhere -/
theorem PAt.delInner_stays {w' : World} (h : PAt S Q N p b1 b2 v tx g D c l w) {x : Wd} {id : Int}
    (r1 : w'.heap[p]? = some (.cells #[.map (some b1), .map (some b2), v] 66 (0, 0))) (r2 : RowS S w' v l) (r3 : ∀ k, S k → k < w'.heap.size) (r4 : Texts S (fun k => S k ∨ Q k) b1 N tx D w') (r5 : SM b2 N (fun x => (g x).map fun b => .map (some b)) w')
    (r6 : ∀ y b', g y = some b' → IM b' N (cntM (subC c x id y)) w') (hs : ∃ i, 0 < subC c x id x i) : PAt S Q N p b1 b2 v tx g D (subC c x id) l w' :=
  ⟨r1, h.ne, r4, ⟨r5, h.found.own, fun y b' hy => by
      obtain ⟨a1, a2, a3, a4⟩ := h.found.inner y b' hy
      exact ⟨a1, a2, a3, r6 y b' hy⟩, h.found.inj, fun y => by
      rw [h.found.some y]
      by_cases hyx : y = x
      · subst hyx
        constructor
        · exact fun _ => hs
        · rintro ⟨i, hi⟩
          refine ⟨i, ?_⟩
          unfold subC at hi
          split at hi <;> omega
      · have e : subC c x id y = c y := by funext i; simp [subC, hyx]
        rw [e]⟩, r2, r3, h.out, h.own⟩

/-- delete(x.found, w) of a word that is nowhere -/
theorem PAt.delFound {w' : World} (h : PAt S Q N p b1 b2 v tx g D c l w) {x : Wd} {id : Int} (hxl : x.length ≤ 8192)
    (r1 : w'.heap[p]? = some (.cells #[.map (some b1), .map (some b2), v] 66 (0, 0))) (r2 : RowS S w' v l) (r3 : ∀ k, S k → k < w'.heap.size) (r4 : Texts S (fun k => S k ∨ Q k) b1 N tx D w') (r5 : SM b2 N (fun x => (g x).map fun b => .map (some b)) w')
    (r6 : ∀ y b', g y = some b' → IM b' N (cntM (subC c x id y)) w') (hs : ∀ i, subC c x id x i = 0) (ty : TypeId) :
    ∃ w'', (Builtin.delete_ #[64, 9] ty #[.map (some b2), .string ⟨x.toArray⟩]).run Tryz.prog w' = .ok (.tuple #[]) w'' ∧ But S w'.heap.size w' w'' ∧ PAt S Q N p b1 b2 v tx (fun y => if y = x then none else g y) D (subC c x id) l w'' := by
  obtain ⟨w'', hrun, hM, hg⟩ := r5.del str_inj strKeys (t := 64) Tryz.underlying64 (strKey hxl) ty
  have hb : But S w'.heap.size w' w'' := But.grown hg (Nat.le_refl _) h.found.own
  have hk : ∀ k, S k → k ≠ b2 → w''.heap[k]? = w'.heap[k]? := fun k hs hne => hg.block k (r3 k hs) (by simpa using hne)
  obtain ⟨es, kk, hbk⟩ := r5.obj
  have hpb : p ≠ b2 := fun e => by rw [e, hbk] at r1; cases r1
  refine ⟨w'', hrun, hb, (hk p h.own hpb).trans r1, h.ne, ⟨r4.map.kept (hk b1 r4.own h.ne), r4.own, r4.none, fun i l hl => ?_⟩, ⟨?_, h.found.own, fun y b' hy => ?_, fun y z b hy hz => ?_, fun y => ?_⟩, r2.kept fun k _ hs hv => hk k hs fun e => ?_, fun k hs => Nat.lt_of_lt_of_le (r3 k hs) hg.size, h.out, h.own⟩
  · obtain ⟨u, hu, hs⟩ := r4.some i l hl
    exact ⟨u, hu, strs_grown hs.1 hg (fun j hj cs t fr => by cases hj; rw [hbk]; intro e; cases e), hs.2⟩
  · have e : (fun y => if y = x then none else (g y).map fun b => Value.map (some b)) = fun y => (if y = x then none else g y).map fun b => Value.map (some b) := by
      funext y; by_cases hy : y = x <;> simp [hy]
    rw [← e]; exact hM
  · by_cases hyx : y = x
    · subst hyx; simp at hy
    · simp only [if_neg hyx] at hy
      obtain ⟨a1, a2, a3, a4⟩ := h.found.inner y b' hy
      exact ⟨a1, a2, a3, (r6 y b' hy).kept (hk b' a1 a3)⟩
  · by_cases hyx : y = x
    · subst hyx; simp at hy
    · by_cases hzx : z = x
      · subst hzx; simp at hz
      · simp only [if_neg hyx] at hy
        simp only [if_neg hzx] at hz
        exact h.found.inj y z b hy hz
  · by_cases hyx : y = x
    · subst hyx
      simp only [↓reduceIte, Option.isSome_none, Bool.false_eq_true, false_iff, not_exists]
      intro i; rw [hs i]; omega
    · simp only [if_neg hyx]
      rw [h.found.some y]
      have e : subC c x id y = c y := by funext i; simp [subC, hyx]
      rw [e]
  · obtain ⟨⟨base, -, h2⟩, _⟩ := r2
    subst e
    rcases h2 with ⟨e0, _⟩ | ⟨g', cap, cur, e0, _, hg', _⟩
    · rw [e0] at hv; cases hv
    · rw [e0] at hv
      have : g' = k := by simpa [Value.ownBlock] using hv
      rw [this, hbk] at hg'; cases hg'

/-- delete(x.texts, id) -/
theorem PAt.delText (h : PAt S Q N p b1 b2 v tx g D c l w) (hA : Asc D) {id : Int} (h1 : -9223372036854775808 ≤ id) (h2 : id ≤ 9223372036854775807) (ty : TypeId) :
    ∃ w', (Builtin.delete_ #[63, 3] ty #[.map (some b1), .int .i64 id]).run Tryz.prog w = .ok (.tuple #[]) w' ∧ But S w.heap.size w w' ∧ PAt S Q N p b1 b2 v (fun i => if i = id then none else tx i) g (remD D id) c l w' := by
  obtain ⟨w', hrun, hM, hg⟩ := h.texts.map.del int_inj intKeys (t := 63) Tryz.underlying63 (intKey h1 h2) ty
  obtain ⟨es, kk, hbk⟩ := h.texts.map.obj
  rcases h.rest hg h.texts.map.obj with ⟨r1, r2, r3, r4, r5, r6, r7⟩ | hn
  · refine ⟨w', hrun, r7, r1, h.ne, ⟨hM, h.texts.own, fun i hi => ?_, fun i l hl => ?_⟩, ⟨r5 h.ne, h.found.own, fun x b hx => ?_, h.found.inj, h.found.some⟩, r2, r3, h.out, h.own⟩
    · rw [wordsAt_rem hA] at hi
      by_cases e : i = id
      · simp [e]
      · simp only [if_neg e] at hi ⊢
        exact h.texts.none i hi
    · rw [wordsAt_rem hA] at hl
      by_cases e : i = id
      · simp [e] at hl
      · simp only [if_neg e] at hl ⊢
        obtain ⟨u, hu, hs⟩ := h.texts.some i l hl
        exact ⟨u, hu, strs_grown hs.1 hg (fun j hj cs t fr => by cases hj; rw [hbk]; intro e; cases e), hs.2⟩
    · obtain ⟨a1, a2, a3, a4⟩ := h.found.inner x b hx
      exact ⟨a1, a2, a3, r6 x b hx a2⟩
  · exact absurd h.texts.own hn
end
end Go.Proofs.YtmfnhfkgkdibfaaGreat

/- What an index in memory is: its three fields, the blocks that it owns. -/
import Derived.Test.YtmfnhfkgkdibfaaGreatIHit
import Derived.Test.YtmfnhfkgkdibfaaGreatIWd
import Derived.Test.YtmfnhfkgkdibfaaGreatIxP
namespace Go.Proofs.YtmfnhfkgkdibfaaGreat
open Go.RowKit Go.Sort Go.Proofs Go.Maps Go.ChangeMaps Go.WideMaps

theorem same_self {κ : Type} {K : κ → Lit} (hK : ∀ x y, (K x).sameKey (K y) = true ↔ x = y) (x : κ) : (K x).sameKey (K x) = true := (hK x x).2 rfl
theorem same_eq {a b : Lit} (h : a.sameKey b = true) : a = b := by
  by_cases e : a = b
  · exact e
  · rw [sameKey_ne e] at h; cases h

/-- len(m): the number of its keys -/
theorem RMap.len {κ : Type} {K : κ → Lit} {k b n : Nat} {f : κ → Option Value} {w : World} (hK : ∀ x y, (K x).sameKey (K y) = true ↔ x = y) (hinv : ∀ key kl, keyOf Tryz.prog k key = some kl → ∃ x, kl = K x) (h : RMap K k b n f w) (Y : Keyed Tryz.prog k) {t e : TypeId} (ht : Tryz.prog.underlying t = some (.map k e)) {L : List κ} (hn : L.Nodup) (hL : ∀ x, x ∈ L ↔ (f x).isSome = true) (ty : TypeId) :
    (Builtin.len_ #[t] ty #[.map (some b)]).run Tryz.prog w = .ok (.int .i64 L.length) w := by
  obtain ⟨D, hD, hf⟩ := h
  rw [hD.len ht ty]
  obtain ⟨es', clock, _, F, _, rfl⟩ := hD
  obtain ⟨es, hes⟩ : ∃ es, (es'.toList.map (WideElems.rg Tryz.prog k rawE)).foldr DataW.insert [] = es := ⟨_, rfl⟩
  have hap : es.Pairwise (fun p q => p.1 ≠ q.1) := hes ▸ ((WideShapes.sorted_perm _).pairwise_iff (fun {_ _} hne => Ne.symm hne)).2 (Maps.fit_apart Y F)
  have hkeys : ∀ p ∈ es, ∃ x, p.1 = K x := by
    intro p hp
    rw [← hes] at hp
    obtain ⟨x, hx, rfl⟩ := List.mem_map.1 (Go.mem_sorted.1 hp)
    obtain ⟨y, hy⟩ := F.reads x hx
    rw [WideElems.rg_of hy]
    exact hinv _ _ (WideElems.rd_key hy)
  rw [hes] at hf ⊢
  have h1 : (es.map (·.1)).Nodup := List.pairwise_map.2 hap
  have h2 : (L.map K).Nodup := List.pairwise_map.2 (hn.imp fun {a b} hab he => hab ((hK a b).1 (by rw [he]; exact same_self hK b)))
  have h3 : ∀ kl, kl ∈ es.map (·.1) ↔ kl ∈ L.map K := fun kl => by
    constructor
    · intro hm
      obtain ⟨p, hp, rfl⟩ := List.mem_map.1 hm
      obtain ⟨x, hx⟩ := hkeys p hp
      refine List.mem_map.2 ⟨x, (hL x).2 ?_, hx.symm⟩
      rw [← (hf x).1, has_eq, List.any_eq_true]
      exact ⟨p, hp, by rw [hx]; exact same_self hK x⟩
    · intro hm
      obtain ⟨x, hx, rfl⟩ := List.mem_map.1 hm
      have := (hL x).1 hx
      rw [← (hf x).1, has_eq, List.any_eq_true] at this
      obtain ⟨p, hp, hs⟩ := this
      exact List.mem_map.2 ⟨p, hp, same_eq hs⟩
  have h4 : (es.map (·.1)).length = (L.map K).length := ((List.perm_ext_iff_of_nodup h1 h2).2 h3).length_eq
  simp only [Maps.size]
  simp only [List.length_map] at h4
  rw [h4]
theorem int_form (key : Value) (kl : Lit) (h : keyOf Tryz.prog 3 key = some kl) : ∃ x, kl = Lit.int .i64 x := by
  obtain ⟨x, _, rfl, _⟩ := Maps.keyOf_int_inv Tryz.underlying3 h
  exact ⟨x, rfl⟩

theorem row_mono {base base' : Nat} {w : World} {e : TypeId} {size : Nat} {v : Value} {n : Nat} {xs : List Value} (h : w.ownsRow base e size v n xs) (hb : base' ≤ base) : w.ownsRow base' e size v n xs := by
  refine ⟨h.1, ?_⟩
  rcases h.2 with h0 | ⟨g, cap, cur, hv, hb', r⟩
  · exact .inl h0
  · exact .inr ⟨g, cap, cur, hv, Nat.le_trans hb hb', r⟩
theorem HitsR.mono {base base' : Nat} {w : World} {v : Value} {l : List (Int × Nat)} (h : HitsR base w v l) (hb : base' ≤ base) : HitsR base' w v l := row_mono h hb
theorem TermsR.mono {base base' : Nat} {w : World} {v : Value} {l : List (Wd × Nat)} (h : TermsR base w v l) (hb : base' ≤ base) : TermsR base' w v l := row_mono h hb
theorem bthen {a b c : World} (h : Below a.heap.size a b) (k : Below b.heap.size b c) : Below a.heap.size a c := h.trans (k.mono h.size)

/-- strings in blocks that are not of A -/
def StrsOut (A : Nat → Prop) (w : World) (u : Value) (l : List Wd) : Prop := StrsAt w u l ∧ (l ≠ [] → ∀ b off n c, u = .slice (some ⟨b, off, none⟩) n c → ¬ A b)
theorem StrsOut.but {A S : Nat → Prop} {n : Nat} {w w' : World} {u : Value} {l : List Wd} (h : StrsOut A w u l) (hb : But S n w w') (hn : w.heap.size ≤ n) (hs : ∀ k, S k → A k) : StrsOut A w' u l := by
  obtain ⟨⟨a, c, rfl, hle, hl, hc⟩, ho⟩ := h
  refine ⟨⟨a, c, rfl, hle, hl, fun j hj => ?_⟩, ho⟩
  obtain ⟨b, off, rfl, h1⟩ := hc j hj
  refine ⟨b, off, rfl, ?_⟩
  have hlt := World.block_lt_of_cell? w _ h1
  rw [← h1]
  simp only [World.cell?]
  rw [hb.block b (Nat.lt_of_lt_of_le hlt hn) (fun hsb => ho (fun e => by rw [e] at hj; simp at hj) b off _ _ rfl (hs b hsb))]
theorem StrsOut.below {A : Nat → Prop} {w w' : World} {u : Value} {l : List Wd} (h : StrsOut A w u l) (hb : Below w.heap.size w w') : StrsOut A w' u l := h.but (S := fun _ => False) (But.of_below hb) (Nat.le_refl _) (fun _ h => h.elim)

def RowS (S : Nat → Prop) (w : World) (v : Value) (l : List Wd) : Prop := (∃ base, w.ownsRow base 9 1 v l.length (l.map encW)) ∧ ∀ k, v.ownBlock = some k → S k
theorem RowS.kept {S : Nat → Prop} {w w' : World} {v : Value} {l : List Wd} (h : RowS S w v l) (hb : ∀ k, k < w.heap.size → S k → v.ownBlock = some k → w'.heap[k]? = w.heap[k]?) : RowS S w' v l := by
  obtain ⟨⟨base, h1, h2⟩, h3⟩ := h
  refine ⟨⟨base, h1, ?_⟩, h3⟩
  rcases h2 with h0 | ⟨g, cap, cur, rfl, hb', hg, r⟩
  · exact .inl h0
  · exact .inr ⟨g, cap, cur, rfl, hb', (hb g (Array.getElem?_eq_some_iff.1 hg).1 (h3 g rfl) rfl).trans hg, r⟩

structure Texts (S A : Nat → Prop) (b1 N : Nat) (tx : Int → Option Value) (D : List Dc) (w : World) : Prop where
  map : IM b1 N tx w
  own : S b1
  none : ∀ id, wordsAt D id = none → tx id = none
  some : ∀ id l, wordsAt D id = some l → ∃ u, tx id = some u ∧ StrsOut A w u l

structure Found (S : Nat → Prop) (b1 b2 N : Nat) (g : Wd → Option Nat) (c : Wd → Int → Nat) (w : World) : Prop where
  map : SM b2 N (fun x => (g x).map fun b => .map (some b)) w
  own : S b2
  inner : ∀ x b, g x = some b → S b ∧ b ≠ b1 ∧ b ≠ b2 ∧ IM b N (cntM (c x)) w
  inj : ∀ x y b, g x = some b → g y = some b → x = y
  some : ∀ x, (g x).isSome = true ↔ ∃ id, 0 < c x id

def cntD (D : List Dc) (x : Wd) (id : Int) : Nat := docsF D (fun l => l.count x) id

/-- p points to an index of the documents D. S: the blocks that it owns; Q: blocks that are another's. -/
structure IdxAt (S Q : Nat → Prop) (N : Nat) (w : World) (p : Nat) (D : List Dc) : Prop where
  asc : Asc D
  ids : Ids D
  oks : ∀ d ∈ D, ∀ x ∈ d.2, okWord x
  small : ∀ d ∈ D, d.2.length ≤ 1000
  lt : ∀ k, S k → k < w.heap.size
  out : ∀ k, S k → ¬ Q k
  own : S p
  parts : ∃ b1 b2 v tx g, w.heap[p]? = some (.cells #[.map (some b1), .map (some b2), v] 66 (0, 0)) ∧ b1 ≠ b2 ∧ Texts S (fun k => S k ∨ Q k) b1 N tx D w ∧ Found S b1 b2 N g (cntD D) w ∧ RowS S w v (vocab D)

/-- an index stays where its blocks stay -/
theorem IdxAt.kept {S Q T : Nat → Prop} {N : Nat} {w w' : World} {p : Nat} {D : List Dc} (h : IdxAt S Q N w p D) (hb : But T w.heap.size w w') (hT : ∀ k, T k → Q k) : IdxAt S Q N w' p D := by
  have hk : ∀ k, S k → w'.heap[k]? = w.heap[k]? := fun k hs => hb.block k (h.lt k hs) (fun ht => h.out k hs (hT k ht))
  obtain ⟨b1, b2, v, tx, g, h1, h2, h3, h4, h5⟩ := h.parts
  exact ⟨h.asc, h.ids, h.oks, h.small, fun k hs => Nat.lt_of_lt_of_le (h.lt k hs) hb.size, h.out, h.own, b1, b2, v, tx, g, (hk p h.own).trans h1, h2,
    ⟨h3.map.kept (hk b1 h3.own), h3.own, h3.none, fun id l hl => by
      obtain ⟨u, hu, hs⟩ := h3.some id l hl
      exact ⟨u, hu, hs.but hb (Nat.le_refl _) (fun k ht => .inr (hT k ht))⟩⟩,
    ⟨h4.map.kept (hk b2 h4.own), h4.own, fun x b hx => by
      obtain ⟨a1, a2, a3, a4⟩ := h4.inner x b hx
      exact ⟨a1, a2, a3, a4.kept (hk b a1)⟩, h4.inj, h4.some⟩,
    h5.kept fun k _ hs _ => hk k hs⟩
theorem IdxAt.below {S Q : Nat → Prop} {N : Nat} {w w' : World} {p : Nat} {D : List Dc} (h : IdxAt S Q N w p D) (hb : Below w.heap.size w w') : IdxAt S Q N w' p D := h.kept (T := fun _ => False) (But.of_below hb) (fun _ h => h.elim)

/-- in a drawn world -/
theorem IdxAt.drew {S Q : Nat → Prop} {N : Nat} {w : World} {p : Nat} {D : List Dc} (h : IdxAt S Q N w p D) (n : Nat) : IdxAt S Q N (w.drewN n) p D := h.below ((Below.refl _ w).drewN n)

theorem cntD_le {S Q : Nat → Prop} {N : Nat} {w : World} {p : Nat} {D : List Dc} (h : IdxAt S Q N w p D) (x : Wd) (id : Int) : cntD D x id ≤ 1000 := by
  unfold cntD docsF
  cases hw : wordsAt D id with
  | none => simp
  | some l =>
    have := h.small _ ((wordsAt_some h.asc).1 hw)
    simp only [Option.map_some, Option.getD_some] at this ⊢
    exact Nat.le_trans (List.count_le_length) this
theorem docsF_pos {D : List Dc} (hA : Asc D) (hI : Ids D) {f : List Wd → Nat} {id : Int} (h : 0 < docsF D f id) : 1 ≤ id ∧ id ≤ 256 := by
  unfold docsF at h
  cases hw : wordsAt D id with
  | none => rw [hw] at h; simp at h
  | some l => exact hI _ ((wordsAt_some hA).1 hw)
end Go.Proofs.YtmfnhfkgkdibfaaGreat

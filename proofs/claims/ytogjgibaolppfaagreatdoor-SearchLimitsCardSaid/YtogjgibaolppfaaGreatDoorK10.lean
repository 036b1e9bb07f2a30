/- Facts and contracts for the laws of the sender, part 10. Conditions: those that each theorem names. -/
import Derived.Test.YtogjgibaolppfaaGreatDoorK03
import Derived.Test.YtogjgibaolppfaaGreatDoorK09
import Derived.Test.YtogjgibaolppfaaGreatDoorK08
/- Plain: parts of sorted lists; merging; the reference's list of terms. -/
namespace Go.Proofs.YtogjgibaolppfaaGreatDoor

/-- q holds at a beginning of l -/
def Down {β : Type} (q : β → Bool) (l : List β) : Prop := l.Pairwise fun a b => q b = true → q a = true
theorem down_take {β : Type} {q : β → Bool} : ∀ {l : List β}, Down q l → l.take (l.countP q) = l.filter q ∧ l.drop (l.countP q) = l.filter fun x => !q x
  | [], _ => by simp
  | x :: r, h => by
    have h' := List.pairwise_cons.1 h
    have ih := down_take h'.2
    by_cases hx : q x = true
    · rw [List.countP_cons_of_pos hx, List.filter_cons_of_pos hx, List.filter_cons_of_neg (by simp [hx]), List.take_succ_cons, List.drop_succ_cons, ih.1, ih.2]; exact ⟨rfl, rfl⟩
    · have hr : ∀ y ∈ r, ¬ q y = true := fun y hy e => hx (h'.1 y hy e)
      have h0 : r.countP q = 0 := List.countP_eq_zero.2 hr
      rw [List.countP_cons_of_neg hx, h0, List.filter_cons_of_neg hx, List.filter_cons_of_pos (by simpa using hx)]
      refine ⟨?_, ?_⟩
      · rw [List.take_zero]; exact (List.filter_eq_nil_iff.2 hr).symm
      · rw [List.drop_zero, List.filter_eq_self.2 (fun y hy => by simpa using hr y hy)]

theorem le_of_prefix : ∀ {p x : Wd}, p <+: x → p ≤ x
  | [], _, _ => List.nil_le _
  | a :: p, [], h => by simp at h
  | a :: p, b :: x, h => by
    rw [List.cons_prefix_cons] at h
    obtain ⟨rfl, h⟩ := h
    exact List.cons_le_cons_iff.2 (.inr ⟨rfl, le_of_prefix h⟩)
theorem prefix_between : ∀ {p x y : Wd}, p ≤ x → x ≤ y → p <+: y → p <+: x
  | [], _, _, _, _, _ => List.nil_prefix
  | a :: p, _, [], _, _, h => by simp at h
  | a :: p, [], c :: y, h, _, _ => by simp at h
  | a :: p, b :: x, c :: y, h1, h2, h3 => by
    rw [List.cons_prefix_cons] at h3
    obtain ⟨rfl, h3⟩ := h3
    rw [List.cons_le_cons_iff] at h1 h2
    rcases h1 with h1 | ⟨rfl, h1⟩
    · rcases h2 with h2 | ⟨rfl, h2⟩
      · exact absurd (UInt8.lt_trans h1 h2) (UInt8.lt_irrefl _)
      · exact absurd h1 (UInt8.lt_irrefl _)
    · rcases h2 with h2 | ⟨_, h2⟩
      · exact absurd h2 (UInt8.lt_irrefl _)
      · exact List.cons_prefix_cons.2 ⟨rfl, prefix_between h1 h2 h3⟩

theorem WAsc.le {l : List Wd} (h : WAsc l) : l.Pairwise fun a b => a ≤ b := h.imp fun h => List.le_of_lt h

/-- the words of an ascending list from a word on, and those of them with a beginning -/
theorem with_eq {v : List Wd} (h : WAsc v) (p : Wd) :
    (v.drop (v.countP fun x => !decide (p ≤ x))).take ((v.drop (v.countP fun x => !decide (p ≤ x))).countP p.isPrefixOf) = v.filter p.isPrefixOf := by
  have d1 : Down (fun x : Wd => !decide (p ≤ x)) v := h.imp fun {a b} hab hb => by
    simp only [Bool.not_eq_true', decide_eq_false_iff_not] at hb ⊢
    exact fun e => hb (List.le_trans e (List.le_of_lt hab))
  have e1 := (down_take d1).2
  rw [e1]
  have e2 : (v.filter fun x => !(!decide (p ≤ x))) = v.filter fun x => decide (p ≤ x) := by simp
  rw [e2]
  have d2 : Down (p.isPrefixOf) (v.filter fun x => decide (p ≤ x)) := by
    have hs := h.filter (fun x => decide (p ≤ x))
    refine (List.Pairwise.and_mem.1 hs).imp fun {a b} hab hb => ?_
    obtain ⟨ha, _, hlt⟩ := hab
    have hpa : p ≤ a := by simpa using (List.mem_filter.1 ha).2
    exact List.isPrefixOf_iff_prefix.2 (prefix_between hpa (List.le_of_lt hlt) (List.isPrefixOf_iff_prefix.1 hb))
  rw [(down_take d2).1, List.filter_filter]
  refine List.filter_congr fun x _ => ?_
  by_cases hx : p.isPrefixOf x = true
  · simp [hx, le_of_prefix (List.isPrefixOf_iff_prefix.1 hx)]
  · simp [hx]

/-- the merging of two lists -/
def mergeW : List Wd → List Wd → List Wd
  | [], b => b
  | x :: a, [] => x :: a
  | x :: a, y :: b => if x < y then x :: mergeW a (y :: b) else y :: mergeW (x :: a) b
termination_by a b => a.length + b.length
theorem mergeW_nil (a : List Wd) : mergeW a [] = a := by cases a <;> simp [mergeW]
theorem mem_mergeW {z : Wd} : ∀ {a b : List Wd}, z ∈ mergeW a b ↔ z ∈ a ∨ z ∈ b
  | [], b => by simp [mergeW]
  | x :: a, [] => by simp [mergeW]
  | x :: a, y :: b => by
    unfold mergeW
    split
    · rw [List.mem_cons, mem_mergeW (a := a) (b := y :: b), List.mem_cons, List.mem_cons]; simp only [or_assoc]
    · rw [List.mem_cons, mem_mergeW (a := x :: a) (b := b), List.mem_cons, List.mem_cons]
      constructor
      · rintro (h | h | h)
        · exact .inr (.inl h)
        · exact .inl h
        · exact .inr (.inr h)
      · rintro (h | h | h)
        · exact .inr (.inl h)
        · exact .inl h
        · exact .inr (.inr h)
termination_by a b => a.length + b.length
theorem mergeW_asc : ∀ {a b : List Wd}, WAsc a → WAsc b → (∀ x ∈ a, x ∉ b) → WAsc (mergeW a b)
  | [], b, _, hb, _ => by simpa [mergeW] using hb
  | x :: a, [], ha, _, _ => by simpa [mergeW] using ha
  | x :: a, y :: b, ha, hb, hd => by
    have ha' := List.pairwise_cons.1 ha
    have hb' := List.pairwise_cons.1 hb
    unfold mergeW
    split
    · rename_i hxy
      refine List.pairwise_cons.2 ⟨fun z hz => ?_, mergeW_asc ha'.2 hb fun u hu => hd u (List.mem_cons_of_mem _ hu)⟩
      rcases mem_mergeW.1 hz with h | h
      · exact ha'.1 z h
      · rcases List.mem_cons.1 h with e | e
        · subst e; exact hxy
        · exact List.lt_trans hxy (hb'.1 z e)
    · rename_i hxy
      have hne : x ≠ y := fun e => hd x (List.mem_cons_self ..) (by rw [e]; exact List.mem_cons_self ..)
      have hyx : y < x := by
        refine Decidable.byContradiction fun hn => hne ?_
        exact List.le_antisymm (List.not_lt.1 hn) (List.not_lt.1 hxy)
      refine List.pairwise_cons.2 ⟨fun z hz => ?_, mergeW_asc ha hb'.2 fun u hu hub => hd u hu (List.mem_cons_of_mem _ hub)⟩
      rcases mem_mergeW.1 hz with h | h
      · rcases List.mem_cons.1 h with e | e
        · subst e; exact hyx
        · exact List.lt_trans hyx (ha'.1 z e)
      · exact hb'.1 z h
termination_by a b => a.length + b.length

/-- the reference's add -/
def atT (l : List (Wd × Nat)) (t : Wd × Nat) : Nat := (l.takeWhile fun x => decide (TLt x t)).length
def addT (l : List (Wd × Nat)) (t : Wd × Nat) : List (Wd × Nat) := if l[atT l t]? = some t then l else l.take (atT l t) ++ t :: l.drop (atT l t)
theorem take_atT (l : List (Wd × Nat)) (t : Wd × Nat) : l.take (atT l t) = l.takeWhile (fun x => decide (TLt x t)) ∧ l.drop (atT l t) = l.dropWhile (fun x => decide (TLt x t)) := by
  have h := List.takeWhile_append_dropWhile (p := fun x : Wd × Nat => decide (TLt x t)) (l := l)
  unfold atT
  generalize hA : l.takeWhile (fun x => decide (TLt x t)) = A at *
  generalize hB : l.dropWhile (fun x => decide (TLt x t)) = B at *
  rw [← h, List.take_left, List.drop_left]
  exact ⟨rfl, rfl⟩
theorem mem_addT {l : List (Wd × Nat)} {t x : Wd × Nat} : x ∈ addT l t ↔ x = t ∨ x ∈ l := by
  unfold addT
  split
  · rename_i h
    constructor
    · exact .inr
    · rintro (e | e)
      · subst e; exact List.mem_of_getElem? h
      · exact e
  · rw [List.mem_append, List.mem_cons]
    have h := List.take_append_drop (atT l t) l
    constructor
    · rintro (e | e | e)
      · exact .inr (List.mem_of_mem_take e)
      · exact .inl e
      · exact .inr (List.mem_of_mem_drop e)
    · rintro (e | e)
      · exact .inr (.inl e)
      · rw [← h, List.mem_append] at e
        rcases e with e | e
        · exact .inl e
        · exact .inr (.inr e)
theorem tlt_of_takeWhile {t x : Wd × Nat} : ∀ {l : List (Wd × Nat)}, x ∈ l.takeWhile (fun x => decide (TLt x t)) → TLt x t
  | [], h => by simp at h
  | y :: r, h => by
    rw [List.takeWhile_cons] at h
    split at h
    · rename_i hy
      rcases List.mem_cons.1 h with e | e
      · subst e; exact of_decide_eq_true hy
      · exact tlt_of_takeWhile e
    · simp at h
theorem addT_asc {l : List (Wd × Nat)} (h : TAsc l) (t : Wd × Nat) : TAsc (addT l t) := by
  unfold addT
  split
  · exact h
  · rename_i hne
    have hs := List.takeWhile_append_dropWhile (p := fun x : Wd × Nat => decide (TLt x t)) (l := l)
    have hd0 : ∀ y, (l.dropWhile fun x => decide (TLt x t)).head? = some y → ¬ TLt y t := by
      intro y hy
      have := List.head?_dropWhile_not (fun x : Wd × Nat => decide (TLt x t)) l
      rw [hy] at this
      simpa using this
    have hh : (l.dropWhile fun x => decide (TLt x t)).head? ≠ some t := by
      rw [← (take_atT l t).2, List.head?_drop]; exact hne
    rw [(take_atT l t).1, (take_atT l t).2]
    generalize hA : l.takeWhile (fun x => decide (TLt x t)) = A at *
    generalize hB : l.dropWhile (fun x => decide (TLt x t)) = B at *
    have h' := h
    unfold TAsc at h' ⊢
    rw [← hs, List.pairwise_append] at h'
    rw [List.pairwise_append, List.pairwise_cons]
    have hAt : ∀ a ∈ A, TLt a t := fun a ha => tlt_of_takeWhile (by rw [hA]; exact ha)
    have htB : ∀ b ∈ B, TLt t b := by
      cases B with
      | nil => simp
      | cons y r =>
        have hy : TLt t y := by
          have h1 := hd0 y rfl
          refine Decidable.byContradiction fun hn => hh ?_
          rw [List.head?_cons, tlt_conn h1 hn]
        intro b hb
        rcases List.mem_cons.1 hb with e | e
        · subst e; exact hy
        · exact tlt_trans _ _ _ hy ((List.pairwise_cons.1 h'.2.1).1 b e)
    refine ⟨h'.1, ⟨htB, h'.2.1⟩, fun a ha b hb => ?_⟩
    rcases List.mem_cons.1 hb with e | e
    · subst e; exact hAt a ha
    · exact h'.2.2 a ha b e

/-- the reference's terms: over all words of all documents -/
def termsR (D : List Dc) (p : Wd) (ws : List Wd) : List (Wd × Nat) := ws.foldl (fun l x => if p.isPrefixOf x then addT l (x, dn D x) else l) []
theorem termsR_gen (D : List Dc) (p : Wd) : ∀ (ws : List Wd) (l : List (Wd × Nat)), TAsc l →
    TAsc (ws.foldl (fun l x => if p.isPrefixOf x then addT l (x, dn D x) else l) l) ∧ ∀ x, x ∈ ws.foldl (fun l x => if p.isPrefixOf x then addT l (x, dn D x) else l) l ↔ x ∈ l ∨ (x.1 ∈ ws ∧ p.isPrefixOf x.1 = true ∧ x.2 = dn D x.1)
  | [], l, h => ⟨h, fun x => by simp⟩
  | w :: ws, l, h => by
    rw [List.foldl_cons]
    by_cases hp : p.isPrefixOf w = true
    · rw [if_pos hp]
      obtain ⟨h1, h2⟩ := termsR_gen D p ws (addT l (w, dn D w)) (addT_asc h _)
      refine ⟨h1, fun x => ?_⟩
      rw [h2, mem_addT, List.mem_cons]
      constructor
      · rintro ((e | e) | e)
        · subst e; exact .inr ⟨.inl rfl, hp, rfl⟩
        · exact .inl e
        · exact .inr ⟨.inr e.1, e.2⟩
      · rintro (e | ⟨e | e, e2⟩)
        · exact .inl (.inr e)
        · refine .inl (.inl ?_)
          obtain ⟨a, b⟩ := x
          simp only at e e2
          rw [e, e2.2, e]
        · exact .inr ⟨e, e2⟩
    · rw [if_neg hp]
      obtain ⟨h1, h2⟩ := termsR_gen D p ws l h
      refine ⟨h1, fun x => ?_⟩
      rw [h2, List.mem_cons]
      constructor
      · rintro (e | e)
        · exact .inl e
        · exact .inr ⟨.inr e.1, e.2⟩
      · rintro (e | ⟨e | e, e2⟩)
        · exact .inl e
        · exact absurd (by rw [← e]; exact e2.1) hp
        · exact .inr ⟨e, e2⟩
theorem termsR_eq (D : List Dc) (p : Wd) : termsR D p (D.flatMap (·.2)) = termsD D p := by
  obtain ⟨h1, h2⟩ := termsR_gen D p (D.flatMap (·.2)) [] List.Pairwise.nil
  refine terms_unique h1 (termsD_asc D p) fun x => ?_
  rw [mem_termsD, mem_vocab]
  have := h2 x
  unfold termsR
  rw [this, List.mem_flatMap]
  simp
end Go.Proofs.YtogjgibaolppfaaGreatDoor
/- What an index in memory is: its three fields, the blocks that it owns. -/
namespace Go.Proofs.YtogjgibaolppfaaGreatDoor
open Go.RowKit Go.Sort Go.Proofs Go.Maps Go.ChangeMaps Go.WideMaps

theorem same_self {κ : Type} {K : κ → Lit} (hK : ∀ x y, (K x).sameKey (K y) = true ↔ x = y) (x : κ) : (K x).sameKey (K x) = true := (hK x x).2 rfl
theorem same_eq {a b : Lit} (h : a.sameKey b = true) : a = b := by
  by_cases e : a = b
  · exact e
  · rw [sameKey_ne e] at h; cases h

/-- len(m): the number of its keys -/
theorem RMap.len {κ : Type} {K : κ → Lit} {k b n : Nat} {f : κ → Option Value} {w : World} (hK : ∀ x y, (K x).sameKey (K y) = true ↔ x = y) (hinv : ∀ key kl, keyOf Tryz.prog k key = some kl → ∃ x, kl = K x) (h : RMap K k b n f w) (Y : Keyed Tryz.prog k) {t e : TypeId} (ht : Tryz.prog.underlying t = some (.map k e)) {L : List κ} (hn : L.Nodup) (hL : ∀ x, x ∈ L ↔ (f x).isSome = true) (ty : TypeId) :
    (Builtin.len_ #[t] ty #[.map (some b)]).run Tryz.prog w = .ok (.int .i64 L.length) w := by
  obtain ⟨D, hD, hf⟩ := h
  rw [hD.len ht ty]
  obtain ⟨es', clock, _, F, _, rfl⟩ := hD
  obtain ⟨es, hes⟩ : ∃ es, (es'.toList.map (WideElems.rg Tryz.prog k rawE)).foldr DataW.insert [] = es := ⟨_, rfl⟩
  have hap : es.Pairwise (fun p q => p.1 ≠ q.1) := hes ▸ ((WideShapes.sorted_perm _).pairwise_iff (fun {_ _} hne => Ne.symm hne)).2 (Maps.fit_apart Y F)
  have hkeys : ∀ p ∈ es, ∃ x, p.1 = K x := by
    intro p hp
    rw [← hes] at hp
    obtain ⟨x, hx, rfl⟩ := List.mem_map.1 (Go.mem_sorted.1 hp)
    obtain ⟨y, hy⟩ := F.reads x hx
    rw [WideElems.rg_of hy]
    exact hinv _ _ (WideElems.rd_key hy)
  rw [hes] at hf ⊢
  have h1 : (es.map (·.1)).Nodup := List.pairwise_map.2 hap
  have h2 : (L.map K).Nodup := List.pairwise_map.2 (hn.imp fun {a b} hab he => hab ((hK a b).1 (by rw [he]; exact same_self hK b)))
  have h3 : ∀ kl, kl ∈ es.map (·.1) ↔ kl ∈ L.map K := fun kl => by
    constructor
    · intro hm
      obtain ⟨p, hp, rfl⟩ := List.mem_map.1 hm
      obtain ⟨x, hx⟩ := hkeys p hp
      refine List.mem_map.2 ⟨x, (hL x).2 ?_, hx.symm⟩
      rw [← (hf x).1, has_eq, List.any_eq_true]
      exact ⟨p, hp, by rw [hx]; exact same_self hK x⟩
    · intro hm
      obtain ⟨x, hx, rfl⟩ := List.mem_map.1 hm
      have := (hL x).1 hx
      rw [← (hf x).1, has_eq, List.any_eq_true] at this
      obtain ⟨p, hp, hs⟩ := this
      exact List.mem_map.2 ⟨p, hp, same_eq hs⟩
  have h4 : (es.map (·.1)).length = (L.map K).length := ((List.perm_ext_iff_of_nodup h1 h2).2 h3).length_eq
  simp only [Maps.size]
  simp only [List.length_map] at h4
  rw [h4]
theorem int_form (key : Value) (kl : Lit) (h : keyOf Tryz.prog 3 key = some kl) : ∃ x, kl = Lit.int .i64 x := by
  obtain ⟨x, _, rfl, _⟩ := Maps.keyOf_int_inv Tryz.underlying3 h
  exact ⟨x, rfl⟩

theorem row_mono {base base' : Nat} {w : World} {e : TypeId} {size : Nat} {v : Value} {n : Nat} {xs : List Value} (h : w.ownsRow base e size v n xs) (hb : base' ≤ base) : w.ownsRow base' e size v n xs := by
  refine ⟨h.1, ?_⟩
  rcases h.2 with h0 | ⟨g, cap, cur, hv, hb', r⟩
  · exact .inl h0
  · exact .inr ⟨g, cap, cur, hv, Nat.le_trans hb hb', r⟩
theorem HitsR.mono {base base' : Nat} {w : World} {v : Value} {l : List (Int × Nat)} (h : HitsR base w v l) (hb : base' ≤ base) : HitsR base' w v l := row_mono h hb
theorem TermsR.mono {base base' : Nat} {w : World} {v : Value} {l : List (Wd × Nat)} (h : TermsR base w v l) (hb : base' ≤ base) : TermsR base' w v l := row_mono h hb
theorem bthen {a b c : World} (h : Below a.heap.size a b) (k : Below b.heap.size b c) : Below a.heap.size a c := h.trans (k.mono h.size)

/-- strings in blocks that are not of A -/
def StrsOut (A : Nat → Prop) (w : World) (u : Value) (l : List Wd) : Prop := StrsAt w u l ∧ (l ≠ [] → ∀ b off n c, u = .slice (some ⟨b, off, none⟩) n c → ¬ A b)
theorem StrsOut.but {A S : Nat → Prop} {n : Nat} {w w' : World} {u : Value} {l : List Wd} (h : StrsOut A w u l) (hb : But S n w w') (hn : w.heap.size ≤ n) (hs : ∀ k, S k → A k) : StrsOut A w' u l := by
  obtain ⟨⟨a, c, rfl, hle, hl, hc⟩, ho⟩ := h
  refine ⟨⟨a, c, rfl, hle, hl, fun j hj => ?_⟩, ho⟩
  obtain ⟨b, off, rfl, h1⟩ := hc j hj
  refine ⟨b, off, rfl, ?_⟩
  have hlt := World.block_lt_of_cell? w _ h1
  rw [← h1]
  simp only [World.cell?]
  rw [hb.block b (Nat.lt_of_lt_of_le hlt hn) (fun hsb => ho (fun e => by rw [e] at hj; simp at hj) b off _ _ rfl (hs b hsb))]
theorem StrsOut.below {A : Nat → Prop} {w w' : World} {u : Value} {l : List Wd} (h : StrsOut A w u l) (hb : Below w.heap.size w w') : StrsOut A w' u l := h.but (S := fun _ => False) (But.of_below hb) (Nat.le_refl _) (fun _ h => h.elim)

def RowS (S : Nat → Prop) (w : World) (v : Value) (l : List Wd) : Prop := (∃ base, w.ownsRow base 9 1 v l.length (l.map encW)) ∧ ∀ k, v.ownBlock = some k → S k
theorem RowS.kept {S : Nat → Prop} {w w' : World} {v : Value} {l : List Wd} (h : RowS S w v l) (hb : ∀ k, k < w.heap.size → S k → v.ownBlock = some k → w'.heap[k]? = w.heap[k]?) : RowS S w' v l := by
  obtain ⟨⟨base, h1, h2⟩, h3⟩ := h
  refine ⟨⟨base, h1, ?_⟩, h3⟩
  rcases h2 with h0 | ⟨g, cap, cur, rfl, hb', hg, r⟩
  · exact .inl h0
  · exact .inr ⟨g, cap, cur, rfl, hb', (hb g (Array.getElem?_eq_some_iff.1 hg).1 (h3 g rfl) rfl).trans hg, r⟩

structure Texts (S A : Nat → Prop) (b1 N : Nat) (tx : Int → Option Value) (D : List Dc) (w : World) : Prop where
  map : IM b1 N tx w
  own : S b1
  none : ∀ id, wordsAt D id = none → tx id = none
  some : ∀ id l, wordsAt D id = some l → ∃ u, tx id = some u ∧ StrsOut A w u l

structure Found (S : Nat → Prop) (b1 b2 N : Nat) (g : Wd → Option Nat) (c : Wd → Int → Nat) (w : World) : Prop where
  map : SM b2 N (fun x => (g x).map fun b => .map (some b)) w
  own : S b2
  inner : ∀ x b, g x = some b → S b ∧ b ≠ b1 ∧ b ≠ b2 ∧ IM b N (cntM (c x)) w
  inj : ∀ x y b, g x = some b → g y = some b → x = y
  some : ∀ x, (g x).isSome = true ↔ ∃ id, 0 < c x id

def cntD (D : List Dc) (x : Wd) (id : Int) : Nat := docsF D (fun l => l.count x) id

/-- p points to an index of the documents D. S: the blocks that it owns; Q: blocks that are another's. -/
structure IdxAt (S Q : Nat → Prop) (N : Nat) (w : World) (p : Nat) (D : List Dc) : Prop where
  asc : Asc D
  ids : Ids D
  oks : ∀ d ∈ D, ∀ x ∈ d.2, okWord x
  small : ∀ d ∈ D, d.2.length ≤ 1000
  lt : ∀ k, S k → k < w.heap.size
  out : ∀ k, S k → ¬ Q k
  own : S p
  parts : ∃ b1 b2 v tx g, w.heap[p]? = some (.cells #[.map (some b1), .map (some b2), v] 99 (0, 0)) ∧ b1 ≠ b2 ∧ Texts S (fun k => S k ∨ Q k) b1 N tx D w ∧ Found S b1 b2 N g (cntD D) w ∧ RowS S w v (vocab D)

/-- an index stays where its blocks stay -/
theorem IdxAt.kept {S Q T : Nat → Prop} {N : Nat} {w w' : World} {p : Nat} {D : List Dc} (h : IdxAt S Q N w p D) (hb : But T w.heap.size w w') (hT : ∀ k, T k → Q k) : IdxAt S Q N w' p D := by
  have hk : ∀ k, S k → w'.heap[k]? = w.heap[k]? := fun k hs => hb.block k (h.lt k hs) (fun ht => h.out k hs (hT k ht))
  obtain ⟨b1, b2, v, tx, g, h1, h2, h3, h4, h5⟩ := h.parts
  exact ⟨h.asc, h.ids, h.oks, h.small, fun k hs => Nat.lt_of_lt_of_le (h.lt k hs) hb.size, h.out, h.own, b1, b2, v, tx, g, (hk p h.own).trans h1, h2,
    ⟨h3.map.kept (hk b1 h3.own), h3.own, h3.none, fun id l hl => by
      obtain ⟨u, hu, hs⟩ := h3.some id l hl
      exact ⟨u, hu, hs.but hb (Nat.le_refl _) (fun k ht => .inr (hT k ht))⟩⟩,
    ⟨h4.map.kept (hk b2 h4.own), h4.own, fun x b hx => by
      obtain ⟨a1, a2, a3, a4⟩ := h4.inner x b hx
      exact ⟨a1, a2, a3, a4.kept (hk b a1)⟩, h4.inj, h4.some⟩,
    h5.kept fun k _ hs _ => hk k hs⟩
theorem IdxAt.below {S Q : Nat → Prop} {N : Nat} {w w' : World} {p : Nat} {D : List Dc} (h : IdxAt S Q N w p D) (hb : Below w.heap.size w w') : IdxAt S Q N w' p D := h.kept (T := fun _ => False) (But.of_below hb) (fun _ h => h.elim)

/-- in a drawn world -/
theorem IdxAt.drew {S Q : Nat → Prop} {N : Nat} {w : World} {p : Nat} {D : List Dc} (h : IdxAt S Q N w p D) (n : Nat) : IdxAt S Q N (w.drewN n) p D := h.below ((Below.refl _ w).drewN n)

theorem cntD_le {S Q : Nat → Prop} {N : Nat} {w : World} {p : Nat} {D : List Dc} (h : IdxAt S Q N w p D) (x : Wd) (id : Int) : cntD D x id ≤ 1000 := by
  unfold cntD docsF
  cases hw : wordsAt D id with
  | none => simp
  | some l =>
    have := h.small _ ((wordsAt_some h.asc).1 hw)
    simp only [Option.map_some, Option.getD_some] at this ⊢
    exact Nat.le_trans (List.count_le_length) this
theorem docsF_pos {D : List Dc} (hA : Asc D) (hI : Ids D) {f : List Wd → Nat} {id : Int} (h : 0 < docsF D f id) : 1 ≤ id ∧ id ≤ 256 := by
  unfold docsF at h
  cases hw : wordsAt D id with
  | none => rw [hw] at h; simp at h
  | some l => exact hI _ ((wordsAt_some hA).1 hw)
end Go.Proofs.YtogjgibaolppfaaGreatDoor
/- hits of a nil map; Docs. -/
namespace Go.Proofs.YtogjgibaolppfaaGreatDoor
open Go.RowKit Go.Sort Go.Proofs Go.Maps Go.ChangeMaps Go.WideMaps

theorem hitsF_zero : hitsF (fun _ => 0) = [] := by simp [hitsF]

set_option maxRecDepth 100000 in
set_option maxHeartbeats 2000000 in
theorem hits_nil (w : World) :
    Calls Tryz.prog 64 #[.map none] w fun e w' => ∃ v, e = .returned v ∧ HitsR w.heap.size w' v [] ∧ Below w.heap.size w w' := by
  obtain ⟨i0, hi, hz0, hz1, hz2⟩ := info_parts infoHit
  have hlen : ∀ ty W, (Builtin.len_ #[81] ty #[.map none]).run Tryz.prog W = .ok (.int .i64 0) W := fun ty W => by simp [Builtin.len_, run_underlying Tryz.underlying81, goInt, Result.andThen]
  have hrg := fun W => run_range_nilMap (P := Tryz.prog) W 81 3 3 Tryz.underlying81
  have hnx : ∀ (W : World) ty, (Instr.next (.pointer (some ⟨W.heap.size, 0, none⟩)) false ty).run Tryz.prog (W.alloc (.mapIter none 0 #[] 0)) = _ := fun W ty => run_next_nilMap W ty 0 0 #[]
  go_enter Tryz.func64, Tryz.ntmps64
  go_wp2_with (at_make; refine wpList_make_own _ rfl _ _ 39 rfl w.heap.size 64 i0 _ 2 Tryz.underlying39 hi hz0 hz1 .i64 .i64 _ 0 rfl rfl rfl ?b2 ?b3 ?b4 ?_)
  case b2 => rw [hz2]; omega
  case b3 => unfold maxLen; omega
  case b4 => omega
  intro w1 ho1 hg1
  have hb1 : Below w.heap.size w w1 := (Below.refl _ w).grown hg1 (Nat.le_refl _) (fun j hj => by cases hj)
  have hs1 := hb1.size
  have HO := Lib.hid (ho1.alloc (.mapIter none 0 #[] 0))
  have HB := Lib.hid (hb1.alloc hs1 (.mapIter none 0 #[] 0))
  have hco := fun W v h => ordered_hits [] v w.heap.size W h (by simp)
  clear ho1 hg1 hb1 hs1
  go_wp2
  refine wp_loop_rounds 1 ?_
  rw [rounds_succ]
  go_wp2_with (go_at_call 105; refine (hco _ _ HO.out).mono ?_; rintro e w9 ⟨rfl, l', hp, hs, hr, hb9⟩)
  go_ret
  obtain rfl := List.perm_nil.1 hp
  exact ⟨_, rfl, hr, HB.out.trans hb9⟩

/-- what Docs answers -/
def docsQ (D : List Dc) (s : List UInt8) : List (Int × Nat) := match wordOf s with | none => [] | some x => phraseD D [x]
theorem phraseD_one (D : List Dc) (x : Wd) : phraseD D [x] = hitsF (cntD D x) := by
  unfold phraseD cntD
  congr 1
  funext id
  congr 1
  funext l
  exact occ_one l x

set_option maxRecDepth 100000 in
set_option maxHeartbeats 2000000 in
theorem docs_any {S Q : Nat → Prop} {N : Nat} {p : Nat} {D : List Dc} (w : World) (h : IdxAt S Q N w p D) (hN : N ≤ 1000000) (s : List UInt8) (hs : s.length ≤ 1000000) :
    Calls Tryz.prog 37 #[.pointer (some ⟨p, 0, none⟩), .string ⟨s.toArray⟩] w fun e w' => ∃ v, e = .returned v ∧ HitsR w.heap.size w' v (docsQ D s) ∧ Below w.heap.size w w' := by
  have hcw := fun W => word_any s (by omega) W
  have HI := Lib.hid h
  clear h
  cases hw : wordOf s with
  | none =>
    have hR : docsQ D s = [] := by unfold docsQ; rw [hw]
    rw [hR]
    rw [hw] at hcw
    clear hR hw
    go_enter Tryz.func37, Tryz.ntmps37
    go_wp2_with (go_at_call 63; refine (hcw _).mono ?_; rintro e w1 ⟨rfl, hb1⟩)
    go_ret
    exact ⟨_, rfl, ⟨rfl, .inl ⟨rfl, rfl⟩⟩, hb1⟩
  | some x =>
    have hR : docsQ D s = hitsF (cntD D x) := by unfold docsQ; rw [hw]; exact phraseD_one D x
    obtain ⟨R, HR⟩ : ∃ R, Hid (docsQ D s = R) := ⟨_, Lib.hid rfl⟩
    have HRx : Hid (hitsF (cntD D x) = R) := Lib.hid (by rw [← HR.out, hR])
    rw [HR.out]
    rw [hw] at hcw
    have hxl := wordOf_len hw
    clear hR hw HR
    go_enter Tryz.func37, Tryz.ntmps37
    go_wp2_with fail
    refine (hcw _).mono ?_
    rintro e w1 ⟨rfl, hb1⟩
    have h1 := HI.out.below hb1
    obtain ⟨b1, b2, v, tx, g, hp, hne, hT, hF, hR⟩ := h1.parts
    have hp1 : w1.cell? ⟨p, 1, none⟩ = some (.map (some b2)) := by rw [Lib.cell_of_heap hp]; rfl
    have hget := hF.map.get strKeys (t := 97) Tryz.underlying97 (Tryz.zeroValue81 w1) (strKey (x := x) (by omega))
    have hin := hF.inner x
    have hsm := hF.some x
    have HB1 := Lib.hid hb1
    clear hb1 hp hT hF hR
    simp only [Option.getD_some, Option.isSome_some] at *
    cases hg : g x with
    | none =>
      have hz : cntD D x = fun _ => 0 := by
        funext id
        cases hc : cntD D x id with
        | zero => rfl
        | succ n => have := hsm.2 ⟨id, by omega⟩; rw [hg] at this; cases this
      have HRz : Hid (R = []) := Lib.hid (by rw [← HRx.out, hz, hitsF_zero])
      rw [hg] at hget
      clear hin hsm hz hg
      go_wp2_with (go_at_call 64; refine (hits_nil _).mono ?_; rintro e w2 ⟨v2, rfl, hr, hb2⟩)
      go_ret
      exact ⟨_, rfl, by rw [HRz.out]; exact HitsR.mono hr HB1.out.size, bthen HB1.out hb2⟩
    | some b =>
      obtain ⟨a1, a2, a3, a4⟩ := hin b hg
      rw [hg] at hget
      have hcl := fun id => cntD_le h1 x id
      have hcp := fun id (h : 0 < cntD D x id) => docsF_pos h1.asc h1.ids h
      have hcon := fun W hM => hits_any b N (cntD D x) W hM (by omega) hcp (fun i => by have := hcl i; omega)
      have HA4 := Lib.hid a4
      rw [HRx.out] at hcon
      clear hin hsm hg hcl hcp a4
      go_wp2_with (go_at_call 64; refine (hcon _ HA4.out).mono ?_; rintro e w2 ⟨v2, rfl, hr, hb2⟩)
      go_ret
      exact ⟨_, rfl, HitsR.mono hr HB1.out.size, bthen HB1.out hb2⟩
end Go.Proofs.YtogjgibaolppfaaGreatDoor
/- All and Len. -/
namespace Go.Proofs.YtogjgibaolppfaaGreatDoor
open Go.RowKit Go.Sort Go.Proofs Go.Maps Go.ChangeMaps Go.WideMaps

theorem Texts.isSome {S A : Nat → Prop} {b1 N : Nat} {tx : Int → Option Value} {D : List Dc} {w : World} (h : Texts S A b1 N tx D w) (hA : Asc D) (id : Int) : id ∈ D.map (·.1) ↔ (tx id).isSome = true := by
  rw [List.mem_map]
  constructor
  · rintro ⟨d, hd, rfl⟩
    obtain ⟨u, hu, _⟩ := h.some d.1 d.2 ((wordsAt_some hA).2 hd)
    rw [hu]; rfl
  · intro hs
    cases hw : wordsAt D id with
    | none => rw [h.none id hw] at hs; cases hs
    | some l => exact ⟨_, (wordsAt_some hA).1 hw, rfl⟩
theorem ids_asc {D : List Dc} (hA : Asc D) : (D.map (·.1)).Pairwise (· < ·) := List.pairwise_map.2 hA
theorem ids_nodup {D : List Dc} (hA : Asc D) : (D.map (·.1)).Nodup := (ids_asc hA).imp fun h => by omega
theorem docs_le {D : List Dc} (hA : Asc D) (hI : Ids D) : D.length ≤ 256 := by
  have := nodup_len 256 (D.map (·.1)) (ids_nodup hA) fun x hx => by
    obtain ⟨d, hd, rfl⟩ := List.mem_map.1 hx
    exact hI d hd
  simpa using this

/-- a slice of numbers in memory of the call's own -/
def IntsR (base : Nat) (W : World) (v : Value) (l : List Int) : Prop := W.ownsRow base 3 1 v l.length (l.map (Value.int .i64))

theorem ints_of_done {ids done l : List Int} (hA : ids.Pairwise (· < ·)) (hn : done.Nodup) (h : ∀ x, x ∈ done ↔ x ∈ ids) (hp : l.Perm done) (hs : l.Pairwise fun a b => ltOf Lib.compareInt b a = false) : l = ids := by
  refine eq_of_asc (R := fun x y : Int => x < y) (fun x => by omega) (fun x y z => by omega) ?_ hA fun x => by rw [hp.mem_iff, h]
  refine (hs.and (hp.nodup_iff.2 hn)).imp ?_
  rintro a b ⟨h3, h4⟩
  rw [ltI] at h3
  simp at h3
  omega

set_option maxRecDepth 100000 in
set_option maxHeartbeats 2000000 in
theorem all_any {S Q : Nat → Prop} {N : Nat} {p : Nat} {D : List Dc} (w : World) (h : IdxAt S Q N w p D) :
    Calls Tryz.prog 43 #[.pointer (some ⟨p, 0, none⟩)] w fun e w' => ∃ v, e = .returned v ∧ IntsR w.heap.size w' v (D.map (·.1)) ∧ Below w.heap.size w w' := by
  obtain ⟨i0, hi, hz0, hz1, hz2⟩ := info_parts infoInt
  obtain ⟨b1, b2, v, tx, g, hp, hne, hT, hF, hR⟩ := h.parts
  have hlt := h.lt p h.own
  have hlen := hT.map.len int_same int_form intKeys (t := 96) Tryz.underlying96 (ids_nodup h.asc) (hT.isSome h.asc)
  have hdl := docs_le h.asc h.ids
  have HT := Lib.hid (hT.isSome h.asc)
  have HA := Lib.hid (ids_asc h.asc)
  have HI := Lib.hid (show ∀ x ∈ D.map (·.1), 1 ≤ x ∧ x ≤ 256 from fun x hx => by
    obtain ⟨d, hd, rfl⟩ := List.mem_map.1 hx
    exact h.ids d hd)
  have hp0 : w.cell? ⟨p, 0, none⟩ = some (.map (some b1)) := by rw [Lib.cell_of_heap hp]; rfl
  obtain ⟨M, hD, hf⟩ := hT.map
  rw [List.length_map] at hlen
  obtain ⟨ids, hids⟩ : ∃ ids, D.map (·.1) = ids := ⟨_, rfl⟩
  obtain ⟨n, hn⟩ : ∃ n, D.length = n := ⟨_, rfl⟩
  have hil : ids.length = n := by rw [← hids, ← hn]; simp
  rw [hids] at HT HA HI ⊢
  rw [hn] at hlen hdl
  have HF := Lib.hid hf; have HIL := Lib.hid hil
  clear hp hT hF hR h hids hn hil hf
  go_enter Tryz.func43, Tryz.ntmps43
  go_wp2_with (at_make; refine wpList_make_own _ rfl _ _ 22 rfl w.heap.size 3 i0 _ 1 Tryz.underlying22 hi hz0 hz1 .i64 .i64 _ n rfl rfl rfl ?b2 ?b3 ?b4 ?_)
  case b2 => rw [hz2]; omega
  case b3 => unfold maxLen; omega
  case b4 => omega
  intro w1 ho1 hg1
  have hD1 := hD.kept hg1 (by simp)
  have hb1 : Below w.heap.size w w1 := (Below.refl _ w).grown hg1 (Nat.le_refl _) (fun j hj => by cases hj)
  have hq0 : w1.cell? ⟨p, 0, none⟩ = some (.map (some b1)) := (hb1.cell hlt).trans hp0
  go_wp2_with (at_range; refine wpList_range_own _ rfl _ 96 rfl 3 28 intKeys Tryz.underlying96 _ b1 N _ rfl hD1 ?_; intro w0 hrg0 hg0 hs0)
  go_frame
  have hb0 : Below w.heap.size w w0 := hb1.grown hg0 (by simpa using hb1.size) (fun j hj => by cases hj)
  have HO0 : Hid (w0.ownsRow w.heap.size 3 1 (.slice (some ⟨w.heap.size, 0, none⟩) 0 n) 0 []) := Lib.hid (ho1.kept hg0 (by simp [Value.ownBlock]))
  go_loopw [3] (fun u wr => ∃ (v : Value) (left : Lit → Bool) (cnt : Nat) (done : List Int), v = u ∧ wr.ranges Tryz.prog 3 rawE b1 w1.heap.size N M left cnt ∧ Hid (Left (Lit.int .i64) tx left done) ∧ Hid (done.Nodup ∧ ∀ x ∈ done, x ∈ ids) ∧ Hid (IntsR w.heap.size wr v done) ∧ Hid (Below w.heap.size w wr)) (fun _ wr => wr.rangeLeft b1 w1.heap.size)
  case atStart => exact ⟨_, _, _, [], rfl, hrg0, Lib.hid (Left.start HF.out), Lib.hid ⟨.nil, fun x hx => by cases hx⟩, HO0, Lib.hid hb0⟩
  case round =>
    obtain ⟨v, left, cnt, done, rfl, hrg, HL, HN, HR, HB⟩ := hrel
    have hdl2 : done.length ≤ 256 := nodup_len 256 done HN.out.1 fun x hx => HI.out x (HN.out.2 x hx)
    go_wp2_with (at_next; refine wpList_next_ranges _ rfl _ rfl 3 intKeys rawE (Value.int .i64) id (fun key kl hkey => by obtain ⟨x, rfl, _⟩ := Maps.keyOf_int_inv Tryz.underlying3 hkey; exact ⟨x, rfl⟩) (fun v y _ => ⟨v, rfl⟩) b1 w1.heap.size N _ _ _ rfl hrg ?_ ?_)
    · intro _ hl0
      have hmem : ∀ x, x ∈ done ↔ x ∈ ids := fun x => ⟨HN.out.2 x, fun h => HL.out.done hl0 x ((HT.out x).1 h)⟩
      have hco := fun W => ordered_ints done v w.heap.size W
      have HM := Lib.hid hmem
      clear hmem
      go_wp2_with (go_at_call 78; refine (hco _ HR.out (by omega)).mono ?_; rintro e w9 ⟨rfl, l', hp, hs, hr, hb9⟩)
      go_ret
      have hl9 : l' = ids := ints_of_done HA.out HN.out.1 HM.out hp hs
      rw [hl9] at hr
      exact ⟨_, rfl, hr, HB.out.trans hb9⟩
    · intro x cv kl y1 y2 w2 cnt2 hkey hlk hry hat hrg2 hlt hg2 hs2 hen
      obtain ⟨x', ex, rfl, hwx⟩ := Maps.keyOf_int_inv Tryz.underlying3 hkey
      cases ex
      cases hry
      obtain ⟨hcx, hnm⟩ := HL.out.value HF.out hlk hat
      have hbs := HB.out.size
      have hne := row_ne_iter HR.out hrg
      have HR2' : w2.ownsRow w.heap.size 3 1 v done.length (done.map (Value.int .i64)) := World.ownsRow.kept HR.out hg2 (.inr fun e => hne e.symm)
      have HB2 : Hid (Below w.heap.size w w2) := Lib.hid (HB.out.grown hg2 hbs (fun j hj => by cases hj; have := hb1.size; omega))
      have hbs2 := HB2.out.size
      have HCx : Hid (Left (Lit.int .i64) tx (fun z => left z && !z.sameKey (.int .i64 x)) (done ++ [x])) := Lib.hid (HL.out.next int_same x)
      have HN2 : Hid ((done ++ [x]).Nodup ∧ ∀ y ∈ done ++ [x], y ∈ ids) := Lib.hid ⟨by
          rw [List.nodup_append]; exact ⟨HN.out.1, by simp, fun a ha b hb e => by simp at hb; subst hb; exact hnm (e ▸ ha)⟩, fun y hy => by
          rcases List.mem_append.1 hy with h | h
          · exact HN.out.2 y h
          · simp at h; subst h; exact (HT.out y).2 (by rw [hcx]; rfl)⟩
      have HRM := Lib.hid hrg2.left_eq; have HRL := Lib.hid hrg.left_eq
      clear hs2
      go_wp2_with (at_builtin; refine wpList_append_own _ rfl _ _ 22 rfl w.heap.size 3 i0 _ 1 8 Tryz.underlying22 hi hz0 hz1 hz2 rfl (by decide) _ _ _ rfl (HR2'.alloc _) ⟨w2.heap.size, 0, none⟩ 1 1 [.int .i64 x] rfl rfl (World.news_of_block (cs := #[.int .i64 x]) (t := 3) (fr := (0, 0)) (heap_alloc_new w2 _)) (by simp [Value.oneCell']) ?c3 ?c4 ?c5 ?_)
      case c3 => unfold maxLen; omega
      case c4 => omega
      case c5 => simp; omega
      intro v' w3 hown' hgrow _
      have hbl : b1 < w.heap.size := hD.lt
      have HR3 : Hid (IntsR w.heap.size w3 v' (done ++ [x])) := Lib.hid (by
        unfold IntsR
        simpa using hown')
      have hrg3 := (hrg2.alloc (.cells #[.int .i64 x] 3 (0, 0))).kept hgrow (row_ne_low HR2' hbl) (row_ne_iter (HR2'.alloc (.cells #[.int .i64 x] 3 (0, 0))) (hrg2.alloc (.cells #[.int .i64 x] 3 (0, 0))))
      have HB3 : Hid (Below w.heap.size w w3) := Lib.hid ((HB2.out.alloc hbs2 _).grown hgrow (by simp; omega) (fun j e => (HR2'.lt j e).1))
      have HRE := Lib.hid hrg3.left_eq
      clear hown' hgrow
      go_wp2
      go_roundw
      case rel => exact ⟨_, _, _, _, rfl, hrg3, HCx, HN2, HR3, HB3⟩
      case measure => rw [HRE.out, HRL.out]; exact hlt
end Go.Proofs.YtogjgibaolppfaaGreatDoor

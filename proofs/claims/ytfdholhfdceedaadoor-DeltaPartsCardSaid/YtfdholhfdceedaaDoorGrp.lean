/- A map from strings to slices of integers, as a function. -/
import Derived.Test.YtfdholhfdceedaaDoorStb
import Derived.Maps.OwnRows
import Derived.Maps.Views
import Derived.Lib.Hide
import Derived.RangeFuncBox
import Derived.StringKeys
namespace Go.Proofs.YtfdholhfdceedaaDoor
open Go.RowKit Go.Maps Go.ChangeMaps Go.ChangeShapes Go.MapKept Go.WideMaps
open Go.WideElems (Fit rd rg pl rd_val rd_key rg_of elemAt)

/-- what an iterator of the package wants kept: maps, and all cells but bytes and writers -/
def Keep (o : Obj) : Prop := o.isWalk = true ∨ ∃ cs t fr, o = .cells cs t fr ∧ t ≠ 5 ∧ t ≠ 49
structure KOps (W W' : World) : Prop where
  size : W.heap.size ≤ W'.heap.size
  same : ∀ (k : Nat) (o : Obj), W.heap[k]? = some o → Keep o → W'.heap[k]? = some o
theorem KOps.refl (W : World) : KOps W W := ⟨Nat.le_refl _, fun _ _ h _ => h⟩
theorem KOps.trans {A B C : World} (h : KOps A B) (k : KOps B C) : KOps A C := ⟨Nat.le_trans h.size k.size, fun i o hi ho => k.same i o (h.same i o hi ho) ho⟩
theorem KStab.ops {W W' : World} (h : KStab W W') : KOps W W' := ⟨h.size, fun k o hk ho => h.same k o hk (by
  rcases ho with ho | ⟨cs, t, fr, rfl, h1, h2⟩
  · intro cs t fr e; subst e; cases ho
  · intro cs' t' fr' e; cases e; exact ⟨h1, h2⟩)⟩
theorem KOps.putObj {w : World} (W : World) (l : Nat) (o o' : Obj) (_ : w.heap.size ≤ l) (h : W.heap[l]? = some o) (hc : o.isCells = false) (hw : o.isWalk = false) : KOps W (W.putObj l o') :=
  ⟨by simp, fun k x hk hx => by
    have hne : l ≠ k := fun e => by
      subst e
      rw [h] at hk; cases hk
      rcases hx with hx | ⟨cs, t, fr, rfl, _⟩
      · rw [hw] at hx; cases hx
      · cases hc
    exact (World.putObj_heap_other (by omega)).trans hk⟩
theorem KOps.below {W W' : World} (hb : Below W.heap.size W W') : KOps W W' := (KStab.below hb).ops

theorem boxed_ops {W W' : World} {B : Nat} {v : Value} (h : Boxed W B 9 v) (hk : KOps W W') : Boxed W' B 9 v := hk.same _ _ h (.inr ⟨_, _, _, rfl, by decide, by decide⟩)

theorem ints_ops {W W' : World} {base : Nat} {v : Value} {zs : List Int} (h : W.ownsInts base 3 .i64 v zs) (hk : KOps W W') : W'.ownsInts base 3 .i64 v zs := by
  obtain ⟨⟨h1, h2⟩, h3⟩ := h
  refine ⟨⟨h1, ?_⟩, h3⟩
  rcases h2 with h2 | ⟨g, cap, cur, hv, hg, hh, r⟩
  · exact .inl h2
  · exact .inr ⟨g, cap, cur, hv, hg, hk.same _ _ hh (.inr ⟨_, _, _, rfl, by decide, by decide⟩), r⟩

set_option maxRecDepth 100000 in
theorem groups_ops {H : Type} {W W' : World} {base b n : Nat} {D : DataW H} (h : W.ownsGroups Tryd.prog 9 base 3 .i64 b n D) (hk : KOps W W') : W'.ownsGroups Tryd.prog 9 base 3 .i64 b n D := by
  obtain ⟨es, clock, hb, F, hs, rfl, hbb, hlen, hap⟩ := h
  have hst : ∀ x ∈ es.toList, ∀ z, rowElem (H := H) W base 3 .i64 x.val = some z → rowElem W' base 3 .i64 x.val = some z := fun x _ z hz => by
    obtain ⟨zs, ho, rfl⟩ := rowElem_inv hz
    exact rowElem_mk (ints_ops ho hk)
  obtain ⟨F1, hmap, _⟩ := F.stay hst
  refine ⟨es, clock, hk.same _ _ hb (.inl rfl), F1, hs, by rw [hmap], hbb, fun x hx zs ho => ?_, hap⟩
  obtain ⟨y, hy⟩ := F.reads x hx
  obtain ⟨z, hz, _⟩ := rd_val hy
  obtain ⟨zs0, ho0, _⟩ := rowElem_inv hz
  rw [ho.unique (ints_ops ho0 hk)]
  exact hlen x hx zs0 ho0

theorem groups_isMap {H : Type} {W : World} {base b n : Nat} {D : DataW H} (h : W.ownsGroups Tryd.prog 9 base 3 .i64 b n D) : IsMap D := by
  obtain ⟨_, _, _, _, _, rfl, _⟩ := h; exact ⟨_, rfl⟩

def natsI (zs : List Nat) : List Int := zs.map Int.ofNat
def gdat (zs : List Nat) : DataW Unit := if zs = [] then .nil else .slice (lits .i64 (natsI zs)) []
/-- block b is such a map that holds f -/
def GMap (base b n : Nat) (f : List UInt8 → List Nat) (w : World) : Prop :=
  ∃ D : DataW Unit, w.ownsGroups Tryd.prog 9 base 3 .i64 b n D ∧ ∀ x, D.atKey (.string x) .nil = gdat (f x)

theorem GMap.ops {base b n : Nat} {f : List UInt8 → List Nat} {w w' : World} (h : GMap base b n f w) (hk : KOps w w') : GMap base b n f w' := by
  obtain ⟨D, h1, h2⟩ := h
  exact ⟨D, groups_ops h1 hk, h2⟩
theorem GMap.new (w : World) : GMap (w.heap.size + 1) w.heap.size 0 (fun _ => []) (w.alloc (.map #[] 0)) := ⟨.map [], World.ownsGroups_made _ _ _ _ _, fun _ => rfl⟩

theorem strKeys : Keyed Tryd.prog 9 := string_keyed Tryd.underlying9
theorem strKey {x : List UInt8} (h : x.length ≤ 8192) : keyOf Tryd.prog 9 (.string ⟨x.toArray⟩) = some (.string x) := by
  have := keyOf_string_mk (P := Tryd.prog) (k := 9) Tryd.underlying9 (s := ⟨x.toArray⟩) (by unfold maxLen; simp [ByteArray.size]; omega)
  simpa using this

theorem lits_inj {a b : List Int} (h : (lits .i64 a : List (DataW Unit)) = lits .i64 b) : a = b := by
  unfold lits at h
  exact (List.map_inj_right (fun x y hxy => by injection hxy with h1; injection h1)).1 h

/-- what is at a key; and the way back -/
def GBack (base b n : Nat) (f : List UInt8 → List Nat) (w : World) (x : List UInt8) (v : Value) : Prop :=
  ∀ (w1 : World) (v' : Value) (zs' : List Nat), zs' ≠ [] → w.grownBy w1 v.ownBlock → w1.ownsInts base 3 .i64 v' (natsI zs') → zs'.length ≤ n + 1 → (v'.ownBlock = v.ownBlock ∨ ∃ g, v'.ownBlock = some g ∧ w.heap.size ≤ g) →
    ∃ w2, (Instr.mapUpdate 83 (.map (some b)) (.string ⟨x.toArray⟩) v').run Tryd.prog w1 = .ok () w2 ∧ GMap base b (n + 1) (fun y => if y = x then zs' else f y) w2 ∧ w1.grownBy w2 (some b)

set_option maxRecDepth 100000 in
theorem GMap.get {base b n : Nat} {f : List UInt8 → List Nat} {w : World} (h : GMap base b n f w) (hn : n ≤ 10000) {x : List UInt8} (hx : x.length ≤ 8192) :
    ∃ v, (Instr.lookup 83 (.map (some b)) (.string ⟨x.toArray⟩) false).run Tryd.prog w = .ok v w ∧ w.ownsInts base 3 .i64 v (natsI (f x)) ∧ (f x).length ≤ n ∧ GBack base b n f w x v := by
  obtain ⟨D, hD, hf⟩ := h
  obtain ⟨v, zs, hrun, hat, hoi, hzl, hback⟩ := hD.at strKeys Tryd.underlying83 (Tryd.zeroValue84 w) (by unfold maxLen; omega) (strKey hx)
  have hzs : zs = natsI (f x) := by
    rw [hf x] at hat
    unfold gdat at hat
    by_cases h0 : f x = []
    · rw [if_pos h0] at hat
      rcases hoi.datum (H := Unit) with ⟨_, h2⟩ | h2
      · rw [h2, h0]; rfl
      · rw [h2] at hat; cases hat
    · rw [if_neg h0] at hat
      rcases hoi.datum (H := Unit) with ⟨h2, _⟩ | h2
      · rw [h2] at hat; cases hat
      · rw [h2] at hat
        injection hat with h3
        exact (lits_inj h3).symm
  subst hzs
  refine ⟨v, hrun, hoi, by simpa [natsI] using hzl, ?_⟩
  intro w1 v' zs' hne hg ho hl hloc
  obtain ⟨w2, hr2, ho2, hg2⟩ := hback w1 v' (natsI zs') hg ho (by simpa [natsI] using hl) hloc
  refine ⟨w2, hr2, ⟨_, ho2, fun y => ?_⟩, hg2⟩
  have hne' : natsI zs' ≠ [] := by simpa [natsI] using hne
  by_cases hy : y = x
  · subst hy
    simp only [↓reduceIte]
    rw [atKey_put_same (groups_isMap hD) (strKeys.key (strKey hx)), ho.datum_pos hne']
    unfold gdat; rw [if_neg hne]
  · simp only [if_neg hy]
    rw [atKey_put_other (by simpa using hy)]
    exact hf y
/-- one entry a key -/
theorem fit_one {P : Program} {k : TypeId} {R : Value → Option (DataW Unit × List MemPlace)} {es : Array MapEntry} {clock : Nat} (K : Keyed P k) (F : Fit P k R es clock) {x x' : MapEntry} (hx : x ∈ es.toList) (hx' : x' ∈ es.toList) (h : x.key = x'.key) : x = x' := by
  have e : (rg P k R x).1 = (rg P k R x').1 := by
    obtain ⟨y, hy⟩ := F.reads x hx
    obtain ⟨y', hy'⟩ := F.reads x' hx'
    have m1 := rd_key hy
    have m2 := rd_key hy'
    rw [rg_of hy, rg_of hy']
    rw [h, m2] at m1
    exact (Option.some.inj m1).symm
  have ha := fit_apart K F
  rw [List.pairwise_map, List.pairwise_iff_getElem] at ha
  obtain ⟨i, hi, rfl⟩ := List.getElem_of_mem hx
  obtain ⟨j, hj, rfl⟩ := List.getElem_of_mem hx'
  rcases Nat.lt_trichotomy i j with h1 | h1 | h1
  · exact absurd e (ha i j hi hj h1)
  · subst h1; rfl
  · exact absurd e.symm (ha j i hj hi h1)

set_option maxRecDepth 100000 in
/-- what is at a key, however often was drawn -/
theorem GMap.look {base b n : Nat} {f : List UInt8 → List Nat} {w : World} (h : GMap base b n f w) (hn : n ≤ 10000) {x : List UInt8} (hx : x.length ≤ 8192) :
    ∃ v, (∀ q, (Instr.lookup 83 (.map (some b)) (.string ⟨x.toArray⟩) false).run Tryd.prog (w.drewN q) = .ok v (w.drewN q)) ∧ w.ownsInts base 3 .i64 v (natsI (f x)) := by
  obtain ⟨v, hrun, hoi, _, _⟩ := h.get hn hx
  refine ⟨v, fun q => ?_, hoi⟩
  obtain ⟨D, ⟨es, clock, hb, F, _⟩, _⟩ := h
  have hbq : (w.drewN q).heap[b]? = some (.map es clock) := hb
  rcases fit_look false strKeys Tryd.underlying83 (Tryd.zeroValue84 w) hb F (strKey hx) with ⟨r1, n1, _⟩ | ⟨e0, y, m0, k0, r1, _⟩
  · rcases fit_look false strKeys Tryd.underlying83 (Tryd.zeroValue84 (w.drewN q)) hbq F (strKey hx) with ⟨r2, _, _⟩ | ⟨e1, y1, m1, k1, _⟩
    · rw [hrun] at r1
      injection r1 with r3
      subst r3
      exact r2
    · exact absurd k1 (n1 e1 m1)
  · rcases fit_look false strKeys Tryd.underlying83 (Tryd.zeroValue84 (w.drewN q)) hbq F (strKey hx) with ⟨_, n2, _⟩ | ⟨e1, y1, m1, k1, r2, _⟩
    · exact absurd k0 (n2 e0 m0)
    · obtain rfl := fit_one strKeys F m0 m1 (k0.trans k1.symm)
      rw [hrun] at r1
      injection r1 with r3
      subst r3
      exact r2
end Go.Proofs.YtfdholhfdceedaaDoor

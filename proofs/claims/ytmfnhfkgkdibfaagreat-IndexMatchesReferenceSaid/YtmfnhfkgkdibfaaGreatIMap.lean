/- Maps as functions from keys to values, whatever the values; ranges over them. -/
import Derived.Test.YtmfnhfkgkdibfaaGreatTokD
import Derived.Maps.OwnSet
import Derived.Maps.RangeWalk
import Derived.Sort.MapsRangeIn
import Derived.Lib.Hide
import Derived.StringKeys
namespace Go.Proofs.YtmfnhfkgkdibfaaGreat
open Go.RowKit Go.Maps Go.ChangeMaps Go.WideMaps

/-- all but the blocks of S lies as it lay, of the blocks below n -/
structure But (S : Nat → Prop) (n : Nat) (w w' : World) : Prop where
  os : w'.os = w.os
  tape : w'.tape = w.tape
  output : w'.output = w.output
  size : w.heap.size ≤ w'.heap.size
  block : ∀ k, k < n → ¬ S k → w'.heap[k]? = w.heap[k]?
theorem But.of_below {S : Nat → Prop} {n : Nat} {w w' : World} (h : Below n w w') : But S n w w' := ⟨h.os, h.tape, h.output, h.size, fun k hk _ => h.block k hk⟩
theorem But.trans {S : Nat → Prop} {n : Nat} {a b c : World} (h : But S n a b) (k : But S n b c) : But S n a c :=
  ⟨k.os.trans h.os, k.tape.trans h.tape, k.output.trans h.output, Nat.le_trans h.size k.size, fun i hi hs => (k.block i hi hs).trans (h.block i hi hs)⟩
theorem But.mono {S : Nat → Prop} {n m : Nat} {w w' : World} (h : But S n w w') (hm : m ≤ n) : But S m w w' := ⟨h.os, h.tape, h.output, h.size, fun k hk => h.block k (by omega)⟩
theorem But.weaken {S T : Nat → Prop} {n : Nat} {w w' : World} (h : But S n w w') (hm : ∀ k, k < n → S k → T k) : But T n w w' := ⟨h.os, h.tape, h.output, h.size, fun k hk ht => h.block k hk fun hs => ht (hm k hk hs)⟩
theorem But.below {S : Nat → Prop} {n m : Nat} {w w' : World} (h : But S n w w') (hm : m ≤ n) (hs : ∀ k, S k → m ≤ k) : Below m w w' := ⟨h.os, h.tape, h.output, h.size, fun k hk => h.block k (by omega) fun e => by have := hs k e; omega⟩
theorem But.grown {S : Nat → Prop} {n b : Nat} {w w' : World} (h : w.grownBy w' (some b)) (hn : n ≤ w.heap.size) (hb : S b) : But S n w w' :=
  ⟨h.os, h.tape, h.output, h.size, fun k hk hs => h.block k (by omega) fun e => by cases e; exact hs hb⟩

def rawE (v : Value) : Option (DataW Value × List MemPlace) := some (.held v, [])

/-- block b is a map of at most n entries; at the key K x it holds f x -/
def RMap {κ : Type} (K : κ → Lit) (k : TypeId) (b n : Nat) (f : κ → Option Value) (w : World) : Prop :=
  ∃ D : DataW Value, w.ownsMap Tryz.prog k rawE b n D ∧ ∀ x, has D (K x) = (f x).isSome ∧ ∀ v, f x = some v → ∀ zd, D.atKey (K x) zd = .held v

section
variable {κ : Type} {K : κ → Lit} {k : TypeId} {b n : Nat} {f : κ → Option Value} {w : World}

theorem RMap.lt (h : RMap K k b n f w) : b < w.heap.size := by obtain ⟨D, hD, _⟩ := h; exact hD.lt
theorem RMap.kept {w' : World} (h : RMap K k b n f w) (hk : w'.heap[b]? = w.heap[b]?) : RMap K k b n f w' := by
  obtain ⟨D, ⟨es, clock, hb, r⟩, hf⟩ := h
  exact ⟨D, ⟨es, clock, hk.trans hb, r⟩, hf⟩
theorem RMap.mono (h : RMap K k b n f w) {m : Nat} (hm : n ≤ m) : RMap K k b m f w := by
  obtain ⟨D, hD, hf⟩ := h
  exact ⟨D, hD.mono hm, hf⟩
theorem RMap.obj (h : RMap K k b n f w) : ∃ es c, w.heap[b]? = some (.map es c) := by obtain ⟨D, ⟨es, c, hb, _⟩, _⟩ := h; exact ⟨es, c, hb⟩
theorem RMap.new (w : World) : RMap K k w.heap.size 0 (fun _ => none) (w.alloc (.map #[] 0)) := ⟨.map [], World.ownsMap_made _ _ _ _, fun _ => ⟨rfl, fun _ h => by cases h⟩⟩

theorem raw_at {D : DataW Value} {l : Lit} {o : Option Value} (h : has D l = o.isSome ∧ ∀ v, o = some v → ∀ zd, D.atKey l zd = .held v) (z : Value) : D.atKey l (.held z) = .held (o.getD z) := by
  cases o with
  | none => exact atKey_of_not_has (by simpa using h.1) _
  | some v => exact h.2 v rfl _

/-- m[k] -/
theorem RMap.get (h : RMap K k b n f w) (Y : Keyed Tryz.prog k) {t e : TypeId} (ht : Tryz.prog.underlying t = some (.map k e)) {z : Value} (hz : (zeroValue e).run Tryz.prog w = .ok z w) {x : κ} {key : Value} (hkey : keyOf Tryz.prog k key = some (K x)) :
    (Instr.lookup t (.map (some b)) key false).run Tryz.prog w = .ok ((f x).getD z) w := by
  obtain ⟨D, hD, hf⟩ := h
  obtain ⟨v, ps, hrun, hv⟩ := hD.lookup Y ht hz (zd := .held z) (zp := []) rfl hkey
  rw [raw_at (hf x)] at hv
  have : v = (f x).getD z := by
    simp only [rawE, Option.some.injEq, Prod.mk.injEq, DataW.held.injEq] at hv
    exact hv.1
  rw [← this]; exact hrun

/-- m[k] = v -/
theorem RMap.put [DecidableEq κ] (hK : ∀ x y, K x = K y → x = y) (h : RMap K k b n f w) (hn : n < maxLen) (Y : Keyed Tryz.prog k) {t e : TypeId} (ht : Tryz.prog.underlying t = some (.map k e)) {x : κ} {key : Value} (hkey : keyOf Tryz.prog k key = some (K x)) (v : Value) :
    ∃ w', (Instr.mapUpdate t (.map (some b)) key v).run Tryz.prog w = .ok () w' ∧ RMap K k b (n + 1) (fun y => if y = x then some v else f y) w' ∧ w.grownBy w' (some b) := by
  obtain ⟨D, hD, hf⟩ := h
  obtain ⟨w', hrun, ho, hg⟩ := hD.update Y ht hn hkey (val := v) (d := .held v) (ps := []) rfl
  refine ⟨w', hrun, ⟨_, ho, fun y => ?_⟩, hg⟩
  by_cases hy : y = x
  · subst hy
    simp only [↓reduceIte]
    exact ⟨has_put_same hD.isMap (Y.key hkey) _, fun u hu zd => by cases hu; exact atKey_put_same hD.isMap (Y.key hkey) _ _⟩
  · have hne : K y ≠ K x := fun e => hy (hK _ _ e)
    simp only [if_neg hy]
    rw [has_put_other hne]
    exact ⟨(hf y).1, fun u hu zd => by rw [atKey_put_other hne]; exact (hf y).2 u hu zd⟩

/-- delete(m, k) -/
theorem RMap.del [DecidableEq κ] (hK : ∀ x y, K x = K y → x = y) (h : RMap K k b n f w) (Y : Keyed Tryz.prog k) {t e : TypeId} (ht : Tryz.prog.underlying t = some (.map k e)) {x : κ} {key : Value} (hkey : keyOf Tryz.prog k key = some (K x)) (ty : TypeId) :
    ∃ w', (Builtin.delete_ #[t, k] ty #[.map (some b), key]).run Tryz.prog w = .ok (.tuple #[]) w' ∧ RMap K k b n (fun y => if y = x then none else f y) w' ∧ w.grownBy w' (some b) := by
  obtain ⟨D, hD, hf⟩ := h
  obtain ⟨w', hrun, ho, hg⟩ := hD.drop Y ht hkey ty
  refine ⟨w', hrun, ⟨_, ho, fun y => ?_⟩, hg.grown⟩
  by_cases hy : y = x
  · subst hy
    simp only [↓reduceIte]
    exact ⟨has_del_same, fun u hu => by cases hu⟩
  · have hne : K y ≠ K x := fun e => hy (hK _ _ e)
    simp only [if_neg hy]
    rw [has_del_other hne]
    exact ⟨(hf y).1, fun u hu zd => by rw [atKey_del_other hne]; exact (hf y).2 u hu zd⟩
end

theorem intKeys : Keyed Tryz.prog 3 := int_keyed Tryz.underlying3
theorem intKey {i : Int} (h1 : -9223372036854775808 ≤ i) (h2 : i ≤ 9223372036854775807) : keyOf Tryz.prog 3 (.int .i64 i) = some (.int .i64 i) := keyOf_int_mk Tryz.underlying3 (WalkArith.wf_i64 (by omega))
theorem int_inj (x y : Int) (h : Lit.int .i64 x = Lit.int .i64 y) : x = y := by injection h
theorem strKeys : Keyed Tryz.prog 9 := string_keyed Tryz.underlying9
theorem strKey {x : List UInt8} (h : x.length ≤ 8192) : keyOf Tryz.prog 9 (.string ⟨x.toArray⟩) = some (.string x) := by
  have := keyOf_string_mk (P := Tryz.prog) (k := 9) Tryz.underlying9 (s := ⟨x.toArray⟩) (by unfold maxLen; simp [ByteArray.size]; omega)
  simpa using this
theorem str_inj (x y : List UInt8) (h : Lit.string x = Lit.string y) : x = y := by injection h

/-- the three kinds of maps of an index -/
abbrev IM := RMap (Lit.int .i64) 3
abbrev SM := RMap Lit.string 9
end Go.Proofs.YtmfnhfkgkdibfaaGreat

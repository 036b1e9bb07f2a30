/- Facts and contracts for the laws of the sender, part 5. Conditions: those that each theorem names. -/
import Derived.Test.YtogjgibaolppfaaGreatDoorK04
import Derived.Test.YtogjgibaolppfaaGreatDoorK03
import Derived.Maps.OwnSet
import Derived.Maps.RangeWalk
import Derived.Sort.MapsRangeIn
import Derived.Lib.Hide
import Derived.StringKeys
import Derived.Lib.Small
import Derived.Sort.Grow
import Derived.Deep.RegionHeld3
import Derived.Deep.QuietTactic
import Derived.BigQuiet
import Derived.Laws.Cover1
import Derived.Sort.Walk0
import Derived.Lib.OwnBridge
import Derived.Shelf.GgSortFunc.RowK
import Derived.Shelf.SlSortCmp.Insertion
import Derived.RegionTactic
namespace Go.Proofs.YtogjgibaolppfaaGreatDoor
open Go.RowKit Go.Shelf

attribute [local go_sem] Oper.semAt_some

/-- v owns the strings xs, from block 'base' on. -/
def OwnsStrs (W : World) (base : Nat) (v : Value) (xs : List (List UInt8)) : Prop := W.ownsRow base 9 1 v xs.length (xs.map encW)

def WordsPost (s : ByteArray) (w : World) (e : Ending) (W' : World) : Prop := ∃ v, e = .returned v ∧ OwnsStrs W' w.heap.size v (wordsOf s.data.toList) ∧ Below w.heap.size w W'

set_option maxRecDepth 100000 in
set_option maxHeartbeats 400000 in
theorem Words_in (n : Nat) (hn : 3 ≤ n) (s : ByteArray) (hsz : s.size ≤ 1099511627775) (hlen : (wordsOf s.data.toList).length ≤ 1099511627775) (w : World) :
    CallsIn Fence.wide n Tryz.prog 58 #[.string s] w (WordsPost s w) := by
  have h1 : 1 ≤ n := by omega
  refine callsIn_of_wp_marks Tryz.func58 rfl trivial ?_ rfl
  simp only [Tryz.ntmps58, List.size_toArray, List.length_cons, List.length_nil, Nat.reduceAdd, Nat.reduceSub, Array.replicate_succ, Array.replicate_zero, List.push_toArray, List.append_toArray, List.nil_append, List.cons_append]
  gi_wp2_with (refine ⟨trivial, ?_⟩; gi_at_call 100; refine (callsIn_wide.2 (words_any _ _)).mono ?_; rintro e w' ⟨rfl, rfl⟩)
  have bO := Boxed.new w 146 (.slice none 0 0)
  have bN := Boxed.new (w.alloc (.cells #[.slice none 0 0] 146)) 9 (.string s)
  rw [World.size_alloc] at bN
  have hB0 : Below w.heap.size w ((w.alloc (.cells #[.slice none 0 0] 146)).alloc (.cells #[.string s] 9)) := ((Below.refl _ w).alloc (Nat.le_refl _) _).alloc (by simp) _
  refine wpIn_rangeFunc_ownG rfl h1 (gf := 138) (lb := #[.pointer (some ⟨w.heap.size + 1, 0, none⟩)]) rfl trivial (enters_of Tryz.func138 (by kernel_rfl) rfl)
    (words_stops (n - 1) (by omega) (w.heap.size + 1) s (by omega) _ (by simp) bN.cell) KeepsAt.trans (KeepsAt.putObj (by simp)) (Below.refl _ _) (fun _ => rfl)
    (fun pre W => (∃ v, Boxed W w.heap.size 146 v ∧ W.ownsRow (w.heap.size + 2) 9 1 v pre.length (pre.map encW) ∧ True) ∧ Below w.heap.size w W ∧ w.heap.size + 2 ≤ W.heap.size)
    (fun _ _ _ => False)
    (OwnFrom.and (Own.from (holdsRow_own (w.heap.size + 2) w.heap.size 146 9 1 (fun pre : List (List UInt8) => pre.length) (fun pre => pre.map encW) (fun _ _ => True)) _) ?own2)
    (fun _ _ _ _ _ hs _ _ => hs)
    ?h0
    (fun x => { tmps := #[.string s, undef, .slice none 0 0, .pointer (some ⟨w.heap.size, 0, none⟩), .string ⟨x.toArray⟩, .string s, .func (.func 138) #[] #[.pointer (some ⟨w.heap.size + 1, 0, none⟩)], .string ⟨x.toArray⟩, undef, undef, undef, undef, undef], defers := [] }) ?assign ?body ?done ?stop
  case own2 => exact OwnFrom.and (ownFrom_below (Nat.le_refl _) (by simp; omega)) (fun s A B row hs hg hr => Nat.le_trans hs hg.size)
  case h0 => exact ⟨⟨_, bO.alloc _, World.ownsRow_nil _ _ _ _, trivial⟩, hB0, by simp⟩
  case assign =>
    intro l x W K hK
    gi_wp2
    exact hK
  case body =>
    rintro l pre x W ⟨⟨v, hv, hrow, _⟩, hB, hS⟩ hlt
    have hc := hv.cell
    have hvb := hv.lt
    have hbs : w.heap.size + 1 < w.heap.size + 2 := by omega
    have ha := add_any w.heap.size (w.heap.size + 2) pre.length W.heap.size v (pre.map encW) ⟨x.toArray⟩ _ (hv.alloc (.cells #[.string ⟨x.toArray⟩] 9)) (hrow.alloc _) (by simp; omega) (World.cell?_alloc_new W _ _ 0) (by omega)
    gi_wp2
    refine ⟨trivial, (fun h => by cases h), ?_⟩
    refine (CallsIn.inRound l (callsIn_wide.2 ha)).mono ?_
    rintro e w1 ⟨rfl, v', hv1, hr1, hk1, hb1⟩
    gi_wp2
    have hz := hb1.size
    simp only [World.size_alloc] at hz
    refine ⟨((KeepsOthers.alloc _ _).trans hk1).from _, ((KeepsAt.refl _ W).alloc (by omega) _).trans (hb1.keepsAt (by omega) (by omega)), ⟨v', hv1, ?_, trivial⟩, ?_, by omega⟩
    · simpa [encW] using hr1
    · exact (hB.alloc hB.size _).trans (hb1.below (by omega) (by omega))
  case done =>
    rintro D ys W hD rfl ⟨⟨v, hv, hrow, _⟩, hB, hS⟩ hK
    have hc := hv.cell
    gi_wp2
    refine ⟨by simp, .inl ⟨_, _, rfl, run_takeDeferred hK, ?_⟩⟩
    exact ⟨_, results_tmp rfl _ _ _, v, rfl, ownsRow_putObj (hrow.mono_base (by omega)) _ hK rfl, hB.trans (belowK_b (w := w) (Nat.le_refl _) W D _ _ (by simp at hD; omega) hK rfl rfl)⟩
  case stop =>
    rintro D c pre W _ _ h _
    exact h.elim
end Go.Proofs.YtogjgibaolppfaaGreatDoor
/- Maps as functions from keys to values, whatever the values; ranges over them. -/
namespace Go.Proofs.YtogjgibaolppfaaGreatDoor
open Go.RowKit Go.Maps Go.ChangeMaps Go.WideMaps

/-- all but the blocks of S lies as it lay, of the blocks below n -/
structure But (S : Nat → Prop) (n : Nat) (w w' : World) : Prop where
  os : w'.os = w.os
  tape : w'.tape = w.tape
  output : w'.output = w.output
  size : w.heap.size ≤ w'.heap.size
  block : ∀ k, k < n → ¬ S k → w'.heap[k]? = w.heap[k]?
theorem But.of_below {S : Nat → Prop} {n : Nat} {w w' : World} (h : Below n w w') : But S n w w' := ⟨h.os, h.tape, h.output, h.size, fun k hk _ => h.block k hk⟩
theorem But.trans {S : Nat → Prop} {n : Nat} {a b c : World} (h : But S n a b) (k : But S n b c) : But S n a c :=
  ⟨k.os.trans h.os, k.tape.trans h.tape, k.output.trans h.output, Nat.le_trans h.size k.size, fun i hi hs => (k.block i hi hs).trans (h.block i hi hs)⟩
theorem But.mono {S : Nat → Prop} {n m : Nat} {w w' : World} (h : But S n w w') (hm : m ≤ n) : But S m w w' := ⟨h.os, h.tape, h.output, h.size, fun k hk => h.block k (by omega)⟩
theorem But.weaken {S T : Nat → Prop} {n : Nat} {w w' : World} (h : But S n w w') (hm : ∀ k, k < n → S k → T k) : But T n w w' := ⟨h.os, h.tape, h.output, h.size, fun k hk ht => h.block k hk fun hs => ht (hm k hk hs)⟩
theorem But.below {S : Nat → Prop} {n m : Nat} {w w' : World} (h : But S n w w') (hm : m ≤ n) (hs : ∀ k, S k → m ≤ k) : Below m w w' := ⟨h.os, h.tape, h.output, h.size, fun k hk => h.block k (by omega) fun e => by have := hs k e; omega⟩
theorem But.grown {S : Nat → Prop} {n b : Nat} {w w' : World} (h : w.grownBy w' (some b)) (hn : n ≤ w.heap.size) (hb : S b) : But S n w w' :=
  ⟨h.os, h.tape, h.output, h.size, fun k hk hs => h.block k (by omega) fun e => by cases e; exact hs hb⟩

def rawE (v : Value) : Option (DataW Value × List MemPlace) := some (.held v, [])

/-- block b is a map of at most n entries; at the key K x it holds f x -/
def RMap {κ : Type} (K : κ → Lit) (k : TypeId) (b n : Nat) (f : κ → Option Value) (w : World) : Prop :=
  ∃ D : DataW Value, w.ownsMap Tryz.prog k rawE b n D ∧ ∀ x, has D (K x) = (f x).isSome ∧ ∀ v, f x = some v → ∀ zd, D.atKey (K x) zd = .held v

section
variable {κ : Type} {K : κ → Lit} {k : TypeId} {b n : Nat} {f : κ → Option Value} {w : World}

theorem RMap.lt (h : RMap K k b n f w) : b < w.heap.size := by obtain ⟨D, hD, _⟩ := h; exact hD.lt
theorem RMap.kept {w' : World} (h : RMap K k b n f w) (hk : w'.heap[b]? = w.heap[b]?) : RMap K k b n f w' := by
  obtain ⟨D, ⟨es, clock, hb, r⟩, hf⟩ := h
  exact ⟨D, ⟨es, clock, hk.trans hb, r⟩, hf⟩
theorem RMap.mono (h : RMap K k b n f w) {m : Nat} (hm : n ≤ m) : RMap K k b m f w := by
  obtain ⟨D, hD, hf⟩ := h
  exact ⟨D, hD.mono hm, hf⟩
theorem RMap.obj (h : RMap K k b n f w) : ∃ es c, w.heap[b]? = some (.map es c) := by obtain ⟨D, ⟨es, c, hb, _⟩, _⟩ := h; exact ⟨es, c, hb⟩
theorem RMap.new (w : World) : RMap K k w.heap.size 0 (fun _ => none) (w.alloc (.map #[] 0)) := ⟨.map [], World.ownsMap_made _ _ _ _, fun _ => ⟨rfl, fun _ h => by cases h⟩⟩

theorem raw_at {D : DataW Value} {l : Lit} {o : Option Value} (h : has D l = o.isSome ∧ ∀ v, o = some v → ∀ zd, D.atKey l zd = .held v) (z : Value) : D.atKey l (.held z) = .held (o.getD z) := by
  cases o with
  | none => exact atKey_of_not_has (by simpa using h.1) _
  | some v => exact h.2 v rfl _

/-- m[k] -/
theorem RMap.get (h : RMap K k b n f w) (Y : Keyed Tryz.prog k) {t e : TypeId} (ht : Tryz.prog.underlying t = some (.map k e)) {z : Value} (hz : (zeroValue e).run Tryz.prog w = .ok z w) {x : κ} {key : Value} (hkey : keyOf Tryz.prog k key = some (K x)) :
    (Instr.lookup t (.map (some b)) key false).run Tryz.prog w = .ok ((f x).getD z) w := by
  obtain ⟨D, hD, hf⟩ := h
  obtain ⟨v, ps, hrun, hv⟩ := hD.lookup Y ht hz (zd := .held z) (zp := []) rfl hkey
  rw [raw_at (hf x)] at hv
  have : v = (f x).getD z := by
    simp only [rawE, Option.some.injEq, Prod.mk.injEq, DataW.held.injEq] at hv
    exact hv.1
  rw [← this]; exact hrun

/-- m[k] = v -/
theorem RMap.put [DecidableEq κ] (hK : ∀ x y, K x = K y → x = y) (h : RMap K k b n f w) (hn : n < maxLen) (Y : Keyed Tryz.prog k) {t e : TypeId} (ht : Tryz.prog.underlying t = some (.map k e)) {x : κ} {key : Value} (hkey : keyOf Tryz.prog k key = some (K x)) (v : Value) :
    ∃ w', (Instr.mapUpdate t (.map (some b)) key v).run Tryz.prog w = .ok () w' ∧ RMap K k b (n + 1) (fun y => if y = x then some v else f y) w' ∧ w.grownBy w' (some b) := by
  obtain ⟨D, hD, hf⟩ := h
  obtain ⟨w', hrun, ho, hg⟩ := hD.update Y ht hn hkey (val := v) (d := .held v) (ps := []) rfl
  refine ⟨w', hrun, ⟨_, ho, fun y => ?_⟩, hg⟩
  by_cases hy : y = x
  · subst hy
    simp only [↓reduceIte]
    exact ⟨has_put_same hD.isMap (Y.key hkey) _, fun u hu zd => by cases hu; exact atKey_put_same hD.isMap (Y.key hkey) _ _⟩
  · have hne : K y ≠ K x := fun e => hy (hK _ _ e)
    simp only [if_neg hy]
    rw [has_put_other hne]
    exact ⟨(hf y).1, fun u hu zd => by rw [atKey_put_other hne]; exact (hf y).2 u hu zd⟩

/-- delete(m, k) -/
theorem RMap.del [DecidableEq κ] (hK : ∀ x y, K x = K y → x = y) (h : RMap K k b n f w) (Y : Keyed Tryz.prog k) {t e : TypeId} (ht : Tryz.prog.underlying t = some (.map k e)) {x : κ} {key : Value} (hkey : keyOf Tryz.prog k key = some (K x)) (ty : TypeId) :
    ∃ w', (Builtin.delete_ #[t, k] ty #[.map (some b), key]).run Tryz.prog w = .ok (.tuple #[]) w' ∧ RMap K k b n (fun y => if y = x then none else f y) w' ∧ w.grownBy w' (some b) := by
  obtain ⟨D, hD, hf⟩ := h
  obtain ⟨w', hrun, ho, hg⟩ := hD.drop Y ht hkey ty
  refine ⟨w', hrun, ⟨_, ho, fun y => ?_⟩, hg.grown⟩
  by_cases hy : y = x
  · subst hy
    simp only [↓reduceIte]
    exact ⟨has_del_same, fun u hu => by cases hu⟩
  · have hne : K y ≠ K x := fun e => hy (hK _ _ e)
    simp only [if_neg hy]
    rw [has_del_other hne]
    exact ⟨(hf y).1, fun u hu zd => by rw [atKey_del_other hne]; exact (hf y).2 u hu zd⟩
end

theorem intKeys : Keyed Tryz.prog 3 := int_keyed Tryz.underlying3
theorem intKey {i : Int} (h1 : -9223372036854775808 ≤ i) (h2 : i ≤ 9223372036854775807) : keyOf Tryz.prog 3 (.int .i64 i) = some (.int .i64 i) := keyOf_int_mk Tryz.underlying3 (WalkArith.wf_i64 (by omega))
theorem int_inj (x y : Int) (h : Lit.int .i64 x = Lit.int .i64 y) : x = y := by injection h
theorem strKeys : Keyed Tryz.prog 9 := string_keyed Tryz.underlying9
theorem strKey {x : List UInt8} (h : x.length ≤ 8192) : keyOf Tryz.prog 9 (.string ⟨x.toArray⟩) = some (.string x) := by
  have := keyOf_string_mk (P := Tryz.prog) (k := 9) Tryz.underlying9 (s := ⟨x.toArray⟩) (by unfold maxLen; simp [ByteArray.size]; omega)
  simpa using this
theorem str_inj (x y : List UInt8) (h : Lit.string x = Lit.string y) : x = y := by injection h

/-- the three kinds of maps of an index -/
abbrev IM := RMap (Lit.int .i64) 3
abbrev SM := RMap Lit.string 9
end Go.Proofs.YtogjgibaolppfaaGreatDoor
/- Comparisons that the sorts call: cmp.Compare, cmp.Or, the comparison of hits, of terms. -/
namespace Go.Proofs.YtogjgibaolppfaaGreatDoor
open Go.RowKit Go.Sort

theorem str_lt_irrefl (x : List UInt8) : ¬ x < x := List.lt_irrefl x
/-- -1, 0 or 1 -/
def cmpS (x y : List UInt8) : Int := if x < y then -1 else if y < x then 1 else 0
theorem isNaN_int (x : Int) (w : World) : Calls Tryz.prog 84 #[.int .i64 x] w fun e w' => e = .returned (.bool false) ∧ w' = w := by
  go_enter Tryz.func84, Tryz.ntmps84
  go_wp2
  go_ret
  exact ⟨by simp, rfl⟩
theorem isNaN_str (x : List UInt8) (w : World) : Calls Tryz.prog 104 #[.string ⟨x.toArray⟩] w fun e w' => e = .returned (.bool false) ∧ w' = w := by
  go_enter Tryz.func104, Tryz.ntmps104
  go_wp2
  go_ret
  exact ⟨by simp, rfl⟩
set_option maxRecDepth 100000 in
theorem cmp_int (x y : Int) (w : World) : Calls Tryz.prog 50 #[.int .i64 x, .int .i64 y] w fun e w' => e = .returned (.int .i64 (Lib.compareInt x y)) ∧ w' = w := by
  go_enter Tryz.func50, Tryz.ntmps50
  go_wp2_with (go_at_call 84; refine (isNaN_int _ _).mono ?_; rintro e w' ⟨rfl, hw⟩; rw [hw])
  all_goals (go_ret; refine ⟨?_, rfl⟩; unfold Lib.compareInt; (repeat' split) <;> first | rfl | (exfalso; omega))
set_option maxRecDepth 100000 in
theorem cmp_str (x y : List UInt8) (w : World) : Calls Tryz.prog 62 #[.string ⟨x.toArray⟩, .string ⟨y.toArray⟩] w fun e w' => e = .returned (.int .i64 (cmpS x y)) ∧ w' = w := by
  obtain ⟨R, hR⟩ : ∃ R, cmpS x y = R := ⟨_, rfl⟩
  rw [hR]
  have HR := Lib.hid hR
  clear hR
  go_enter Tryz.func62, Tryz.ntmps62
  go_wp2_with (go_at_call 104; refine (isNaN_str _ _).mono ?_; rintro e w' ⟨rfl, hw⟩; rw [hw])
  all_goals (go_ret; refine ⟨?_, by first | rfl | assumption⟩; rw [← HR.out]; unfold cmpS; (repeat' split) <;> simp_all [bytesLess_eq, str_lt_irrefl] <;> first | (rename_i h1 h2 h3; exact absurd (List.le_antisymm h3 h2) h1))

/-- the first that is not 0 -/
def orI (x y : Int) : Int := if x = 0 then y else x
set_option maxRecDepth 100000 in
theorem or_int (b : Nat) (x y : Int) (w : World) (h0 : w.cell? ⟨b, 0, none⟩ = some (.int .i64 x)) (h1 : w.cell? ⟨b, 1, none⟩ = some (.int .i64 y)) :
    Calls Tryz.prog 49 #[.slice (some ⟨b, 0, none⟩) 2 2] w fun e w' => e = .returned (.int .i64 (orI x y)) ∧ w' = w := by
  obtain ⟨R, hR⟩ : ∃ R, orI x y = R := ⟨_, rfl⟩
  rw [hR]
  have HR := Lib.hid hR
  clear hR
  by_cases hx : x = 0
  · have g0 : (x != 0) = false := by simpa using hx
    have HR1 : Hid (y = R) := Lib.hid (by have := HR.out; simpa [orI, hx] using this)
    clear hx HR
    by_cases hy : y = 0
    · have g1 : (y != 0) = false := by simpa using hy
      have HR2 : Hid (0 = R) := Lib.hid (by rw [← hy]; exact HR1.out)
      clear hy HR1
      go_enter Tryz.func49, Tryz.ntmps49
      go_wp2
      refine wp_loop_rounds 3 ?_
      rw [rounds_succ]
      go_wp2
      rw [rounds_succ]
      go_wp2
      rw [rounds_succ]
      go_wp2
      go_ret
      exact ⟨by rw [← HR2.out]; rfl, rfl⟩
    · have g1 : (y != 0) = true := by simpa using hy
      clear hy
      go_enter Tryz.func49, Tryz.ntmps49
      go_wp2
      refine wp_loop_rounds 3 ?_
      rw [rounds_succ]
      go_wp2
      rw [rounds_succ]
      go_wp2
      go_ret
      exact ⟨by rw [← HR1.out]; rfl, rfl⟩
  · have g0 : (x != 0) = true := by simpa using hx
    have HR1 : Hid (x = R) := Lib.hid (by have := HR.out; simpa [orI, hx] using this)
    clear hx HR
    go_enter Tryz.func49, Tryz.ntmps49
    go_wp2
    refine wp_loop_rounds 3 ?_
    rw [rounds_succ]
    go_wp2
    go_ret
    exact ⟨by rw [← HR1.out]; rfl, rfl⟩

/-- The comparison of hits. -/
theorem hits_cmp (x y : Int × Nat) (W : World) : Calls Tryz.prog 106 #[.agg #[.int .i64 x.1, .int .i64 x.2], .agg #[.int .i64 y.1, .int .i64 y.2]] W fun e w' => e = .returned (.int .i64 (Lib.compareInt x.1 y.1)) ∧ ∃ q os', w' = grow (W.drewN q) os' := by
  obtain ⟨R, hR⟩ : ∃ R, Lib.compareInt x.1 y.1 = R := ⟨_, rfl⟩
  have hcon := fun W' => cmp_int x.1 y.1 W'
  rw [hR] at hcon ⊢
  clear hR
  go_enter Tryz.func106, Tryz.ntmps106
  go_wp2_with (go_at_call 50; refine (hcon _).mono ?_; rintro e w' ⟨rfl, rfl⟩)
  go_ret
  exact ⟨rfl, 0, _, by rw [alloc_eq_grow, alloc_eq_grow, grow_grow]; rfl⟩

/-- the comparison of terms, as a number -/
def cmpT (x y : List UInt8 × Nat) : Int := orI (Lib.compareInt y.2 x.2) (cmpS x.1 y.1)
set_option maxRecDepth 100000 in
set_option maxHeartbeats 1000000 in
theorem terms_cmp (x y : List UInt8 × Nat) (W : World) : Calls Tryz.prog 90 #[.agg #[.string ⟨x.1.toArray⟩, .int .i64 x.2], .agg #[.string ⟨y.1.toArray⟩, .int .i64 y.2]] W fun e w' => e = .returned (.int .i64 (cmpT x y)) ∧ ∃ q os', w' = grow (W.drewN q) os' := by
  obtain ⟨c1, h1⟩ : ∃ c, Lib.compareInt y.2 x.2 = c := ⟨_, rfl⟩
  obtain ⟨c2, h2⟩ : ∃ c, cmpS x.1 y.1 = c := ⟨_, rfl⟩
  have k1 := fun W' => cmp_int y.2 x.2 W'
  have k2 := fun W' => cmp_str x.1 y.1 W'
  rw [h1] at k1
  rw [h2] at k2
  have hR : cmpT x y = orI c1 c2 := by rw [← h1, ← h2]; rfl
  rw [hR]
  clear h1 h2 hR
  have x0 : ((W.alloc (.cells #[.string ⟨x.1.toArray⟩, .int .i64 x.2] 92)).alloc (.cells #[.string ⟨y.1.toArray⟩, .int .i64 y.2] 92)).cell? ⟨W.heap.size, 0, none⟩ = some (.string ⟨x.1.toArray⟩) := Lib.cell?_alloc_some _ (by simp)
  have x1 : ((W.alloc (.cells #[.string ⟨x.1.toArray⟩, .int .i64 x.2] 92)).alloc (.cells #[.string ⟨y.1.toArray⟩, .int .i64 y.2] 92)).cell? ⟨W.heap.size, 1, none⟩ = some (.int .i64 x.2) := Lib.cell?_alloc_some _ (by simp)
  have y0 : ((W.alloc (.cells #[.string ⟨x.1.toArray⟩, .int .i64 x.2] 92)).alloc (.cells #[.string ⟨y.1.toArray⟩, .int .i64 y.2] 92)).cell? ⟨W.heap.size + 1, 0, none⟩ = some (.string ⟨y.1.toArray⟩) := by simp
  have y1 : ((W.alloc (.cells #[.string ⟨x.1.toArray⟩, .int .i64 x.2] 92)).alloc (.cells #[.string ⟨y.1.toArray⟩, .int .i64 y.2] 92)).cell? ⟨W.heap.size + 1, 1, none⟩ = some (.int .i64 y.2) := by simp
  have hg : (W.alloc (.cells #[.string ⟨x.1.toArray⟩, .int .i64 x.2] 92)).alloc (.cells #[.string ⟨y.1.toArray⟩, .int .i64 y.2] 92) = grow W #[.cells #[.string ⟨x.1.toArray⟩, .int .i64 x.2] 92, .cells #[.string ⟨y.1.toArray⟩, .int .i64 y.2] 92] := by rw [alloc_eq_grow, alloc_eq_grow, grow_grow]; rfl
  have hs : ((W.alloc (.cells #[.string ⟨x.1.toArray⟩, .int .i64 x.2] 92)).alloc (.cells #[.string ⟨y.1.toArray⟩, .int .i64 y.2] 92)).heap.size = W.heap.size + 2 := by simp
  have HG := Lib.hid hg; clear hg
  go_enter Tryz.func90, Tryz.ntmps90
  go_upto_region 1 with fail
  generalize (W.alloc (.cells #[.string ⟨x.1.toArray⟩, .int .i64 x.2] 92)).alloc (.cells #[.string ⟨y.1.toArray⟩, .int .i64 y.2] 92) = W2 at *
  have f0 : (W2.alloc (.cells #[.int .i64 c1, .int .i64 c2] 3)).drew.cell? ⟨W.heap.size + 2, 0, none⟩ = some (.int .i64 c1) := by rw [← hs]; simp
  have f1 : (W2.alloc (.cells #[.int .i64 c1, .int .i64 c2] 3)).drew.cell? ⟨W.heap.size + 2, 1, none⟩ = some (.int .i64 c2) := by rw [← hs]; simp
  go_region_held3 (fun w' => w'.cell? ⟨W.heap.size, 0, none⟩ = some (.string ⟨x.1.toArray⟩) ∧ w'.cell? ⟨W.heap.size, 1, none⟩ = some (.int .i64 x.2) ∧ w'.cell? ⟨W.heap.size + 1, 0, none⟩ = some (.string ⟨y.1.toArray⟩) ∧ w'.cell? ⟨W.heap.size + 1, 1, none⟩ = some (.int .i64 y.2)) (first | assumption | go_keep) (first | (go_at_call 50; refine (k1 _).mono ?_; rintro e w' ⟨rfl, rfl⟩) | (go_at_call 62; refine (k2 _).mono ?_; rintro e w' ⟨rfl, rfl⟩) | (go_at_call 49; refine (or_int (W.heap.size + 2) c1 c2 _ f0 f1).mono ?_; rintro e w' ⟨rfl, rfl⟩) | fail)
  go_wp2
  go_ret
  exact ⟨rfl, 1, _, by rw [HG.out, alloc_eq_grow]; show grow (grow (W.drewN 1) _) _ = _; rw [grow_grow]⟩
end Go.Proofs.YtogjgibaolppfaaGreatDoor
/- Rows of the call's own that are sorted: between the two vocabularies; the orders of the four sorts. -/
namespace Go.Proofs.YtogjgibaolppfaaGreatDoor
open Go.RowKit Go.Sort Go.Proofs

theorem raw_of_ownsRow {w : World} {base : Nat} {e : TypeId} {size : Nat} {v : Value} {n : Nat} {xs : List Value} (h : w.ownsRow base e size v n xs) (hv : v ≠ .slice none 0 0) :
    ∃ g cap, v = .slice (some ⟨g, 0, none⟩) n cap ∧ base ≤ g ∧ g < w.heap.size ∧ n ≤ cap ∧ Holds id w g 0 xs.toArray := by
  rcases h.2 with ⟨e0, _⟩ | ⟨g, cap, cur, rfl, hb, hg, hn, hm, hs, ht⟩
  · exact absurd e0 hv
  · have hlt : g < w.heap.size := by
      rcases Nat.lt_or_ge g w.heap.size with h' | h'
      · exact h'
      · rw [Array.getElem?_eq_none h'] at hg; cases hg
    refine ⟨g, cap, rfl, hb, hlt, hn, fun j hj => ?_⟩
    have hl := h.1
    have hj' : j < n * size := by simpa [hl] using hj
    refine ⟨?_, by simp [World.frozen?, hg]⟩
    have e1 : (cur.toList.take (n * size))[j]? = xs[j]? := by rw [ht]
    rw [List.getElem?_take, if_pos (by omega), Array.getElem?_toList, List.getElem?_eq_getElem (by omega)] at e1
    simp only [World.cell?, hg, Nat.zero_add]
    simp only [Option.isSome_none, Bool.false_eq_true, if_false]
    rw [e1]
    simp [getElem!_pos, show j < xs.length by omega]

theorem ownsRow_put {w : World} {base : Nat} {e : TypeId} {size g n cap q : Nat} {xs ys : List Value} {os : Array Obj} (h : w.ownsRow base e size (.slice (some ⟨g, 0, none⟩) n cap) n xs) (hy : ys.length = n * size) :
    (grow (putRow id (Sort.ahead w q) g 0 ys.toArray) os).ownsRow base e size (.slice (some ⟨g, 0, none⟩) n cap) n ys := by
  rcases h.2 with ⟨e0, _⟩ | ⟨g', cap', cur, e0, hb, hg, hn, hm, hs, ht⟩
  · cases e0
  · injection e0 with e1 _ e3
    injection e1 with e1
    injection e1 with e1
    subst e1; subst e3
    have hlt : g < w.heap.size := (Array.getElem?_eq_some_iff.1 hg).1
    refine ⟨hy, .inr ⟨g, cap, putCells id 0 ys.toArray cur, rfl, hb, ?_, hn, hm, by simpa [putCells] using hs, ?_⟩⟩
    · have : (putRow id (Sort.ahead w q) g 0 ys.toArray).heap[g]? = some (.cells (putCells id 0 ys.toArray cur) e (0, 0)) := by
        simp [putRow, mapBlock, Sort.ahead, Array.getElem?_modify, hg, onCells]
      have hl2 : g < (putRow id (Sort.ahead w q) g 0 ys.toArray).heap.size := (Array.getElem?_eq_some_iff.1 this).1
      simp only [grow]
      rw [Array.getElem?_append_left hl2]
      exact this
    · apply List.ext_getElem?
      intro j
      have hle : n * size ≤ cap * size := Nat.mul_le_mul_right _ hn
      rw [List.getElem?_take, Array.getElem?_toList]
      by_cases hj : j < n * size
      · have hjc : j < cur.size := by omega
        simp only [if_pos hj, putCells, Array.getElem?_mapIdx, Array.getElem?_eq_getElem hjc, Option.map_some]
        rw [if_pos (by simp; omega), List.getElem?_eq_getElem (by omega)]
        simp [getElem!_pos, show j < ys.length by omega]
      · simp only [if_neg hj]
        rw [List.getElem?_eq_none (by omega)]

theorem below_put {α : Type} [Inhabited α] {enc : α → Value} {B : Nat} {w : World} {g q : Nat} {d : Array α} {os : Array Obj} (hg : B ≤ g) (hl : g < w.heap.size) : Below B w (grow (putRow enc (Sort.ahead w q) g 0 d) os) :=
  ⟨rfl, rfl, rfl, by simp [grow, putRow, mapBlock, Sort.ahead], fun k hk => by
    have hk2 : k < (putRow enc (Sort.ahead w q) g 0 d).heap.size := by simp [putRow, mapBlock, Sort.ahead]; omega
    simp only [grow]
    rw [Array.getElem?_append_left hk2]
    simp [putRow, mapBlock, Sort.ahead, Array.getElem?_modify, show g ≠ k by omega]⟩

theorem flatMap_at {α : Type} (enc : α → List Value) (k : Nat) (hk0 : 0 < k) (hk : ∀ x, (enc x).length = k) : ∀ (l : List α) (t : Nat), (l.flatMap enc)[t]? = l[t / k]?.bind fun x => (enc x)[t % k]?
  | [], t => by simp
  | x :: l, t => by
    rw [List.flatMap_cons]
    by_cases ht : t < k
    · rw [List.getElem?_append_left (by rw [hk]; exact ht), Nat.div_eq_of_lt ht, Nat.mod_eq_of_lt ht]; rfl
    · rw [List.getElem?_append_right (by rw [hk]; omega), hk, flatMap_at enc k hk0 hk l (t - k)]
      obtain ⟨u, rfl⟩ : ∃ u, t = u + k := ⟨t - k, by omega⟩
      rw [Nat.add_sub_cancel, Nat.add_div_right _ hk0, Nat.add_mod_right]; rfl
theorem flatK_flatMap {α : Type} [Inhabited α] (enc : α → List Value) (k : Nat) (hk0 : 0 < k) (hk : ∀ x, (enc x).length = k) (l : List α) : flatK enc k l.toArray = (l.flatMap enc).toArray := by
  refine Array.ext_getElem? fun t => ?_
  rw [show ((l.flatMap enc).toArray)[t]? = (l.flatMap enc)[t]? from by simp, flatMap_at enc k hk0 hk]
  by_cases ht : t < l.length * k
  · have hd : t / k < l.length := (Nat.div_lt_iff_lt_mul hk0).2 ht
    have hm := Nat.mod_lt t hk0
    have h1 := get_flatK enc k l.toArray t (by simpa using ht)
    rw [getElem!_pos (flatK enc k l.toArray) t (by simpa using ht)] at h1
    rw [Array.getElem?_eq_getElem (by simpa using ht), h1, List.getElem?_eq_getElem hd]
    simp only [Option.bind_some]
    rw [getElem!_pos l.toArray (t / k) (by simpa using hd), List.getElem_toArray, getElem!_pos _ _ (by rw [hk]; exact hm), List.getElem?_eq_getElem (by rw [hk]; exact hm)]
  · have hd : l.length ≤ t / k := (Nat.le_div_iff_mul_le hk0).2 (by omega)
    rw [List.getElem?_eq_none hd, Array.getElem?_eq_none (by simp; omega)]; rfl

theorem sorted_list {α : Type} [Inhabited α] {lt : α → α → Bool} {d d' : Array α} (hp : PermIn 0 d.size d d') (hs : SortedIn lt 0 d.size d') : d'.toList.Perm d.toList ∧ d'.toList.Pairwise (fun a b => lt b a = false) ∧ d'.size = d.size := by
  obtain ⟨h1, h2, h3⟩ := hp
  refine ⟨by
    have h4 : (d'.extract 0 d.size) = d' := by rw [← h1]; simp
    rw [h4] at h3
    simpa using h3, ?_, h1⟩
  rw [List.pairwise_iff_getElem]
  intro i j hi hj hij
  have := hs i j (Nat.zero_le _) hij (by simpa [h1] using hj)
  simpa [getElem!_pos, show i < d'.size by simpa using hi, show j < d'.size by simpa using hj] using this

def hitC (x : Int × Nat) : List Value := [.int .i64 x.1, .int .i64 x.2]
def termC (x : Wd × Nat) : List Value := [.string ⟨x.1.toArray⟩, .int .i64 x.2]

theorem ltI (x y : Int) : ltOf Lib.compareInt x y = decide (x < y) := by
  unfold ltOf Lib.compareInt
  by_cases h1 : x < y
  · simp [h1]
  · by_cases h2 : y < x <;> simp [h1, h2]
theorem swoI : SWO (ltOf Lib.compareInt) where
  irrefl x := by rw [ltI]; simp
  trans x y z h1 h2 := by rw [ltI] at *; simp at *; omega
  ntrans x y z h1 h2 := by rw [ltI] at *; simp at *; omega
theorem ltH (x y : Int × Nat) : ltOf (fun x y : Int × Nat => Lib.compareInt x.1 y.1) x y = decide (x.1 < y.1) := ltI x.1 y.1
theorem swoH : SWO (ltOf fun x y : Int × Nat => Lib.compareInt x.1 y.1) where
  irrefl x := by rw [ltH]; simp
  trans x y z h1 h2 := by rw [ltH] at *; simp at *; omega
  ntrans x y z h1 h2 := by rw [ltH] at *; simp at *; omega
theorem ltS (x y : Wd) : ltOf cmpS x y = decide (x < y) := by
  unfold ltOf cmpS
  by_cases h1 : x < y
  · simp [h1]
  · by_cases h2 : y < x <;> simp [h1, h2]
theorem swoS : SWO (ltOf cmpS) where
  irrefl x := by rw [ltS]; simp [str_lt_irrefl]
  trans x y z h1 h2 := by rw [ltS] at *; simp only [decide_eq_true_eq] at *; exact List.lt_trans h1 h2
  ntrans x y z h1 h2 := by
    rw [ltS] at *
    simp only [decide_eq_false_iff_not, List.not_lt] at *
    exact List.le_trans h2 h1
theorem ltT (x y : Wd × Nat) : ltOf cmpT x y = decide (TLt x y) := by
  unfold ltOf cmpT orI Lib.compareInt cmpS TLt
  by_cases h1 : y.2 < x.2
  · simp [h1]
  · by_cases h2 : x.2 < y.2
    · simp [h1, h2]; omega
    · have h3 : x.2 = y.2 := by omega
      simp only [h3, Int.lt_irrefl, gt_iff_lt, ↓reduceIte, Nat.lt_irrefl, true_and, false_or]
      by_cases h4 : x.1 < y.1
      · simp [h4]
      · by_cases h5 : y.1 < x.1 <;> simp [h4, h5]
theorem swoT : SWO (ltOf cmpT) where
  irrefl x := by rw [ltT]; simpa using tlt_irrefl x
  trans x y z h1 h2 := by rw [ltT] at *; simp only [decide_eq_true_eq] at *; exact tlt_trans _ _ _ h1 h2
  ntrans x y z h1 h2 := by
    rw [ltT] at *
    simp only [decide_eq_false_iff_not] at *
    exact tle_trans _ _ _ h2 h1
end Go.Proofs.YtogjgibaolppfaaGreatDoor
/- 'append(v, src...)' where v is a row of the call's own and src whatever slice: nil, empty or not. No program in sight. -/
namespace Go.Proofs.YtogjgibaolppfaaGreatDoor
open Go.RowKit

/-- what a source of an append holds -/
def Src (w : World) (size : Nat) (A : Option Addr) (m : Nat) (news : List Value) : Prop :=
  news.length = m * size ∧ (A = none → m = 0) ∧ ∀ ad, A = some ad → ∀ j u, news[j]? = some u → w.cell? (ad.add j) = some u

section
variable {P : Program} (w : World)

theorem run_append_src (base : Nat) (t ty e : TypeId) (i : TypeInfo) (z : Value) (size bytes : Nat) (ht : P.underlying t = some (.slice e)) (hi : P.info? e = some i) (hz : i.zero = some z)
    (hsize : i.size = size) (hby : i.bytes = bytes) (hzs : z.cells.size = size) (hsz : 0 < size)
    (v : Value) (n : Nat) (xs : List Value) (hown : w.ownsRow base e size v n xs) (A : Option Addr) (m c : Nat) (news : List Value) (hs : Src w size A m news) (h1 : ∀ u ∈ news, u.oneCell' = true)
    (h63 : n + m ≤ maxLen) (hbytes : (n + m) * bytes ≤ 140737488355328) (hbase : base ≤ w.heap.size) :
    ∃ v' w', (Builtin.append_ #[t, t] ty #[v, .slice A m c]).run P w = .ok v' w' ∧ w'.ownsRow base e size v' (n + m) (xs ++ news) ∧ w.grownBy w' v.ownBlock := by
  obtain ⟨hl, h0, hc⟩ := hs
  cases A with
  | some ad =>
    obtain ⟨v', w', hr, h2, h3, _⟩ := run_append_own (P := P) w base t ty e i z size bytes ht hi hz hsize hby hzs hsz v n xs hown ad m c news hl (hc ad rfl) h1 h63 hbytes hbase
    exact ⟨v', w', hr, h2, h3⟩
  | none =>
    obtain rfl := h0 rfl
    obtain rfl : news = [] := List.eq_nil_of_length_eq_zero (by simpa using hl)
    refine ⟨v, w, ?_, by simpa using hown, ⟨rfl, rfl, rfl, Nat.le_refl _, fun _ _ _ => rfl⟩⟩
    rcases hown.2 with ⟨rfl, rfl⟩ | ⟨g, cap, cur, rfl, _, _, hnc, _⟩
    · simp [Builtin.append_, run_underlying ht, sizeOf, typeInfo, hi, Builtin.lenOf, Builtin.firstCells]
    · simp [Builtin.append_, run_underlying ht, sizeOf, typeInfo, hi, Builtin.lenOf, Builtin.firstCells, hnc, storeCells]

theorem wpList_append_src {ops : Array Oper} {rest : List Oper} {o : Oper} {a : Act} {Q : Exit → Act → World → Prop} (hgd : o.guard = none) (s x : Operand) (t : TypeId)
    (ho : o.op = .call { callee := .builtin .append, args := #[s, x], argTypes := #[t, t] })
    (base : Nat) (e : TypeId) (i : TypeInfo) (z : Value) (size bytes : Nat) (ht : P.underlying t = some (.slice e)) (hi : P.info? e = some i) (hz : i.zero = some z)
    (hsize : i.size = size) (hby : i.bytes = bytes) (hzs : z.cells.size = size) (hsz : 0 < size)
    (v : Value) (n : Nat) (xs : List Value) (hs : a.eval s = v) (hown : w.ownsRow base e size v n xs)
    (A : Option Addr) (m c : Nat) (news : List Value) (hx : a.eval x = .slice A m c) (hr : Src w size A m news) (h1 : ∀ u ∈ news, u.oneCell' = true)
    (h63 : n + m ≤ maxLen) (hbytes : (n + m) * bytes ≤ 140737488355328) (hbase : base ≤ w.heap.size)
    (h : ∀ v' w', w'.ownsRow base e size v' (n + m) (xs ++ news) → w.grownBy w' v.ownBlock → wpList P ops Q rest (a.put o.dst v') w') : wpList P ops Q (o :: rest) a w :=
  wpList_plain hgd fun _ hK => by
    obtain ⟨v', w', hrun, h2, h3⟩ := run_append_src (P := P) w base t o.type e i z size bytes ht hi hz hsize hby hzs hsz v n xs hown A m c news hr h1 h63 hbytes hbase
    unfold Oper.wp execOp
    simp only [ho, resolve, invoke, builtin, Sem.run_bind, Sem.run_pure, Result.andThen_ok, List.map_toArray, List.map_cons, List.map_nil, hs, hx, hrun]
    exact hK _ _ (h v' w' h2 h3)
end
end Go.Proofs.YtogjgibaolppfaaGreatDoor

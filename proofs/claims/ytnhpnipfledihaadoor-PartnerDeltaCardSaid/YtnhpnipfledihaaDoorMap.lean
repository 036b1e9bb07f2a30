/- The two maps of a partner: map[int]int and map[int]string, as functions. -/
import Derived.Test.YtnhpnipfledihaaDoorProg
import Derived.WalkKit
import Derived.Maps.OwnSet
import Derived.Maps.StringElems
import Derived.Lib.Hide
namespace Go.Proofs.YtnhpnipfledihaaDoor
open Go.RowKit Go.Maps

def IMap (b n : Nat) (f : Int → Int) (w : World) : Prop :=
  ∃ D : DataW Unit, w.ownsMap Tryd.prog 3 (plainElem Tryd.prog 3) b n D ∧ ∀ i : Int, D.atKey (.int .i64 i) (.lit (.int .i64 0)) = .lit (.int .i64 (f i))

def SMap (b n : Nat) (f : Int → Option (List UInt8)) (w : World) : Prop :=
  ∃ D : DataW Unit, w.ownsMap Tryd.prog 3 (plainElem Tryd.prog 9) b n D ∧ ∀ i : Int, has D (.int .i64 i) = (f i).isSome ∧ D.atKey (.int .i64 i) (.lit (.string [])) = .lit (.string ((f i).getD []))

theorem intKeys : Keyed Tryd.prog 3 := int_keyed Tryd.underlying3
theorem intKey {i : Int} (h1 : -9223372036854775808 ≤ i) (h2 : i ≤ 9223372036854775807) : keyOf Tryd.prog 3 (.int .i64 i) = some (.int .i64 i) := keyOf_int_mk Tryd.underlying3 (WalkArith.wf_i64 (by omega))

theorem imap_new (w : World) : IMap w.heap.size 0 (fun _ => 0) (w.alloc (.map #[] 0)) := ⟨.map [], World.ownsMap_made _ _ _ _, fun _ => rfl⟩
theorem smap_new (w : World) : SMap w.heap.size 0 (fun _ => none) (w.alloc (.map #[] 0)) := ⟨.map [], World.ownsMap_made _ _ _ _, fun _ => ⟨rfl, rfl⟩⟩

theorem IMap.lt {b n : Nat} {f : Int → Int} {w : World} (h : IMap b n f w) : b < w.heap.size := by obtain ⟨D, hD, _⟩ := h; exact hD.lt
theorem SMap.lt {b n : Nat} {f : Int → Option (List UInt8)} {w : World} (h : SMap b n f w) : b < w.heap.size := by obtain ⟨D, hD, _⟩ := h; exact hD.lt

theorem IMap.kept {b n : Nat} {f : Int → Int} {w w' : World} (h : IMap b n f w) (hk : w'.heap[b]? = w.heap[b]?) : IMap b n f w' := by
  obtain ⟨D, ⟨es, clock, hb, r⟩, hf⟩ := h
  exact ⟨D, ⟨es, clock, hk.trans hb, r⟩, hf⟩
theorem SMap.kept {b n : Nat} {f : Int → Option (List UInt8)} {w w' : World} (h : SMap b n f w) (hk : w'.heap[b]? = w.heap[b]?) : SMap b n f w' := by
  obtain ⟨D, ⟨es, clock, hb, r⟩, hf⟩ := h
  exact ⟨D, ⟨es, clock, hk.trans hb, r⟩, hf⟩

set_option maxRecDepth 100000 in
theorem IMap.get {b n : Nat} {f : Int → Int} {w : World} (h : IMap b n f w) {i : Int} (h1 : -9223372036854775808 ≤ i) (h2 : i ≤ 9223372036854775807) :
    (Instr.lookup 68 (.map (some b)) (.int .i64 i) false).run Tryd.prog w = .ok (.int .i64 (f i)) w := by
  obtain ⟨D, hD, hf⟩ := h
  obtain ⟨c, hrun, hat, _⟩ := hD.lookup_int intKeys Tryd.underlying68 Tryd.underlying3 (Tryd.zeroValue3 w) (intKey h1 h2)
  rw [hf i] at hat
  have : f i = c := by injection hat with hat; injection hat
  rw [this]; exact hrun

set_option maxRecDepth 100000 in
theorem IMap.put {b n : Nat} {f : Int → Int} {w : World} (h : IMap b n f w) (hn : n < maxLen) {i v : Int} (h1 : -9223372036854775808 ≤ i) (h2 : i ≤ 9223372036854775807) (h3 : -9223372036854775808 ≤ v) (h4 : v ≤ 9223372036854775807) :
    ∃ w', (Instr.mapUpdate 68 (.map (some b)) (.int .i64 i) (.int .i64 v)).run Tryd.prog w = .ok () w' ∧ IMap b (n + 1) (fun j => if j = i then v else f j) w' ∧ w.grownBy w' (some b) := by
  obtain ⟨D, hD, hf⟩ := h
  obtain ⟨w', hrun, ho, hg⟩ := hD.update intKeys Tryd.underlying68 hn (intKey h1 h2) (plainElem_int (a := v) Tryd.underlying3 (WalkArith.wf_i64 ⟨h3, h4⟩))
  refine ⟨w', hrun, ⟨_, ho, fun j => ?_⟩, hg⟩
  by_cases hj : j = i
  · subst hj
    simp only [↓reduceIte]
    exact atKey_put_same hD.isMap (intKeys.key (intKey h1 h2)) _ _
  · simp only [if_neg hj]
    rw [atKey_put_other (by simpa using hj)]
    exact hf j

set_option maxRecDepth 100000 in
theorem SMap.get {b n : Nat} {f : Int → Option (List UInt8)} {w : World} (h : SMap b n f w) {i : Int} (h1 : -9223372036854775808 ≤ i) (h2 : i ≤ 9223372036854775807) :
    (Instr.lookup 69 (.map (some b)) (.int .i64 i) false).run Tryd.prog w = .ok (.string ⟨((f i).getD []).toArray⟩) w := by
  obtain ⟨D, hD, hf⟩ := h
  obtain ⟨v, ps, hrun, hv⟩ := hD.lookup intKeys Tryd.underlying69 (Tryd.zeroValue9 w) (plainElem_string (s := ByteArray.empty) Tryd.underlying9 (by decide)) (intKey h1 h2)
  obtain ⟨s, rfl, he, _⟩ := plainElem_string_inv Tryd.underlying9 hv
  have hx := congrArg Prod.fst he
  have : s = ⟨((f i).getD []).toArray⟩ := by
    have h3 : (DataW.lit (.string s.data.toList) : DataW Unit) = .lit (.string ((f i).getD [])) := hx.symm.trans (hf i).2
    injection h3 with h3
    injection h3 with h3
    apply ByteArray.ext
    rw [← h3]
  rw [← this]; exact hrun

set_option maxRecDepth 100000 in
theorem SMap.get_ok {b n : Nat} {f : Int → Option (List UInt8)} {w : World} (h : SMap b n f w) {i : Int} (h1 : -9223372036854775808 ≤ i) (h2 : i ≤ 9223372036854775807) :
    (Instr.lookup 69 (.map (some b)) (.int .i64 i) true).run Tryd.prog w = .ok (.tuple #[.string ⟨((f i).getD []).toArray⟩, .bool (f i).isSome]) w := by
  obtain ⟨D, hD, hf⟩ := h
  obtain ⟨v, ps, hrun, hv⟩ := hD.look_ok intKeys Tryd.underlying69 (Tryd.zeroValue9 w) (plainElem_string (s := ByteArray.empty) Tryd.underlying9 (by decide)) (intKey h1 h2)
  obtain ⟨s, rfl, he, _⟩ := plainElem_string_inv Tryd.underlying9 hv
  have hx := congrArg Prod.fst he
  have : s = ⟨((f i).getD []).toArray⟩ := by
    have h3 : (DataW.lit (.string s.data.toList) : DataW Unit) = .lit (.string ((f i).getD [])) := hx.symm.trans (hf i).2
    injection h3 with h3
    injection h3 with h3
    apply ByteArray.ext
    rw [← h3]
  rw [← this, ← (hf i).1]; exact hrun

set_option maxRecDepth 100000 in
theorem SMap.put {b n : Nat} {f : Int → Option (List UInt8)} {w : World} (h : SMap b n f w) (hn : n < maxLen) {i : Int} {x : List UInt8} (h1 : -9223372036854775808 ≤ i) (h2 : i ≤ 9223372036854775807) (hx : x.length ≤ maxLen) :
    ∃ w', (Instr.mapUpdate 69 (.map (some b)) (.int .i64 i) (.string ⟨x.toArray⟩)).run Tryd.prog w = .ok () w' ∧ SMap b (n + 1) (fun j => if j = i then some x else f j) w' ∧ w.grownBy w' (some b) := by
  obtain ⟨D, hD, hf⟩ := h
  obtain ⟨w', hrun, ho, hg⟩ := hD.update intKeys Tryd.underlying69 hn (intKey h1 h2) (plainElem_string (s := ⟨x.toArray⟩) Tryd.underlying9 (by simpa [ByteArray.size] using hx))
  refine ⟨w', hrun, ⟨_, ho, fun j => ?_⟩, hg⟩
  by_cases hj : j = i
  · subst hj
    simp only [↓reduceIte]
    exact ⟨has_put_same hD.isMap (intKeys.key (intKey h1 h2)) _, by rw [atKey_put_same hD.isMap (intKeys.key (intKey h1 h2))]; rfl⟩
  · simp only [if_neg hj]
    rw [atKey_put_other (by simpa using hj), has_put_other (by simpa using hj)]
    exact hf j

set_option maxRecDepth 100000 in
theorem SMap.del {b n : Nat} {f : Int → Option (List UInt8)} {w : World} (h : SMap b n f w) {i : Int} (h1 : -9223372036854775808 ≤ i) (h2 : i ≤ 9223372036854775807) (ty : TypeId) :
    ∃ w', (Builtin.delete_ #[69, 3] ty #[.map (some b), .int .i64 i]).run Tryd.prog w = .ok (.tuple #[]) w' ∧ SMap b n (fun j => if j = i then none else f j) w' ∧ w.grownBy w' (some b) := by
  obtain ⟨D, hD, hf⟩ := h
  obtain ⟨w', hrun, ho, hg⟩ := hD.drop intKeys Tryd.underlying69 (intKey h1 h2) ty
  refine ⟨w', hrun, ⟨_, ho, fun j => ?_⟩, hg.grown⟩
  by_cases hj : j = i
  · subst hj
    simp only [↓reduceIte]
    exact ⟨has_del_same, by rw [atKey_del_same]; rfl⟩
  · simp only [if_neg hj]
    rw [atKey_del_other (by simpa using hj), has_del_other (by simpa using hj)]
    exact hf j
end Go.Proofs.YtnhpnipfledihaaDoor

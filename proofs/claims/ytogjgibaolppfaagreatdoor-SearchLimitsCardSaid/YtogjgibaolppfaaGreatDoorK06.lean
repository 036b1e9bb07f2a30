/- Facts and contracts for the laws of the sender, part 6. Conditions: those that each theorem names. -/
import Derived.Test.YtogjgibaolppfaaGreatDoorK03
import Derived.Test.YtogjgibaolppfaaGreatDoorK05
import Derived.Test.YtogjgibaolppfaaGreatDoorK04
import Derived.Laws.AppendOwn
import Derived.OwnWalk
import Derived.Deep.AppendLies
import Derived.Deep.QuietTactic
/- The reference's index: its documents in memory; Remove, All. The reference's Remove and All. -/
namespace Go.Proofs.YtogjgibaolppfaaGreatDoor
open Go.RowKit Go.Sort Go.Proofs Go.Maps

/-- a document, and the value of its slice of words -/
abbrev Pd := Dc × Value
def pdC (p : Pd) : List Value := [.int .i64 p.1.1, p.2]
theorem infoDoc : (Tryz.prog.info? 120).map (fun i => (i.zero, i.size, i.bytes)) = some (some (.agg #[.int .i64 0, .slice none 0 0]), 2, 32) := by kernel_rfl
theorem pdC_len (l : List Pd) : (l.flatMap pdC).length = l.length * 2 := by
  induction l with
  | nil => rfl
  | cons x l ih => rw [List.flatMap_cons, List.length_append, ih]; simp [pdC]; omega

/-- a slice of strings that lies in a block of T -/
def StrsT (T : Nat → Prop) (w : World) (u : Value) (l : List Wd) : Prop :=
  ∃ a c, u = .slice a l.length c ∧ l.length ≤ c ∧ l.length ≤ 1000 ∧ ∀ j (h : j < l.length), ∃ b off, a = some ⟨b, off, none⟩ ∧ T b ∧ w.cell? ⟨b, off + j, none⟩ = some (encW l[j])
def PdsT (T : Nat → Prop) (w : World) (v : Value) (P : List Pd) : Prop :=
  ∃ a c, v = .slice a P.length c ∧ P.length ≤ c ∧ c ≤ 9223372036854775807 ∧ ∀ j (h : j < P.length), ∃ b off, a = some ⟨b, off, none⟩ ∧ T b ∧ w.cell? ⟨b, off + j * 2, none⟩ = some (.int .i64 P[j].1.1) ∧ w.cell? ⟨b, off + j * 2 + 1, none⟩ = some P[j].2
theorem cell_same {w w' : World} {b o : Nat} {v : Value} (h : w'.heap[b]? = w.heap[b]?) (k : w.cell? ⟨b, o, none⟩ = some v) : w'.cell? ⟨b, o, none⟩ = some v := by
  rw [← k]; exact World.cell?_of_block (a := ⟨b, o, none⟩) h
theorem StrsT.kept {T : Nat → Prop} {w w' : World} {u : Value} {l : List Wd} (h : StrsT T w u l) (hk : ∀ k, T k → w'.heap[k]? = w.heap[k]?) : StrsT T w' u l := by
  obtain ⟨a, c, h1, h2, h3, h4⟩ := h
  refine ⟨a, c, h1, h2, h3, fun j hj => ?_⟩
  obtain ⟨b, off, k1, k2, k3⟩ := h4 j hj
  exact ⟨b, off, k1, k2, cell_same (hk b k2) k3⟩
theorem StrsT.more {T U : Nat → Prop} {w : World} {u : Value} {l : List Wd} (h : StrsT T w u l) (hk : ∀ k, T k → U k) : StrsT U w u l := by
  obtain ⟨a, c, h1, h2, h3, h4⟩ := h
  refine ⟨a, c, h1, h2, h3, fun j hj => ?_⟩
  obtain ⟨b, off, k1, k2, k3⟩ := h4 j hj
  exact ⟨b, off, k1, hk b k2, k3⟩
theorem StrsT.at {T : Nat → Prop} {w : World} {u : Value} {l : List Wd} (h : StrsT T w u l) : StrsAt w u l := by
  obtain ⟨a, c, h1, h2, h3, h4⟩ := h
  refine ⟨a, c, h1, h2, by omega, fun j hj => ?_⟩
  obtain ⟨b, off, k1, k2, k3⟩ := h4 j hj
  exact ⟨b, off, k1, k3⟩
theorem PdsT.kept {T : Nat → Prop} {w w' : World} {u : Value} {l : List Pd} (h : PdsT T w u l) (hk : ∀ k, T k → w'.heap[k]? = w.heap[k]?) : PdsT T w' u l := by
  obtain ⟨a, c, h1, h2, h3, h4⟩ := h
  refine ⟨a, c, h1, h2, h3, fun j hj => ?_⟩
  obtain ⟨b, off, k1, k2, k3, k4⟩ := h4 j hj
  exact ⟨b, off, k1, k2, cell_same (hk b k2) k3, cell_same (hk b k2) k4⟩

/-- the reference's index at block y; T: the other blocks that it reads -/
structure RefAt (T : Nat → Prop) (w : World) (y : Nat) (D : List Dc) : Prop where
  len : D.length ≤ 256
  small : ∀ d ∈ D, d.2.length ≤ 1000
  lt : ∀ k, T k → k < w.heap.size
  ylt : y < w.heap.size
  out : ¬ T y
  parts : ∃ v P, D = P.map (·.1) ∧ w.heap[y]? = some (.cells #[v] 79 (0, 0)) ∧ PdsT T w v P ∧ ∀ p ∈ P, StrsT T w p.2 p.1.2
theorem RefAt.kept {T : Nat → Prop} {w w' : World} {y : Nat} {D : List Dc} (h : RefAt T w y D) (hs : w.heap.size ≤ w'.heap.size) (hk : ∀ k, T k ∨ k = y → w'.heap[k]? = w.heap[k]?) : RefAt T w' y D := by
  obtain ⟨v, P, h1, h2, h3, h4⟩ := h.parts
  exact ⟨h.len, h.small, fun k hT => Nat.lt_of_lt_of_le (h.lt k hT) hs, Nat.lt_of_lt_of_le h.ylt hs, h.out, v, P, h1, (hk y (.inr rfl)).trans h2, h3.kept fun k hT => hk k (.inl hT), fun p hp => (h4 p hp).kept fun k hT => hk k (.inl hT)⟩
theorem RefAt.below {T : Nat → Prop} {w w' : World} {y : Nat} {D : List Dc} (h : RefAt T w y D) (hb : Below w.heap.size w w') : RefAt T w' y D := h.kept hb.size fun k hT => hb.block k (by
  rcases hT with h1 | h1
  · exact h.lt k h1
  · rw [h1]; exact h.ylt)

/-- rows of documents that the call made -/
def PdR (base : Nat) (w : World) (v : Value) (P : List Pd) : Prop := w.ownsRow base 120 2 v P.length (P.flatMap pdC)
theorem PdR.kept {base : Nat} {w w' : World} {v : Value} {P : List Pd} (h : PdR base w v P) (hb : Below w.heap.size w w') : PdR base w' v P :=
  World.ownsRow.kept (row := none) h ⟨hb.os, hb.tape, hb.output, hb.size, fun k hk _ => hb.block k hk⟩ (by cases v.ownBlock <;> simp)
theorem pdsT_of_row {T : Nat → Prop} {base : Nat} {w : World} {v : Value} {P : List Pd} (h : PdR base w v P) (hT : ∀ k, base ≤ k → k < w.heap.size → T k) : PdsT T w v P := by
  have hlt := h.lt
  unfold PdR at h
  rcases h.2 with ⟨rfl, h0⟩ | ⟨g, cap, cur, rfl, _, hg, hc, hm, _⟩
  · exact ⟨none, 0, by rw [h0], by omega, by omega, fun j hj => by omega⟩
  · refine ⟨some ⟨g, 0, none⟩, cap, rfl, hc, hm, fun j hj => ⟨g, 0, rfl, ?_⟩⟩
    have hcells : ∀ i u, (P.flatMap pdC)[i]? = some u → w.cell? ((⟨g, 0, none⟩ : Addr).add i) = some u := h.cells rfl
    have hat : ∀ c (hc : c < 2), (P.flatMap pdC)[j * 2 + c]? = (pdC P[j])[c]? := fun c hc => by
      rw [flatMap_at pdC 2 (by decide) (fun _ => rfl), show (j * 2 + c) / 2 = j by omega, show (j * 2 + c) % 2 = c by omega, List.getElem?_eq_getElem hj]; rfl
    have ha : ∀ i, (⟨g, 0, none⟩ : Addr).add i = ⟨g, 0 + i, none⟩ := fun i => by unfold Addr.add; by_cases h0 : i = 0 <;> simp [h0]
    have hgl := hlt g rfl
    refine ⟨hT g hgl.1 hgl.2, ?_, ?_⟩
    · rw [← ha]; exact hcells _ _ (hat 0 (by decide))
    · rw [Nat.add_assoc, ← ha]; exact hcells _ _ (hat 1 (by decide))

/-- what is left of the documents -/
def remP (P : List Pd) (id : Int) : List Pd := P.filter fun p => decide (p.1.1 ≠ id)
theorem remP_map (P : List Pd) (id : Int) : (remP P id).map (·.1) = remD (P.map (·.1)) id := by
  unfold remP remD
  rw [List.filter_map]; rfl
/-- behind a store of a new row into the index -/
theorem RefAt.stored {T : Nat → Prop} {w0 w : World} {y : Nat} {D E : List Dc} (h : RefAt T w0 y D) (hb : Below w0.heap.size w0 w) {v : Value} {P : List Pd} (hr : PdR w0.heap.size w v P) (hE : E = P.map (·.1)) (hl : E.length ≤ 256) (hs : ∀ d ∈ E, d.2.length ≤ 1000)
    (hP : ∀ p ∈ P, StrsT (fun k => T k ∨ (w0.heap.size ≤ k ∧ k < w.heap.size)) w p.2 p.1.2) :
    RefAt (fun k => T k ∨ (w0.heap.size ≤ k ∧ k < w.heap.size)) (w.setCell ⟨y, 0, none⟩ v) y E ∧ But (fun k => k = y) w0.heap.size w0 (w.setCell ⟨y, 0, none⟩ v) := by
  have hy := h.ylt
  have hyw : w.heap[y]? = w0.heap[y]? := hb.block y hy
  obtain ⟨v0, P0, -, h2, -, -⟩ := h.parts
  have hblk : ∀ k, k ≠ y → (w.setCell ⟨y, 0, none⟩ v).heap[k]? = w.heap[k]? := fun k hk => Below.heap_setCell w ⟨y, 0, none⟩ v k hk
  have hsz : (w.setCell ⟨y, 0, none⟩ v).heap.size = w.heap.size := by simp
  have hcy : (w.setCell ⟨y, 0, none⟩ v).heap[y]? = some (.cells #[v] 79 (0, 0)) := by
    simp [World.setCell, Array.getElem?_modify, hyw, h2]
  have hlen : P.length ≤ 256 := by rw [hE, List.length_map] at hl; exact hl
  have hne : ∀ k, (T k ∨ (w0.heap.size ≤ k ∧ k < w.heap.size)) → k ≠ y := fun k hk e => by
    subst e
    rcases hk with hk | hk
    · exact h.out hk
    · omega
  refine ⟨⟨hl, hs, fun k hk => ?_, ?_, fun hk => hne y hk rfl, v, P, hE, hcy, ?_, fun p hp => (hP p hp).kept fun k hk => hblk k (hne k hk)⟩, ?_⟩
  · rw [hsz]
    rcases hk with hk | hk
    · exact Nat.lt_of_lt_of_le (h.lt k hk) hb.size
    · exact hk.2
  · rw [hsz]; exact Nat.lt_of_lt_of_le hy hb.size
  · exact (pdsT_of_row hr fun k h1 h2 => .inr ⟨h1, h2⟩).kept fun k hk => hblk k (hne k hk)
  · exact ⟨hb.os, hb.tape, hb.output, by rw [hsz]; exact hb.size, fun k hk hs => (hblk k hs).trans (hb.block k hk)⟩

theorem row_form {base : Nat} {w : World} {e : TypeId} {size : Nat} {v : Value} {n : Nat} {xs : List Value} (h : w.ownsRow base e size v n xs) : ∃ a c, v = .slice a n c := by
  rcases h.2 with ⟨rfl, rfl⟩ | ⟨g, cap, cur, rfl, _⟩
  · exact ⟨_, _, rfl⟩
  · exact ⟨_, _, rfl⟩
theorem row_stay {w w' : World} {base : Nat} {v : Value} {n : Nat} {xs : List Value} {e : TypeId} {size : Nat} (h : w.ownsRow base e size v n xs) (hk : ∀ j, v.ownBlock = some j → w'.heap[j]? = w.heap[j]?) : w'.ownsRow base e size v n xs := by
  refine ⟨h.1, ?_⟩
  rcases h.2 with h0 | ⟨g, cap, cur, rfl, hb, hg, r⟩
  · exact .inl h0
  · exact .inr ⟨g, cap, cur, rfl, hb, (hk g rfl).trans hg, r⟩
theorem rows_apart {w : World} {b1 b2 : Nat} {e1 e2 : TypeId} {s1 s2 : Nat} {v1 v2 : Value} {n1 n2 : Nat} {x1 x2 : List Value} (h1 : w.ownsRow b1 e1 s1 v1 n1 x1) (h2 : w.ownsRow b2 e2 s2 v2 n2 x2) (he : e1 ≠ e2) {j : Nat} (k1 : v1.ownBlock = some j) (k2 : v2.ownBlock = some j) : False := by
  rcases h1.2 with ⟨rfl, _⟩ | ⟨g, cap, cur, rfl, _, hg, _⟩
  · cases k1
  · rcases h2.2 with ⟨rfl, _⟩ | ⟨g', cap', cur', rfl, _, hg', _⟩
    · cases k2
    · have a1 : g = j := by simpa [Value.ownBlock] using k1
      have a2 : g' = j := by simpa [Value.ownBlock] using k2
      subst a1; subst a2
      rw [hg] at hg'
      injection hg' with hg'
      injection hg' with _ h _
      exact he h
/-- a row that is not the one appended to stays -/
theorem row_grown {w w' : World} {b1 b2 : Nat} {e1 e2 : TypeId} {s1 s2 : Nat} {v1 v2 : Value} {n1 n2 : Nat} {x1 x2 : List Value} (h1 : w.ownsRow b1 e1 s1 v1 n1 x1) (h2 : w.ownsRow b2 e2 s2 v2 n2 x2) (he : e1 ≠ e2) (hg : w.grownBy w' v2.ownBlock) : w'.ownsRow b1 e1 s1 v1 n1 x1 :=
  row_stay h1 fun j hj => hg.block j (h1.lt j hj).2 fun e => rows_apart h1 h2 he hj e.symm
theorem remP_len (P : List Pd) (id : Int) : (remP P id).length ≤ P.length := List.length_filter_le _ _
set_option maxRecDepth 100000 in
set_option maxHeartbeats 4000000 in
theorem refRemove_any {T : Nat → Prop} {y : Nat} {D : List Dc} (w : World) (h : RefAt T w y D) (id : Int) :
    Calls Tryz.prog 77 #[.pointer (some ⟨y, 0, none⟩), .int .i64 id] w fun e w' => e = .returned (.tuple #[]) ∧ ∃ T' : Nat → Prop, RefAt T' w' y (remD D id) ∧ But (fun k => k = y) w.heap.size w w' ∧ ∀ k, T' k → T k ∨ w.heap.size ≤ k := by
  obtain ⟨i0, hi, hz0, hz1, hz2⟩ := info_parts infoDoc
  have hlen := h.len
  obtain ⟨v, P, hD, hy, hv, hP⟩ := h.parts
  have HH := Lib.hid h
  have hpl : P.length ≤ 256 := by rw [hD, List.length_map] at hlen; exact hlen
  obtain ⟨a, c, rfl, hle, hcm, hc⟩ := hv
  have cy : w.cell? ⟨y, 0, none⟩ = some (.slice a P.length c) := by rw [Lib.cell_of_heap hy]; rfl
  have cfy : w.frozen? ⟨y, 0, none⟩ = false := Lib.frozen_of_heap hy 0
  have HFin : Hid (∀ w1 u, Below w.heap.size w w1 → PdR w.heap.size w1 u (remP P id) → ∃ T' : Nat → Prop, RefAt T' (w1.setCell ⟨y, 0, none⟩ u) y (remD D id) ∧ But (fun k => k = y) w.heap.size w (w1.setCell ⟨y, 0, none⟩ u) ∧ ∀ k, T' k → T k ∨ w.heap.size ≤ k) := Lib.hid (fun w1 u hb hr => by
    have h1 := h.stored hb hr (E := remD D id) (by rw [hD, remP_map]) (Nat.le_trans (List.length_filter_le _ _) hlen) (fun d hd => h.small d (mem_rem.1 hd).1) (fun p hp => ((hP p (List.mem_filter.1 hp).1).kept fun k hT => hb.block k (h.lt k hT)).more fun k hk => .inl hk)
    exact ⟨_, h1.1, h1.2, fun k hk => hk.imp (fun h => h) fun h => h.1⟩)
  have HC := Lib.hid hc; have HPs := Lib.hid hP
  have hyl := h.ylt
  clear h hD hy hc hP hlen
  go_enter Tryz.func77, Tryz.ntmps77
  go_wp2
  go_loopw [4, 5] (fun u i wr => ∃ k : Nat, i = .int .i64 k ∧ k ≤ P.length ∧ Hid (PdR w.heap.size wr u (remP (P.take k) id)) ∧ Hid (Below w.heap.size w wr)) (fun _ i _ => P.length - (intOf i).toNat)
  case atStart => exact ⟨0, rfl, by omega, Lib.hid ⟨rfl, .inl ⟨rfl, rfl⟩⟩, Lib.hid (Below.refl _ _)⟩
  case round =>
    obtain ⟨k, rfl, hk, HO, HB⟩ := hrel
    have hbs := HB.out.size
    have cyr : wr.cell? ⟨y, 0, none⟩ = some (.slice a P.length c) := cell_same (HB.out.block y hyl) cy
    have cfr : wr.frozen? ⟨y, 0, none⟩ = false := by rw [← cfy]; exact World.frozen?_of_block (a := ⟨y, 0, none⟩) (HB.out.block y hyl)
    by_cases hkl : k < P.length
    · have hki : (k : Int) < (P.length : Int) := by omega
      obtain ⟨b, off, rfl, hT, k1, k2⟩ := HC.out k hkl
      have hbl := World.block_lt_of_cell? w _ k1
      have c1 : wr.cell? ⟨b, off + k * 2, none⟩ = some (.int .i64 P[k].1.1) := cell_same (HB.out.block b hbl) k1
      have c2 : wr.cell? ⟨b, off + k * 2 + 1, none⟩ = some P[k].2 := cell_same (HB.out.block b hbl) k2
      have HT := Lib.hid (List.take_succ_eq_append_getElem hkl)
      obtain ⟨au, cu, hu, -⟩ := HPs.out P[k] (List.getElem_mem hkl)
      obtain ⟨⟨⟨i1, ws⟩, u0⟩, hx⟩ : ∃ z, P[k] = z := ⟨_, rfl⟩
      rw [hx] at c1 c2 HT hu
      simp only at c1 c2 hu
      subst hu
      clear k1 k2 hx
      have hml2 : (remP (P.take k) id).length ≤ 256 := by
        have := remP_len (P.take k) id
        rw [List.length_take] at this
        omega
      by_cases hid : i1 = id
      · have g1 : (i1 != id) = false := by simpa using hid
        have HM' : Hid (PdR w.heap.size wr u4 (remP (P.take (k + 1)) id)) := Lib.hid (by
          have : remP (P.take (k + 1)) id = remP (P.take k) id := by rw [HT.out]; unfold remP; rw [List.filter_append]; simp [hid]
          rw [this]
          exact HO.out)
        clear hid HO
        go_wp2
        go_roundw
        case rel => exact ⟨k + 1, by go_num, by omega, HM', HB⟩
        case measure => simp [intOf]; omega
      · have g1 : (i1 != id) = true := by simpa using hid
        have HSU : Hid (remP (P.take k) id ++ [((i1, ws), .slice au ws.length cu)] = remP (P.take (k + 1)) id) := Lib.hid (by rw [HT.out]; unfold remP; rw [List.filter_append]; simp [hid])
        obtain ⟨M, hM⟩ : ∃ M, remP (P.take k) id = M := ⟨_, rfl⟩
        rw [hM] at HO HSU hml2
        have hrow : wr.ownsRow w.heap.size 120 2 u4 M.length (M.flatMap pdC) := HO.out
        clear hid hM HO
        go_wp2_with (at_builtin; refine wpList_append_own _ rfl _ _ 77 rfl w.heap.size 120 i0 _ 2 32 Tryz.underlying77 hi hz0 hz1 hz2 rfl (by decide) _ _ _ rfl (hrow.alloc _) ⟨wr.heap.size, 0, none⟩ 1 1 (pdC ((i1, ws), .slice au ws.length cu)) rfl rfl (World.news_of_block (cs := (pdC ((i1, ws), .slice au ws.length cu)).toArray) (t := 120) (fr := (0, 0)) (heap_alloc_new wr _)) (by simp [Value.oneCell', pdC]) ?c3 ?c4 ?c5 ?_)
        case c3 => unfold maxLen; omega
        case c4 => omega
        case c5 => first | omega | (simp; omega)
        intro v' w2 ho2 hg2 _
        have HO2 : Hid (PdR w.heap.size w2 v' (remP (P.take (k + 1)) id)) := Lib.hid (by
          rw [← HSU.out]
          unfold PdR
          simpa [List.flatMap_append] using ho2)
        have HB2 : Hid (Below w.heap.size w w2) := Lib.hid ((HB.out.alloc hbs _).grown hg2 (by simp; omega) (fun j e => (hrow.lt j e).1))
        clear ho2 hg2
        go_wp2
        go_roundw
        case rel => exact ⟨k + 1, by go_num, by omega, HO2, HB2⟩
        case measure => simp [intOf]; omega
    · have HO9 : Hid (PdR w.heap.size wr u4 (remP P id)) := Lib.hid (by rw [List.take_of_length_le (by omega)] at HO; exact HO.out)
      obtain ⟨ar, cr, rfl⟩ := row_form HO9.out
      clear HO
      go_wp2
      go_end0
      exact ⟨rfl, HFin.out _ _ HB.out HO9.out⟩

end Go.Proofs.YtogjgibaolppfaaGreatDoor

/- The walk of one law of the sender. Conditions: those that each theorem names. -/
import Derived.Test.YtefloieanpgnmaaDoorK34
import Derived.Test.YtefloieanpgnmaaDoorK27
import Derived.Test.YtefloieanpgnmaaDoorK35
import Derived.Maps.AppendAt
import Derived.Great.BuildSlice
import Derived.OwnWalk
import Derived.Deep.DeepCutAuto
import Derived.Deep.CutBlock
import Derived.IntWalk
/- SenderNumbers: what the law's steps keep. -/
namespace Go.Proofs.YtefloieanpgnmaaDoor
open Go.RowKit

/-- a row of colour c -/
structure Ow (w0 : World) (col : Nat → Nat) (c : Nat) (w : World) (e : TypeId) (size : Nat) (v : Value) (n : Nat) (xs : List Value) : Prop where
  row : w.ownsRow 0 e size v n xs
  own : ∀ j, v.ownBlock = some j → col j = c
  low : ∀ k, col k = c → w0.heap.size ≤ k
section
variable {w0 : World} {col col' : Nat → Nat} {c : Nat} {w w' : World} {e : TypeId} {size n : Nat} {v : Value} {xs : List Value}
theorem Ow.lt (h : Ow w0 col c w e size v n xs) : ∀ j, v.ownBlock = some j → j < w.heap.size := fun j hj => (h.row.lt j hj).2
theorem Ow.below (h : Ow w0 col c w e size v n xs) (hb : Below w.heap.size w w') : Ow w0 col c w' e size v n xs := ⟨own_keep h.row fun j hj => hb.block j (h.lt j hj), h.own, h.low⟩
theorem Ow.fr {c2 : Nat} (h : Ow w0 col c w e size v n xs) (f : Fr w0 c2 col col' w w') (hcl : Cl col w) (hc : c ≠ c2) (h0 : c ≠ 0) : Ow w0 col' c w' e size v n xs := by
  refine ⟨own_keep h.row fun j hj => f.but.block j (h.lt j hj) (by rw [h.own j hj]; exact hc), fun j hj => (f.same j (h.lt j hj)).trans (h.own j hj), fun k hk => ?_⟩
  have e := col_set f hcl hc h0
  exact h.low k (by have := congrFun e k; rwa [← this])
/-- an append -/
theorem Ow.app (h : Ow w0 col c w e size v n xs) (_hcl : Cl col w) (h0 : c ≠ 0) (hw : w0.heap.size ≤ w.heap.size) {v' : Value} {n' : Nat} {xs' : List Value} (hr : w'.ownsRow 0 e size v' n' xs') (hg : w.grownBy w' v.ownBlock) (hat : v'.ownBlock = v.ownBlock ∨ v'.ownBlock = some w.heap.size) : ∃ col', Ow w0 col' c w' e size v' n' xs' ∧ Fr w0 c col col' w w' := by
  have hb : But (fun k => col k = c) w.heap.size w w' := ⟨hg.os, hg.tape, hg.output, hg.size, fun k hk hn => hg.block k hk fun e => hn (h.own k e.symm)⟩
  have hl : ∀ k, v'.ownBlock = some k → k < w'.heap.size := fun k hk => (hr.lt k hk).2
  have hU : ∀ k, v'.ownBlock = some k → col k = c ∨ w.heap.size ≤ k := fun k hk => by
    rcases hat with e | e
    · exact .inl (h.own k (by rw [← e]; exact hk))
    · rw [e] at hk; injection hk with hk; exact .inr (by omega)
  exact ⟨colN col w.heap.size c (fun k => v'.ownBlock = some k), ⟨hr, colN_of hU, colN_low0 h0 h.low hw⟩, colN_fr h0 h.low hw hb hl⟩
theorem Ow.form (h : Ow w0 col c w e size v n xs) : ∃ a cc, v = .slice a n cc ∧ n ≤ cc ∧ cc ≤ maxLen := by
  rcases h.row.2 with ⟨rfl, rfl⟩ | ⟨g, cap, cur, rfl, -, -, h1, h2, -⟩
  · exact ⟨none, 0, rfl, Nat.le_refl _, Nat.zero_le _⟩
  · exact ⟨_, cap, rfl, h1, h2⟩
/-- the cells of a row -/
theorem Ow.cell {a : Option Addr} {nn cc : Nat} (h : Ow w0 col c w e size (.slice a nn cc) n xs) (hn : 0 < n) : ∃ g, a = some ⟨g, 0, none⟩ ∧ nn = n ∧ n ≤ cc ∧ col g = c ∧ ∀ j u, xs[j]? = some u → w.cell? ⟨g, j, none⟩ = some u ∧ w.frozen? ⟨g, j, none⟩ = false := by
  rcases h.row.2 with ⟨-, h1⟩ | ⟨g, cap, cur, h1, -, h2, h3, h4, h5, h6⟩
  · omega
  · injection h1 with e1 e2 e3
    subst e1
    subst e2
    subst e3
    refine ⟨g, rfl, rfl, h3, h.own g rfl, fun j u hj => ⟨?_, Lib.frozen_of_heap h2 j⟩⟩
    have := h.row.cells (g := g) rfl j u hj
    rwa [Addr.add_lit, Nat.zero_add] at this
/-- a cell of a row of numbers is set -/
theorem Ow.set {g cc : Nat} (h : Ow w0 col c w e 1 (.slice (some ⟨g, 0, none⟩) n cc) n xs) (hcl : Cl col w) (hw : w0.heap.size ≤ w.heap.size) {i : Nat} (_hi : i < n) (x : Value) : Ow w0 col c (w.setCell ⟨g, i, none⟩ x) e 1 (.slice (some ⟨g, 0, none⟩) n cc) n (xs.set i x) ∧ Fr w0 c col col w (w.setCell ⟨g, i, none⟩ x) := by
  have hg := h.own g rfl
  have hb : But (fun k => col k = c) w.heap.size w (w.setCell ⟨g, i, none⟩ x) := But.setCell (S := fun k => col k = c) (But.refl _ _ _) hg x
  refine ⟨⟨⟨by rw [List.length_set]; exact h.row.1, ?_⟩, h.own, h.low⟩, hb, fun _ _ => rfl, fun k hk => .inr (hcl k hk), hb.below hw h.low, hcl.below (by simp)⟩
  rcases h.row.2 with ⟨h1, -⟩ | ⟨g', cap, cur, h1, h2, h3, h4, h5, h6, h7⟩
  · cases h1
  · injection h1 with e1 e2 e3
    injection e1 with e1
    injection e1 with e1
    subst e1
    subst e3
    refine .inr ⟨g, cc, cur.setIfInBounds i x, rfl, Nat.zero_le _, ?_, h4, h5, by simpa using h6, ?_⟩
    · have hlt := (Array.getElem?_eq_some_iff.1 h3).1
      simp [World.setCell, Array.getElem?_modify, h3]
    · rw [Array.toList_setIfInBounds, List.take_set, h7]
end
/-- what the numbers law knows, in memory -/
structure NmS (a0 a1 : Addr) (w0 : World) (col : Nat → Nat) (w : World) (b q : Nat) (W : Wld) (S : Sen) (vs vl va : Value) (s : Seen) (acked : List Int) : Prop where
  st : St2 a0 a1 w0 col w b q W S
  seen : Ow w0 col 6 w 33 7 vs s.length ((s.map Prod.fst).flatMap msgC)
  last : Ow w0 col 7 w 3 1 vl s.length (s.map fun x => .int .i64 x.2)
  ack : Ow w0 col 8 w 3 1 va acked.length (acked.map (Value.int .i64))
section
variable {a0 a1 : Addr} {w0 : World} {col col' : Nat → Nat} {w w' : World} {b q : Nat} {W W' : Wld} {S S' : Sen} {vs vl va : Value} {s : Seen} {acked : List Int}
theorem NmS.below (h : NmS a0 a1 w0 col w b q W S vs vl va s acked) (hb : Below w.heap.size w w') : NmS a0 a1 w0 col w' b q W S vs vl va s acked := ⟨h.st.below hb, h.seen.below hb, h.last.below hb, h.ack.below hb⟩
theorem NmS.fr {c : Nat} (h : NmS a0 a1 w0 col w b q W S vs vl va s acked) (h2 : St2 a0 a1 w0 col' w' b q W' S') (f : Fr w0 c col col' w w') (h6 : 6 ≠ c) (h7 : 7 ≠ c) (h8 : 8 ≠ c) : NmS a0 a1 w0 col' w' b q W' S' vs vl va s acked :=
  ⟨h2, h.seen.fr f h.st.cl h6 (by decide), h.last.fr f h.st.cl h7 (by decide), h.ack.fr f h.st.cl h8 (by decide)⟩
theorem NmS.start (h : St2 a0 a1 w0 col w b q W S) (hn : ∀ k, col k ≠ 6 ∧ col k ≠ 7 ∧ col k ≠ 8) : NmS a0 a1 w0 col w b q W S (.slice none 0 0) (.slice none 0 0) (.slice none 0 0) [] [] :=
  ⟨h, ⟨World.ownsRow_nil _ _ _ _, (fun j e => by cases e), fun k e => absurd e (hn k).1⟩, ⟨World.ownsRow_nil _ _ _ _, (fun j e => by cases e), fun k e => absurd e (hn k).2.1⟩, ⟨World.ownsRow_nil _ _ _ _, (fun j e => by cases e), fun k e => absurd e (hn k).2.2⟩⟩
end
end Go.Proofs.YtefloieanpgnmaaDoor
/- SenderNumbers: plain facts for the walk; the loop's state. -/
namespace Go.Proofs.YtefloieanpgnmaaDoor
open Go.RowKit

/-- what the inner loop finds: the place of the number, and the greatest number of the story -/
structure FindG (s : Seen) (m : Msg) (n : Nat) (is g : Int) : Prop where
  place : (is = -1 ∧ ∀ x ∈ s.take n, x.1.seq ≠ m.seq) ∨ ∃ (i : Nat) (x : Msg × Int), is = i ∧ i < n ∧ s[i]? = some x ∧ x.1.seq = m.seq
  ge : ∀ x ∈ s.take n, x.1.story = m.story → x.1.seq ≤ g
  top : g = 0 ∨ ∃ x ∈ s.take n, x.1.story = m.story ∧ x.1.seq = g
theorem FindG.start (s : Seen) (m : Msg) : FindG s m 0 (-1) 0 := ⟨.inl ⟨rfl, fun x hx => by simp at hx⟩, (fun x hx => by simp at hx), .inl rfl⟩
theorem take_mem {s : Seen} {n : Nat} {x y : Msg × Int} (hx : s[n]? = some x) (h : y ∈ s.take (n + 1)) : y ∈ s.take n ∨ y = x := by
  have hlt := (List.getElem?_eq_some_iff.1 hx).1
  rw [List.take_succ_eq_append_getElem hlt, (List.getElem?_eq_some_iff.1 hx).2] at h
  rcases List.mem_append.1 h with h | h
  · exact .inl h
  · exact .inr (List.mem_singleton.1 h)
theorem mem_take {s : Seen} {n : Nat} {y : Msg × Int} (h : y ∈ s.take n) : y ∈ s.take (n + 1) := (List.take_sublist_take_left (l := s) (Nat.le_succ n)).mem h
theorem mem_take_at {s : Seen} {n : Nat} {x : Msg × Int} (hx : s[n]? = some x) : x ∈ s.take (n + 1) := by
  have hlt := (List.getElem?_eq_some_iff.1 hx).1
  rw [List.take_succ_eq_append_getElem hlt, (List.getElem?_eq_some_iff.1 hx).2]
  exact List.mem_append_right _ List.mem_cons_self
theorem FindG.step {s : Seen} {m : Msg} {n : Nat} {is g : Int} (h : FindG s m n is g) {x : Msg × Int} (hx : s[n]? = some x) : FindG s m (n + 1) (if x.1.seq = m.seq then (n : Int) else is) (if x.1.story = m.story then max g x.1.seq else g) := by
  refine ⟨?_, fun y hy e => ?_, ?_⟩
  · by_cases e : x.1.seq = m.seq
    · rw [if_pos e]; exact .inr ⟨n, x, rfl, Nat.lt_succ_self _, hx, e⟩
    · rw [if_neg e]
      rcases h.place with ⟨h1, h2⟩ | ⟨i, y, h1, h2, h3⟩
      · refine .inl ⟨h1, fun y hy => ?_⟩
        rcases take_mem hx hy with h | rfl
        · exact h2 y h
        · exact e
      · exact .inr ⟨i, y, h1, by omega, h3⟩
  · rcases take_mem hx hy with h1 | rfl
    · have := h.ge y h1 e
      split <;> omega
    · rw [if_pos e]; omega
  · by_cases e : x.1.story = m.story
    · rw [if_pos e]
      by_cases hg : g ≤ x.1.seq
      · exact .inr ⟨x, mem_take_at hx, e, by omega⟩
      · rw [show max g x.1.seq = g by omega]
        rcases h.top with h1 | ⟨y, h1, h2⟩
        · exact .inl h1
        · exact .inr ⟨y, mem_take h1, h2⟩
    · rw [if_neg e]
      rcases h.top with h1 | ⟨y, h1, h2⟩
      · exact .inl h1
      · exact .inr ⟨y, mem_take h1, h2⟩
/-- a message not seen: its number is above the greatest -/
theorem FindG.new {s : Seen} {m : Msg} {g : Int} {now : Int} {au : Bool} (h : FindG s m s.length (-1) g) (hc : Chk now au s m) : g < m.seq ∧ noteD now s m = s ++ [(m, now)] := by
  have hp : ∀ x ∈ s, x.1.seq ≠ m.seq := by
    rcases h.place with ⟨-, h2⟩ | ⟨i, y, h1, h2, h3⟩
    · rwa [List.take_length] at h2
    · omega
  constructor
  · rcases h.top with h1 | ⟨y, h1, h2, h3⟩
    · have := hc.pos; omega
    · rw [List.take_length] at h1
      rw [← h3]
      exact hc.new hp y h1 h2
  · unfold noteD
    rw [if_neg]
    intro ha
    obtain ⟨x, hx, e⟩ := List.any_eq_true.1 ha
    exact hp x hx (of_decide_eq_true e)
/-- a message seen: it is the same one -/
theorem FindG.old {s : Seen} {m : Msg} {g : Int} {now : Int} {au : Bool} {i : Nat} (h : FindG s m s.length (i : Int) g) (hu : Uniq s) (hc : Chk now au s m) : ∃ t, s[i]? = some (m, t) ∧ i < s.length ∧ (au = false → ¬ (t ≤ now ∧ now - t < 8)) ∧ noteD now s m = s.set i (m, now) := by
  rcases h.place with ⟨h1, -⟩ | ⟨i', x, h1, h2, h3, h4⟩
  · omega
  · obtain rfl : i = i' := by omega
    have hm := List.mem_of_getElem? h3
    obtain ⟨h5, h6⟩ := hc.same x hm h4
    obtain ⟨y, t⟩ := x
    simp only at h5 h6
    subst h5
    refine ⟨t, h3, h2, h6, ?_⟩
    unfold noteD
    rw [if_pos (List.any_eq_true.2 ⟨_, hm, decide_eq_true rfl⟩)]
    refine List.ext_getElem? fun k => ?_
    rw [List.getElem?_map, List.getElem?_set]
    by_cases hk : i = k
    · subst hk
      rw [if_pos rfl, if_pos h2, h3]
      simp
    · rw [if_neg hk]
      rcases hs : s[k]? with - | z
      · rfl
      · have hz : z.1.seq ≠ y.seq := fun e => by
          have h7 := List.pairwise_iff_getElem.1 hu
          obtain ⟨l1, e1⟩ := List.getElem?_eq_some_iff.1 h3
          obtain ⟨l2, e2⟩ := List.getElem?_eq_some_iff.1 hs
          rcases Nat.lt_or_gt_of_ne hk with h | h
          · exact h7 i k l1 l2 h (by rw [e1, e2]; exact e.symm)
          · exact h7 k i l2 l1 h (by rw [e1, e2]; exact e)
        simp [hz]
/-- the numbers acknowledged, as the law sees them -/
theorem ackS_eq (acked : List Int) (c : Cal) : ackS acked c = if c.num = 3 ∧ c.msg.kind = 3 then acked ++ [c.msg.seq] else acked := by
  cases c <;> first
    | rfl
    | (unfold ackS ackL Cal.num Cal.msg; simp only [true_and])
    | (unfold ackS Cal.num; simp)
/-- what a message with the number seen before must not be -/
theorem NumOk.zero {now : Int} {acked : List Int} {s : Seen} {audit : Bool} (_h : NumOk now acked s audit []) : NumOk now acked s false [] := num_none now acked s
end Go.Proofs.YtefloieanpgnmaaDoor
/- SenderNumbers: the state in memory, its steps. -/
namespace Go.Proofs.YtefloieanpgnmaaDoor
open Go.RowKit

/-- the state after k steps -/
structure NmK (a0 a1 : Addr) (w0 : World) (b q : Nat) (L : List Op3) (k : Nat) (vs vl va : Value) (s : Seen) (acked : List Int) (w : World) : Prop where
  nm : ∃ col, NmS a0 a1 w0 col w b q (runD false (wld0, startS) (L.take k)).1 (runD false (wld0, startS) (L.take k)).2 vs vl va s acked
  ns : NS (runD false (wld0, startS) (L.take k)).2 s acked
  nw : NW (runD false (wld0, startS) (L.take k)).1 s
  len : s.length ≤ 16 * k
  alen : acked.length ≤ k
  tms : ∀ x ∈ s, -100000 ≤ x.2 ∧ x.2 ≤ 100000
/-- with the call's block -/
structure NmC (a0 a1 : Addr) (w0 : World) (col : Nat → Nat) (w : World) (b q C : Nat) (W : Wld) (S : Sen) (vs vl va : Value) (s : Seen) (acked : List Int) (cs : Array Value) (vi : Value) (cal : Cal) : Prop where
  nm : NmS a0 a1 w0 col w b q W S vs vl va s acked
  c : w.heap[C]? = some (.cells cs 35 (0, 0))
  c0 : col C = 0
  it : ItF col w vi cal
/-- with the messages that were sent -/
structure NmM (a0 a1 : Addr) (w0 : World) (col : Nat → Nat) (w : World) (b q : Nat) (W : Wld) (S : Sen) (vs vl va : Value) (s : Seen) (acked : List Int) (vm : Value) (ms : List Msg) : Prop where
  nm : NmS a0 a1 w0 col w b q W S vs vl va s acked
  ml : ML col w vm ms
section
variable {a0 a1 : Addr} {w0 : World} {col col' : Nat → Nat} {w w' : World} {b q C : Nat} {W W' : Wld} {S S' : Sen} {vs vl va v vm vi : Value} {s : Seen} {acked : List Int} {cs : Array Value} {cal : Cal} {ms : List Msg}
theorem NmM.below (h : NmM a0 a1 w0 col w b q W S vs vl va s acked vm ms) (hb : Below w.heap.size w w') : NmM a0 a1 w0 col w' b q W S vs vl va s acked vm ms := ⟨h.nm.below hb, h.ml.below hb⟩
theorem NmC.clt (h : NmC a0 a1 w0 col w b q C W S vs vl va s acked cs vi cal) : C < w.heap.size := (Array.getElem?_eq_some_iff.1 h.c).1
theorem NmC.below (h : NmC a0 a1 w0 col w b q C W S vs vl va s acked cs vi cal) (hb : Below w.heap.size w w') : NmC a0 a1 w0 col w' b q C W S vs vl va s acked cs vi cal := ⟨h.nm.below hb, (hb.block C h.clt).trans h.c, h.c0, h.it.below hb⟩
/-- a number is appended to those acknowledged -/
theorem NmC.app (h : NmC a0 a1 w0 col w b q C W S vs vl va s acked cs vi cal) {n' : Nat} {acked' : List Int} (hr : w'.ownsRow 0 3 1 v n' (acked'.map (Value.int .i64))) (hn : n' = acked'.length) (hg : w.grownBy w' va.ownBlock) (hat : v.ownBlock = va.ownBlock ∨ v.ownBlock = some w.heap.size) : ∃ col', NmC a0 a1 w0 col' w' b q C W S vs vl v s acked' cs vi cal := by
  subst hn
  obtain ⟨col', ho, f⟩ := h.nm.ack.app h.nm.st.cl (by decide) h.nm.st.sn.lw.bel.size hr hg hat
  have hC := f.loc (by decide) h.c0 h.clt
  exact ⟨col', ⟨h.nm.st.fr3 f (by decide) (by decide), h.nm.seen.fr f h.nm.st.cl (by decide) (by decide), h.nm.last.fr f h.nm.st.cl (by decide) (by decide), ho⟩, hC.1.trans h.c, hC.2, h.it.fr f (by decide)⟩
/-- a message is appended to those seen -/
theorem NmM.appSeen (h : NmM a0 a1 w0 col w b q W S vs vl va s acked vm ms) {n' : Nat} {xs' : List Value} (hr : w'.ownsRow 0 33 7 v n' xs') (hg : w.grownBy w' vs.ownBlock) (hat : v.ownBlock = vs.ownBlock ∨ v.ownBlock = some w.heap.size) :
    ∃ col', Ow w0 col' 6 w' 33 7 v n' xs' ∧ St2 a0 a1 w0 col' w' b q W S ∧ Ow w0 col' 7 w' 3 1 vl s.length (s.map fun x => .int .i64 x.2) ∧ Ow w0 col' 8 w' 3 1 va acked.length (acked.map (Value.int .i64)) ∧ ML col' w' vm ms := by
  obtain ⟨col', ho, f⟩ := h.nm.seen.app h.nm.st.cl (by decide) h.nm.st.sn.lw.bel.size hr hg hat
  exact ⟨col', ho, h.nm.st.fr3 f (by decide) (by decide), h.nm.last.fr f h.nm.st.cl (by decide) (by decide), h.nm.ack.fr f h.nm.st.cl (by decide) (by decide), h.ml.fr f (by decide)⟩
/-- between the two appends -/
structure NmH (a0 a1 : Addr) (w0 : World) (col : Nat → Nat) (w : World) (b q : Nat) (W : Wld) (S : Sen) (vs vl va : Value) (s : Seen) (m : Msg) (acked : List Int) (vm : Value) (ms : List Msg) : Prop where
  st : St2 a0 a1 w0 col w b q W S
  seen : Ow w0 col 6 w 33 7 vs (s.length + 1) ((s.map Prod.fst).flatMap msgC ++ msgC m)
  last : Ow w0 col 7 w 3 1 vl s.length (s.map fun x => .int .i64 x.2)
  ack : Ow w0 col 8 w 3 1 va acked.length (acked.map (Value.int .i64))
  ml : ML col w vm ms
variable {m : Msg}
theorem NmM.half (h : NmM a0 a1 w0 col w b q W S vs vl va s acked vm ms) (hr : w'.ownsRow 0 33 7 v (s.length + 1) ((s.map Prod.fst).flatMap msgC ++ msgC m)) (hg : w.grownBy w' vs.ownBlock) (hat : v.ownBlock = vs.ownBlock ∨ v.ownBlock = some w.heap.size) : ∃ col', NmH a0 a1 w0 col' w' b q W S v vl va s m acked vm ms := by
  obtain ⟨col', h1, h2, h3, h4, h5⟩ := h.appSeen hr hg hat
  exact ⟨col', h2, h1, h3, h4, h5⟩
theorem NmH.below (h : NmH a0 a1 w0 col w b q W S vs vl va s m acked vm ms) (hb : Below w.heap.size w w') : NmH a0 a1 w0 col w' b q W S vs vl va s m acked vm ms := ⟨h.st.below hb, h.seen.below hb, h.last.below hb, h.ack.below hb, h.ml.below hb⟩
theorem NmH.whole (h : NmH a0 a1 w0 col w b q W S vs vl va s m acked vm ms) {now : Int} (hr : w'.ownsRow 0 3 1 v (s.length + 1) ((s.map fun x => .int .i64 x.2) ++ [.int .i64 now])) (hg : w.grownBy w' vl.ownBlock) (hat : v.ownBlock = vl.ownBlock ∨ v.ownBlock = some w.heap.size) : ∃ col', NmM a0 a1 w0 col' w' b q W S vs v va (s ++ [(m, now)]) acked vm ms := by
  obtain ⟨col', ho, f⟩ := h.last.app h.st.cl (by decide) h.st.sn.lw.bel.size hr hg hat
  refine ⟨col', ⟨h.st.fr3 f (by decide) (by decide), ?_, ?_, h.ack.fr f h.st.cl (by decide) (by decide)⟩, h.ml.fr f (by decide)⟩
  · have := h.seen.fr f h.st.cl (by decide) (by decide)
    simpa using this
  · simpa using ho
/-- the time of a message is set -/
theorem NmM.time {g cc : Nat} (h : NmM a0 a1 w0 col w b q W S vs (.slice (some ⟨g, 0, none⟩) s.length cc) va s acked vm ms) {i : Nat} (hi : i < s.length) {t now : Int} (hx : s[i]? = some (m, t)) : NmM a0 a1 w0 col (w.setCell ⟨g, i, none⟩ (.int .i64 now)) b q W S vs (.slice (some ⟨g, 0, none⟩) s.length cc) va (s.set i (m, now)) acked vm ms := by
  obtain ⟨ho, f⟩ := h.nm.last.set h.nm.st.cl h.nm.st.sn.lw.bel.size hi (.int .i64 now)
  have e1 : (s.set i (m, now)).map Prod.fst = s.map Prod.fst := by
    refine List.ext_getElem? fun k => ?_
    rw [List.getElem?_map, List.getElem?_map, List.getElem?_set]
    by_cases hk : i = k
    · subst hk
      rw [if_pos rfl, if_pos hi, hx]
      rfl
    · rw [if_neg hk]
  have e2 : (s.set i (m, now)).map (fun x => Value.int .i64 x.2) = (s.map fun x => Value.int .i64 x.2).set i (.int .i64 now) := by rw [List.map_set]
  refine ⟨⟨h.nm.st.fr3 f (by decide) (by decide), ?_, ?_, h.nm.ack.fr f h.nm.st.cl (by decide) (by decide)⟩, h.ml.fr f (by decide)⟩
  · rw [e1, List.length_set]; exact h.nm.seen.fr f h.nm.st.cl (by decide) (by decide)
  · rw [e2, List.length_set]; exact ho
theorem NmS.next (h : NmS a0 a1 w0 col w b q W S vs vl va s acked) {k : Nat} (hr : RI k W S) (hk : k ≤ 1000) (o : Op3) (ho : okO o) :
    Calls Tryd.prog 9 #[.pointer (some ⟨q, 0, none⟩), .agg #[.int .i64 o.kind, .int .i64 o.story, .int .i64 o.n]] w fun e w' => ∃ (vi : Value) (col' : Nat → Nat) (t : Int) (a : Option Addr) (n c : Nat) (u : Int), callV (W.next o).1 vi = .agg #[.int .i64 (W.next o).1.num, .int .i64 t, .slice a n c, .int .i64 u, .int .i64 (W.next o).1.msg.kind, .int .i64 (W.next o).1.msg.partner, .int .i64 (W.next o).1.msg.seq, .int .i64 (W.next o).1.msg.story, .int .i64 (W.next o).1.msg.base, .int .i64 (W.next o).1.msg.version, .string ⟨(W.next o).1.msg.data.toArray⟩] ∧
      e = .returned (.agg #[.int .i64 (W.next o).1.num, .int .i64 t, .slice a n c, .int .i64 u, .int .i64 (W.next o).1.msg.kind, .int .i64 (W.next o).1.msg.partner, .int .i64 (W.next o).1.msg.seq, .int .i64 (W.next o).1.msg.story, .int .i64 (W.next o).1.msg.base, .int .i64 (W.next o).1.msg.version, .string ⟨(W.next o).1.msg.data.toArray⟩]) ∧
      NmS a0 a1 w0 col' w' b q (W.next o).2 S vs vl va s acked ∧ ItF col' w' vi (W.next o).1 := by
  refine (h.st.next hr hk o ho).mono ?_
  rintro e w' ⟨vi, col', rfl, h1, f, h2⟩
  obtain ⟨t, a, n, c, u, hf⟩ := callV_form h2
  exact ⟨vi, col', t, a, n, c, u, hf, by rw [hf], h.fr h1 f (by decide) (by decide) (by decide), h2⟩
theorem NmC.perf (h : NmC a0 a1 w0 col w b q C W S vs vl va s acked cs vi cal) (hc : CalOk (fun k => col k = 1) w vi cal) {cv : Value} (hcv : callV cal vi = cv) :
    Calls Tryd.prog 10 #[cv, .pointer (some ⟨b, 0, none⟩)] w fun e w' => ∃ a c col', e = .returned (.slice a (cal.perform S).1.length c) ∧ NmM a0 a1 w0 col' w' b q W (cal.perform S).2 vs vl va s acked (.slice a (cal.perform S).1.length c) (cal.perform S).1 := by
  rw [← hcv]
  refine (h.nm.st.perform cal vi hc).mono ?_
  rintro e w' ⟨a, c, col', rfl, hm, hv, hs, f⟩
  exact ⟨a, c, col', rfl, h.nm.fr hs f (by decide) (by decide) (by decide), hm, hv⟩
theorem NmM.ok (h : NmM a0 a1 w0 col w b q W S vs vl va s acked vm ms) : SenOk S := h.nm.st.sn.ok
/-- the row of numbers, for the law's search in it -/
theorem NmM.ints {a : Option Addr} {n c : Nat} (h : NmM a0 a1 w0 col w b q W S vs vl (.slice a n c) s acked vm ms) : IntsL w (.slice a n c) acked := by
  obtain ⟨a', cc, e, h1, h2⟩ := h.nm.ack.form
  injection e with e1 e2 e3
  subst e1
  subst e2
  subst e3
  refine ⟨a, c, rfl, h1, Nat.le_trans (Nat.le_trans h1 h2) (by decide), fun k hk => ?_⟩
  obtain ⟨g, rfl, -, -, -, h3⟩ := h.nm.ack.cell (by omega)
  exact ⟨g, 0, rfl, by rw [Nat.zero_add]; exact (h3 k _ (by rw [List.getElem?_map, List.getElem?_eq_getElem hk]; rfl)).1⟩
end
end Go.Proofs.YtefloieanpgnmaaDoor
/- A slice literal of one element that lies in a slot: the operation by one law, so that no cell is reckoned. Conditions: the table's facts about the two types. -/
namespace Go.Proofs.YtefloieanpgnmaaDoor

theorem wpList_buildOne {P : Program} {ops : Array Oper} {rest : List Oper} {o : Oper} {a : Act} {w : World} {Q : Exit → Act → World → Prop} (hg : o.guard = none) (t e : TypeId) (x : Tmp) (ho : o.op = .buildSlice t 1 #[(0, .tmp x)])
    (cs : Array Value) (ie : TypeInfo) (z : Value) (hie : P.info? e = some ie) (hz : ie.zero = some z) (hs : ie.size = cs.size) (hu : P.underlying t = some (.slice e)) (hpos : 0 < cs.size) (hsm : cs.size ≤ 2 ^ 24)
    (hev : a.eval (.tmp x) = .agg cs) (h : wpList P ops Q rest (a.put o.dst (.slice (some ⟨w.heap.size, 0, none⟩) 1 1)) (w.alloc (.cells cs e))) : wpList P ops Q (o :: rest) a w := by
  refine wpList_buildSlice hg t e 1 _ ho cs ie z hu hie hz (by rw [hs]; omega) (by rw [hs]; omega) ?_ h
  have e1 : (Array.map (fun (x : Nat × Operand) => (x.1, a.eval x.2)) #[(0, Operand.tmp x)]).toList = ([Value.agg cs].zipIdx 0).map fun x => (x.2, x.1) := by
    simp [hev]
  have h2 := Great.fill_whole (s := ie.size) (by rw [hs]; exact hpos) [Value.agg cs] ((Array.range (1 * ie.size)).map (z.cells[· % z.cells.size]!)) (fun v hv => by rw [List.mem_singleton.1 hv, hs]; rfl) (by simp)
  rw [← e1] at h2
  refine h2.trans ?_
  simp [Value.cells]
end Go.Proofs.YtefloieanpgnmaaDoor
/- SenderNumbers: the walk. -/
namespace Go.Proofs.YtefloieanpgnmaaDoor
open Go.RowKit

theorem nm_start {a0 a1 : Addr} {w0 w : World} (hlw : LW a0 a1 w0 w) : Calls Tryd.prog 7 #[] w fun e w' => ∃ b q, e = .returned (.tuple #[.pointer (some ⟨b, 0, none⟩), .pointer (some ⟨q, 0, none⟩)]) ∧ ∃ col, NmS a0 a1 w0 col w' b q wld0 startS (.slice none 0 0) (.slice none 0 0) (.slice none 0 0) [] [] := by
  refine (start_c (col := fun _ => 0) hlw (fun _ _ => rfl) 1 2 (by decide) (by decide) (by decide) (fun _ => ⟨(by show (0 : Nat) ≠ 1; decide), (by show (0 : Nat) ≠ 2; decide)⟩)).mono ?_
  rintro e w' ⟨b, q, col', rfl, h1, h2, -, h3, h4, h5⟩
  refine ⟨b, q, rfl, col', NmS.start ⟨h3, h1, h2⟩ fun k => ?_⟩
  by_cases hk : k < w.heap.size
  · rw [h4 k hk]; exact ⟨(by show (0 : Nat) ≠ 6; decide), (by show (0 : Nat) ≠ 7; decide), (by show (0 : Nat) ≠ 8; decide)⟩
  · rcases h5 k (by omega) with h | h | h <;> rw [h] <;> decide
set_option maxRecDepth 100000 in
set_option maxHeartbeats 100000000 in
theorem lawNumbers_any (v : Value) (l : List Op3) {a0 a1 : Addr} (W : World) (hS : Sents a0 a1 W) (hH : ShiftsAt W) (hops : OpsL W v l) (hok : ∀ o ∈ l, okO o) :
    Calls Tryd.prog 3 #[v] W fun e w' => e = .returned (.bool true) ∧ Below W.heap.size W w' := by
  have HLW : Hid (LW a0 a1 W W) := Lib.hid ⟨hS, hH, Below.refl _ _⟩
  have HSA := Lib.hid (sane_any HLW.out)
  have HOP := Lib.hid hops
  have HOK := Lib.hid hok
  clear hS hH hops hok
  go_enter Tryd.func3, Tryd.ntmps3
  go_upto_region 5 with (first
    | (go_at_call 6; (with_reducible (refine HSA.out.mono ?_)); rintro e w1 ⟨rfl, hb1⟩; have H1 := Lib.hid (HLW.out.below hb1); clear hb1)
    | (go_at_call 7; (refine (nm_start H1.out).mono ?_; rintro e w2 ⟨b, q, rfl, h2⟩; have H2 := Lib.hid h2; clear h2))
    | fail)
  have HFEW : Hid (Calls Tryd.prog 8 #[v] w2 fun e w' => ∃ v', e = .returned v' ∧ OpsL W v' (l.take 60) ∧ w2 = w') := Lib.hid (few2 v l w2 W (HOP.out.below (by obtain ⟨col, h⟩ := H2.out; exact h.st.sn.lw.bel)) HOP.out)
  go_upto_region 10 with (first
    | (go_at_call 8; (with_reducible (refine HFEW.out.mono ?_)); rintro e wf ⟨v', rfl, hv', rfl⟩)
    | fail)
  obtain ⟨L, hL⟩ : ∃ L, l.take 60 = L := ⟨_, rfl⟩
  have hL60 : L.length ≤ 60 := by rw [← hL, List.length_take]; omega
  have HOL : Hid (∀ o ∈ L, okO o) := Lib.hid (fun o ho => HOK.out o (List.mem_of_mem_take (by rw [hL]; exact ho)))
  rw [hL] at hv'
  obtain ⟨va, vc, rfl, hvc, -, hcel⟩ := hv'
  have HCE := Lib.hid hcel
  have HST : Hid (NmK a0 a1 W b q L 0 (.slice none 0 0) (.slice none 0 0) (.slice none 0 0) [] [] w2) := Lib.hid ⟨H2.out, start_ns, start_nw, Nat.le_refl _, Nat.le_refl _, fun x hx => by cases hx⟩
  clear hcel hL HFEW HOK HOP H2 H1 HSA
  go_loopw [6, 7, 8, 10] (fun vs vl vk i wr => ∃ (k : Nat) (s : Seen) (acked : List Int), i = .int .i64 k ∧ k ≤ L.length ∧ Hid (NmK a0 a1 W b q L k vs vl vk s acked wr)) (fun _ _ _ i _ => L.length - (intOf i).toNat)
  case atStart => exact ⟨0, [], [], rfl, Nat.zero_le _, HST⟩
  case round =>
    as_aux_lemma =>
    clear HST
    obtain ⟨k, s, acked, rfl, hk, HS⟩ := hrel
    by_cases hlt : k < L.length
    · have hki : (k : Int) < (L.length : Int) := by omega
      obtain ⟨ob, oo, rfl, d0, d1, d2⟩ := HCE.out k hlt
      have HBW : Hid (Below W.heap.size W wr) := Lib.hid (by obtain ⟨col, h⟩ := HS.out.nm; exact h.st.sn.lw.bel)
      have hoo := HOL.out _ (List.getElem_mem hlt)
      have hsu := runD_succ false (wld0, startS) L hlt
      have hri := RI.run hL60 false k hk
      have hrn := RI.run hL60 false (k + 1) hlt
      obtain ⟨o, ho⟩ : ∃ o, L[k] = o := ⟨_, rfl⟩
      rw [ho] at d0 d1 d2 hoo hsu
      rw [hsu] at hrn
      have oc0 := (HBW.out.cell (World.block_lt_of_cell? W _ d0)).trans d0
      have oc1 := (HBW.out.cell (World.block_lt_of_cell? W _ d1)).trans d1
      have oc2 := (HBW.out.cell (World.block_lt_of_cell? W _ d2)).trans d2
      obtain ⟨⟨col, hT⟩, hns, hnw, hsl, hal, htm⟩ := HS.out
      obtain ⟨W1, S1, hX⟩ : ∃ W1 S1, runD false (wld0, startS) (L.take k) = (W1, S1) := ⟨_, _, rfl⟩
      rw [hX] at hT hns hnw hri hsu hrn
      simp only at hT hns hnw hri
      have HNX := Lib.hid (hT.next hri (by omega) o hoo)
      have HRI := Lib.hid hri
      have HIT : Hid (∀ col w vi c, c ≠ 0 → ItF col w vi (W1.next o).1 → CalOk (fun k => col k = c) w vi (W1.next o).1) := Lib.hid (fun col w vi c h0 hi => hi.ok HRI.out (by omega) o h0)
      have hst1 : step1 false (W1, S1) o = ({ (W1.next o).2 with flight := (W1.next o).2.flight ++ ((W1.next o).1.perform S1).1 }, ((W1.next o).1.perform S1).2) := rfl
      have hnm := fun hok => num_step (by omega) hri.wi hns hnw (next_rel W1 o) hok
      obtain ⟨cal, W2, hN⟩ : ∃ cal W2, W1.next o = (cal, W2) := ⟨_, _, rfl⟩
      rw [hN] at HNX HIT hst1 hnm
      simp only at HNX HIT hst1 hnm
      obtain ⟨ms, S2, hPf⟩ : ∃ ms S2, cal.perform S1 = (ms, S2) := ⟨_, _, rfl⟩
      have HPF := Lib.hid hPf
      rw [hPf] at hst1 hnm
      simp only at hst1 hnm
      rw [hst1] at hsu hrn
      have hnow := hrn.now
      simp only at hnow
      have HSU := Lib.hid hsu
      have HRN := Lib.hid hrn
      have HNM := Lib.hid hnm
      have HTM := Lib.hid htm
      have HUQ := Lib.hid hns.uniq
      clear hri hsu hrn hst1 hX hN hPf d0 d1 d2 HS HBW ho hoo hT hns hnw hnm htm
      go_upto_region 13 with (first
        | (go_at_call 9; (with_reducible (refine HNX.out.mono ?_)); rintro e wN ⟨vi, colN, t, ca, cn, cc, cu, hcv, rfl, hig, hit⟩; have HCV := Lib.hid hcv; have HIG := Lib.hid hig; have HIF := Lib.hid hit; clear hcv hig hit)
        | fail)
      clear oc0 oc1 oc2
      obtain ⟨CS, hCS⟩ : ∃ CS : Array Value, #[.int .i64 cal.num, .int .i64 t, .slice ca cn cc, .int .i64 cu, .int .i64 cal.msg.kind, .int .i64 cal.msg.partner, .int .i64 cal.msg.seq, .int .i64 cal.msg.story, .int .i64 cal.msg.base, .int .i64 cal.msg.version, .string ⟨cal.msg.data.toArray⟩] = CS := ⟨_, rfl⟩
      obtain ⟨wC, hwC⟩ : ∃ wC, wN.alloc (.cells #[.int .i64 cal.num, .int .i64 t, .slice ca cn cc, .int .i64 cu, .int .i64 cal.msg.kind, .int .i64 cal.msg.partner, .int .i64 cal.msg.seq, .int .i64 cal.msg.story, .int .i64 cal.msg.base, .int .i64 cal.msg.version, .string ⟨cal.msg.data.toArray⟩] 35) = wC := ⟨_, rfl⟩
      obtain ⟨C, hC⟩ : ∃ C, wN.heap.size = C := ⟨_, rfl⟩
      have HTC : Hid (NmC a0 a1 W colN wC b q C W2 S1 u6 u7 u8 s acked CS vi cal) := Lib.hid (by
        rw [← hwC, ← hC, ← hCS]
        have hb : Below wN.heap.size wN (wN.alloc (.cells #[.int .i64 cal.num, .int .i64 t, .slice ca cn cc, .int .i64 cu, .int .i64 cal.msg.kind, .int .i64 cal.msg.partner, .int .i64 cal.msg.seq, .int .i64 cal.msg.story, .int .i64 cal.msg.base, .int .i64 cal.msg.version, .string ⟨cal.msg.data.toArray⟩] 35)) := (Below.refl _ wN).alloc (Nat.le_refl _) _
        exact ⟨HIG.out.below hb, heap_alloc_new wN _, HIG.out.st.cl _ (Nat.le_refl _), HIF.out.below hb⟩)
      rw [hwC, hC]
      have HCS := Lib.hid hCS
      clear hwC hC HIG HIF HNX hCS
      have k0 : wC.cell? ⟨C, 0, none⟩ = some (.int .i64 cal.num) := by rw [Lib.cell_of_heap HTC.out.c, ← HCS.out]; rfl
      have k4 : wC.cell? ⟨C, 4, none⟩ = some (.int .i64 cal.msg.kind) := by rw [Lib.cell_of_heap HTC.out.c, ← HCS.out]; rfl
      have k6 : wC.cell? ⟨C, 6, none⟩ = some (.int .i64 cal.msg.seq) := by rw [Lib.cell_of_heap HTC.out.c, ← HCS.out]; rfl
      have hack := ackS_eq acked cal
      obtain ⟨nm9, hnm9⟩ : ∃ x, cal.num = x := ⟨_, rfl⟩
      obtain ⟨kd9, hkd9⟩ : ∃ x, cal.msg.kind = x := ⟨_, rfl⟩
      obtain ⟨sq9, hsq9⟩ : ∃ x, cal.msg.seq = x := ⟨_, rfl⟩
      rw [hnm9, hkd9, hsq9] at hack
      rw [hnm9] at k0
      rw [hkd9] at k4
      rw [hsq9] at k6
      clear hnm9 hkd9 hsq9
      obtain ⟨r9, hr9⟩ : ∃ r, decide (nm9 = 3 ∧ kd9 = 3) = r := ⟨_, rfl⟩
      have hack2 : ackS acked cal = if r9 = true then acked ++ [sq9] else acked := by rw [hack, ← hr9]; simp only [decide_eq_true_eq]
      clear hack
      go_cut [48] (fun v wx => v = .bool r9 ∧ wC = wx)
      case first =>
        as_aux_lemma =>
        clear HTC k6
        by_cases h3 : nm9 = 3
        · have e3 : (nm9 == 3) = true := by simp [h3]
          by_cases h4 : kd9 = 3
          · have e4 : (kd9 == 3) = true := by simp [h4]
            rw [decide_eq_true (⟨h3, h4⟩ : nm9 = 3 ∧ kd9 = 3)] at hr9
            subst hr9
            clear h3 h4
            go_wp2_with fail
            go_meet
            exact ⟨rfl, rfl⟩
          · have e4 : (kd9 == 3) = false := by simp [h4]
            rw [decide_eq_false (fun h => h4 h.2 : ¬ (nm9 = 3 ∧ kd9 = 3))] at hr9
            subst hr9
            clear h3 h4
            go_wp2_with fail
            go_meet
            exact ⟨rfl, rfl⟩
        · have e3 : (nm9 == 3) = false := by simp [h3]
          rw [decide_eq_false (fun h => h3 h.1 : ¬ (nm9 = 3 ∧ kd9 = 3))] at hr9
          subst hr9
          clear h3
          go_wp2_with fail
          go_meet
          exact ⟨rfl, rfl⟩
      case rest =>
        as_aux_lemma =>
        obtain ⟨rfl, rfl⟩ := hcut
        clear k0 k4 hr9
        obtain ⟨xa0, xc0, hvk, -, -⟩ := HTC.out.nm.ack.form
        subst hvk
        go_upto_if 48 with fail
        go_cut [8] (fun v wx => ∃ xa xc col, v = .slice xa (ackS acked cal).length xc ∧ Hid (NmC a0 a1 W col wx b q C W2 S1 u6 u7 v s (ackS acked cal) CS vi cal))
        case first =>
          as_aux_lemma =>
          cases r9
          · replace hack2 := hack2.trans (if_neg (by decide))
            go_wp2_with fail
            go_meet
            exact ⟨_, _, _, by rw [hack2], by rw [hack2]; exact HTC⟩
          · replace hack2 := hack2.trans (if_pos rfl)
            obtain ⟨i1, hi1, hy0, hy1, hy2⟩ := info_parts infoInt
            have hmax : (acked.length + 1) * 8 ≤ 140737488355328 := by omega
            obtain ⟨wB, hwB⟩ : ∃ wB, wC.alloc (.cells #[.int .i64 sq9] 3) = wB := ⟨_, rfl⟩
            have hbB : Below wC.heap.size wC wB := by rw [← hwB]; exact (Below.refl _ wC).alloc (Nat.le_refl _) _
            have HB := Lib.hid (HTC.out.below hbB)
            have HWB := Lib.hid hwB
            have HWS : Hid (wC.heap.size ≤ wB.heap.size) := Lib.hid hbB.size
            have HROW : Hid ((wC.alloc (.cells #[.int .i64 sq9] 3)).ownsRow 0 3 1 (.slice xa0 acked.length xc0) acked.length (acked.map (Value.int .i64))) := Lib.hid (by rw [hwB]; exact HB.out.nm.ack.row)
            clear hwB hbB
            go_wp2_with (first
              | (at_builtin; go_loud (refine wpList_append_own_at _ rfl _ _ 29 rfl 0 3 i1 _ 1 8 Tryd.underlying29 hi1 hy0 hy1 hy2 rfl (by decide) _ _ _ rfl HROW.out ⟨wC.heap.size, 0, none⟩ 1 1 [.int .i64 sq9] rfl rfl ?c1 ?c2 ?c3 ?c4 ?c5 ?_))
              | fail)
            case c1 => exact World.news_of_block (cs := #[.int .i64 sq9]) (t := 3) (fr := (0, 0)) (heap_alloc_new wC _)
            case c2 => simp [Value.oneCell']
            case c3 => unfold maxLen; omega
            case c4 => omega
            case c5 => omega
            intro v9 w9 ho9 hg9 _ hat9
            have hsz9 : wC.heap.size + 1 = wB.heap.size := by rw [← HWB.out]; simp
            rw [HWB.out] at hg9
            rw [hsz9] at hat9
            have HEND : Hid (∃ col, NmC a0 a1 W col w9 b q C W2 S1 u6 u7 v9 s (ackS acked cal) CS vi cal) := Lib.hid (by
              rw [hack2]
              exact HB.out.app (acked' := acked ++ [sq9]) (by rw [List.map_append]; exact ho9) (by simp) hg9 hat9)
            clear ho9 hg9 hat9
            go_wp2_with fail
            go_meet
            obtain ⟨col9, h9⟩ := HEND.out
            obtain ⟨x9, y9, e9, -, -⟩ := h9.nm.ack.form
            exact ⟨x9, y9, col9, e9, Lib.hid h9⟩
        case rest =>
          as_aux_lemma =>
          clear HTC hack2
          obtain ⟨xa, xc, col2, rfl, HTC⟩ := hcut
          have k0 : wc.cell? ⟨C, 0, none⟩ = some (.int .i64 cal.num) := by rw [Lib.cell_of_heap HTC.out.c, ← HCS.out]; rfl
          have k1 : wc.cell? ⟨C, 1, none⟩ = some (.int .i64 t) := by rw [Lib.cell_of_heap HTC.out.c, ← HCS.out]; rfl
          have k2 : wc.cell? ⟨C, 2, none⟩ = some (.slice ca cn cc) := by rw [Lib.cell_of_heap HTC.out.c, ← HCS.out]; rfl
          have k3 : wc.cell? ⟨C, 3, none⟩ = some (.int .i64 cu) := by rw [Lib.cell_of_heap HTC.out.c, ← HCS.out]; rfl
          have k4 : wc.cell? ⟨C, 4, none⟩ = some (.int .i64 cal.msg.kind) := by rw [Lib.cell_of_heap HTC.out.c, ← HCS.out]; rfl
          have k5 : wc.cell? ⟨C, 5, none⟩ = some (.int .i64 cal.msg.partner) := by rw [Lib.cell_of_heap HTC.out.c, ← HCS.out]; rfl
          have k6 : wc.cell? ⟨C, 6, none⟩ = some (.int .i64 cal.msg.seq) := by rw [Lib.cell_of_heap HTC.out.c, ← HCS.out]; rfl
          have k7 : wc.cell? ⟨C, 7, none⟩ = some (.int .i64 cal.msg.story) := by rw [Lib.cell_of_heap HTC.out.c, ← HCS.out]; rfl
          have k8 : wc.cell? ⟨C, 8, none⟩ = some (.int .i64 cal.msg.base) := by rw [Lib.cell_of_heap HTC.out.c, ← HCS.out]; rfl
          have k9 : wc.cell? ⟨C, 9, none⟩ = some (.int .i64 cal.msg.version) := by rw [Lib.cell_of_heap HTC.out.c, ← HCS.out]; rfl
          have k10 : wc.cell? ⟨C, 10, none⟩ = some (.string ⟨cal.msg.data.toArray⟩) := by rw [Lib.cell_of_heap HTC.out.c, ← HCS.out]; rfl
          have HP1 := Lib.hid (HTC.out.perf (HIT.out _ _ _ _ (by decide) HTC.out.it) HCV.out)
          rw [HPF.out] at HP1
          simp only at HP1
          obtain ⟨AK, hAK⟩ : ∃ AK, ackS acked cal = AK := ⟨_, rfl⟩
          have hakl : AK.length ≤ k + 1 := by
            rw [← hAK, ackS_eq]
            split
            · rw [List.length_append]; simp; omega
            · omega
          rw [hAK] at HP1 HNM ⊢
          clear hAK HTC
          go_upto_region 16 with (first
            | (go_at_call 10; (with_reducible (refine HP1.out.mono ?_)); rintro e wE ⟨ma, mc, colE, rfl, hM⟩; have HM := Lib.hid hM; clear hM)
            | fail)
          clear k0 k1 k2 k3 k4 k5 k6 k7 k8 k9 k10 HP1 HIT HCV HCS HPF
          have hau : ∃ au, (ms = [] → au = false) ∧ NumOk W2.now AK s au ms := by
            obtain ⟨au, h1, -, -⟩ := HNM.out HM.out.ok
            by_cases h0 : ms = []
            · subst h0; exact ⟨false, fun _ => rfl, num_none _ _ _⟩
            · exact ⟨au, fun h => absurd h h0, h1⟩
          obtain ⟨au, hau0, hnk⟩ := hau
          have HNK := Lib.hid hnk
          have HNE : Hid (NS S2 (List.foldl (noteD W2.now) s ms) AK ∧ NW { W2 with flight := W2.flight ++ ms } (List.foldl (noteD W2.now) s ms)) := Lib.hid (by
            obtain ⟨au, -, h1, h2⟩ := HNM.out HM.out.ok
            exact ⟨h1, h2⟩)
          have HAS : Hid (∀ (n : Int) (wx : World), Below wE.heap.size wE wx → Calls Tryd.prog 11 #[.slice xa AK.length xc, .int .i64 n] wx fun e w' => e = .returned (.bool (decide (n ∈ AK))) ∧ wx = w') := Lib.hid (fun n wx hb => has_any _ AK n wx (HM.out.below hb).ints)
          have hm16 := HNK.out.len
          have hm4 := HNK.out.len4
          clear HNM hnk
          go_cut [13] (fun v wx => v = .bool au ∧ wE = wx)
          case first =>
            as_aux_lemma =>
            clear hm16 hm4
            by_cases h0 : ms.length = 0
            · obtain rfl := hau0 (List.eq_nil_of_length_eq_zero h0)
              have e0 : decide ((0 : Int) < (ms.length : Int)) = false := decide_eq_false (by omega)
              have e1 : decide (0 < ms.length) = false := decide_eq_false (by omega)
              clear h0 hau0
              go_wp2_with fail
              go_meet
              exact ⟨rfl, rfl⟩
            · have hp : 0 < ms.length := by omega
              have e0 : decide ((0 : Int) < (ms.length : Int)) = true := decide_eq_true (by omega)
              have e1 : decide (0 < ms.length) = true := decide_eq_true hp
              have e2 : (0 : Int) < (ms.length : Int) := by omega
              obtain ⟨g1, o1, rfl, -, hc1, h1⟩ := HM.out.ml.at hp
              have x2 := h1 2 (.int .i64 (ms[0]).seq) (by omega) rfl
              simp only [Nat.zero_mul, Nat.add_zero] at x2
              have hin : decide ((ms[0]).seq ∈ AK) = au := by
                have h := HNK.out.has _ (List.getElem_mem hp)
                cases au
                · exact decide_eq_false fun e => absurd (h.1 e) (by decide)
                · exact decide_eq_true (h.2 rfl)
              obtain ⟨sq0, hsq0⟩ : ∃ x, (ms[0]).seq = x := ⟨_, rfl⟩
              rw [hsq0] at x2 hin
              have HIN := Lib.hid hin
              clear h1 h0 hau0 hsq0 hin
              go_wp2_with (first
                | (go_at_call 11; (with_reducible (refine (HAS.out _ _ (Below.refl _ _)).mono ?_)); rintro e wx ⟨rfl, rfl⟩)
                | fail)
              go_meet
              exact ⟨by rw [HIN.out], rfl⟩
          case rest =>
            as_aux_lemma =>
            obtain ⟨rfl, rfl⟩ := hcut
            clear hau0
            go_upto_region 17 with fail
            go_cut [79] (fun v wx => v = .bool false ∧ wE = wx)
            case first =>
              as_aux_lemma =>
              have e0 : decide ((16 : Int) < (ms.length : Int)) = false := decide_eq_false (by omega)
              have e1 : decide (16 < ms.length) = false := decide_eq_false (by omega)
              cases au
              · go_wp2_with fail
                go_meet
                exact ⟨rfl, rfl⟩
              · have h4 := hm4 rfl
                have e2 : decide ((4 : Int) < (ms.length : Int)) = false := decide_eq_false (by omega)
                have e3 : decide (4 < ms.length) = false := decide_eq_false (by omega)
                go_wp2_with fail
                go_meet
                exact ⟨rfl, rfl⟩
            case rest =>
              as_aux_lemma =>
              obtain ⟨rfl, rfl⟩ := hcut
              clear hm4
              go_upto_region 20 with fail
              go_loopw [6, 7, 14] (fun vs vl i wx => ∃ (j : Nat) (sj : Seen) (colj : Nat → Nat), i = .int .i64 j ∧ j ≤ ms.length ∧ Hid ((ms.take j).foldl (noteD W2.now) s = sj) ∧ sj.length ≤ 16 * k + j ∧ Hid (∀ x ∈ sj, -100000 ≤ x.2 ∧ x.2 ≤ 100000) ∧ Hid (Uniq sj) ∧ Hid (NmM a0 a1 W colj wx b q W2 S2 vs vl (.slice xa AK.length xc) sj AK (.slice ma ms.length mc) ms)) (fun _ _ i _ => ms.length - (intOf i).toNat)
              case atStart => exact ⟨0, s, colE, rfl, Nat.zero_le _, Lib.hid rfl, by omega, HTM, HUQ, HM⟩
              case round =>
                as_aux_lemma =>
                clear HM
                obtain ⟨j, sj, colj, rfl, hj, HSJ, hsjl, HTJ, HUJ, HM⟩ := hrel
                by_cases hjl : j < ms.length
                · have hji : (j : Int) < (ms.length : Int) := by omega
                  have hj0 : (0 : Int) ≤ (j : Int) := by omega
                  obtain ⟨sa, sc, hvs, -, -⟩ := HM.out.nm.seen.form
                  subst hvs
                  obtain ⟨ta, tc, hvl, -, -⟩ := HM.out.nm.last.form
                  subst hvl
                  obtain ⟨g1, o1, hma, -, hc1, h1⟩ := HM.out.ml.at hjl
                  subst hma
                  obtain ⟨m9, hm9⟩ : ∃ m9, ms[j] = m9 := ⟨_, rfl⟩
                  have hget : ms[j]? = some m9 := by rw [List.getElem?_eq_getElem hjl, hm9]
                  have HCH : Hid (Chk W2.now au sj m9) := Lib.hid (by rw [← HSJ.out]; exact HNK.out.chk j m9 hget)
                  have HIN : Hid (decide (m9.seq ∈ AK) = au) := Lib.hid (by
                    have h := HNK.out.has m9 (List.mem_of_getElem? hget)
                    cases au
                    · exact decide_eq_false fun e => absurd (h.1 e) (by decide)
                    · exact decide_eq_true (h.2 rfl))
                  have HTK : Hid ((ms.take (j + 1)).foldl (noteD W2.now) s = noteD W2.now sj m9) := Lib.hid (by
                    rw [List.take_succ_eq_append_getElem hjl, List.foldl_append, HSJ.out, hm9]
                    rfl)
                  have HPV : Hid (au = false → ∀ (i : Nat) (h : i < ms.length), i < j → ms[i].seq < m9.seq) := Lib.hid (fun h i hi hij => by
                    rw [← hm9]
                    exact List.pairwise_iff_getElem.1 (HNK.out.asc h) i j hi hjl hij)
                  rw [hm9] at h1
                  have x0 := h1 0 (.int .i64 m9.kind) (by omega) rfl
                  have x1 := h1 1 (.int .i64 m9.partner) (by omega) rfl
                  have x2 := h1 2 (.int .i64 m9.seq) (by omega) rfl
                  have x3 := h1 3 (.int .i64 m9.story) (by omega) rfl
                  have x4 := h1 4 (.int .i64 m9.base) (by omega) rfl
                  have x5 := h1 5 (.int .i64 m9.version) (by omega) rfl
                  have x6 := h1 6 (.string ⟨m9.data.toArray⟩) (by omega) rfl
                  simp only [Nat.add_zero] at x0
                  clear h1 hm9 hget
                  go_upto_region 23 with fail
                  obtain ⟨wM, hwM⟩ : ∃ wM, wr.alloc (.cells #[.int .i64 m9.kind, .int .i64 m9.partner, .int .i64 m9.seq, .int .i64 m9.story, .int .i64 m9.base, .int .i64 m9.version, .string ⟨m9.data.toArray⟩] 33) = wM := ⟨_, rfl⟩
                  obtain ⟨M, hM⟩ : ∃ M, wr.heap.size = M := ⟨_, rfl⟩
                  have hmat : wM.heap[M]? = some (.cells #[.int .i64 m9.kind, .int .i64 m9.partner, .int .i64 m9.seq, .int .i64 m9.story, .int .i64 m9.base, .int .i64 m9.version, .string ⟨m9.data.toArray⟩] 33 (0, 0)) := by rw [← hwM, ← hM]; exact heap_alloc_new wr _
                  have HMM : Hid (NmM a0 a1 W colj wM b q W2 S2 (.slice sa sj.length sc) (.slice ta sj.length tc) (.slice xa AK.length xc) sj AK (.slice (some ⟨g1, o1, none⟩) ms.length mc) ms) := Lib.hid (HM.out.below (by rw [← hwM]; exact (Below.refl _ wr).alloc (Nat.le_refl _) _))
                  rw [hwM, hM]
                  have y2 : wM.cell? ⟨M, 2, none⟩ = some (.int .i64 m9.seq) := by rw [Lib.cell_of_heap hmat]; rfl
                  have HMA := Lib.hid hmat
                  clear hwM hM hmat x0 x1 x2 x3 x4 x5 x6 HM
                  have HAS2 : Hid (∀ wx, Below wM.heap.size wM wx → Calls Tryd.prog 11 #[.slice xa AK.length xc, .int .i64 m9.seq] wx fun e w' => e = .returned (.bool au) ∧ w' = wx) := Lib.hid (fun wx hb => by
                    refine (has_any _ AK m9.seq wx (HMM.out.below hb).ints).mono fun e w' h => ⟨?_, h.2.symm⟩
                    rw [h.1, HIN.out])
                  go_cut [114] (fun v wx => v = .bool false ∧ Hid (Below wM.heap.size wM wx))
                  case first =>
                    as_aux_lemma =>
                    obtain ⟨sq9, hsq9⟩ : ∃ x, m9.seq = x := ⟨_, rfl⟩
                    rw [hsq9] at y2 HAS2 HPV
                    cases au
                    · by_cases hj9 : j = 0
                      · have e0 : decide ((0 : Int) < (j : Int)) = false := decide_eq_false (by omega)
                        have e1 : decide (0 < j) = false := decide_eq_false (by omega)
                        clear hj9
                        go_quiet ((go_at_call 11; with_reducible exact Calls.quiet_of_same (HAS2.out _ ((Below.refl _ _).drewN _))))
                        go_wp2_with fail
                        go_meet
                        exact ⟨rfl, Lib.hid ((Below.refl _ _).drewN _)⟩
                      · have e0 : decide ((0 : Int) < (j : Int)) = true := decide_eq_true (by omega)
                        have e1 : decide (0 < j) = true := decide_eq_true (by omega)
                        have hj1 : j - 1 < ms.length := by omega
                        obtain ⟨g2, o2, hma, -, -, h1⟩ := HMM.out.ml.at hj1
                        injection hma with hma
                        injection hma with e5 e6
                        subst e5
                        subst e6
                        have z2 := h1 2 (.int .i64 (ms[j - 1]).seq) (by omega) rfl
                        have hlt9 := HPV.out rfl (j - 1) hj1 (by omega)
                        obtain ⟨pv, hpv⟩ : ∃ x, (ms[j - 1]).seq = x := ⟨_, rfl⟩
                        rw [hpv] at z2 hlt9
                        have e2 : decide (sq9 ≤ pv) = false := decide_eq_false (by omega)
                        have hp1 : (0 : Int) ≤ (j : Int) - 1 := by omega
                        have hp2 : (j : Int) - 1 < (ms.length : Int) := by omega
                        have hp3 : IntKind.i64.wrap ((j : Int) - 1) = (j : Int) - 1 := IntWalk.i64_in _ (by omega)
                        have hp4 : ((j : Int) - 1).toNat = j - 1 := by omega
                        clear h1 hpv
                        go_quiet ((go_at_call 11; with_reducible exact Calls.quiet_of_same (HAS2.out _ ((Below.refl _ _).drewN _))))
                        go_wp2_with fail
                        go_meet
                        exact ⟨rfl, Lib.hid ((Below.refl _ _).drewN _)⟩
                    · go_quiet ((go_at_call 11; with_reducible exact Calls.quiet_of_same (HAS2.out _ ((Below.refl _ _).drewN _))))
                      go_wp2_with fail
                      go_meet
                      exact ⟨rfl, Lib.hid ((Below.refl _ _).drewN _)⟩
                  case rest =>
                    as_aux_lemma =>
                    obtain ⟨rfl, HBP⟩ := hcut
                    clear y2 HAS2
                    have HMP := Lib.hid (HMM.out.below HBP.out)
                    have HMC : Hid (wc.heap[M]? = some (.cells #[.int .i64 m9.kind, .int .i64 m9.partner, .int .i64 m9.seq, .int .i64 m9.story, .int .i64 m9.base, .int .i64 m9.version, .string ⟨m9.data.toArray⟩] 33 (0, 0))) := Lib.hid ((HBP.out.block M (Array.getElem?_eq_some_iff.1 HMA.out).1).trans HMA.out)
                    clear HMM HMA HBP
                    obtain ⟨wP, hwP⟩ : ∃ wP, wc = wP := ⟨_, rfl⟩
                    rw [hwP] at HMP HMC ⊢
                    clear hwP
                    go_upto_region 28 with fail
                    go_loopw [16, 17, 18] (fun vi vg i wx => ∃ (n : Nat) (isv gv : Int), vi = .int .i64 isv ∧ vg = .int .i64 gv ∧ i = .int .i64 n ∧ n ≤ sj.length ∧ Hid (FindG sj m9 n isv gv) ∧ Hid (Below wP.heap.size wP wx)) (fun _ _ i _ => sj.length - (intOf i).toNat)
                    case atStart => exact ⟨0, -1, 0, rfl, rfl, rfl, Nat.zero_le _, Lib.hid (FindG.start sj m9), Lib.hid (Below.refl _ _)⟩
                    case round =>
                      as_aux_lemma =>
                      obtain ⟨n, isv, gv, rfl, rfl, rfl, hn, HFG, HBN⟩ := hrel
                      by_cases hnl : n < sj.length
                      · have hni : (n : Int) < (sj.length : Int) := by omega
                        obtain ⟨gs, hsa, -, -, -, h1⟩ := HMP.out.nm.seen.cell (by omega)
                        subst hsa
                        obtain ⟨x9, hx9⟩ : ∃ x, sj[n] = x := ⟨_, rfl⟩
                        have hlm : n < (sj.map Prod.fst).length := by rw [List.length_map]; exact hnl
                        have z2 := (h1 (n * 7 + 2) (.int .i64 x9.1.seq) (by rw [msgs_at _ n 2 hlm (by omega), List.getElem_map, hx9]; rfl)).1
                        have z3 := (h1 (n * 7 + 3) (.int .i64 x9.1.story) (by rw [msgs_at _ n 3 hlm (by omega), List.getElem_map, hx9]; rfl)).1
                        replace z2 := (HBN.out.cell (World.block_lt_of_cell? wP _ z2)).trans z2
                        replace z3 := (HBN.out.cell (World.block_lt_of_cell? wP _ z3)).trans z3
                        have y2 : wP.cell? ⟨M, 2, none⟩ = some (.int .i64 m9.seq) := by rw [Lib.cell_of_heap HMC.out]; rfl
                        have y3 : wP.cell? ⟨M, 3, none⟩ = some (.int .i64 m9.story) := by rw [Lib.cell_of_heap HMC.out]; rfl
                        replace y2 := (HBN.out.cell (World.block_lt_of_cell? wP _ y2)).trans y2
                        replace y3 := (HBN.out.cell (World.block_lt_of_cell? wP _ y3)).trans y3
                        have HST := Lib.hid (HFG.out.step (by rw [List.getElem?_eq_getElem hnl, hx9]))
                        obtain ⟨sx, hsx⟩ : ∃ y, x9.1.seq = y := ⟨_, rfl⟩
                        obtain ⟨tx, htx⟩ : ∃ y, x9.1.story = y := ⟨_, rfl⟩
                        rw [hsx] at z2 HST
                        rw [htx] at z3 HST
                        clear h1 hx9 hlm hsx htx
                        obtain ⟨ms9, hms9⟩ : ∃ y, m9.seq = y := ⟨_, rfl⟩
                        obtain ⟨mt9, hmt9⟩ : ∃ y, m9.story = y := ⟨_, rfl⟩
                        rw [hms9] at y2 HST
                        rw [hmt9] at y3 HST
                        clear hms9 hmt9
                        by_cases hc2 : sx = ms9
                        · have e2 : (sx == ms9) = true := by simp [hc2]
                          by_cases hc3 : tx = mt9
                          · as_aux_lemma =>
                            have e3 : (tx == mt9) = true := by simp [hc3]
                            rw [if_pos hc2, if_pos hc3] at HST
                            clear hc2 hc3
                            go_upto_region 30 with fail
                            go_quiet (fail)
                            obtain ⟨wA, hq9⟩ : ∃ wx, wr.drewN nq = wx := ⟨_, rfl⟩
                            have hb9 : Below wr.heap.size wr wA := by rw [← hq9]; exact (Below.refl _ _).drewN _
                            rw [hq9]
                            have HBA : Hid (Below wP.heap.size wP wA) := Lib.hid (HBN.out.trans (hb9.mono HBN.out.size))
                            replace z2 := (hb9.cell (World.block_lt_of_cell? wr _ z2)).trans z2
                            replace z3 := (hb9.cell (World.block_lt_of_cell? wr _ z3)).trans z3
                            replace y3 := (hb9.cell (World.block_lt_of_cell? wr _ y3)).trans y3
                            clear hq9 hb9
                            go_wp2_with fail
                            go_quiet (fail)
                            obtain ⟨wB9, hq9⟩ : ∃ wx, wA.drewN nq = wx := ⟨_, rfl⟩
                            have hb9 : Below wA.heap.size wA wB9 := by rw [← hq9]; exact (Below.refl _ _).drewN _
                            rw [hq9]
                            have HBB : Hid (Below wP.heap.size wP wB9) := Lib.hid (HBA.out.trans (hb9.mono HBA.out.size))
                            replace z2 := (hb9.cell (World.block_lt_of_cell? wA _ z2)).trans z2
                            clear hq9 hb9
                            go_wp2_with fail
                            go_roundw
                            case rel => exact ⟨n + 1, _, _, rfl, rfl, by go_num, by omega, HST, HBB⟩
                            case measure => simp [intOf]; omega
                          · as_aux_lemma =>
                            have e3 : (tx == mt9) = false := by simp [hc3]
                            rw [if_pos hc2, if_neg hc3] at HST
                            clear hc2 hc3
                            go_upto_region 30 with fail
                            go_quiet (fail)
                            obtain ⟨wA, hq9⟩ : ∃ wx, wr.drewN nq = wx := ⟨_, rfl⟩
                            have hb9 : Below wr.heap.size wr wA := by rw [← hq9]; exact (Below.refl _ _).drewN _
                            rw [hq9]
                            have HBA : Hid (Below wP.heap.size wP wA) := Lib.hid (HBN.out.trans (hb9.mono HBN.out.size))
                            replace z2 := (hb9.cell (World.block_lt_of_cell? wr _ z2)).trans z2
                            replace z3 := (hb9.cell (World.block_lt_of_cell? wr _ z3)).trans z3
                            replace y3 := (hb9.cell (World.block_lt_of_cell? wr _ y3)).trans y3
                            clear hq9 hb9
                            go_wp2_with fail
                            go_quiet (fail)
                            obtain ⟨wB9, hq9⟩ : ∃ wx, wA.drewN nq = wx := ⟨_, rfl⟩
                            have hb9 : Below wA.heap.size wA wB9 := by rw [← hq9]; exact (Below.refl _ _).drewN _
                            rw [hq9]
                            have HBB : Hid (Below wP.heap.size wP wB9) := Lib.hid (HBA.out.trans (hb9.mono HBA.out.size))
                            replace z2 := (hb9.cell (World.block_lt_of_cell? wA _ z2)).trans z2
                            clear hq9 hb9
                            go_wp2_with fail
                            go_roundw
                            case rel => exact ⟨n + 1, _, _, rfl, rfl, by go_num, by omega, HST, HBB⟩
                            case measure => simp [intOf]; omega
                        · have e2 : (sx == ms9) = false := by simp [hc2]
                          by_cases hc3 : tx = mt9
                          · as_aux_lemma =>
                            have e3 : (tx == mt9) = true := by simp [hc3]
                            rw [if_neg hc2, if_pos hc3] at HST
                            clear hc2 hc3
                            go_upto_region 30 with fail
                            go_quiet (fail)
                            obtain ⟨wA, hq9⟩ : ∃ wx, wr.drewN nq = wx := ⟨_, rfl⟩
                            have hb9 : Below wr.heap.size wr wA := by rw [← hq9]; exact (Below.refl _ _).drewN _
                            rw [hq9]
                            have HBA : Hid (Below wP.heap.size wP wA) := Lib.hid (HBN.out.trans (hb9.mono HBN.out.size))
                            replace z2 := (hb9.cell (World.block_lt_of_cell? wr _ z2)).trans z2
                            replace z3 := (hb9.cell (World.block_lt_of_cell? wr _ z3)).trans z3
                            replace y3 := (hb9.cell (World.block_lt_of_cell? wr _ y3)).trans y3
                            clear hq9 hb9
                            go_wp2_with fail
                            go_quiet (fail)
                            obtain ⟨wB9, hq9⟩ : ∃ wx, wA.drewN nq = wx := ⟨_, rfl⟩
                            have hb9 : Below wA.heap.size wA wB9 := by rw [← hq9]; exact (Below.refl _ _).drewN _
                            rw [hq9]
                            have HBB : Hid (Below wP.heap.size wP wB9) := Lib.hid (HBA.out.trans (hb9.mono HBA.out.size))
                            replace z2 := (hb9.cell (World.block_lt_of_cell? wA _ z2)).trans z2
                            clear hq9 hb9
                            go_wp2_with fail
                            go_roundw
                            case rel => exact ⟨n + 1, _, _, rfl, rfl, by go_num, by omega, HST, HBB⟩
                            case measure => simp [intOf]; omega
                          · as_aux_lemma =>
                            have e3 : (tx == mt9) = false := by simp [hc3]
                            rw [if_neg hc2, if_neg hc3] at HST
                            clear hc2 hc3
                            go_upto_region 30 with fail
                            go_quiet (fail)
                            obtain ⟨wA, hq9⟩ : ∃ wx, wr.drewN nq = wx := ⟨_, rfl⟩
                            have hb9 : Below wr.heap.size wr wA := by rw [← hq9]; exact (Below.refl _ _).drewN _
                            rw [hq9]
                            have HBA : Hid (Below wP.heap.size wP wA) := Lib.hid (HBN.out.trans (hb9.mono HBN.out.size))
                            replace z2 := (hb9.cell (World.block_lt_of_cell? wr _ z2)).trans z2
                            replace z3 := (hb9.cell (World.block_lt_of_cell? wr _ z3)).trans z3
                            replace y3 := (hb9.cell (World.block_lt_of_cell? wr _ y3)).trans y3
                            clear hq9 hb9
                            go_wp2_with fail
                            go_quiet (fail)
                            obtain ⟨wB9, hq9⟩ : ∃ wx, wA.drewN nq = wx := ⟨_, rfl⟩
                            have hb9 : Below wA.heap.size wA wB9 := by rw [← hq9]; exact (Below.refl _ _).drewN _
                            rw [hq9]
                            have HBB : Hid (Below wP.heap.size wP wB9) := Lib.hid (HBA.out.trans (hb9.mono HBA.out.size))
                            replace z2 := (hb9.cell (World.block_lt_of_cell? wA _ z2)).trans z2
                            clear hq9 hb9
                            go_wp2_with fail
                            go_roundw
                            case rel => exact ⟨n + 1, _, _, rfl, rfl, by go_num, by omega, HST, HBB⟩
                            case measure => simp [intOf]; omega
                      · obtain rfl : n = sj.length := by omega
                        have y0 : wP.cell? ⟨M, 0, none⟩ = some (.int .i64 m9.kind) := by rw [Lib.cell_of_heap HMC.out]; rfl
                        have y1 : wP.cell? ⟨M, 1, none⟩ = some (.int .i64 m9.partner) := by rw [Lib.cell_of_heap HMC.out]; rfl
                        have y2 : wP.cell? ⟨M, 2, none⟩ = some (.int .i64 m9.seq) := by rw [Lib.cell_of_heap HMC.out]; rfl
                        have y3 : wP.cell? ⟨M, 3, none⟩ = some (.int .i64 m9.story) := by rw [Lib.cell_of_heap HMC.out]; rfl
                        have y4 : wP.cell? ⟨M, 4, none⟩ = some (.int .i64 m9.base) := by rw [Lib.cell_of_heap HMC.out]; rfl
                        have y5 : wP.cell? ⟨M, 5, none⟩ = some (.int .i64 m9.version) := by rw [Lib.cell_of_heap HMC.out]; rfl
                        have y6 : wP.cell? ⟨M, 6, none⟩ = some (.string ⟨m9.data.toArray⟩) := by rw [Lib.cell_of_heap HMC.out]; rfl
                        replace y0 := (HBN.out.cell (World.block_lt_of_cell? wP _ y0)).trans y0
                        replace y1 := (HBN.out.cell (World.block_lt_of_cell? wP _ y1)).trans y1
                        replace y2 := (HBN.out.cell (World.block_lt_of_cell? wP _ y2)).trans y2
                        replace y3 := (HBN.out.cell (World.block_lt_of_cell? wP _ y3)).trans y3
                        replace y4 := (HBN.out.cell (World.block_lt_of_cell? wP _ y4)).trans y4
                        replace y5 := (HBN.out.cell (World.block_lt_of_cell? wP _ y5)).trans y5
                        replace y6 := (HBN.out.cell (World.block_lt_of_cell? wP _ y6)).trans y6
                        obtain ⟨nw, hnw⟩ : ∃ x, W2.now = x := ⟨_, rfl⟩
                        have HNW := Lib.hid hnw
                        have q0 : wr.cell? ⟨q, 0, none⟩ = some (.int .i64 nw) := by
                          obtain ⟨vf, va, h⟩ := (HMP.out.below HBN.out).nm.st.wo.cell
                          rw [← hnw]
                          exact (h 0 (by omega)).1
                        clear hnw
                        go_upto_region 34 with fail
                        go_cut [191] (fun v wx => v = .bool false ∧ Hid (Below wr.heap.size wr wx))
                        case first =>
                          as_aux_lemma =>
                          rcases HFG.out.place with ⟨h1, -⟩ | ⟨i, x, h1, -, -, -⟩
                          · as_aux_lemma =>
                            subst h1
                            obtain ⟨hlt9, -⟩ := HFG.out.new HCH.out
                            have e1 : decide (m9.seq ≤ gv) = false := decide_eq_false (by omega)
                            clear hlt9
                            go_quiet (fail)
                            go_wp2_with fail
                            go_meet
                            exact ⟨rfl, Lib.hid ((Below.refl _ _).drewN _)⟩
                          · as_aux_lemma =>
                            subst h1
                            obtain ⟨t9, hget, hil, hcond, -⟩ := HFG.out.old HUJ.out HCH.out
                            have hii : (i : Int) < (sj.length : Int) := by omega
                            have hi0 : (0 : Int) ≤ (i : Int) := by omega
                            have e1 : decide ((i : Int) < 0) = false := decide_eq_false (by omega)
                            have e2 : decide ((0 : Int) ≤ (i : Int)) = true := decide_eq_true (by omega)
                            obtain ⟨gs, hsa, -, -, -, h1⟩ := (HMP.out.below HBN.out).nm.seen.cell (by omega)
                            subst hsa
                            obtain ⟨gt, hta, -, -, -, h2⟩ := (HMP.out.below HBN.out).nm.last.cell (by omega)
                            subst hta
                            have hlm : i < (sj.map Prod.fst).length := by rw [List.length_map]; exact hil
                            have hme : (sj.map Prod.fst)[i] = m9 := by rw [List.getElem_map, (List.getElem?_eq_some_iff.1 hget).2]
                            have z0 := (h1 (i * 7 + 0) (.int .i64 m9.kind) (by rw [msgs_at _ i 0 hlm (by omega), hme]; rfl)).1
                            have z1 := (h1 (i * 7 + 1) (.int .i64 m9.partner) (by rw [msgs_at _ i 1 hlm (by omega), hme]; rfl)).1
                            have z2 := (h1 (i * 7 + 2) (.int .i64 m9.seq) (by rw [msgs_at _ i 2 hlm (by omega), hme]; rfl)).1
                            have z3 := (h1 (i * 7 + 3) (.int .i64 m9.story) (by rw [msgs_at _ i 3 hlm (by omega), hme]; rfl)).1
                            have z4 := (h1 (i * 7 + 4) (.int .i64 m9.base) (by rw [msgs_at _ i 4 hlm (by omega), hme]; rfl)).1
                            have z5 := (h1 (i * 7 + 5) (.int .i64 m9.version) (by rw [msgs_at _ i 5 hlm (by omega), hme]; rfl)).1
                            have z6 := (h1 (i * 7 + 6) (.string ⟨m9.data.toArray⟩) (by rw [msgs_at _ i 6 hlm (by omega), hme]; rfl)).1
                            simp only [Nat.add_zero] at z0
                            have l0 := (h2 i (.int .i64 t9) (by rw [List.getElem?_map, hget]; rfl)).1
                            have ht9 := HTJ.out _ (List.mem_of_getElem? hget)
                            simp only at ht9
                            rw [HNW.out] at hcond
                            have hnw9 : -1000 - 29 * ((k + 1 : Nat) : Int) ≤ nw ∧ nw ≤ 1000 + 29 * ((k + 1 : Nat) : Int) := by rw [← HNW.out]; exact hnow
                            have hwr9 : IntKind.i64.wrap (nw - t9) = nw - t9 := IntWalk.i64_in _ (by omega)
                            clear h1 h2 hlm hme hget
                            cases au
                            · by_cases ht : t9 ≤ nw
                              · have e3 : decide (t9 ≤ nw) = true := decide_eq_true ht
                                have e4 : decide (nw - t9 < 8) = false := decide_eq_false (fun h => hcond rfl ⟨ht, h⟩)
                                clear hcond
                                go_quiet (fail)
                                go_wp2_with fail
                                go_meet
                                exact ⟨rfl, Lib.hid ((Below.refl _ _).drewN _)⟩
                              · have e3 : decide (t9 ≤ nw) = false := decide_eq_false ht
                                clear hcond
                                go_quiet (fail)
                                go_wp2_with fail
                                go_meet
                                exact ⟨rfl, Lib.hid ((Below.refl _ _).drewN _)⟩
                            · clear hcond
                              go_quiet (fail)
                              go_wp2_with fail
                              go_meet
                              exact ⟨rfl, Lib.hid ((Below.refl _ _).drewN _)⟩
                        case rest =>
                          as_aux_lemma =>
                          obtain ⟨rfl, HBQ⟩ := hcut
                          clear q0
                          replace y0 := (HBQ.out.cell (World.block_lt_of_cell? wr _ y0)).trans y0
                          replace y1 := (HBQ.out.cell (World.block_lt_of_cell? wr _ y1)).trans y1
                          replace y2 := (HBQ.out.cell (World.block_lt_of_cell? wr _ y2)).trans y2
                          replace y3 := (HBQ.out.cell (World.block_lt_of_cell? wr _ y3)).trans y3
                          replace y4 := (HBQ.out.cell (World.block_lt_of_cell? wr _ y4)).trans y4
                          replace y5 := (HBQ.out.cell (World.block_lt_of_cell? wr _ y5)).trans y5
                          replace y6 := (HBQ.out.cell (World.block_lt_of_cell? wr _ y6)).trans y6
                          have HMR := Lib.hid ((HMP.out.below HBN.out).below HBQ.out)
                          have hnw9 : -100000 ≤ nw ∧ nw ≤ 100000 := by rw [← HNW.out]; omega
                          have HUN : Hid (Uniq (noteD W2.now sj m9)) := Lib.hid (note_uniq HUJ.out)
                          clear HBN HBQ HMP HMC
                          rcases HFG.out.place with ⟨h1, -⟩ | ⟨i, x, h1, -, -, -⟩
                          · as_aux_lemma =>
                            subst h1
                            have hnote := (HFG.out.new HCH.out).2
                            have HNT := Lib.hid hnote
                            obtain ⟨i2, hi2, hz0, hz1, hz2⟩ := info_parts infoMsg
                            obtain ⟨i1, hi1, hy0, hy1, hy2⟩ := info_parts infoInt
                            go_upto_region 37 with fail
                            have hmax : (sj.length + 1) * 64 ≤ 140737488355328 := by omega
                            obtain ⟨wB, hwB⟩ : ∃ wB, wc.alloc (.cells #[.int .i64 m9.kind, .int .i64 m9.partner, .int .i64 m9.seq, .int .i64 m9.story, .int .i64 m9.base, .int .i64 m9.version, .string ⟨m9.data.toArray⟩] 33) = wB := ⟨_, rfl⟩
                            have hbB : Below wc.heap.size wc wB := by rw [← hwB]; exact (Below.refl _ wc).alloc (Nat.le_refl _) _
                            have HB := Lib.hid (HMR.out.below hbB)
                            have HWB := Lib.hid hwB
                            have HROW : Hid ((wc.alloc (.cells #[.int .i64 m9.kind, .int .i64 m9.partner, .int .i64 m9.seq, .int .i64 m9.story, .int .i64 m9.base, .int .i64 m9.version, .string ⟨m9.data.toArray⟩] 33)).ownsRow 0 33 7 (.slice sa sj.length sc) sj.length ((sj.map Prod.fst).flatMap msgC)) := Lib.hid (by rw [hwB]; exact HB.out.nm.seen.row)
                            clear hwB hbB
                            go_wp2_with (first
                              | (refine wpList_buildOne rfl 28 33 195 rfl #[.int .i64 m9.kind, .int .i64 m9.partner, .int .i64 m9.seq, .int .i64 m9.story, .int .i64 m9.base, .int .i64 m9.version, .string ⟨m9.data.toArray⟩] i2 _ hi2 hz0 hz1 Tryd.underlying28 (show (0 : Nat) < 7 by decide) (show (7 : Nat) ≤ 2 ^ 24 by decide) (by kernel_rfl) ?_)
                              | (at_builtin; refine wpList_append_own_at _ rfl _ _ 28 rfl 0 33 i2 _ 7 64 Tryd.underlying28 hi2 hz0 hz1 hz2 rfl (by decide) _ _ _ rfl HROW.out ⟨wc.heap.size, 0, none⟩ 1 1 [.int .i64 m9.kind, .int .i64 m9.partner, .int .i64 m9.seq, .int .i64 m9.story, .int .i64 m9.base, .int .i64 m9.version, .string ⟨m9.data.toArray⟩] rfl rfl ?c1 ?c2 ?c3 ?c4 ?c5 ?_)
                              | fail)
                            case c1 => exact World.news_of_block (cs := #[.int .i64 m9.kind, .int .i64 m9.partner, .int .i64 m9.seq, .int .i64 m9.story, .int .i64 m9.base, .int .i64 m9.version, .string ⟨m9.data.toArray⟩]) (t := 33) (fr := (0, 0)) (heap_alloc_new wc _)
                            case c2 => simp [Value.oneCell']
                            case c3 => unfold maxLen; omega
                            case c4 => omega
                            case c5 => omega
                            intro v8 w8 ho8 hg8 _ hat8
                            have hsz8 : wc.heap.size + 1 = wB.heap.size := by rw [← HWB.out]; simp
                            rw [HWB.out] at hg8
                            rw [hsz8] at hat8
                            obtain ⟨col8, h8⟩ := HB.out.half (m := m9) ho8 hg8 hat8
                            have H8 := Lib.hid h8
                            clear ho8 hg8 hat8 hsz8 h8 HB HWB HROW HMR y0 y1 y2 y3 y4 y5 y6
                            have q0 : w8.cell? ⟨q, 0, none⟩ = some (.int .i64 nw) := by
                              obtain ⟨vf, va, h⟩ := H8.out.st.wo.cell
                              rw [← HNW.out]
                              exact (h 0 (by omega)).1
                            obtain ⟨wB, hwB⟩ : ∃ wB, w8.alloc (.cells #[.int .i64 nw] 3) = wB := ⟨_, rfl⟩
                            have hbB : Below w8.heap.size w8 wB := by rw [← hwB]; exact (Below.refl _ w8).alloc (Nat.le_refl _) _
                            have HB := Lib.hid (H8.out.below hbB)
                            have HWB := Lib.hid hwB
                            have HROW : Hid ((w8.alloc (.cells #[.int .i64 nw] 3)).ownsRow 0 3 1 (.slice ta sj.length tc) sj.length (sj.map fun x => Value.int .i64 x.2)) := Lib.hid (by rw [hwB]; exact HB.out.last.row)
                            clear hwB hbB
                            go_wp2_with (first
                              | (at_builtin; refine wpList_append_own_at _ rfl _ _ 29 rfl 0 3 i1 _ 1 8 Tryd.underlying29 hi1 hy0 hy1 hy2 rfl (by decide) _ _ _ rfl HROW.out ⟨w8.heap.size, 0, none⟩ 1 1 [.int .i64 nw] rfl rfl ?d1 ?d2 ?d3 ?d4 ?d5 ?_)
                              | fail)
                            case d1 => exact World.news_of_block (cs := #[.int .i64 nw]) (t := 3) (fr := (0, 0)) (heap_alloc_new w8 _)
                            case d2 => simp [Value.oneCell']
                            case d3 => unfold maxLen; omega
                            case d4 => omega
                            case d5 => omega
                            intro v9 w9 ho9 hg9 _ hat9
                            have hsz9 : w8.heap.size + 1 = wB.heap.size := by rw [← HWB.out]; simp
                            rw [HWB.out] at hg9
                            rw [hsz9] at hat9
                            obtain ⟨col9, h9⟩ := HB.out.whole ho9 hg9 hat9
                            have H9 := Lib.hid h9
                            clear ho9 hg9 hat9 hsz9 h9 HB HWB HROW q0
                            go_wp2_with fail
                            go_roundw
                            case rel =>
                              refine ⟨j + 1, sj ++ [(m9, nw)], col9, by go_num, by omega, Lib.hid ?_, by rw [List.length_append]; simp; omega, Lib.hid ?_, Lib.hid ?_, H9⟩
                              · rw [HTK.out, HNT.out, HNW.out]
                              · intro x hx
                                rcases List.mem_append.1 hx with hx | hx
                                · exact HTJ.out x hx
                                · rw [List.mem_singleton.1 hx]; exact hnw9
                              · have h := HUN.out
                                rw [HNT.out, HNW.out] at h
                                exact h
                            case measure => simp [intOf]; omega
                          · as_aux_lemma =>
                            subst h1
                            obtain ⟨t9, hget, hil, -, hnote⟩ := HFG.out.old HUJ.out HCH.out
                            have HNT := Lib.hid hnote
                            have HGE := Lib.hid hget
                            have hii : (i : Int) < (sj.length : Int) := by omega
                            have hi0 : (0 : Int) ≤ (i : Int) := by omega
                            have e1 : decide ((i : Int) < 0) = false := decide_eq_false (by omega)
                            obtain ⟨gt, hta, -, -, -, h2⟩ := HMR.out.nm.last.cell (by omega)
                            subst hta
                            have l0 := (h2 i (.int .i64 t9) (by rw [List.getElem?_map, hget]; rfl)).1
                            have f0 := (h2 i (.int .i64 t9) (by rw [List.getElem?_map, hget]; rfl)).2
                            have q0 : wc.cell? ⟨q, 0, none⟩ = some (.int .i64 nw) := by
                              obtain ⟨vf, va, h⟩ := HMR.out.nm.st.wo.cell
                              rw [← HNW.out]
                              exact (h 0 (by omega)).1
                            have HEND := Lib.hid (HMR.out.time hil (now := nw) hget)
                            clear h2 hnote hget HMR y0 y1 y2 y3 y4 y5 y6
                            go_wp2_with fail
                            go_roundw
                            case rel =>
                              refine ⟨j + 1, sj.set i (m9, nw), colj, by go_num, by omega, Lib.hid ?_, by rw [List.length_set]; omega, Lib.hid ?_, Lib.hid ?_, Lib.hid ?_⟩
                              · rw [HTK.out, HNT.out, HNW.out]
                              · intro x hx
                                rcases List.mem_or_eq_of_mem_set hx with hx | hx
                                · exact HTJ.out x hx
                                · rw [hx]; exact hnw9
                              · have h := HUN.out
                                rw [HNT.out, HNW.out] at h
                                exact h
                              · exact HEND.out
                            case measure => simp [intOf]; omega
                · obtain rfl : j = ms.length := by omega
                  as_aux_lemma =>
                  rw [List.take_length] at HSJ
                  have hsjl2 : sj.length ≤ 16 * (k + 1) := by omega
                  have hTS := HM.out
                  have HTS := Lib.hid hTS
                  have HMS : Hid (MsgsL wr (.slice ma ms.length mc) ms) := Lib.hid hTS.ml.1
                  obtain ⟨vf, va', hA, hl⟩ := hTS.nm.st.wo
                  obtain ⟨fa, fc, hvf, -, -⟩ := hA.flight.form
                  subst hvf
                  have c67 : wr.cell? ⟨q, 67, none⟩ = some (.slice fa W2.flight.length fc) := (hA.cells 67 (by omega)).1
                  have f67 := (hA.cells 67 (by omega)).2
                  have hqr : q < wr.heap.size := hA.lt q hA.own
                  have HA := Lib.hid hA
                  have HL := Lib.hid hl
                  have HFL : Hid (W2.flight.length + ms.length ≤ 100000) := Lib.hid (by
                    have h1 := HRN.out.flen
                    simp only [List.length_append] at h1
                    omega)
                  clear hTS hA hl
                  go_wp2_with (first
                    | (at_builtin; refine wpList_flow _ (by rfl) _ _ (by rfl) (by rfl) (by rfl) HA.out.flight HMS.out HFL.out hqr ?_)
                    | fail)
                  intro v9 w9 hr9 hg9 hat9
                  obtain ⟨a9, c9, hv9, -, -⟩ := hr9.form
                  rw [List.length_append] at hv9
                  have hbq : w9.heap[q]? = wr.heap[q]? := hg9.block q hqr fun e => (HA.out.flight.own q e.symm).2 rfl
                  have d67 := cell_same hbq c67
                  have e67 := frozen_same hbq f67
                  have HEND : Hid (NmK a0 a1 W b q L (k + 1) u6 u7 (.slice xa AK.length xc) sj AK (w9.setCell ⟨q, 67, none⟩ v9)) := Lib.hid (by
                    obtain ⟨col', h1, f⟩ := HTS.out.nm.st.flowed HA.out HL.out hr9 hg9 hat9
                    obtain ⟨h2, h3⟩ := HNE.out
                    rw [HSJ.out] at h2 h3
                    have hR := HSU.out
                    refine ⟨⟨col', ?_⟩, ?_, ?_, hsjl2, hakl, HTJ.out⟩
                    · rw [hR]; exact HTS.out.nm.fr h1 f (by decide) (by decide) (by decide)
                    · rw [hR]; exact h2
                    · rw [hR]; exact h3)
                  subst hv9
                  clear hbq c67 f67 hr9 hg9 hat9
                  go_wp2_with fail
                  go_roundw
                  case rel => exact ⟨k + 1, sj, AK, by go_num, by omega, HEND⟩
                  case measure => simp [intOf]; omega
    · obtain rfl : k = L.length := by omega
      have HEND : Hid (Below W.heap.size W wr) := Lib.hid (by obtain ⟨col, h⟩ := HS.out.nm; exact h.st.sn.lw.bel)
      go_wp2_with fail
      go_ret
      exact ⟨rfl, HEND.out⟩
end Go.Proofs.YtefloieanpgnmaaDoor
/- SenderNumbers: the walk, at the arguments as they lie. -/
namespace Go.Proofs.YtefloieanpgnmaaDoor
open Go.RowKit

theorem lawNumbers_raw (A : Option Addr) (n c : Nat) {a0 a1 : Addr} (W : World) (h : RawStps W A n c) (S : Sents a0 a1 W) (H : ShiftsAt W) :
    Calls Tryd.prog 3 #[.slice A n c] W fun e w' => e = .returned (.bool true) ∧ Below W.heap.size W w' := by
  obtain ⟨l, h1, h2⟩ := ops_of h
  exact lawNumbers_any _ l W S H h1 (fun o ho => h2 o ho)
end Go.Proofs.YtefloieanpgnmaaDoor

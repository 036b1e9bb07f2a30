/- The walk of one law of the sender. Conditions: those that each theorem names. -/
import Derived.Test.YtefloieanpgnmaaGreatDoorK34
import Derived.Test.YtefloieanpgnmaaGreatDoorK35
import Derived.Deep.DeepCutAuto
import Derived.Deep.CutBlock
import Derived.IntWalk
import Derived.Deep.RegionHeld3
import Derived.Deep.RegionLaw
/- What the law's steps keep. -/
namespace Go.Proofs.YtefloieanpgnmaaGreatDoor
open Go.RowKit

/-- steps of colours 1 and 2 -/
structure Fr2 (w0 : World) (col col' : Nat → Nat) (w w' : World) : Prop where
  same : ∀ k, k < w.heap.size → col' k = col k
  new : ∀ k, w.heap.size ≤ k → col' k = 1 ∨ col' k = 2 ∨ col' k = 0
  block : ∀ k, k < w.heap.size → col k ≠ 1 → col k ≠ 2 → w'.heap[k]? = w.heap[k]?
  size : w.heap.size ≤ w'.heap.size
  bel : Below w0.heap.size w w'
  cl : Cl col' w'
section
variable {w0 : World} {col col' col'' : Nat → Nat} {w w' w'' : World}
theorem Fr2.of {c : Nat} (f : Fr w0 c col col' w w') (hc : c = 1 ∨ c = 2) : Fr2 w0 col col' w w' := by
  refine ⟨f.same, fun k hk => ?_, fun k hk h1 h2 => f.but.block k hk ?_, f.but.size, f.bel, f.cl⟩
  · rcases f.new k hk with h | h
    · rcases hc with e | e
      · exact .inl (h.trans e)
      · exact .inr (.inl (h.trans e))
    · exact .inr (.inr h)
  · rcases hc with e | e <;> rw [e]
    · exact h1
    · exact h2
theorem Fr2.of_below (hcl : Cl col w) (h0 : w0.heap.size ≤ w.heap.size) (h : Below w.heap.size w w') : Fr2 w0 col col w w' :=
  ⟨fun _ _ => rfl, fun k hk => .inr (.inr (hcl k hk)), fun k hk _ _ => h.block k hk, h.size, h.mono h0, hcl.below h.size⟩
theorem Fr2.trans (h : Fr2 w0 col col' w w') (k : Fr2 w0 col' col'' w' w'') : Fr2 w0 col col'' w w'' := by
  have hs := h.size
  refine ⟨fun j hj => (k.same j (by omega)).trans (h.same j hj), fun j hj => ?_, fun j hj h1 h2 => (k.block j (by omega) (by rw [h.same j hj]; exact h1) (by rw [h.same j hj]; exact h2)).trans (h.block j hj h1 h2), Nat.le_trans hs k.size, h.bel.trans k.bel, k.cl⟩
  by_cases e : j < w'.heap.size
  · rw [k.same j e]; exact h.new j hj
  · exact k.new j (by omega)
theorem Sn.fr2 {a0 a1 : Addr} {c b : Nat} {S : Sen} (h : Sn a0 a1 w0 col c w b S) (f : Fr2 w0 col col' w w') (h0 : c ≠ 0) (h1 : c ≠ 1) (h2 : c ≠ 2) : Sn a0 a1 w0 col' c w' b S := by
  obtain ⟨P, h3, h4, h5⟩ := h
  have e : (fun k => col' k = c) = fun k => col k = c := by
    funext k
    by_cases hk : k < w.heap.size
    · rw [f.same k hk]
    · refine propext ⟨fun e => ?_, fun e => absurd (h3.lt k e) hk⟩
      rcases f.new k (by omega) with h | h | h
      · exact absurd (e.symm.trans h) h1
      · exact absurd (e.symm.trans h) h2
      · exact absurd (e.symm.trans h) h0
  refine ⟨P, ?_⟩
  rw [e]
  exact ⟨h3.kept f.size fun k hk => f.block k (h3.lt k hk) (fun e => h1 (hk.symm.trans e)) fun e => h2 (hk.symm.trans e), h4, h5.S, h5.H, h5.bel.trans f.bel⟩
end
/-- what is on its way is cut at its beginning -/
theorem RowO.cut {U : Nat → Prop} {q : Nat} {w : World} {g off n cap : Nat} {l : List Msg} (h : RowO U q w (.slice (some ⟨g, off * 7, none⟩) n cap) l) (k : Nat) (hk : k ≤ l.length) : RowO U q w (.slice (some ⟨g, (off + k) * 7, none⟩) (l.drop k).length (cap - k)) (l.drop k) := by
  rcases h with ⟨h, -⟩ | ⟨g', off', cap', cur, h1, h2, h3, h4, h5, h6, h7, h8⟩
  · cases h
  · injection h1 with e1 e2 e3
    injection e1 with e1
    injection e1 with e1 e4
    subst e1
    have e4 : off = off' := by omega
    subst e4
    subst e3
    refine .inr ⟨g, off + k, cap - k, cur, rfl, h2, h3, h4, ?_, by omega, ?_, ?_⟩
    · rw [List.length_drop]; omega
    · rw [h7]; congr 1; omega
    · have h9 : (cur.toList.drop ((off + k) * 7)) = (cur.toList.drop (off * 7)).drop (k * 7) := by rw [List.drop_drop]; congr 1; omega
      rw [h9, List.length_drop, ← msgs_drop, ← h8, List.drop_take]
      congr 1
      omega
theorem St2.cut {a0 a1 : Addr} {w0 : World} {col : Nat → Nat} {w : World} {b q : Nat} {W : Wld} {S : Sen} {vf va v' : Value} {l' : List Msg} (h : St2 a0 a1 w0 col w b q W S) (hA : WAt (fun k => col k = 2) w q W vf va) (hl : ∀ k, col k = 2 → w0.heap.size ≤ k) (hr : RowO (fun k => col k = 2) q w v' l') (hv : v'.ownBlock = vf.ownBlock) :
    St2 a0 a1 w0 col (w.setCell ⟨q, 67, none⟩ v') b q { W with flight := l' } S ∧ Fr w0 2 col col w (w.setCell ⟨q, 67, none⟩ v') := by
  have hW := hA.putF hr fun j hj => hA.apart j (by rw [← hv]; exact hj)
  have hb : But (fun k => col k = 2) w.heap.size w (w.setCell ⟨q, 67, none⟩ v') := But.setCell (S := fun k => col k = 2) (But.refl _ _ _) hA.own v'
  have f : Fr w0 2 col col w (w.setCell ⟨q, 67, none⟩ v') := ⟨hb, fun _ _ => rfl, fun k hk => .inr (h.cl k hk), hb.below h.sn.lw.bel.size hl, h.cl.below (by simp)⟩
  exact ⟨⟨f.cl, h.sn.fr f h.cl (by decide) (by decide), _, _, hW, hl⟩, f⟩
theorem runs_succ (t : Bool) (X : Wld × Sen) (l : List Op3) {k : Nat} (hk : k < l.length) : runD t X (l.take (k + 1)) = step1 t (runD t X (l.take k)) l[k] := runD_succ t X l hk
theorem RI.runs {k0 : Nat} {X : Wld × Sen} (h : RI k0 X.1 X.2) (l : List Op3) (hk : k0 + l.length ≤ 1000) (t : Bool) : ∀ k, k ≤ l.length → RI (k0 + k) (runD t X (l.take k)).1 (runD t X (l.take k)).2
  | 0, _ => h
  | k + 1, hk2 => by
    rw [runD_succ t _ l (by omega)]
    exact (RI.runs h l hk t k (by omega)).step (by omega) t _
/-- run under way, within a step -/
structure RunC (a0 a1 : Addr) (w0 : World) (col0 : Nat → Nat) (w1 : World) (col : Nat → Nat) (w : World) (b q C : Nat) (W : Wld) (S : Sen) (cs : Array Value) (vi : Value) (cal : Cal) : Prop where
  st : St2 a0 a1 w0 col w b q W S
  fr : Fr2 w0 col0 col w1 w
  c : w.heap[C]? = some (.cells cs 60 (0, 0))
  it : ItF col w vi cal
theorem RunC.below {a0 a1 : Addr} {w0 : World} {col0 : Nat → Nat} {w1 : World} {col : Nat → Nat} {w w' : World} {b q C : Nat} {W : Wld} {S : Sen} {cs : Array Value} {vi : Value} {cal : Cal} (h : RunC a0 a1 w0 col0 w1 col w b q C W S cs vi cal) (hb : Below w.heap.size w w') : RunC a0 a1 w0 col0 w1 col w' b q C W S cs vi cal :=
  ⟨h.st.below hb, h.fr.trans (Fr2.of_below h.st.cl h.st.sn.lw.bel.size hb), (hb.block C (Array.getElem?_eq_some_iff.1 h.c).1).trans h.c, h.it.below hb⟩

theorem St2.next2 {a0 a1 : Addr} {w0 : World} {col : Nat → Nat} {w : World} {b q : Nat} {W : Wld} {S : Sen} (h : St2 a0 a1 w0 col w b q W S) {k : Nat} (hr : RI k W S) (hk : k ≤ 1000) (o : Op3) (ho : okO o) :
    Calls Tryz.prog 22 #[.pointer (some ⟨q, 0, none⟩), .agg #[.int .i64 o.kind, .int .i64 o.story, .int .i64 o.n]] w fun e w' => ∃ (vi : Value) (col' : Nat → Nat) (t : Int) (a : Option Addr) (n c : Nat) (u : Int), callV (W.next o).1 vi = .agg #[.int .i64 (W.next o).1.num, .int .i64 t, .slice a n c, .int .i64 u, .int .i64 (W.next o).1.msg.kind, .int .i64 (W.next o).1.msg.partner, .int .i64 (W.next o).1.msg.seq, .int .i64 (W.next o).1.msg.story, .int .i64 (W.next o).1.msg.base, .int .i64 (W.next o).1.msg.version, .string ⟨(W.next o).1.msg.data.toArray⟩] ∧
      e = .returned (.agg #[.int .i64 (W.next o).1.num, .int .i64 t, .slice a n c, .int .i64 u, .int .i64 (W.next o).1.msg.kind, .int .i64 (W.next o).1.msg.partner, .int .i64 (W.next o).1.msg.seq, .int .i64 (W.next o).1.msg.story, .int .i64 (W.next o).1.msg.base, .int .i64 (W.next o).1.msg.version, .string ⟨(W.next o).1.msg.data.toArray⟩]) ∧
      St2 a0 a1 w0 col' w' b q (W.next o).2 S ∧ Fr2 w0 col col' w w' ∧ ItF col' w' vi (W.next o).1 := by
  refine (h.next hr hk o ho).mono ?_
  rintro e w' ⟨vi, col', rfl, h1, f, h2⟩
  obtain ⟨t, a, n, c, u, hf⟩ := callV_form h2
  exact ⟨vi, col', t, a, n, c, u, hf, by rw [hf], h1, Fr2.of f (.inr rfl), h2⟩
end Go.Proofs.YtefloieanpgnmaaGreatDoor
/- The law's settle. -/
namespace Go.Proofs.YtefloieanpgnmaaGreatDoor
open Go.RowKit

attribute [local irreducible] Sen.plan Sen.recv Sen.tick
theorem PT.fold {now : Int} : ∀ (L : List Msg) {X : Peer × Sen}, PT X.1 → PT (L.foldl (give1 now) X).1
  | [], _, h => h
  | m :: L, X, h => PT.fold L (X := give1 now X m) (h.answer m)
theorem PT.beat {X : Wld × Sen} (h : PT X.1.p) : PT (beat X).1.p := PT.fold _ (X := (X.1.p, _)) h
theorem PT.settle {X : Wld × Sen} (h : PT X.1.p) : ∀ n, PT (settleD X n).1.p
  | 0 => by rw [(settle_zero X).1]; exact h
  | n + 1 => (PT.settle h n).beat
/-- the partner and the sender, k messages of a tick being answered -/
def gvK (X : Wld × Sen) (k : Nat) : Peer × Sen := ((X.2.tick (X.1.now + 1)).1.take k).foldl (give1 (X.1.now + 1)) (X.1.p, (X.2.tick (X.1.now + 1)).2)
theorem gvK_succ (X : Wld × Sen) {k : Nat} (hk : k < (X.2.tick (X.1.now + 1)).1.length) : gvK X (k + 1) = give1 (X.1.now + 1) (gvK X k) (X.2.tick (X.1.now + 1)).1[k] := by
  unfold gvK
  rw [List.take_succ_eq_append_getElem hk, List.foldl_append]
  rfl
theorem gvK_all (X : Wld × Sen) : beat X = ({ X.1 with now := X.1.now + 1, p := (gvK X (X.2.tick (X.1.now + 1)).1.length).1 }, (gvK X (X.2.tick (X.1.now + 1)).1.length).2) := by
  unfold gvK
  rw [List.take_length]
  rfl
/-- what the law's settle needs of a tick -/
structure BtOk (X : Wld × Sen) : Prop where
  now : -1000000000 ≤ X.1.now ∧ X.1.now ≤ 1000000000
  pt : PT X.1.p
  msg : ∀ m ∈ (X.2.tick (X.1.now + 1)).1, (1 ≤ m.story ∧ m.story ≤ 64) ∧ m.data.length ≤ 9223372036854775000
  len : (X.2.tick (X.1.now + 1)).1.length ≤ 16
theorem RI.settle {k : Nat} {W : Wld} {S : Sen} (h : RI k W S) (hk : k ≤ 1000) {n : Nat} (hn : n ≤ 100) : BtOk (settleD (W, S) n) := by
  have hrow := row_of (B := 16 * (k : Int)) (by omega) h.wi.pi h.wi.sp h.syn
  obtain ⟨-, hsp, -⟩ := hrow.at QT_ok n hn
  simp only at hsp
  obtain ⟨h1, -, -⟩ := settle_at (W, S) n
  have h2 := (settle_zero (W, S)).2.1
  have h3 := h.now
  simp only at h2
  rw [h2] at h1
  refine ⟨by omega, PT.settle h.txt n, fun m hm => ?_, tick_len hsp _⟩
  obtain ⟨i, k', hi, hb, -⟩ := (hsp.tick ((settleD (W, S) n).1.now + 1)).2.2 m hm
  have h4 := brings_data hb
  have h5 := hb.2.1
  omega
theorem RI.lease_now {k : Nat} {W : Wld} {S : Sen} (h : RI k W S) (hk : k ≤ 1000) : (-1000000000 ≤ W.now ∧ W.now ≤ 1000000000) ∧ (-1000000000 ≤ W.lease ∧ W.lease ≤ 1000000000) := by
  have h1 := h.now; have h2 := h.lease
  omega
/-- a cell of the world is set -/
theorem St2.put {a0 a1 : Addr} {w0 : World} {col : Nat → Nat} {w : World} {b q : Nat} {W W' : Wld} {S : Sen} (h : St2 a0 a1 w0 col w b q W S) {o : Nat} (ho : o < 264) {v : Value} (hf : ∀ vf va x, x < 264 → updV (wldV W vf va) o v x = wldV W' vf va x) (h1 : W'.flight = W.flight) (h2 : W'.answers = W.answers) :
    St2 a0 a1 w0 col (w.setCell ⟨q, o, none⟩ v) b q W' S ∧ Fr w0 2 col col w (w.setCell ⟨q, o, none⟩ v) := by
  obtain ⟨vf, va, hA, hl⟩ := h.wo
  have hW := hA.put ho (hf vf va) h1 h2
  have hb : But (fun k => col k = 2) w.heap.size w (w.setCell ⟨q, o, none⟩ v) := But.setCell (S := fun k => col k = 2) (But.refl _ _ _) hA.own v
  have f : Fr w0 2 col col w (w.setCell ⟨q, o, none⟩ v) := ⟨hb, fun _ _ => rfl, fun k hk => .inr (h.cl k hk), hb.below h.sn.lw.bel.size hl, h.cl.below (by simp)⟩
  exact ⟨⟨f.cl, h.sn.fr f h.cl (by decide) (by decide), _, _, hW, hl⟩, f⟩
theorem St2.cell {a0 a1 : Addr} {w0 : World} {col : Nat → Nat} {w : World} {b q : Nat} {W : Wld} {S : Sen} (h : St2 a0 a1 w0 col w b q W S) : w.cell? ⟨q, 0, none⟩ = some (.int .i64 W.now) ∧ w.cell? ⟨q, 1, none⟩ = some (.int .i64 W.lease) ∧ w.frozen? ⟨q, 0, none⟩ = false ∧ w.frozen? ⟨q, 1, none⟩ = false := by
  obtain ⟨vf, va, h⟩ := h.wo.cell
  exact ⟨(h 0 (by omega)).1, (h 1 (by omega)).1, (h 0 (by omega)).2, (h 1 (by omega)).2⟩
/-- a beat under way -/
structure BtS (a0 a1 : Addr) (w0 : World) (col0 : Nat → Nat) (w1 : World) (col : Nat → Nat) (w : World) (b q : Nat) (X : Wld × Sen) (v : Value) (k : Nat) : Prop where
  st : St2 a0 a1 w0 col w b q { X.1 with now := X.1.now + 1, p := (gvK X k).1 } (gvK X k).2
  fr : Fr2 w0 col0 col w1 w
  ml : ML col w v (X.2.tick (X.1.now + 1)).1
theorem BtS.below {a0 a1 : Addr} {w0 : World} {col0 : Nat → Nat} {w1 : World} {col : Nat → Nat} {w w' : World} {b q : Nat} {X : Wld × Sen} {v : Value} {k : Nat} (h : BtS a0 a1 w0 col0 w1 col w b q X v k) (hb : Below w.heap.size w w') : BtS a0 a1 w0 col0 w1 col w' b q X v k :=
  ⟨h.st.below hb, h.fr.trans (Fr2.of_below h.st.cl h.st.sn.lw.bel.size hb), h.ml.below hb⟩
/-- the answer is made -/
structure BtA (a0 a1 : Addr) (w0 : World) (col0 : Nat → Nat) (w1 : World) (col : Nat → Nat) (w : World) (b q : Nat) (X : Wld × Sen) (v : Value) (k : Nat) (p : Peer) : Prop where
  st : St2 a0 a1 w0 col w b q { X.1 with now := X.1.now + 1, p := p } (gvK X k).2
  fr : Fr2 w0 col0 col w1 w
  ml : ML col w v (X.2.tick (X.1.now + 1)).1
theorem BtS.answer {a0 a1 : Addr} {w0 : World} {col0 : Nat → Nat} {w1 : World} {col : Nat → Nat} {w : World} {b q : Nat} {X : Wld × Sen} {v : Value} {k : Nat} (h : BtS a0 a1 w0 col0 w1 col w b q X v k) (hx : BtOk X) (hk : k < (X.2.tick (X.1.now + 1)).1.length) {m : Msg} (hm : (X.2.tick (X.1.now + 1)).1[k] = m) :
    Calls Tryz.prog 18 #[.pointer (some ⟨q, 69, none⟩), .agg #[.int .i64 m.kind, .int .i64 m.partner, .int .i64 m.seq, .int .i64 m.story, .int .i64 m.base, .int .i64 m.version, .string ⟨m.data.toArray⟩]] w fun e w' => e = .returned ((gvK X k).1.answer m).1.enc ∧ BtA a0 a1 w0 col0 w1 col w' b q X v k ((gvK X k).1.answer m).2 := by
  have hmo := hx.msg m (by rw [← hm]; exact List.getElem_mem hk)
  have hpt : PT (gvK X k).1 := PT.fold _ (X := (X.1.p, _)) hx.pt
  refine (answer_w h.st.wo h.st.cl h.st.sn.lw m hmo.1 hpt hmo.2).mono ?_
  rintro e w' ⟨rfl, h1, f⟩
  exact ⟨rfl, ⟨f.cl, h.st.sn.fr f h.st.cl (by decide) (by decide), h1⟩, h.fr.trans (Fr2.of f (.inr rfl)), h.ml.fr f (by decide)⟩
theorem BtA.receive {a0 a1 : Addr} {w0 : World} {col0 : Nat → Nat} {w1 : World} {col : Nat → Nat} {w : World} {b q : Nat} {X : Wld × Sen} {v : Value} {k : Nat} {m : Msg} (hx : BtOk X) (hk : k < (X.2.tick (X.1.now + 1)).1.length) (hm : (X.2.tick (X.1.now + 1)).1[k] = m) (h : BtA a0 a1 w0 col0 w1 col w b q X v k ((gvK X k).1.answer m).2) :
    Calls Tryz.prog 17 #[.pointer (some ⟨b, 0, none⟩), .int .i64 (X.1.now + 1), ((gvK X k).1.answer m).1.enc] w fun e w' => e = .returned (.tuple #[]) ∧ ∃ col', BtS a0 a1 w0 col0 w1 col' w' b q X v (k + 1) := by
  have hn := hx.now
  refine (receive_c h.st.sn (by decide) (X.1.now + 1) (by omega) _ (by rw [answer_data]; exact Nat.zero_le _)).mono ?_
  rintro e w' ⟨rfl, col', h1, f⟩
  refine ⟨rfl, col', ⟨f.cl, ?_, ?_⟩, h.fr.trans (Fr2.of f (.inl rfl)), h.ml.fr f (by decide)⟩
  · rw [gvK_succ X hk, hm]; exact h1
  · rw [gvK_succ X hk, hm]; exact h.st.wo.fr f h.st.cl (by decide) (by decide)

/-- settle under way -/
def SetS (a0 a1 : Addr) (w0 : World) (col0 : Nat → Nat) (w1 : World) (b q : Nat) (X : Wld × Sen) (w : World) : Prop := ∃ col, St2 a0 a1 w0 col w b q X.1 X.2 ∧ Fr2 w0 col0 col w1 w
theorem SetS.below {a0 a1 : Addr} {w0 : World} {col0 : Nat → Nat} {w1 w w' : World} {b q : Nat} {X : Wld × Sen} (h : SetS a0 a1 w0 col0 w1 b q X w) (hb : Below w.heap.size w w') : SetS a0 a1 w0 col0 w1 b q X w' := by
  obtain ⟨col, h1, h2⟩ := h
  exact ⟨col, h1.below hb, h2.trans (Fr2.of_below h1.cl h1.sn.lw.bel.size hb)⟩
theorem SetS.put {a0 a1 : Addr} {w0 : World} {col0 : Nat → Nat} {w1 w : World} {b q : Nat} {W W' : Wld} {S : Sen} (h : SetS a0 a1 w0 col0 w1 b q (W, S) w) {o : Nat} (ho : o < 264) {v : Value} (hf : ∀ vf va x, x < 264 → updV (wldV W vf va) o v x = wldV W' vf va x) (h1 : W'.flight = W.flight) (h2 : W'.answers = W.answers) : SetS a0 a1 w0 col0 w1 b q (W', S) (w.setCell ⟨q, o, none⟩ v) := by
  obtain ⟨col, h3, h4⟩ := h
  obtain ⟨h5, f⟩ := h3.put ho hf h1 h2
  exact ⟨col, h5, h4.trans (Fr2.of f (.inr rfl))⟩
theorem SetS.lease {a0 a1 : Addr} {w0 : World} {col0 : Nat → Nat} {w1 w : World} {b q : Nat} {W : Wld} {S : Sen} (h : SetS a0 a1 w0 col0 w1 b q (W, S) w) (u : Int) (hu : -9223372036854775808 ≤ u ∧ u ≤ 9223372036854775807) :
    Calls Tryz.prog 12 #[.pointer (some ⟨b, 0, none⟩), .int .i64 u] w fun e w' => e = .returned (.tuple #[]) ∧ SetS a0 a1 w0 col0 w1 b q (W, { S with lease := u }) w' := by
  obtain ⟨col, h3, h4⟩ := h
  refine (lease_c h3.sn (by decide) u hu).mono ?_
  rintro e w' ⟨rfl, col', h5, f⟩
  exact ⟨rfl, col', ⟨f.cl, h5, h3.wo.fr f h3.cl (by decide) (by decide)⟩, h4.trans (Fr2.of f (.inl rfl))⟩
/-- the tick is made -/
theorem SetS.tick {a0 a1 : Addr} {w0 : World} {col0 : Nat → Nat} {w1 w : World} {b q : Nat} {X : Wld × Sen} (hx : BtOk X) (h : SetS a0 a1 w0 col0 w1 b q ({ X.1 with now := X.1.now + 1 }, X.2) w) :
    Calls Tryz.prog 15 #[.pointer (some ⟨b, 0, none⟩), .int .i64 (X.1.now + 1)] w fun e w' => ∃ a c, e = .returned (.slice a (X.2.tick (X.1.now + 1)).1.length c) ∧ ∃ col, BtS a0 a1 w0 col0 w1 col w' b q X (.slice a (X.2.tick (X.1.now + 1)).1.length c) 0 := by
  obtain ⟨col, h3, h4⟩ := h
  have hn := hx.now
  refine (tick_c h3.sn (by decide) (X.1.now + 1) (by omega)).mono ?_
  rintro e w' ⟨v, col', rfl, hm, hv, h5, f⟩
  have hm2 := hm
  obtain ⟨a, c, rfl, -⟩ := hm
  exact ⟨a, c, rfl, col', ⟨f.cl, h5, h3.wo.fr f h3.cl (by decide) (by decide)⟩, h4.trans (Fr2.of f (.inl rfl)), hm2, fun j hj => ⟨(hv j hj).2.2, (hv j hj).1⟩⟩
theorem BtS.done {a0 a1 : Addr} {w0 : World} {col0 : Nat → Nat} {w1 : World} {col : Nat → Nat} {w : World} {b q : Nat} {X : Wld × Sen} {v : Value} (h : BtS a0 a1 w0 col0 w1 col w b q X v (X.2.tick (X.1.now + 1)).1.length) : SetS a0 a1 w0 col0 w1 b q (beat X) w := by
  rw [gvK_all]
  exact ⟨col, h.st, h.fr⟩
end Go.Proofs.YtefloieanpgnmaaGreatDoor
/- The law's complete: plain. -/
namespace Go.Proofs.YtefloieanpgnmaaGreatDoor
open Go.RowKit

theorem Fin.heldL {W : Wld} {S : Sen} (h : Fin W S) : S.heldL = wantL W := by
  unfold Sen.heldL wantL
  by_cases hl : W.lease < W.now
  · rw [if_neg (by omega)]
    refine (filterMap_same (g := fun _ => none) fun i hi => ?_).trans (List.filterMap_eq_nil_iff.2 fun _ _ => rfl)
    have hi := List.mem_range.1 hi
    rw [h.held i hi, if_pos hl]
  · rw [if_pos (by omega)]
    unfold Wld.items
    refine filterMap_same fun i hi => ?_
    have hi := List.mem_range.1 hi
    rw [h.held i hi, if_neg hl]
    unfold wOf
    by_cases h0 : W.wanted (i + 1) = 0
    · rw [if_pos h0, if_pos h0]
    · rw [if_neg h0, if_neg h0]
theorem Fin.settled {W : Wld} {S : Sen} (h : Fin W S) : S.settled W.now = true := by
  unfold Sen.settled
  rw [List.all_eq_true]
  intro i hi
  have hi := List.mem_range.1 hi
  rw [h.out i hi, h.held i hi, h.tgt i hi]
  simp only [Option.isNone_none, Bool.true_and]
  refine Kn.is_iff.2 ⟨rfl, ?_⟩
  split
  · simp
  · unfold wOf; split <;> simp
theorem wantL_at {W : Wld} {x : Int × List UInt8} (hx : x ∈ wantL W) : ∃ i : Nat, i < 64 ∧ x.1 = (i : Int) + 1 ∧ ¬ W.lease < W.now ∧ W.wanted (i + 1) ≠ 0 ∧ x.2 = txtOf (W.wanted (i + 1) - 1) := by
  unfold wantL at hx
  by_cases hl : W.now ≤ W.lease
  · rw [if_pos hl] at hx
    unfold Wld.items at hx
    obtain ⟨i, hi, h⟩ := List.mem_filterMap.1 hx
    have hi := List.mem_range.1 hi
    by_cases h0 : W.wanted (i + 1) = 0
    · rw [if_pos h0] at h; cases h
    · rw [if_neg h0] at h
      injection h with h
      rw [← h]
      exact ⟨i, hi, rfl, by omega, h0, rfl⟩
  · rw [if_neg hl] at hx; cases hx
theorem Fin.have {W : Wld} {S : Sen} (h : Fin W S) {x : Int × List UInt8} (hx : x ∈ wantL W) : ∃ j : Nat, 1 ≤ j ∧ j ≤ 64 ∧ x.1 = (j : Int) ∧ W.p.has j = true ∧ W.p.text j = x.2 := by
  obtain ⟨i, hi, h1, h2, h3, h4⟩ := wantL_at hx
  have hc := h.copy i hi
  rw [if_neg h2] at hc
  unfold Peer.copy wOf at hc
  rw [if_neg h3] at hc
  refine ⟨i + 1, by omega, by omega, by rw [h1]; push_cast; rfl, ?_⟩
  cases hh : W.p.has (i + 1) with
  | false => rw [hh] at hc; cases hc
  | true =>
    rw [hh] at hc
    simp only [if_true] at hc
    injection hc with hc
    exact ⟨rfl, by rw [hc, h4]⟩
/-- how many copies the partner has, of the stories before j -/
def cntH (p : Peer) (j : Nat) : Nat := (List.range (j - 1)).countP fun i => p.has (i + 1)
theorem cntH_succ (p : Peer) {j : Nat} (hj : 1 ≤ j) : cntH p (j + 1) = cntH p j + if p.has j = true then 1 else 0 := by
  obtain ⟨i, rfl⟩ : ∃ i, j = i + 1 := ⟨j - 1, by omega⟩
  unfold cntH
  rw [Nat.add_sub_cancel, Nat.add_sub_cancel, List.range_succ, List.countP_append, List.countP_singleton]
theorem cntH_le (p : Peer) (j : Nat) : cntH p j ≤ j := by
  unfold cntH
  have := List.countP_le_length (p := fun i => p.has (i + 1)) (l := List.range (j - 1))
  rw [List.length_range] at this
  omega
theorem filterMap_count {f : Nat → Option (Int × List UInt8)} {g : Nat → Bool} : ∀ {l : List Nat}, (∀ i ∈ l, (f i).isSome = g i) → (l.filterMap f).length = l.countP g
  | [], _ => rfl
  | i :: l, h => by
    have h1 := h i List.mem_cons_self
    have ih := filterMap_count (f := f) (g := g) (l := l) fun j hj => h j (List.mem_cons_of_mem _ hj)
    rw [List.filterMap_cons, List.countP_cons]
    cases hf : f i with
    | none => rw [hf] at h1; rw [← h1]; simpa using ih
    | some x => rw [hf] at h1; rw [← h1]; simpa using ih
theorem Fin.count {W : Wld} {S : Sen} (h : Fin W S) : cntH W.p 65 = (wantL W).length := by
  unfold cntH wantL
  by_cases hl : W.now ≤ W.lease
  · rw [if_pos hl]
    unfold Wld.items
    rw [filterMap_count (g := fun i => W.p.has (i + 1))]
    intro i hi
    have hi := List.mem_range.1 hi
    have hc := h.copy i hi
    rw [if_neg (by omega)] at hc
    unfold Peer.copy wOf at hc
    cases hh : W.p.has (i + 1) with
    | true =>
      rw [hh] at hc
      by_cases h0 : W.wanted (i + 1) = 0
      · rw [if_pos h0] at hc; cases hc
      · rw [if_neg h0]; rfl
    | false =>
      rw [hh] at hc
      by_cases h0 : W.wanted (i + 1) = 0
      · rw [if_pos h0]; rfl
      · rw [if_neg h0] at hc; cases hc
  · rw [if_neg hl]
    show (List.range 64).countP _ = 0
    rw [List.countP_eq_zero]
    intro i hi
    have hi := List.mem_range.1 hi
    have hc := h.copy i hi
    rw [if_pos (by omega)] at hc
    unfold Peer.copy at hc
    cases hh : W.p.has (i + 1) with
    | false => exact Bool.false_ne_true
    | true => rw [hh] at hc; cases hc
end Go.Proofs.YtefloieanpgnmaaGreatDoor
/- The law's complete: the walk. -/
namespace Go.Proofs.YtefloieanpgnmaaGreatDoor
open Go.RowKit

theorem items_at (l : List (Int × List UInt8)) (k c : Nat) (hk : k < l.length) (hc : c < 2) : (l.flatMap itemC)[k * 2 + c]? = (itemC l[k])[c]? := by
  induction l generalizing k with
  | nil => simp at hk
  | cons x l ih =>
    rw [List.flatMap_cons]
    cases k with
    | zero => rw [Nat.zero_mul, Nat.zero_add, List.getElem?_append_left (by simpa [itemC] using hc)]; rfl
    | succ k =>
      rw [List.getElem?_append_right (by simp [itemC]; omega)]
      have : (k + 1) * 2 + c - (itemC x).length = k * 2 + c := by simp [itemC]; omega
      rw [this, ih k (by simpa using hk)]; rfl
/-- a list of items in memory -/
def ILs (w : World) (v : Value) (H : List (Int × List UInt8)) : Prop := ∃ a c, v = .slice a H.length c ∧ H.length ≤ c ∧ ∀ k (h : k < H.length), ∃ g, a = some ⟨g, 0, none⟩ ∧ w.cell? ⟨g, k * 2, none⟩ = some (.int .i64 H[k].1) ∧ w.cell? ⟨g, k * 2 + 1, none⟩ = some (.string ⟨H[k].2.toArray⟩)
theorem ILs.of {w : World} {base : Nat} {v : Value} {H : List (Int × List UInt8)} (h : w.ownsRow base 49 2 v H.length (H.flatMap itemC)) : ILs w v H := by
  rcases h.2 with ⟨rfl, h2⟩ | ⟨g, cap, cur, rfl, -, -, h2, -⟩
  · exact ⟨none, 0, by rw [h2], by omega, fun k hk => by omega⟩
  · refine ⟨_, cap, rfl, h2, fun k hk => ⟨g, rfl, ?_, ?_⟩⟩
    · have := h.cells (g := g) rfl (k * 2 + 0) (.int .i64 H[k].1) (by rw [items_at H k 0 hk (by omega)]; rfl)
      rwa [Addr.add_lit, Nat.zero_add, Nat.add_zero] at this
    · have := h.cells (g := g) rfl (k * 2 + 1) (.string ⟨H[k].2.toArray⟩) (by rw [items_at H k 1 hk (by omega)]; rfl)
      rwa [Addr.add_lit, Nat.zero_add] at this
theorem ILs.below {w w' : World} {v : Value} {H : List (Int × List UInt8)} (h : ILs w v H) (hb : Below w.heap.size w w') : ILs w' v H := by
  obtain ⟨a, c, h1, h2, h3⟩ := h
  refine ⟨a, c, h1, h2, fun k hk => ?_⟩
  obtain ⟨g, h4, h5, h6⟩ := h3 k hk
  exact ⟨g, h4, (hb.cell (World.block_lt_of_cell? w _ h5)).trans h5, (hb.cell (World.block_lt_of_cell? w _ h6)).trans h6⟩

set_option maxRecDepth 100000 in
set_option maxHeartbeats 16000000 in
theorem complete_any {a0 a1 : Addr} {w0 : World} {col : Nat → Nat} {w : World} {b q : Nat} {W : Wld} {S : Sen} (h : St2 a0 a1 w0 col w b q W S) (hf : Fin W S) (hw : W100 W) :
    Calls Tryz.prog 10 #[.pointer (some ⟨q, 0, none⟩), .pointer (some ⟨b, 0, none⟩)] w fun e w' => e = .returned (.bool true) ∧ Below w.heap.size w w' := by
  have HST : Hid (∀ wx, Below w.heap.size w wx → St2 a0 a1 w0 col wx b q W S) := Lib.hid (fun wx hb => h.below hb)
  have HFI := Lib.hid hf
  obtain ⟨H, hH⟩ : ∃ H, wantL W = H := ⟨_, rfl⟩
  have hhl := hf.heldL
  have hse := hf.settled
  have hcn := hf.count
  have hhv : ∀ x ∈ H, ∃ j : Nat, 1 ≤ j ∧ j ≤ 64 ∧ x.1 = (j : Int) ∧ W.p.has j = true ∧ W.p.text j = x.2 := fun x hx => hf.have (by rw [hH]; exact hx)
  have hwl : H = if W.now ≤ W.lease then W.items else [] := by rw [← hH]; rfl
  rw [hH] at hhl hcn
  have HHV := Lib.hid hhv
  have HHE := Lib.hid hhl
  have HSE := Lib.hid hse
  have HCN := Lib.hid hcn
  have HHD : Hid (∀ wx, Below w.heap.size w wx → Calls Tryz.prog 19 #[.pointer (some ⟨b, 0, none⟩)] wx fun e w' => ∃ a c, e = .returned (.slice a H.length c) ∧ ILs w' (.slice a H.length c) H ∧ Below w.heap.size w w' ∧ Below wx.heap.size wx w') := Lib.hid (fun wx hb => by
    refine (held_c (h.below hb).sn).mono ?_
    rintro e w' ⟨v, rfl, h1, h2⟩
    rw [hhl] at h1
    have h3 := ILs.of h1
    obtain ⟨a, c, rfl, -, -⟩ := id h3
    exact ⟨a, c, rfl, h3, hb.trans (h2.mono hb.size), h2⟩)
  have HSD : Hid (∀ wx, Below w.heap.size w wx → Calls Tryz.prog 21 #[.pointer (some ⟨b, 0, none⟩), .int .i64 W.now] wx fun e w' => e = .returned (.bool true) ∧ Below w.heap.size w w' ∧ Below wx.heap.size wx w') := Lib.hid (fun wx hb => by
    refine (settled_c (h.below hb).sn W.now).mono ?_
    rintro e w' ⟨rfl, h2⟩
    rw [hse]
    exact ⟨rfl, hb.trans (h2.mono hb.size), h2⟩)
  have HIT : Hid (∀ wx, Below w.heap.size w wx → W.now ≤ W.lease → Calls Tryz.prog 14 #[.pointer (some ⟨q, 0, none⟩)] wx fun e w' => ∃ a c, e = .returned (.slice a H.length c) ∧ ILs w' (.slice a H.length c) H ∧ Below w.heap.size w w') := Lib.hid (fun wx hb hl => by
    obtain ⟨vf, va, hA, -⟩ := (h.below hb).wo
    refine (items_any hA.cells (hA.lt q hA.own) hw).mono ?_
    rintro e w' ⟨v, rfl, h1, h2⟩
    rw [hwl, if_pos hl]
    have h3 := ILs.of h1
    obtain ⟨a, c, rfl, -, -⟩ := id h3
    exact ⟨a, c, rfl, h3, hb.trans (h2.mono hb.size)⟩)
  have HNI : Hid (¬ W.now ≤ W.lease → H = []) := Lib.hid (fun hl => by rw [hwl, if_neg hl])
  have HCE : Hid (∀ wx, Below w.heap.size w wx → ∃ vf va, SenF 264 wx q (wldV W vf va)) := Lib.hid (fun wx hb => (h.below hb).wo.cell)
  have hll : W.items.length ≤ 64 := itemsK_len W 64
  have hH64 : H.length ≤ 64 := by
    rw [hwl]; split
    · exact hll
    · exact Nat.zero_le _
  obtain ⟨nw, hnw⟩ : ∃ x, W.now = x := ⟨_, rfl⟩
  obtain ⟨ls, hls⟩ : ∃ x, W.lease = x := ⟨_, rfl⟩
  obtain ⟨c0, c1, -, -⟩ := h.cell
  have HNW := Lib.hid hnw
  rw [hnw] at c0 HSD
  rw [hls] at c1
  rw [hnw, hls] at HIT HNI
  clear h hf hhl hse hcn hhv hwl hH hll hnw hls hw HST HFI HHE HSE
  go_enter Tryz.func10, Tryz.ntmps10
  obtain ⟨r, hr⟩ : ∃ r, decide (nw ≤ ls) = r := ⟨_, rfl⟩
  go_upto_region 2 with fail
  go_quiet (fail)
  obtain ⟨wA, hq9⟩ : ∃ wx, w.drewN nq = wx := ⟨_, rfl⟩
  have HBA : Hid (Below w.heap.size w wA) := Lib.hid (by rw [← hq9]; exact (Below.refl _ _).drewN _)
  rw [hq9]
  clear hq9
  go_upto_if 19 with fail
  go_cut [5] (fun v wx => ∃ a c, v = .slice a H.length c ∧ Hid (ILs wx (.slice a H.length c) H) ∧ Hid (Below w.heap.size w wx))
  case first =>
    cases r
    · have hl : ¬ nw ≤ ls := of_decide_eq_false hr
      go_wp2_with fail
      go_meet
      have h0 := HNI.out hl
      subst h0
      exact ⟨_, _, rfl, Lib.hid ⟨none, 0, rfl, Nat.le_refl _, fun k hk => absurd hk (Nat.not_lt_zero k)⟩, HBA⟩
    · have hl : nw ≤ ls := of_decide_eq_true hr
      go_wp2_with (first
        | (go_at_call 14; (refine (HIT.out _ HBA.out hl).mono ?_); rintro e w1 ⟨a1, c1, rfl, h1, h2⟩; have H1 := Lib.hid h1; have H2 := Lib.hid h2; clear h1 h2)
        | fail)
      go_meet
      exact ⟨_, _, rfl, H1, H2⟩
  case rest =>
    clear hr c0 c1 HIT HNI HBA
    obtain ⟨wa, wcap, rfl, HWL, HBW⟩ := hcut
    go_upto_region 5 with (first
      | (go_at_call 19; (refine (HHD.out _ HBW.out).mono ?_); rintro e w3 ⟨ha, hcap, rfl, h1, h2, h3⟩; have HHL := Lib.hid h1; have HB3 := Lib.hid h2; have HW3 := Lib.hid (HWL.out.below h3); clear h1 h2 h3)
      | fail)
    clear HWL HBW HHD
    have hl0 : ((H.length : Int) != (H.length : Int)) = false := by simp
    obtain ⟨vf, va, hC⟩ := HCE.out w3 HB3.out
    have d0 : w3.cell? ⟨q, 0, none⟩ = some (.int .i64 nw) := by have h := (hC 0 (by omega)).1; rw [← HNW.out]; exact h
    clear hC
    go_upto_region 7 with (first
      | (go_at_call 21; (refine (HSD.out _ HB3.out).mono ?_); rintro e w4 ⟨rfl, h2, h3⟩; have HB4 := Lib.hid h2; have HW4 := Lib.hid (HW3.out.below h3); have HL4 := Lib.hid (HHL.out.below h3); clear h2 h3)
      | fail)
    clear HW3 HHL HB3 HSD hl0 d0
    go_upto_region 9 with fail
    go_loopw [8] (fun i wr => ∃ k : Nat, i = .int .i64 k ∧ k ≤ H.length ∧ Hid (Below w4.heap.size w4 wr)) (fun i _ => H.length - (intOf i).toNat)
    case atStart => exact ⟨0, rfl, Nat.zero_le _, Lib.hid (Below.refl _ _)⟩
    case round =>
      obtain ⟨k, rfl, hk, HB⟩ := hrel
      by_cases hlt : k < H.length
      · have hki : (k : Int) < (H.length : Int) := by omega
        have hk0 : (0 : Int) ≤ (k : Int) := by omega
        obtain ⟨a1, n1, e1, hc1, hx1⟩ := HW4.out
        injection e1 with e1 _ e2
        subst e1
        subst e2
        obtain ⟨a2, n2, e1, hc2, hx2⟩ := HL4.out
        injection e1 with e1 _ e2
        subst e1
        subst e2
        obtain ⟨g1, rfl, x0, x1⟩ := hx1 k hlt
        obtain ⟨g2, rfl, y0, y1⟩ := hx2 k hlt
        obtain ⟨j, hj1, hj64, hj, hhas, htxt⟩ := HHV.out _ (List.getElem_mem hlt)
        rw [hj] at x0 y0
        obtain ⟨tx, htx⟩ : ∃ y, H[k].2 = y := ⟨_, rfl⟩
        rw [htx] at x1 y1 htxt
        obtain ⟨vf, va, hC⟩ := HCE.out w4 HB4.out
        have p0 : w4.cell? ⟨q, 134 + j, none⟩ = some (.bool true) := by have h := (hC (134 + j) (by omega)).1; rw [wldV_has _ _ _ _ (by omega), hhas] at h; exact h
        have p1 : w4.cell? ⟨q, 199 + j, none⟩ = some (.string ⟨tx.toArray⟩) := by have h := (hC (199 + j) (by omega)).1; rw [wldV_text _ _ _ _ (by omega), htxt] at h; exact h
        replace x0 := (HB.out.cell (World.block_lt_of_cell? w4 _ x0)).trans x0
        replace x1 := (HB.out.cell (World.block_lt_of_cell? w4 _ x1)).trans x1
        replace y0 := (HB.out.cell (World.block_lt_of_cell? w4 _ y0)).trans y0
        replace y1 := (HB.out.cell (World.block_lt_of_cell? w4 _ y1)).trans y1
        replace p0 := (HB.out.cell (World.block_lt_of_cell? w4 _ p0)).trans p0
        replace p1 := (HB.out.cell (World.block_lt_of_cell? w4 _ p1)).trans p1
        have hj0 : (0 : Int) ≤ (j : Int) := by omega
        have hj65 : (j : Int) < 65 := by omega
        clear hx1 hx2 hC hhas htxt hj htx
        go_upto_region 12 with fail
        obtain ⟨wM, hwM⟩ : ∃ wM, wr.alloc (.cells #[.int .i64 j, .string ⟨tx.toArray⟩] 49) = wM := ⟨_, rfl⟩
        obtain ⟨M, hM⟩ : ∃ M, wr.heap.size = M := ⟨_, rfl⟩
        have hmat : wM.heap[M]? = some (.cells #[.int .i64 j, .string ⟨tx.toArray⟩] 49 (0, 0)) := by rw [← hwM, ← hM]; exact heap_alloc_new wr _
        have hbm : Below wr.heap.size wr wM := by rw [← hwM]; exact (Below.refl _ wr).alloc (Nat.le_refl _) _
        have HBM : Hid (Below w4.heap.size w4 wM) := Lib.hid (HB.out.trans (hbm.mono HB.out.size))
        rw [hwM, hM]
        have m0 : wM.cell? ⟨M, 0, none⟩ = some (.int .i64 j) := by rw [Lib.cell_of_heap hmat]; rfl
        have m1 : wM.cell? ⟨M, 1, none⟩ = some (.string ⟨tx.toArray⟩) := by rw [Lib.cell_of_heap hmat]; rfl
        replace y0 := (hbm.cell (World.block_lt_of_cell? wr _ y0)).trans y0
        replace y1 := (hbm.cell (World.block_lt_of_cell? wr _ y1)).trans y1
        replace p0 := (hbm.cell (World.block_lt_of_cell? wr _ p0)).trans p0
        replace p1 := (hbm.cell (World.block_lt_of_cell? wr _ p1)).trans p1
        clear hwM hM hmat hbm x0 x1 HB
        go_quiet (fail)
        obtain ⟨wQ, hq9⟩ : ∃ wx, wM.drewN nq = wx := ⟨_, rfl⟩
        have HBQ : Hid (Below w4.heap.size w4 wQ) := Lib.hid (by rw [← hq9]; exact HBM.out.drewN _)
        rw [hq9]
        clear hq9
        go_wp2_with fail
        go_roundw
        case rel => exact ⟨k + 1, by go_num, by omega, HBQ⟩
        case measure => simp [intOf]; omega
      · obtain rfl : k = H.length := by omega
        have HBE : Hid (Below w.heap.size w wr) := Lib.hid (HB4.out.trans (HB.out.mono HB4.out.size))
        go_upto_region 15 with fail
        go_loopw [7, 10] (fun n i wx => ∃ j : Nat, i = .int .i64 j ∧ 1 ≤ j ∧ j ≤ 65 ∧ n = .int .i64 (cntH W.p j) ∧ Hid (Below wr.heap.size wr wx)) (fun _ i _ => 65 - (intOf i).toNat)
        case atStart => exact ⟨1, rfl, Nat.le_refl _, by omega, rfl, Lib.hid (Below.refl _ _)⟩
        case round =>
          obtain ⟨j, rfl, hj1, hj65, rfl, HB2⟩ := hrel
          by_cases hj : j ≤ 64
          · have hji : (j : Int) ≤ 64 := by omega
            have hj0 : (0 : Int) ≤ (j : Int) := by omega
            have hj6 : (j : Int) < 65 := by omega
            have HBF : Hid (Below w.heap.size w wr) := Lib.hid (HBE.out.trans (HB2.out.mono HBE.out.size))
            obtain ⟨vf, va, hC⟩ := HCE.out wr HBF.out
            have p0 : wr.cell? ⟨q, 134 + j, none⟩ = some (.bool (W.p.has j)) := by have h := (hC (134 + j) (by omega)).1; rw [wldV_has _ _ _ _ (by omega)] at h; exact h
            have hcs := cntH_succ W.p hj1
            have hcl := cntH_le W.p j
            obtain ⟨hb, hhb⟩ : ∃ x, W.p.has j = x := ⟨_, rfl⟩
            rw [hhb] at p0 hcs
            obtain ⟨n0, hn0⟩ : ∃ x, cntH W.p j = x := ⟨_, rfl⟩
            rw [hn0] at hcs hcl ⊢
            have HCS := Lib.hid hcs
            clear hC hhb hn0 hcs
            cases hb
            · have HN : Hid (cntH W.p (j + 1) = n0) := Lib.hid (by rw [HCS.out]; rfl)
              go_wp2_with fail
              go_roundw
              case rel => exact ⟨j + 1, by go_num, by omega, by omega, by rw [HN.out], HB2⟩
              case measure => simp [intOf]; omega
            · have HN : Hid (cntH W.p (j + 1) = n0 + 1) := Lib.hid (by rw [HCS.out]; rfl)
              go_wp2_with fail
              go_roundw
              case rel => exact ⟨j + 1, by go_num, by omega, by omega, by rw [HN.out]; go_num, HB2⟩
              case measure => simp [intOf]; omega
          · obtain rfl : j = 65 := by omega
            have hcn := HCN.out
            have HEND : Hid (Below w.heap.size w wr) := Lib.hid (HBE.out.trans (HB2.out.mono HBE.out.size))
            rw [hcn]
            go_wp2_with fail
            go_ret
            exact ⟨rfl, HEND.out⟩
end Go.Proofs.YtefloieanpgnmaaGreatDoor
/- Plain: what ticks in which everything arrives keep; what a new sender starts from. -/
namespace Go.Proofs.YtefloieanpgnmaaGreatDoor
open Go.RowKit

attribute [local irreducible] Sen.plan Sen.recv Sen.tick Sen.want
/-- m may be on its way -/
def MOk (Q : Nat → List UInt8 → Prop) (B : Int) (m : Msg) : Prop := ∃ i k, i < 64 ∧ Brings Q i m k ∧ 1 ≤ m.seq ∧ m.seq ≤ B
theorem WI.give {Q : Nat → List UInt8 → Prop} (hQ : QOk Q) {B B0 : Int} (hB : B ≤ 4611686018427387903) (h0 : B0 ≤ B) {W : Wld} {S : Sen} (h : WI Q B W S) (hs : Syn W S) {m : Msg} (hm : MOk Q B0 m) (now : Int) :
    WI Q (B + 16) { W with p := (W.p.answer m).2 } (S.recv now (W.p.answer m).1) ∧ Syn { W with p := (W.p.answer m).2 } (S.recv now (W.p.answer m).1) := by
  obtain ⟨i, k, h1, h2, h3, h4⟩ := hm
  have ha := answer_rel hQ hB h.pi h1 h2 h3 (Int.le_trans h4 h0)
  have hm' := h.more (show B ≤ B + 16 by omega)
  obtain ⟨h5, h6⟩ := (h.sp.grew ha.grew).recv ha.aok now
  exact ⟨⟨ha.pi.more (by omega), h5, hm'.flight, fun a hx => by
    obtain ⟨j, hj⟩ := h.answers a hx
    exact ⟨j, hj.grew ha.grew (by omega)⟩⟩, ⟨h6.lease.trans hs.lease, fun i hi => (h6.wanted i).trans (hs.wanted i hi)⟩⟩
theorem WI.gives {Q : Nat → List UInt8 → Prop} (hQ : QOk Q) {B0 : Int} (now : Int) : ∀ (L : List Msg) {B : Int} {W : Wld} {S : Sen}, B + 16 * (L.length : Int) ≤ 4611686018427387903 → B0 ≤ B → WI Q B W S → Syn W S → (∀ m ∈ L, MOk Q B0 m) →
    WI Q (B + 16 * (L.length : Int)) { W with p := (L.foldl (give1 now) (W.p, S)).1 } (L.foldl (give1 now) (W.p, S)).2 ∧ Syn { W with p := (L.foldl (give1 now) (W.p, S)).1 } (L.foldl (give1 now) (W.p, S)).2
  | [], B, W, S, _, _, h, hs, _ => ⟨by simpa using h, hs⟩
  | m :: L, B, W, S, hB, h0, h, hs, hm => by
    have hB' : B + 16 + 16 * (L.length : Int) = B + 16 * ((m :: L).length : Int) := by simp only [List.length_cons]; push_cast; omega
    obtain ⟨h1, h2⟩ := h.give hQ (by omega) h0 hs (hm m List.mem_cons_self) now
    have h3 := WI.gives hQ now L (W := { W with p := (W.p.answer m).2 }) (by omega) (by omega) h1 h2 (fun x hx => hm x (List.mem_cons_of_mem _ hx))
    rw [hB'] at h3
    exact h3
theorem WI.beat {Q : Nat → List UInt8 → Prop} (hQ : QOk Q) {B : Int} (hB : B + 272 ≤ 4611686018427387903) {W : Wld} {S : Sen} (h : WI Q B W S) (hs : Syn W S) : WI Q (B + 272) (beat (W, S)).1 (beat (W, S)).2 ∧ Syn (beat (W, S)).1 (beat (W, S)).2 := by
  obtain ⟨h1, h2, h3⟩ := h.sp.tick (W.now + 1)
  have hl := tick_len h.sp (W.now + 1)
  have hm := h.more (show B ≤ B + 16 by omega)
  have hw : WI Q (B + 16) { W with now := W.now + 1 } (S.tick (W.now + 1)).2 := ⟨hm.pi, h1, hm.flight, hm.answers⟩
  have hsy : Syn { W with now := W.now + 1 } (S.tick (W.now + 1)).2 := ⟨h2.lease.trans hs.lease, fun i hi => (h2.wanted i).trans (hs.wanted i hi)⟩
  obtain ⟨h4, h5⟩ := WI.gives hQ (W.now + 1) (S.tick (W.now + 1)).1 (by omega) (Int.le_refl _) hw hsy h3
  exact ⟨h4.more (by omega), h5⟩
theorem k17 (k : Nat) : 16 * ((k + 17 : Nat) : Int) = 16 * (k : Int) + 272 := by push_cast; omega
theorem RI.beat {k : Nat} {W : Wld} {S : Sen} (h : RI k W S) (hk : k ≤ 100000) : RI (k + 17) (beat (W, S)).1 (beat (W, S)).2 := by
  obtain ⟨h1, h2⟩ := h.wi.beat QT_ok (by omega) h.syn
  have h3 := h.now; have h4 := h.lease; have h5 := h.flen; have h6 := h.alen
  refine ⟨by rw [k17]; exact h1, h2, h.w100, ?_, ?_, PT.beat (X := (W, S)) h.txt, ?_, ?_⟩
  · show _ ≤ W.now + 1 ∧ W.now + 1 ≤ _
    omega
  · show _ ≤ W.lease ∧ W.lease ≤ _
    omega
  · show W.flight.length ≤ _
    omega
  · show W.answers.length ≤ _
    omega
theorem SP.leased {Q : Nat → List UInt8 → Prop} {B : Int} {p : Peer} {S : Sen} (h : SP Q B p S) (u : Int) : SP Q B p { S with lease := u } :=
  ⟨⟨h.si.partner, h.si.pos, h.si.wanted, h.si.held, h.si.outs, h.si.acked, h.si.known, h.si.out16⟩, h.cnt, h.aud, h.told⟩
theorem RI.settle0 {k : Nat} {W : Wld} {S : Sen} (h : RI k W S) : RI k (settleD (W, S) 0).1 (settleD (W, S) 0).2 := by
  have h3 := h.now
  unfold settleD
  simp only
  split
  · exact ⟨⟨h.wi.pi, h.wi.sp.leased _, h.wi.flight, h.wi.answers⟩, ⟨rfl, h.syn.wanted⟩, h.w100, h.now, by simp only; omega, h.txt, h.flen, h.alen⟩
  · exact h
theorem RI.settles {k : Nat} {W : Wld} {S : Sen} (h : RI k W S) (hk : k ≤ 1000) : ∀ n, n ≤ 100 → RI (k + 17 * n) (settleD (W, S) n).1 (settleD (W, S) n).2
  | 0, _ => h.settle0
  | n + 1, hn => by
    have h1 := (RI.settles h hk n (by omega)).beat (by omega)
    rw [show k + 17 * (n + 1) = k + 17 * n + 17 by omega]
    exact h1
/-- a new sender, told the lease and the wanted texts -/
theorem RI.restart {k : Nat} {W : Wld} {S : Sen} (h : RI k W S) (f : Nat → Nat) (hf : ∀ i, f i ≤ 100) : RI (k + 1) { W with wanted := f } (({ startS with lease := W.lease } : Sen).want W.now ({ W with wanted := f } : Wld).items) := by
  have h3 := h.now; have h4 := h.lease; have h5 := h.flen; have h6 := h.alen
  have hw : W100 { W with wanted := f } := hf
  have hs : SP QT (16 * (k : Int)) W.p ({ startS with lease := W.lease } : Sen) := (start_sp _ (by omega) QT W.p).leased _
  obtain ⟨h1, h2, h7⟩ := hs.want W.now { W with wanted := f } hw.wq
  have hm := h.wi.more (show 16 * (k : Int) ≤ 16 * (k : Int) + 16 by omega)
  refine ⟨?_, ⟨h2, h7⟩, hw, by simp only; omega, by simp only; omega, h.txt, by simp only; omega, by simp only; omega⟩
  rw [← sixteen]
  exact ⟨hm.pi, h1, hm.flight, hm.answers⟩
theorem RI.fin {k : Nat} {W : Wld} {S : Sen} (h : RI k W S) (hk : k ≤ 1000) : Fin (settleD (W, S) 100).1 (settleD (W, S) 100).2 ∧ W100 (settleD (W, S) 100).1 :=
  ⟨settle_fin (by omega) h.wi.pi h.wi.sp h.syn, fun i => by
    rw [(settle_at (W, S) 100).2.2, (settle_zero (W, S)).2.2.1]
    exact h.w100 i⟩
end Go.Proofs.YtefloieanpgnmaaGreatDoor
/- The law's settle: the walk. -/
namespace Go.Proofs.YtefloieanpgnmaaGreatDoor
open Go.RowKit

theorem SetS.cell {a0 a1 : Addr} {w0 : World} {col0 : Nat → Nat} {w1 w : World} {b q : Nat} {X : Wld × Sen} (h : SetS a0 a1 w0 col0 w1 b q X w) : w.cell? ⟨q, 0, none⟩ = some (.int .i64 X.1.now) ∧ w.cell? ⟨q, 1, none⟩ = some (.int .i64 X.1.lease) ∧ w.frozen? ⟨q, 0, none⟩ = false ∧ w.frozen? ⟨q, 1, none⟩ = false := h.elim fun _ h => h.1.cell
set_option maxRecDepth 100000 in
set_option maxHeartbeats 16000000 in
theorem settle_any {a0 a1 : Addr} {w0 : World} {col : Nat → Nat} {w : World} {b q : Nat} {W : Wld} {S : Sen} (h : St2 a0 a1 w0 col w b q W S) {k0 : Nat} (hr : RI k0 W S) (hk0 : k0 ≤ 1000) (n : Nat) (hn : n ≤ 100) :
    Calls Tryz.prog 9 #[.pointer (some ⟨q, 0, none⟩), .pointer (some ⟨b, 0, none⟩), .int .i64 n] w fun e w' => e = .returned (.tuple #[]) ∧ SetS a0 a1 w0 col w b q (settleD (W, S) n) w' := by
  have HRI := Lib.hid hr
  have hnl := hr.lease_now hk0
  have HS0 : Hid (∀ wx, Below w.heap.size w wx → SetS a0 a1 w0 col w b q (W, S) wx) := Lib.hid (fun wx hb => ⟨col, h.below hb, Fr2.of_below h.cl h.sn.lw.bel.size hb⟩)
  have HSE9 : Hid (∀ nw ls, W.now = nw → W.lease = ls → settleD (W, S) 0 = if nw ≤ ls then ({ W with lease := nw + 1000 }, { S with lease := nw + 1000 }) else (W, S)) := Lib.hid (fun nw ls h1 h2 => by subst h1; subst h2; rfl)
  obtain ⟨c0, c1, -, f1⟩ := h.cell
  obtain ⟨nw, hnw⟩ : ∃ x, W.now = x := ⟨_, rfl⟩
  obtain ⟨ls, hls⟩ : ∃ x, W.lease = x := ⟨_, rfl⟩
  have HSE0 := Lib.hid (HSE9.out nw ls hnw hls)
  rw [hnw] at c0 hnl
  rw [hls] at c1 hnl
  clear h hr hnw hls HSE9
  go_enter Tryz.func9, Tryz.ntmps9
  obtain ⟨r, hr⟩ : ∃ r, decide (nw ≤ ls) = r := ⟨_, rfl⟩
  go_upto_region 0 with fail
  go_quiet (fail)
  obtain ⟨wA, hq9⟩ : ∃ wx, w.drewN nq = wx := ⟨_, rfl⟩
  have hbA : Below w.heap.size w wA := by rw [← hq9]; exact (Below.refl _ _).drewN _
  have HSA := Lib.hid (HS0.out wA hbA)
  rw [hq9]
  have d0 : wA.cell? ⟨q, 0, none⟩ = some (.int .i64 nw) := (hbA.cell (World.block_lt_of_cell? w _ c0)).trans c0
  have d1 : wA.cell? ⟨q, 1, none⟩ = some (.int .i64 ls) := (hbA.cell (World.block_lt_of_cell? w _ c1)).trans c1
  have g1 : wA.frozen? ⟨q, 1, none⟩ = false := by obtain ⟨-, -, -, h⟩ := HSA.out.cell; exact h
  clear hq9 hbA c0 c1 f1 HS0
  go_upto_if 17 with fail
  go_cut [] (fun wx => Hid (SetS a0 a1 w0 col w b q (settleD (W, S) 0) wx))
  case first =>
    cases r
    · have hl : ¬ nw ≤ ls := of_decide_eq_false hr
      have HEND : Hid (SetS a0 a1 w0 col w b q (settleD (W, S) 0) wA) := Lib.hid (by rw [HSE0.out, if_neg hl]; exact HSA.out)
      go_wp2_with fail
      go_meet
      exact HEND
    · have hl : nw ≤ ls := of_decide_eq_true hr
      have hwr : IntKind.i64.wrap (nw + 1000) = nw + 1000 := IntWalk.i64_in _ (by omega)
      have HP : Hid (SetS a0 a1 w0 col w b q ({ W with lease := nw + 1000 }, S) (wA.setCell ⟨q, 1, none⟩ (.int .i64 (nw + 1000)))) := Lib.hid (HSA.out.put (o := 1) (by omega) (fun vf va => put_lease W vf va (nw + 1000)) rfl rfl)
      have HEND : Hid (settleD (W, S) 0 = ({ W with lease := nw + 1000 }, { S with lease := nw + 1000 })) := Lib.hid (by rw [HSE0.out, if_pos hl])
      go_upto_region 2 with fail
      obtain ⟨wB, hwB⟩ : ∃ wx, wA.setCell ⟨q, 1, none⟩ (.int .i64 (nw + 1000)) = wx := ⟨_, rfl⟩
      rw [hwB] at HP ⊢
      have HLE := Lib.hid (HP.out.lease (nw + 1000) (by omega))
      have e1 : wB.cell? ⟨q, 1, none⟩ = some (.int .i64 (nw + 1000)) := HP.out.cell.2.1
      clear hwB d0 d1 g1
      go_wp2_with (first
        | (go_at_call 12; (with_reducible (refine HLE.out.mono ?_)); rintro e w7 ⟨rfl, h8⟩; have H8 := Lib.hid h8; clear h8)
        | fail)
      go_meet
      rw [HEND.out]
      exact H8
  case rest =>
    have HC0 := hcut
    clear hcut HSE0 HSA d0 d1 g1 hr hnl
    go_upto_region 4 with fail
    go_loopw [6] (fun i wr => ∃ k : Nat, i = .int .i64 k ∧ k ≤ n ∧ Hid (SetS a0 a1 w0 col w b q (settleD (W, S) k) wr)) (fun i _ => n - (intOf i).toNat)
    case atStart => exact ⟨0, rfl, Nat.zero_le _, HC0⟩
    case round =>
      clear HC0
      obtain ⟨k, rfl, hk, HS⟩ := hrel
      by_cases hlt : k < n
      · have hki : (k : Int) < (n : Int) := by omega
        have hx := HRI.out.settle hk0 (n := k) (by omega)
        have hsu : settleD (W, S) (k + 1) = beat (settleD (W, S) k) := rfl
        obtain ⟨X, hX⟩ : ∃ X, settleD (W, S) k = X := ⟨_, rfl⟩
        rw [hX] at HS hx hsu
        have HSU := Lib.hid hsu
        have HX := Lib.hid hx
        obtain ⟨c0, -, f0, -⟩ := HS.out.cell
        have hnx := hx.now
        obtain ⟨nx, hnx9⟩ : ∃ x, X.1.now = x := ⟨_, rfl⟩
        have HP : Hid (SetS a0 a1 w0 col w b q ({ X.1 with now := X.1.now + 1 }, X.2) (wr.setCell ⟨q, 0, none⟩ (.int .i64 (nx + 1)))) := Lib.hid (by
          rw [← hnx9]
          exact SetS.put (W := X.1) (S := X.2) HS.out (o := 0) (by omega) (fun vf va => put_now X.1 vf va (X.1.now + 1)) rfl rfl)
        have HNX := Lib.hid hnx9
        rw [hnx9] at c0 hnx
        have hwr : IntKind.i64.wrap (nx + 1) = nx + 1 := IntWalk.i64_in _ (by omega)
        have hlen := hx.len
        clear hX hsu hx hnx9 HS
        go_upto_region 7 with fail
        obtain ⟨wB, hwB⟩ : ∃ wx, wr.setCell ⟨q, 0, none⟩ (.int .i64 (nx + 1)) = wx := ⟨_, rfl⟩
        rw [hwB] at HP ⊢
        have HTI := Lib.hid (SetS.tick HX.out HP.out)
        have e0 : wB.cell? ⟨q, 0, none⟩ = some (.int .i64 (nx + 1)) := by rw [← HNX.out]; exact HP.out.cell.1
        rw [HNX.out] at HTI
        obtain ⟨ML9, hML⟩ : ∃ l, (X.2.tick (nx + 1)).1 = l := ⟨_, rfl⟩
        rw [HNX.out, hML] at hlen
        have HML : Hid ((X.2.tick (X.1.now + 1)).1 = ML9) := Lib.hid (by rw [HNX.out]; exact hML)
        rw [hML] at HTI
        clear hwB c0 f0 hML HP
        go_upto_region 9 with (first
          | (go_at_call 15; (with_reducible (refine HTI.out.mono ?_)); rintro e wT ⟨ta, tc, rfl, h8⟩; have H8 := Lib.hid h8; clear h8)
          | fail)
        clear HTI e0
        go_loopw [8] (fun i wx => ∃ j : Nat, i = .int .i64 j ∧ j ≤ ML9.length ∧ Hid (∃ colj, BtS a0 a1 w0 col w colj wx b q X (.slice ta ML9.length tc) j)) (fun i _ => ML9.length - (intOf i).toNat)
        case atStart => exact ⟨0, rfl, Nat.zero_le _, H8⟩
        case round =>
          clear H8
          obtain ⟨j, rfl, hj, HJ⟩ := hrel
          by_cases hjl : j < ML9.length
          · have hji : (j : Int) < (ML9.length : Int) := by omega
            have hj0 : (0 : Int) ≤ (j : Int) := by omega
            obtain ⟨colj, hB⟩ := HJ.out
            have hml := hB.ml
            rw [HML.out] at hml
            obtain ⟨g1, o1, hta, -, hc1, h1⟩ := hml.at hjl
            subst hta
            have HMT : Hid (∀ (col' : Nat → Nat) (wx : World), ML col' wx (.slice (some ⟨g1, o1, none⟩) ML9.length tc) ML9 → ∀ i u, i < 7 → (msgC ML9[j])[i]? = some u → wx.cell? ⟨g1, o1 + j * 7 + i, none⟩ = some u) := Lib.hid (fun col' wx h => by
              obtain ⟨g2, o2, e9, -, -, h2⟩ := h.at hjl
              injection e9 with e9
              injection e9 with e8 e9
              subst e8
              subst e9
              exact h2)
            obtain ⟨m9, hm9⟩ : ∃ m, ML9[j] = m := ⟨_, rfl⟩
            have HM9 : Hid (∃ h : j < (X.2.tick (X.1.now + 1)).1.length, (X.2.tick (X.1.now + 1)).1[j] = m9) := Lib.hid (by
              have h9 := HML.out
              subst h9
              exact ⟨hjl, hm9⟩)
            rw [hm9] at h1 HMT
            have HAN : Hid (Calls Tryz.prog 18 #[.pointer (some ⟨q, 69, none⟩), .agg #[.int .i64 m9.kind, .int .i64 m9.partner, .int .i64 m9.seq, .int .i64 m9.story, .int .i64 m9.base, .int .i64 m9.version, .string ⟨m9.data.toArray⟩]] wr.drew fun e w' => e = .returned ((gvK X j).1.answer m9).1.enc ∧ BtA a0 a1 w0 col w colj w' b q X (.slice (some ⟨g1, o1, none⟩) ML9.length tc) j ((gvK X j).1.answer m9).2) := Lib.hid (by
              obtain ⟨h8, h9⟩ := HM9.out
              exact BtS.answer (hB.below (Below.refl _ _).drew) HX.out h8 h9)
            have HRC : Hid (∀ wx, BtA a0 a1 w0 col w colj wx b q X (.slice (some ⟨g1, o1, none⟩) ML9.length tc) j ((gvK X j).1.answer m9).2 → Calls Tryz.prog 17 #[.pointer (some ⟨b, 0, none⟩), .int .i64 (nx + 1), ((gvK X j).1.answer m9).1.enc] wx fun e w' => e = .returned (.tuple #[]) ∧ ∃ col', BtS a0 a1 w0 col w col' w' b q X (.slice (some ⟨g1, o1, none⟩) ML9.length tc) (j + 1)) := Lib.hid (fun wx h => by
              obtain ⟨h8, h9⟩ := HM9.out
              rw [← HNX.out]
              exact BtA.receive HX.out h8 h9 h)
            obtain ⟨av, hav⟩ : ∃ v, ((gvK X j).1.answer m9).1.enc = v := ⟨_, rfl⟩
            rw [hav] at HAN HRC
            have n0 : wr.cell? ⟨q, 0, none⟩ = some (.int .i64 (nx + 1)) := by rw [← HNX.out]; exact hB.st.cell.1
            have x0 := h1 0 (.int .i64 m9.kind) (by omega) rfl
            have x1 := h1 1 (.int .i64 m9.partner) (by omega) rfl
            have x2 := h1 2 (.int .i64 m9.seq) (by omega) rfl
            have x3 := h1 3 (.int .i64 m9.story) (by omega) rfl
            have x4 := h1 4 (.int .i64 m9.base) (by omega) rfl
            have x5 := h1 5 (.int .i64 m9.version) (by omega) rfl
            have x6 := h1 6 (.string ⟨m9.data.toArray⟩) (by omega) rfl
            simp only [Nat.add_zero] at x0
            have HCA : Hid (∀ colj wx p, BtA a0 a1 w0 col w colj wx b q X (.slice (some ⟨g1, o1, none⟩) ML9.length tc) j p → wx.cell? ⟨q, 0, none⟩ = some (.int .i64 (nx + 1)) ∧ ∀ i u, i < 7 → (msgC m9)[i]? = some u → wx.cell? ⟨g1, o1 + j * 7 + i, none⟩ = some u) := Lib.hid (fun colj wx p h => by
              refine ⟨by rw [← HNX.out]; exact h.st.cell.1, HMT.out colj wx ?_⟩
              have h2 := h.ml
              rw [HML.out] at h2
              exact h2)
            have HCS : Hid (∀ colj wx, BtS a0 a1 w0 col w colj wx b q X (.slice (some ⟨g1, o1, none⟩) ML9.length tc) (j + 1) → wx.cell? ⟨q, 0, none⟩ = some (.int .i64 (nx + 1)) ∧ ∀ i u, i < 7 → (msgC m9)[i]? = some u → wx.cell? ⟨g1, o1 + j * 7 + i, none⟩ = some u) := Lib.hid (fun colj wx h => by
              refine ⟨by rw [← HNX.out]; exact h.st.cell.1, HMT.out colj wx ?_⟩
              have h2 := h.ml
              rw [HML.out] at h2
              exact h2)
            clear h1 hav hm9 hml hB HMT HJ
            go_upto_region 11 with fail
            go_region_held3 (fun w' => w'.cell? ⟨q, 0, none⟩ = some (.int .i64 (nx + 1)) ∧ w'.cell? ⟨g1, o1 + j * 7, none⟩ = some (.int .i64 m9.kind) ∧ w'.cell? ⟨g1, o1 + j * 7 + 1, none⟩ = some (.int .i64 m9.partner) ∧ w'.cell? ⟨g1, o1 + j * 7 + 2, none⟩ = some (.int .i64 m9.seq) ∧ w'.cell? ⟨g1, o1 + j * 7 + 3, none⟩ = some (.int .i64 m9.story) ∧ w'.cell? ⟨g1, o1 + j * 7 + 4, none⟩ = some (.int .i64 m9.base) ∧ w'.cell? ⟨g1, o1 + j * 7 + 5, none⟩ = some (.int .i64 m9.version) ∧ w'.cell? ⟨g1, o1 + j * 7 + 6, none⟩ = some (.string ⟨m9.data.toArray⟩))
              (first | (refine ⟨?_, ?_, ?_, ?_, ?_, ?_, ?_, ?_⟩ <;> assumption) | go_keep)
              (first
                | (go_at_call 18; (with_reducible (refine HAN.out.mono ?_)); rintro e wG ⟨rfl, hD⟩; have HD := Lib.hid hD; obtain ⟨n9, hcc⟩ := HCA.out _ _ _ hD; have i0 := hcc 0 (.int .i64 m9.kind) (by omega) rfl; have i1 := hcc 1 (.int .i64 m9.partner) (by omega) rfl; have i2 := hcc 2 (.int .i64 m9.seq) (by omega) rfl; have i3 := hcc 3 (.int .i64 m9.story) (by omega) rfl; have i4 := hcc 4 (.int .i64 m9.base) (by omega) rfl; have i5 := hcc 5 (.int .i64 m9.version) (by omega) rfl; have i6 := hcc 6 (.string ⟨m9.data.toArray⟩) (by omega) rfl; simp only [Nat.add_zero] at i0; clear hD hcc)
                | (go_at_call 17; (with_reducible (refine (HRC.out _ HD.out).mono ?_)); rintro e wH ⟨rfl, colH, hE⟩; have HE := Lib.hid hE; obtain ⟨n8, hcc⟩ := HCS.out _ _ hE; have k0 := hcc 0 (.int .i64 m9.kind) (by omega) rfl; have k1 := hcc 1 (.int .i64 m9.partner) (by omega) rfl; have k2 := hcc 2 (.int .i64 m9.seq) (by omega) rfl; have k3 := hcc 3 (.int .i64 m9.story) (by omega) rfl; have k4 := hcc 4 (.int .i64 m9.base) (by omega) rfl; have k5 := hcc 5 (.int .i64 m9.version) (by omega) rfl; have k6 := hcc 6 (.string ⟨m9.data.toArray⟩) (by omega) rfl; simp only [Nat.add_zero] at k0; clear hE hcc)
                | fail)
            clear n0 x0 x1 x2 x3 x4 x5 x6 n9 i0 i1 i2 i3 i4 i5 i6 n8 k0 k1 k2 k3 k4 k5 k6
            go_wp2_with fail
            go_roundw
            case rel => exact ⟨j + 1, by go_num, by omega, Lib.hid ⟨colH, HE.out⟩⟩
            case measure => simp [intOf]; omega
          · obtain rfl : j = ML9.length := by omega
            have HEND : Hid (SetS a0 a1 w0 col w b q (settleD (W, S) (k + 1)) wr) := Lib.hid (by
              obtain ⟨colj, h⟩ := HJ.out
              rw [HSU.out]
              refine BtS.done (v := .slice ta ML9.length tc) (col := colj) ?_
              rw [HML.out]
              exact h)
            go_wp2_with fail
            go_roundw
            case rel => exact ⟨k + 1, by go_num, by omega, HEND⟩
            case measure => simp [intOf]; omega
      · obtain rfl : k = n := by omega
        go_wp2_with fail
        exact ⟨rfl, .tuple #[], by simp [results, Tryz.results9, go_sem], rfl, HS.out⟩
end Go.Proofs.YtefloieanpgnmaaGreatDoor
/- The law's run: the walk. -/
namespace Go.Proofs.YtefloieanpgnmaaGreatDoor
open Go.RowKit

set_option maxRecDepth 100000 in
set_option maxHeartbeats 16000000 in
theorem run_any {a0 a1 : Addr} {w0 : World} {col : Nat → Nat} {w : World} {b q : Nat} {W : Wld} {S : Sen} (h : St2 a0 a1 w0 col w b q W S) {k0 : Nat} (hr : RI k0 W S) (v : Value) (l : List Op3) (hops : OpsL w0 v l) (hl : k0 + l.length ≤ 1000) (hok : ∀ o ∈ l, okO o) :
    Calls Tryz.prog 7 #[.pointer (some ⟨q, 0, none⟩), .pointer (some ⟨b, 0, none⟩), v] w fun e w' => e = .returned (.tuple #[]) ∧ ∃ col', St2 a0 a1 w0 col' w' b q (runD true (W, S) l).1 (runD true (W, S) l).2 ∧ Fr2 w0 col col' w w' := by
  obtain ⟨va, vc, rfl, hvc, hmx, hcel⟩ := hops
  have HCE := Lib.hid hcel
  have HOK := Lib.hid hok
  have HRI := Lib.hid hr
  have HST : Hid (∃ col', St2 a0 a1 w0 col' w b q (runD true (W, S) (l.take 0)).1 (runD true (W, S) (l.take 0)).2 ∧ Fr2 w0 col col' w w) := Lib.hid ⟨col, h, Fr2.of_below h.cl h.sn.lw.bel.size (Below.refl _ _)⟩
  clear hcel hok hr h
  go_enter Tryz.func7, Tryz.ntmps7
  go_upto_region 1 with fail
  go_loopw [6] (fun i wr => ∃ k : Nat, i = .int .i64 k ∧ k ≤ l.length ∧ Hid (∃ col', St2 a0 a1 w0 col' wr b q (runD true (W, S) (l.take k)).1 (runD true (W, S) (l.take k)).2 ∧ Fr2 w0 col col' w wr)) (fun i _ => l.length - (intOf i).toNat)
  case atStart => exact ⟨0, rfl, Nat.zero_le _, HST⟩
  case round =>
    clear HST
    obtain ⟨k, rfl, hk, HS⟩ := hrel
    by_cases hlt : k < l.length
    · have hki : (k : Int) < (l.length : Int) := by omega
      obtain ⟨ob, oo, rfl, d0, d1, d2⟩ := HCE.out k hlt
      have HBW : Hid (Below w0.heap.size w0 wr) := Lib.hid (by obtain ⟨col', h, -⟩ := HS.out; exact h.sn.lw.bel)
      have hoo := HOK.out _ (List.getElem_mem hlt)
      have hsu := runD_succ true (W, S) l hlt
      have hri := RI.runs (X := (W, S)) HRI.out l hl true k hk
      have hrn := RI.runs (X := (W, S)) HRI.out l hl true (k + 1) hlt
      obtain ⟨o, ho⟩ : ∃ o, l[k] = o := ⟨_, rfl⟩
      rw [ho] at d0 d1 d2 hoo hsu
      rw [hsu] at hrn
      have oc0 := (HBW.out.cell (World.block_lt_of_cell? w0 _ d0)).trans d0
      have oc1 := (HBW.out.cell (World.block_lt_of_cell? w0 _ d1)).trans d1
      have oc2 := (HBW.out.cell (World.block_lt_of_cell? w0 _ d2)).trans d2
      obtain ⟨col1, hT, hF⟩ := HS.out
      obtain ⟨W1, S1, hX⟩ : ∃ W1 S1, runD true (W, S) (l.take k) = (W1, S1) := ⟨_, _, rfl⟩
      rw [hX] at hT hri hsu hrn
      simp only at hT hri
      have HNX := Lib.hid (hT.next2 hri (by omega) o hoo)
      have HRK := Lib.hid hri
      have HIT : Hid (∀ col w vi c, c ≠ 0 → ItF col w vi (W1.next o).1 → CalOk (fun k => col k = c) w vi (W1.next o).1) := Lib.hid (fun col w vi c h0 hi => hi.ok HRK.out (by omega) o h0)
      have hst1 : step1 true (W1, S1) o = ({ (W1.next o).2 with flight := trimF ((W1.next o).2.flight ++ ((W1.next o).1.perform S1).1) }, ((W1.next o).1.perform S1).2) := rfl
      have hflr : (W1.next o).2.flight.length ≤ 200 + 16 * (k0 + k + 1) := by
        have h1 := hri.flen
        have h2 := next_rel W1 o
        generalize (W1.next o).2 = W2 at h2 ⊢
        generalize (W1.next o).1 = cal at h2
        cases h2 with
        | give m fl hm hf hl => simp only; omega
        | lose fl hf hl => simp only; omega
        | want | lease | tick | recv => simp only; omega
      have hms16 := perform_len hri.wi.sp (W1.next o).1
      have HF0 := Lib.hid hF
      obtain ⟨cal, W2, hN⟩ : ∃ cal W2, W1.next o = (cal, W2) := ⟨_, _, rfl⟩
      rw [hN] at HNX HIT hst1 hflr hms16
      simp only at HNX HIT hst1 hflr hms16
      obtain ⟨ms, S2, hPf⟩ : ∃ ms S2, cal.perform S1 = (ms, S2) := ⟨_, _, rfl⟩
      have HPF := Lib.hid hPf
      rw [hPf] at hst1 hms16
      simp only at hst1 hms16
      rw [hst1] at hsu
      have HSU := Lib.hid hsu
      have HFL : Hid (W2.flight.length + ms.length ≤ 100000) := Lib.hid (by omega)
      clear hri hsu hrn hst1 hflr hms16 hX hN hPf d0 d1 d2 HS HBW ho hoo hT hF
      go_upto_region 4 with (first
        | (go_at_call 22; (with_reducible (refine HNX.out.mono ?_)); rintro e wN ⟨vi, colN, t, ca, cn, cc, cu, hcv, rfl, hst, hfr, hit⟩; have HCV := Lib.hid hcv; have HIG := Lib.hid hst; have HIF := Lib.hid hit; have HFN := Lib.hid (HF0.out.trans hfr); clear hcv hst hit hfr)
        | fail)
      clear oc0 oc1 oc2
      obtain ⟨wC, hwC⟩ : ∃ wC, wN.alloc (.cells #[.int .i64 cal.num, .int .i64 t, .slice ca cn cc, .int .i64 cu, .int .i64 cal.msg.kind, .int .i64 cal.msg.partner, .int .i64 cal.msg.seq, .int .i64 cal.msg.story, .int .i64 cal.msg.base, .int .i64 cal.msg.version, .string ⟨cal.msg.data.toArray⟩] 60) = wC := ⟨_, rfl⟩
      obtain ⟨C, hC⟩ : ∃ C, wN.heap.size = C := ⟨_, rfl⟩
      have HRC : Hid (RunC a0 a1 w0 col w colN wC b q C W2 S1 #[.int .i64 cal.num, .int .i64 t, .slice ca cn cc, .int .i64 cu, .int .i64 cal.msg.kind, .int .i64 cal.msg.partner, .int .i64 cal.msg.seq, .int .i64 cal.msg.story, .int .i64 cal.msg.base, .int .i64 cal.msg.version, .string ⟨cal.msg.data.toArray⟩] vi cal) := Lib.hid (by
        rw [← hwC, ← hC]
        have hb : Below wN.heap.size wN (wN.alloc (.cells #[.int .i64 cal.num, .int .i64 t, .slice ca cn cc, .int .i64 cu, .int .i64 cal.msg.kind, .int .i64 cal.msg.partner, .int .i64 cal.msg.seq, .int .i64 cal.msg.story, .int .i64 cal.msg.base, .int .i64 cal.msg.version, .string ⟨cal.msg.data.toArray⟩] 60)) := (Below.refl _ wN).alloc (Nat.le_refl _) _
        exact ⟨HIG.out.below hb, HFN.out.trans (Fr2.of_below HIG.out.cl HIG.out.sn.lw.bel.size hb), heap_alloc_new wN _, HIF.out.below hb⟩)
      rw [hwC, hC]
      clear hwC hC HIG HIF HFN HNX HF0
      have HRD : Hid (RunC a0 a1 w0 col w colN wC.drew b q C W2 S1 #[.int .i64 cal.num, .int .i64 t, .slice ca cn cc, .int .i64 cu, .int .i64 cal.msg.kind, .int .i64 cal.msg.partner, .int .i64 cal.msg.seq, .int .i64 cal.msg.story, .int .i64 cal.msg.base, .int .i64 cal.msg.version, .string ⟨cal.msg.data.toArray⟩] vi cal) := Lib.hid (HRC.out.below (Below.refl _ _).drew)
      have k0 : wC.cell? ⟨C, 0, none⟩ = some (.int .i64 cal.num) := by rw [Lib.cell_of_heap HRC.out.c]; rfl
      have k1 : wC.cell? ⟨C, 1, none⟩ = some (.int .i64 t) := by rw [Lib.cell_of_heap HRC.out.c]; rfl
      have k2 : wC.cell? ⟨C, 2, none⟩ = some (.slice ca cn cc) := by rw [Lib.cell_of_heap HRC.out.c]; rfl
      have k3 : wC.cell? ⟨C, 3, none⟩ = some (.int .i64 cu) := by rw [Lib.cell_of_heap HRC.out.c]; rfl
      have k4 : wC.cell? ⟨C, 4, none⟩ = some (.int .i64 cal.msg.kind) := by rw [Lib.cell_of_heap HRC.out.c]; rfl
      have k5 : wC.cell? ⟨C, 5, none⟩ = some (.int .i64 cal.msg.partner) := by rw [Lib.cell_of_heap HRC.out.c]; rfl
      have k6 : wC.cell? ⟨C, 6, none⟩ = some (.int .i64 cal.msg.seq) := by rw [Lib.cell_of_heap HRC.out.c]; rfl
      have k7 : wC.cell? ⟨C, 7, none⟩ = some (.int .i64 cal.msg.story) := by rw [Lib.cell_of_heap HRC.out.c]; rfl
      have k8 : wC.cell? ⟨C, 8, none⟩ = some (.int .i64 cal.msg.base) := by rw [Lib.cell_of_heap HRC.out.c]; rfl
      have k9 : wC.cell? ⟨C, 9, none⟩ = some (.int .i64 cal.msg.version) := by rw [Lib.cell_of_heap HRC.out.c]; rfl
      have k10 : wC.cell? ⟨C, 10, none⟩ = some (.string ⟨cal.msg.data.toArray⟩) := by rw [Lib.cell_of_heap HRC.out.c]; rfl
      obtain ⟨vf, vfa, hA0, -⟩ := HRC.out.st.wo
      obtain ⟨fa, fc, hvf, -, -⟩ := hA0.flight.form
      subst hvf
      have c67 : wC.cell? ⟨q, 67, none⟩ = some (.slice fa W2.flight.length fc) := (hA0.cells 67 (by omega)).1
      have hq2 : colN q = 2 := hA0.own
      have hqC : q < wC.heap.size := hA0.lt q hA0.own
      have HQ2 := Lib.hid hq2
      clear hA0 hq2
      have HPE : Hid (Calls Tryz.prog 23 #[.agg #[.int .i64 cal.num, .int .i64 t, .slice ca cn cc, .int .i64 cu, .int .i64 cal.msg.kind, .int .i64 cal.msg.partner, .int .i64 cal.msg.seq, .int .i64 cal.msg.story, .int .i64 cal.msg.base, .int .i64 cal.msg.version, .string ⟨cal.msg.data.toArray⟩], .pointer (some ⟨b, 0, none⟩)] wC.drew (PerfEnd a0 a1 w0 colN wC.drew b q W2 ms S2)) := Lib.hid (by
        have h := HRD.out.st.perform cal vi (HIT.out _ _ _ _ (by decide) HRD.out.it)
        rw [HCV.out, HPF.out] at h
        exact h)
      have HFC : Hid (Fr2 w0 col colN w wC.drew) := Lib.hid HRD.out.fr
      go_upto_region 4 with fail
      go_cut [] (fun wx => Hid (∃ col', St2 a0 a1 w0 col' wx b q { W2 with flight := W2.flight ++ ms } S2 ∧ Fr2 w0 col col' w wx))
      case first =>
        go_region_law
          (first
            | ((go_simp; go_at_call 23; (with_reducible (refine HPE.out.mono ?_)); rintro e wE ⟨ea, ec, colE, rfl, hmE, hvE, hsE, fE⟩; have hbq : wE.heap[q]? = wC.heap[q]? := fE.but.block q hqC (by rw [HQ2.out]; decide); have c67E := cell_same hbq c67; have HSE := Lib.hid hsE; have HFE := Lib.hid fE; have HME := Lib.hid hmE; obtain ⟨vf2, va2, hA2, hl2⟩ := hsE.wo; have hvv : vf2 = .slice fa W2.flight.length fc := (by have h1 := (hA2.cells 67 (by omega)).1; rw [c67E] at h1; exact (Option.some.inj h1).symm); subst hvv; have f67E := (hA2.cells 67 (by omega)).2; have hqE : q < wE.heap.size := hA2.lt q hA2.own; have HA2 := Lib.hid hA2; have HL2 := Lib.hid hl2; clear hmE hvE hsE fE hA2 hl2 hbq))
            | ((refine step_flow _ (by rfl) _ _ (by rfl) (by rfl) (by rfl) HA2.out.flight HME.out HFL.out hqE ?_; intro v9 w9 hr9 hg9 hat9; have hbq9 : w9.heap[q]? = wE.heap[q]? := hg9.block q hqE fun e => (HA2.out.flight.own q e.symm).2 rfl; have d67 := cell_same hbq9 c67E; have e67 := frozen_same hbq9 f67E; obtain ⟨a9, c9, hv9, -, -⟩ := hr9.form; rw [List.length_append] at hv9; have HEND := Lib.hid (HSE.out.flowed HA2.out HL2.out hr9 hg9 hat9); subst hv9; clear hr9 hg9 hat9 hbq9)))
        all_goals
          go_wp2_with fail
          go_meet
          obtain ⟨colZ, h1, h2⟩ := HEND.out
          exact Lib.hid ⟨colZ, h1, (HFC.out.trans (Fr2.of HFE.out (.inl rfl))).trans (Fr2.of h2 (.inr rfl))⟩
      case rest =>
        clear k0 k1 k2 k3 k4 k5 k6 k7 k8 k9 k10 c67 HPE HFC HIT HCV HPF HRD HRC HQ2
        obtain ⟨FL, hFL⟩ : ∃ l, W2.flight ++ ms = l := ⟨_, rfl⟩
        rw [hFL] at hcut HSU
        have hfl : FL.length ≤ 100000 := by rw [← hFL, List.length_append]; exact HFL.out
        clear hFL HFL
        obtain ⟨col9, hS9, hF9⟩ := hcut.out
        clear hcut
        obtain ⟨vf9, va9, hA9, hl9⟩ := id hS9.wo
        obtain ⟨fa9, fc9, hvf, hle9, hmx9⟩ := hA9.flight.form
        simp only at hvf hle9
        subst hvf
        have c67 : wc.cell? ⟨q, 67, none⟩ = some (.slice fa9 FL.length fc9) := (hA9.cells 67 (by omega)).1
        have f67 := (hA9.cells 67 (by omega)).2
        by_cases h200 : FL.length ≤ 200
        · have e0 : decide ((200 : Int) < (FL.length : Int)) = false := decide_eq_false (by omega)
          have e1 : decide (200 < FL.length) = false := decide_eq_false (by omega)
          have HEND : Hid (∃ col', St2 a0 a1 w0 col' wc b q (runD true (W, S) (l.take (k + 1))).1 (runD true (W, S) (l.take (k + 1))).2 ∧ Fr2 w0 col col' w wc) := Lib.hid (by
            rw [HSU.out]
            unfold trimF
            rw [if_neg (by omega)]
            exact ⟨col9, hS9, hF9⟩)
          clear hS9 hF9 hA9 hl9 HSU
          go_wp2_with fail
          go_roundw
          case rel => exact ⟨k + 1, by go_num, by omega, HEND⟩
          case measure => simp [intOf]; omega
        · have e0 : decide ((200 : Int) < (FL.length : Int)) = true := decide_eq_true (by omega)
          have e1 : decide (200 < FL.length) = true := decide_eq_true (by omega)
          have h100 : (100 : Int) ≤ (FL.length : Int) := by omega
          have h101 : (100 : Int) ≤ (fc9 : Int) := by omega
          have HS9 := Lib.hid hS9
          have HF9 := Lib.hid hF9
          have HA9 := Lib.hid hA9
          have HL9 := Lib.hid hl9
          have hrow : RowO (fun k => col9 k = 2) q wc (.slice fa9 FL.length fc9) FL := hA9.flight
          rcases id hrow with ⟨h, -⟩ | ⟨g', off', cap', cur, h1, -⟩
          · injection h with _ h2 _
            omega
          injection h1 with h1 _ h3
          subst h1
          subst h3
          have HCUT := Lib.hid (hrow.cut 100 (by omega))
          clear hS9 hF9 hA9 hl9 hrow
          have HEND : Hid (∃ col', St2 a0 a1 w0 col' (wc.setCell ⟨q, 67, none⟩ (.slice (some ⟨g', off' * 7 + 700, none⟩) (FL.length - 100) (fc9 - 100))) b q (runD true (W, S) (l.take (k + 1))).1 (runD true (W, S) (l.take (k + 1))).2 ∧ Fr2 w0 col col' w (wc.setCell ⟨q, 67, none⟩ (.slice (some ⟨g', off' * 7 + 700, none⟩) (FL.length - 100) (fc9 - 100)))) := Lib.hid (by
            have h := St2.cut (l' := FL.drop 100) HS9.out HA9.out HL9.out HCUT.out rfl
            rw [List.length_drop, show (off' + 100) * 7 = off' * 7 + 700 by omega] at h
            obtain ⟨h1, f⟩ := h
            rw [HSU.out]
            unfold trimF
            rw [if_pos (by omega)]
            exact ⟨col9, h1, HF9.out.trans (Fr2.of f (.inr rfl))⟩)
          clear HCUT HSU
          go_wp2_with fail
          go_roundw
          case rel => exact ⟨k + 1, by go_num, by omega, HEND⟩
          case measure => simp [intOf]; omega
    · obtain rfl : k = l.length := by omega
      go_wp2_with fail
      obtain ⟨col1, h1, h2⟩ := HS.out
      rw [List.take_length] at h1
      exact ⟨rfl, .tuple #[], by simp [results, Tryz.results7, go_sem], rfl, col1, h1, h2⟩
end Go.Proofs.YtefloieanpgnmaaGreatDoor
/- SenderConverges: the walk. -/
namespace Go.Proofs.YtefloieanpgnmaaGreatDoor
open Go.RowKit

def Cv (a0 a1 : Addr) (w0 : World) (b q : Nat) (X : Wld × Sen) (w : World) : Prop := ∃ col, St2 a0 a1 w0 col w b q X.1 X.2
theorem Cv.bel {a0 a1 : Addr} {w0 w : World} {b q : Nat} {X : Wld × Sen} (h : Cv a0 a1 w0 b q X w) : Below w0.heap.size w0 w := h.elim fun _ h => h.sn.lw.bel
theorem cv_start {a0 a1 : Addr} {w0 w : World} (hlw : LW a0 a1 w0 w) : Calls Tryz.prog 6 #[] w fun e w' => ∃ b q, e = .returned (.tuple #[.pointer (some ⟨b, 0, none⟩), .pointer (some ⟨q, 0, none⟩)]) ∧ Cv a0 a1 w0 b q (wld0, startS) w' := by
  refine (start_c (col := fun _ => 0) hlw (fun _ _ => rfl) 1 2 (by decide) (by decide) (by decide) (fun _ => ⟨(by show (0 : Nat) ≠ 1; decide), (by show (0 : Nat) ≠ 2; decide)⟩)).mono ?_
  rintro e w' ⟨b, q, col', rfl, h1, h2, -, h3, h4, h5⟩
  exact ⟨b, q, rfl, col', h3, h1, h2⟩
theorem Cv.run {a0 a1 : Addr} {w0 w : World} {b q : Nat} {W : Wld} {S : Sen} (h : Cv a0 a1 w0 b q (W, S) w) {k0 : Nat} (hr : RI k0 W S) (v : Value) (l : List Op3) (hops : OpsL w0 v l) (hl : k0 + l.length ≤ 1000) (hok : ∀ o ∈ l, okO o) :
    Calls Tryz.prog 7 #[.pointer (some ⟨q, 0, none⟩), .pointer (some ⟨b, 0, none⟩), v] w fun e w' => e = .returned (.tuple #[]) ∧ Cv a0 a1 w0 b q (runD true (W, S) l) w' := by
  obtain ⟨col, h⟩ := h
  refine (run_any h hr v l hops hl hok).mono ?_
  rintro e w' ⟨rfl, col', h1, -⟩
  exact ⟨rfl, col', h1⟩
theorem Cv.settle {a0 a1 : Addr} {w0 w : World} {b q : Nat} {W : Wld} {S : Sen} (h : Cv a0 a1 w0 b q (W, S) w) {k0 : Nat} (hr : RI k0 W S) (hk0 : k0 ≤ 1000) (n : Nat) (hn : n ≤ 100) :
    Calls Tryz.prog 9 #[.pointer (some ⟨q, 0, none⟩), .pointer (some ⟨b, 0, none⟩), .int .i64 n] w fun e w' => e = .returned (.tuple #[]) ∧ Cv a0 a1 w0 b q (settleD (W, S) n) w' := by
  obtain ⟨col, h⟩ := h
  refine (settle_any h hr hk0 n hn).mono ?_
  rintro e w' ⟨rfl, col', h1, -⟩
  exact ⟨rfl, col', h1⟩
theorem Cv.complete {a0 a1 : Addr} {w0 w : World} {b q : Nat} {X : Wld × Sen} (h : Cv a0 a1 w0 b q X w) (hf : Fin X.1 X.2 ∧ W100 X.1) :
    Calls Tryz.prog 10 #[.pointer (some ⟨q, 0, none⟩), .pointer (some ⟨b, 0, none⟩)] w fun e w' => e = .returned (.bool true) ∧ Below w0.heap.size w0 w' := by
  have hb := h.bel
  obtain ⟨col, h⟩ := h
  refine (complete_any h hf.1 hf.2).mono ?_
  rintro e w' ⟨rfl, h1⟩
  exact ⟨rfl, hb.trans (h1.mono hb.size)⟩
set_option maxRecDepth 100000 in
set_option maxHeartbeats 16000000 in
theorem lawConverges_any (v : Value) (l : List Op3) {a0 a1 : Addr} (W : World) (hS : Sents a0 a1 W) (hH : ShiftsAt W) (hops : OpsL W v l) (hok : ∀ o ∈ l, okO o) :
    Calls Tryz.prog 3 #[v] W fun e w' => e = .returned (.bool true) ∧ Below W.heap.size W w' := by
  have HLW : Hid (LW a0 a1 W W) := Lib.hid ⟨hS, hH, Below.refl _ _⟩
  have HSA := Lib.hid (sane_any HLW.out)
  have HFEW : Hid (∀ wx, Below W.heap.size W wx → Calls Tryz.prog 8 #[v] wx fun e w' => ∃ v', e = .returned v' ∧ OpsL W v' (l.take 60) ∧ wx = w') := Lib.hid (fun wx hb => few2 v l wx W (hops.below hb) hops)
  have hL60 : (l.take 60).length ≤ 60 := by rw [List.length_take]; omega
  have HOL : Hid (∀ o ∈ l.take 60, okO o) := Lib.hid (fun o ho => hok o (List.mem_of_mem_take ho))
  obtain ⟨L, hL⟩ : ∃ L, l.take 60 = L := ⟨_, rfl⟩
  rw [hL] at HFEW hL60 HOL
  have hri := RI.runs (X := (wld0, startS)) RI.start L (by omega) true L.length (Nat.le_refl _)
  rw [List.take_length, Nat.zero_add] at hri
  have HRU : Hid (∀ b q w v', Cv a0 a1 W b q (wld0, startS) w → OpsL W v' L → Calls Tryz.prog 7 #[.pointer (some ⟨q, 0, none⟩), .pointer (some ⟨b, 0, none⟩), v'] w fun e w' => e = .returned (.tuple #[]) ∧ Cv a0 a1 W b q (runD true (wld0, startS) L) w') := Lib.hid (fun b q w v' h1 h2 => h1.run RI.start v' L h2 (by omega) HOL.out)
  obtain ⟨X1, hX1⟩ : ∃ X, runD true (wld0, startS) L = X := ⟨_, rfl⟩
  rw [hX1] at hri HRU
  have HSE : Hid (∀ b q w, Cv a0 a1 W b q X1 w → Calls Tryz.prog 9 #[.pointer (some ⟨q, 0, none⟩), .pointer (some ⟨b, 0, none⟩), .int .i64 100] w fun e w' => e = .returned (.tuple #[]) ∧ Cv a0 a1 W b q (settleD X1 100) w') := Lib.hid (fun b q w h => Cv.settle (W := X1.1) (S := X1.2) h hri (by omega) 100 (Nat.le_refl _))
  have HFI := Lib.hid (hri.fin (by omega))
  clear hS hH hops hok hL hX1 hri
  go_enter Tryz.func3, Tryz.ntmps3
  go_wp2_with (first
    | (go_at_call 5; (with_reducible (refine HSA.out.mono ?_)); rintro e w1 ⟨rfl, hb1⟩; have H1 := Lib.hid (HLW.out.below hb1); clear hb1)
    | (go_at_call 6; (refine (cv_start H1.out).mono ?_; rintro e w2 ⟨b, q, rfl, h2⟩; have H2 := Lib.hid h2; clear h2))
    | (go_at_call 8; (refine (HFEW.out _ H2.out.bel).mono ?_); rintro e wf ⟨v', rfl, hv', rfl⟩; have HV := Lib.hid hv'; clear hv')
    | (go_at_call 7; (refine (HRU.out _ _ _ _ H2.out HV.out).mono ?_); rintro e w3 ⟨rfl, h3⟩; have H3 := Lib.hid h3; clear h3)
    | (go_at_call 9; (refine (HSE.out _ _ _ H3.out).mono ?_); rintro e w4 ⟨rfl, h4⟩; have H4 := Lib.hid h4; clear h4)
    | (go_at_call 10; (refine (H4.out.complete HFI.out).mono ?_); rintro e w5 ⟨rfl, h5⟩; have H5 := Lib.hid h5; clear h5)
    | fail)
  go_ret
  exact ⟨rfl, H5.out⟩
end Go.Proofs.YtefloieanpgnmaaGreatDoor
/- SenderConverges: the walk, at the arguments as they lie. -/
namespace Go.Proofs.YtefloieanpgnmaaGreatDoor
open Go.RowKit

theorem lawConverges_raw (A : Option Addr) (n c : Nat) {a0 a1 : Addr} (W : World) (h : RawStps W A n c) (S : Sents a0 a1 W) (H : ShiftsAt W) :
    Calls Tryz.prog 3 #[.slice A n c] W fun e w' => e = .returned (.bool true) ∧ Below W.heap.size W w' := by
  obtain ⟨l, h1, h2⟩ := ops_of h
  exact lawConverges_any _ l W S H h1 (fun o ho => h2 o ho)
end Go.Proofs.YtefloieanpgnmaaGreatDoor

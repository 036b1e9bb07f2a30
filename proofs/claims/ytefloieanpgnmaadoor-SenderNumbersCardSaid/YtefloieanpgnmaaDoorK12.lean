/- Facts and contracts for the laws of the sender, part 12. Conditions: those that each theorem names. -/
import Derived.Test.YtefloieanpgnmaaDoorK11
/- The law's partner: answer. -/
namespace Go.Proofs.YtefloieanpgnmaaDoor
open Go.RowKit

theorem applyGo_facts {old d : List UInt8} : ∀ (f a : Nat) (out : List UInt8), (∀ e, applyGo f old d a out = .error e → e = 10 ∨ e = 190) ∧ (∀ t, out.length ≤ 8192 → applyGo f old d a out = .ok t → t.length ≤ 8192) := by
  intro f
  induction f with
  | zero => intro a out; exact ⟨fun e h => by simp [applyGo] at h, fun t ho h => by simp [applyGo] at h; subst h; exact ho⟩
  | succ f ih =>
    intro a out
    rw [applyGo]
    split
    · exact ⟨(fun e h => by cases h), fun t ho h => by cases h; exact ho⟩
    · cases hop : opAt old d a with
      | error e0 => exact ⟨fun e h => by cases h; exact opAt_err hop, fun t _ h => by cases h⟩
      | ok p =>
        obtain ⟨x, k⟩ := p
        simp only []
        split
        · rename_i hl
          exact ⟨(ih k (out ++ x)).1, fun t _ h => (ih k (out ++ x)).2 t (by simpa using hl) h⟩
        · exact ⟨fun e h => by cases h; exact .inr rfl, fun t _ h => by cases h⟩
theorem applyD_facts {old d : List UInt8} : (∀ e, applyD old d = .error e → e = 10 ∨ e = 190) ∧ ∀ t, applyD old d = .ok t → t.length ≤ 8192 := by
  unfold applyD
  split
  · exact ⟨fun e h => by cases h; exact .inr rfl, fun t h => by cases h⟩
  · cases intAt d 0 with
    | none => exact ⟨fun e h => by cases h; exact .inl rfl, fun t h => by cases h⟩
    | some p =>
      obtain ⟨sum, a⟩ := p
      simp only []
      split
      · cases intAt d a with
        | none => exact ⟨fun e h => by cases h; exact .inl rfl, fun t h => by cases h⟩
        | some q =>
          obtain ⟨want, a2⟩ := q
          simp only []
          have hg := applyGo_facts (old := old) (d := d) (d.length + 1) a2 []
          cases hgo : applyGo (d.length + 1) old d a2 [] with
          | error e0 => exact ⟨fun e h => by cases h; exact hg.1 _ hgo, fun t h => by cases h⟩
          | ok out =>
            simp only []
            split
            · exact ⟨(fun e h => by cases h), fun t h => by cases h; exact hg.2 _ (by simp) hgo⟩
            · exact ⟨fun e h => by cases h; exact .inr rfl, fun t h => by cases h⟩
      · exact ⟨fun e h => by cases h; exact .inr rfl, fun t h => by cases h⟩
theorem applyD_err {old d : List UInt8} {e : Int} (h : applyD old d = .error e) : e = 10 ∨ e = 190 := applyD_facts.1 e h
theorem applyD_len {old d t : List UInt8} (h : applyD old d = .ok t) : t.length ≤ 8192 := applyD_facts.2 t h
theorem bytes_list (s : ByteArray) : ∃ l : List UInt8, s = ⟨l.toArray⟩ := ⟨s.data.toList, by simp⟩

/-- a partner's answer in memory -/
def AnsEnd (q : Nat) (vf va : Value) (W : Wld) (w : World) (am : Msg) (p' : Peer) (e : Ending) (w' : World) : Prop := e = .returned am.enc ∧ SenF 264 w' q (wldV { W with p := p' } vf va) ∧ But (fun k => k = q) w.heap.size w w'
theorem MAt.put2 {K : Nat} {m : Msg} {w : World} (h : MAt K m w) (v : Int) : MAt K { m with seq := v } (w.setCell ⟨K, 2, none⟩ (.int .i64 v)) := by unfold MAt at *; simp [World.setCell, Array.getElem?_modify, h, Msg.cells]
theorem MAt.far {K : Nat} {m : Msg} {w : World} (h : MAt K m w) {b o : Nat} (hb : K ≠ b) (v : Value) : MAt K m (w.setCell ⟨b, o, none⟩ v) := (Below.heap_setCell w ⟨b, o, none⟩ v K hb).trans h
/-- answer under way: m: the message, am: the answer so far -/
structure AS (a0 a1 : Addr) (w0 w : World) (q : Nat) (vf va : Value) (K : Nat) (m : Msg) (W : Wld) (am : Msg) (wx : World) : Prop where
  f : SenF 264 wx q (wldV W vf va)
  m3 : MAt K m wx
  m4 : ∃ x, MAt (K + 1) x wx
  m5 : MAt (K + 1 + 1) am wx
  lw : LW a0 a1 w0 wx
  but : But (fun k => k = q) w.heap.size w wx
  hK : w.heap.size = K
  hq : q < K
  hq0 : w0.heap.size ≤ q
theorem AS.below {a0 a1 : Addr} {w0 w : World} {q : Nat} {vf va : Value} {K : Nat} {m : Msg} {W : Wld} {am : Msg} {wx wy : World} (h : AS a0 a1 w0 w q vf va K m W am wx) (hb : Below wx.heap.size wx wy) : AS a0 a1 w0 w q vf va K m W am wy :=
  ⟨h.f.kept (hb.block q (by have := h.m3.lt; have := h.hq; omega)), h.m3.below hb, h.m4.elim fun x hx => ⟨x, hx.below hb⟩, h.m5.below hb, h.lw.below hb, h.but.trans (But.of_below (hb.mono h.but.size)), h.hK, h.hq, h.hq0⟩
theorem AS.put5 {a0 a1 : Addr} {w0 w : World} {q : Nat} {vf va : Value} {K : Nat} {m : Msg} {W : Wld} {am am' : Msg} {wx : World} (h : AS a0 a1 w0 w q vf va K m W am wx) {o : Nat} {v : Value} (hm : MAt (K + 1 + 1) am' (wx.setCell ⟨K + 1 + 1, o, none⟩ v)) : AS a0 a1 w0 w q vf va K m W am' (wx.setCell ⟨K + 1 + 1, o, none⟩ v) := by
  have hq := h.hq; have hK := h.hK; have hq0 := h.hq0
  exact ⟨h.f.kept (Below.heap_setCell wx ⟨K + 1 + 1, o, none⟩ v q (by show q ≠ K + 1 + 1; omega)), h.m3.far (by omega) _, h.m4.elim fun x hx => ⟨x, hx.far (by omega) _⟩, hm, ⟨h.lw.S, h.lw.H, h.lw.bel.setCell (p := ⟨K + 1 + 1, o, none⟩) (by show w0.heap.size ≤ K + 1 + 1; omega) _⟩, ⟨h.but.os, h.but.tape, h.but.output, by simpa using h.but.size, fun k hk hn => (Below.heap_setCell wx ⟨K + 1 + 1, o, none⟩ v k (by show k ≠ K + 1 + 1; omega)).trans (h.but.block k hk hn)⟩, hK, hq, hq0⟩
theorem AS.putq {a0 a1 : Addr} {w0 w : World} {q : Nat} {vf va : Value} {K : Nat} {m : Msg} {W W' : Wld} {am : Msg} {wx : World} (h : AS a0 a1 w0 w q vf va K m W am wx) {o : Nat} {v : Value} (ho : o < 264) (hf : ∀ x, x < 264 → updV (wldV W vf va) o v x = wldV W' vf va x) : AS a0 a1 w0 w q vf va K m W' am (wx.setCell ⟨q, o, none⟩ v) := by
  have hq := h.hq; have hK := h.hK; have hq0 := h.hq0
  exact ⟨(h.f.set ho v).congr hf, h.m3.far (by omega) _, h.m4.elim fun x hx => ⟨x, hx.far (by omega) _⟩, h.m5.far (by omega) _, ⟨h.lw.S, h.lw.H, h.lw.bel.setCell (p := ⟨q, o, none⟩) hq0 _⟩, h.but.setCell rfl _, hK, hq, hq0⟩
theorem AS.sum {a0 a1 : Addr} {w0 w : World} {q : Nat} {vf va : Value} {K : Nat} {m : Msg} {W : Wld} {am : Msg} {wx : World} (h : AS a0 a1 w0 w q vf va K m W am wx) (j : Nat) (hj : j < 65) (hl : (W.p.text j).length ≤ 9223372036854775000) :
    Calls Tryd.prog 34 #[.pointer (some ⟨q, 69, none⟩), .int .i64 j] wx fun e w' => e = .returned (.int .i64 (W.p.sum j)) ∧ wx = w' := psum_any h.f j hj hl h.lw.h
/-- the answer is copied, and returned -/
theorem AS.done {a0 a1 : Addr} {w0 w : World} {q : Nat} {vf va : Value} {K : Nat} {m : Msg} {W : Wld} {am : Msg} {wx wy : World} (h : AS a0 a1 w0 w q vf va K m W am wx) (hy : ∀ k, k ≠ K + 1 → wy.heap[k]? = wx.heap[k]?) (hs : wx.heap.size ≤ wy.heap.size) (ho : wy.os = wx.os ∧ wy.tape = wx.tape ∧ wy.output = wx.output) : SenF 264 wy q (wldV W vf va) ∧ But (fun k => k = q) w.heap.size w wy := by
  have hq := h.hq; have hK := h.hK
  exact ⟨h.f.kept (hy q (by omega)), h.but.trans ⟨ho.1, ho.2.1, ho.2.2, hs, fun k hk hn => hy k (by omega)⟩⟩

/-- a message is stored, cell by cell -/
def store7 (K : Nat) (m : Msg) (w : World) : World := ((((((w.setCell ⟨K, 0, none⟩ (.int .i64 m.kind)).setCell ⟨K, 1, none⟩ (.int .i64 m.partner)).setCell ⟨K, 2, none⟩ (.int .i64 m.seq)).setCell ⟨K, 3, none⟩ (.int .i64 m.story)).setCell ⟨K, 4, none⟩ (.int .i64 m.base)).setCell ⟨K, 5, none⟩ (.int .i64 m.version)).setCell ⟨K, 6, none⟩ (.string ⟨m.data.toArray⟩)
theorem store7_far (K : Nat) (m : Msg) (w : World) (k : Nat) (h : k ≠ K) : (store7 K m w).heap[k]? = w.heap[k]? := by
  unfold store7
  repeat rw [Below.heap_setCell _ ⟨K, _, none⟩ _ k h]
theorem store7_at {K : Nat} {m x : Msg} {w : World} (h : MAt K x w) : MAt K m (store7 K m w) := by
  unfold MAt store7 at *
  simp [World.setCell, Array.getElem?_modify, h, Msg.cells]
theorem setCell_os (w : World) (a : Addr) (v : Value) : (w.setCell a v).os = w.os ∧ (w.setCell a v).tape = w.tape ∧ (w.setCell a v).output = w.output := ⟨rfl, rfl, rfl⟩
theorem store7_os (K : Nat) (m : Msg) (w : World) : (store7 K m w).os = w.os ∧ (store7 K m w).tape = w.tape ∧ (store7 K m w).output = w.output := by
  unfold store7
  exact ⟨by simp only [(setCell_os _ _ _).1], by simp only [(setCell_os _ _ _).2.1], by simp only [(setCell_os _ _ _).2.2]⟩
theorem store7_size (K : Nat) (m : Msg) (w : World) : w.heap.size ≤ (store7 K m w).heap.size := by unfold store7; simp
attribute [local irreducible] store7
theorem AS.end_ {a0 a1 : Addr} {w0 w : World} {q : Nat} {vf va : Value} {K : Nat} {m : Msg} {W : Wld} {am : Msg} {wx : World} (h : AS a0 a1 w0 w q vf va K m W am wx) : MAt (K + 1) am (store7 (K + 1) am wx) ∧ SenF 264 (store7 (K + 1) am wx) q (wldV W vf va) ∧ But (fun k => k = q) w.heap.size w (store7 (K + 1) am wx) := by
  obtain ⟨x, hx⟩ := h.m4
  exact ⟨store7_at hx, h.done (fun k hk => store7_far _ _ _ _ hk) (store7_size _ _ _) (store7_os _ _ _)⟩
end Go.Proofs.YtefloieanpgnmaaDoor

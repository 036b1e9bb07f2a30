/- Facts and contracts for the laws of the sender, part 16. Conditions: those that each theorem names. -/
import Derived.Test.YtefloieanpgnmaaDoorK13
import Derived.Test.YtefloieanpgnmaaDoorK14
import Derived.Test.YtefloieanpgnmaaDoorK15
import Derived.Test.YtefloieanpgnmaaDoorK03
import Derived.Test.YtefloieanpgnmaaDoorK01
import Derived.WalkSpells
import Derived.WalkLawsBesides
import Derived.Deep.QuietTactic
import Derived.BigQuiet
import Derived.Laws.StructEq
import Derived.Deep.RegionHeld3
import Derived.Outline
import Derived.OwnWalk
import Derived.Deep.DeepCutAuto
/- The law's partner: answer, in all cases. -/
namespace Go.Proofs.YtefloieanpgnmaaDoor
open Go.RowKit

theorem answer_any {a0 a1 : Addr} {w0 : World} {W : Wld} {vf va : Value} {q : Nat} {w : World} (h : SenF 264 w q (wldV W vf va)) (hq : q < w.heap.size) (hq0 : w0.heap.size ≤ q) (hlw : LW a0 a1 w0 w) (m : Msg) (j : Nat) (hj : 1 ≤ j ∧ j ≤ 64) (hst : m.story = (j : Int)) (hl : (W.p.text j).length ≤ 9223372036854775000) (hd : m.data.length ≤ 9223372036854775000) :
    Calls Tryd.prog 19 #[.pointer (some ⟨q, 69, none⟩), m.enc] w (AnsEnd q vf va W w (W.p.answer m).1 (W.p.answer m).2) := by
  by_cases hc : ¬ m.seq ≤ W.p.seq j ∧ m.kind = 1
  · by_cases hb : m.base = 0
    · exact answer_b h hq hq0 hlw m j hj hst hl hd ⟨hc.1, hc.2, hb⟩
    · exact answer_c h hq hq0 hlw m j hj hst hl hd ⟨hc.1, hc.2, hb⟩
  · exact answer_a h hq hq0 hlw m j hj hst hl hd hc
end Go.Proofs.YtefloieanpgnmaaDoor
/- A sender in memory: stores into a story. -/
namespace Go.Proofs.YtefloieanpgnmaaDoor
open Go.RowKit

def updP (P : Nat → Option Nat) (i : Nat) (p : Option Nat) : Nat → Option Nat := fun j => if j = i then p else P j
theorem updP_self (P : Nat → Option Nat) (i : Nat) : updP P i (P i) = P := by
  funext j; unfold updP; split
  · rename_i e; rw [e]
  · rfl
theorem updP_at (P : Nat → Option Nat) (i : Nat) (p : Option Nat) : updP P i p i = p := by simp [updP]
theorem updP_ne {P : Nat → Option Nat} {i j : Nat} {p : Option Nat} (h : j ≠ i) : updP P i p j = P j := by simp [updP, h]

theorem SenAt.story1 {T T' : Nat → Prop} {w w' : World} {b : Nat} {S : Sen} {P : Nat → Option Nat} (h : SenAt T w b S P) {i : Nat} (hi : i < 64) {x : Sto} {p : Option Nat} {c : Int} {f : Nat → Value}
    (hok : SenOk { S with counter := c, st := upd S.st i x }) (hT : ∀ k, T k → T' k) (hlt : ∀ k, T' k → k < w'.heap.size) (hF : SenF 836 w' b f)
    (hc : ∀ c, c < 13 → f (4 + i * 13 + c) = stoV x p c) (hh : f 2 = .int .i64 c) (hn : ∀ o, o ≠ 2 → (∀ c, c < 13 → o ≠ 4 + i * 13 + c) → f o = senV S P o)
    (hk : ∀ k, T k → k ≠ b → w'.heap[k]? = w.heap[k]?)
    (hx0 : x.out = none → p = none) (hx1 : ∀ o, x.out = some o → ∃ g, p = some g ∧ T' g ∧ g ≠ b ∧ w'.heap[g]? = some (.cells (outC o) 85 (0, 0)))
    (hx2 : ∀ j g, j < 64 → j ≠ i → p = some g → P j ≠ some g) : SenAt T' w' b { S with counter := c, st := upd S.st i x } (updP P i p) := by
  refine ⟨hok, hlt, hT b h.own, hF.congr ?_, fun j hj ho => ?_, fun j o hj ho => ?_, fun j k g hj hk' h1 h2 => ?_⟩
  · refine all_cells ?_ ?_ hh ?_ fun j c hj hcc => ?_
    · exact (hn 0 (by omega) (fun c _ => by omega)).trans rfl
    · exact (hn 1 (by omega) (fun c _ => by omega)).trans rfl
    · exact (hn 3 (by omega) (fun c _ => by omega)).trans rfl
    · rw [senV_at _ _ _ _ hcc]
      by_cases e : j = i
      · subst e
        simp only [upd_same, updP_at]
        exact hc c hcc
      · rw [hn _ (by omega) (fun c' hc' => by omega), senV_at _ _ _ _ hcc]
        simp only [upd_ne e, updP_ne e]
  · by_cases e : j = i
    · subst e
      rw [updP_at]
      exact hx0 (by simpa [upd] using ho)
    · rw [updP_ne e]
      exact h.nout j hj (by simpa [upd, e] using ho)
  · by_cases e : j = i
    · subst e
      rw [updP_at]
      exact hx1 o (by simpa [upd] using ho)
    · rw [updP_ne e]
      obtain ⟨g, h1, h2, h3, h4⟩ := h.sout j o hj (by simpa [upd, e] using ho)
      exact ⟨g, h1, hT g h2, h3, (hk g h2 h3).trans h4⟩
  · by_cases e1 : j = i
    · by_cases e2 : k = i
      · rw [e1, e2]
      · subst e1
        rw [updP_at] at h1
        rw [updP_ne e2] at h2
        exact absurd h2 (hx2 k g hk' e2 h1)
    · by_cases e2 : k = i
      · subst e2
        rw [updP_at] at h2
        rw [updP_ne e1] at h1
        exact absurd h1 (hx2 j g hj e1 h2)
      · rw [updP_ne e1] at h1
        rw [updP_ne e2] at h2
        exact h.inj j k g hj hk' h1 h2

theorem senV_at0 (S : Sen) (P : Nat → Option Nat) (i : Nat) : senV S P (4 + i * 13) = stoV (S.st i) (P i) 0 := senV_at S P i 0 (by omega)
/-- held := k -/
theorem SenAt.putHeld {T : Nat → Prop} {w : World} {b : Nat} {S : Sen} {P : Nat → Option Nat} (h : SenAt T w b S P) {i : Nat} (hi : i < 64) (k : Kn) (hk : k.txt.length ≤ 8192) :
    SenAt T ((w.setCell ⟨b, 4 + i * 13 + 2, none⟩ (.int .i64 k.num)).setCell ⟨b, 4 + i * 13 + 3, none⟩ (.string ⟨k.txt.toArray⟩)) b { S with st := upd S.st i { S.st i with held := k } } P := by
  have hF := ((h.cells.set (k := 4 + i * 13 + 2) (by omega) (.int .i64 k.num)).set (k := 4 + i * 13 + 3) (by omega) (.string ⟨k.txt.toArray⟩))
  have hcn := h.ok.counter
  have hblk : ∀ j, j ≠ b → ((w.setCell ⟨b, 4 + i * 13 + 2, none⟩ (.int .i64 k.num)).setCell ⟨b, 4 + i * 13 + 3, none⟩ (.string ⟨k.txt.toArray⟩)).heap[j]? = w.heap[j]? := fun j hj => (Below.heap_setCell _ ⟨b, _, none⟩ _ j hj).trans (Below.heap_setCell _ ⟨b, _, none⟩ _ j hj)
  have := h.story1 hi (x := { S.st i with held := k }) (p := P i) (c := S.counter) (T' := T) (h.ok.upd1 i _ S.counter ⟨by omega, hcn.2⟩ (h.ok.wanted i) hk (fun o ho => h.ok.outs i o ho) (fun m hm => h.ok.acked i m hm) (fun o ho j o' hj ho' e => hj (h.ok.apart j i o' o ho' ho e.symm)))
    (fun _ hk => hk) (fun k hk => by simp; exact h.lt k hk) hF (fun c hc => by
      match c, hc with
      | 0, _ => simp [updV, senV_at0, stoV]
      | 1, _ => simp [updV, senV_at, stoV]
      | 2, _ => simp [updV, stoV]
      | 3, _ => simp [updV, stoV]
      | 4, _ => simp [updV, senV_at, stoV, ptrV]
      | 5, _ => simp [updV, senV_at, stoV, ackN]
      | 6, _ => simp [updV, senV_at, stoV, ackM]
      | 7, _ => simp [updV, senV_at, stoV, ackM]
      | 8, _ => simp [updV, senV_at, stoV, ackM]
      | 9, _ => simp [updV, senV_at, stoV, ackM]
      | 10, _ => simp [updV, senV_at, stoV, ackM]
      | 11, _ => simp [updV, senV_at, stoV, ackM]
      | 12, _ => simp [updV, senV_at, stoV, ackM]) (by unfold updV; rw [if_neg (by omega), if_neg (by omega)]; rfl) (fun o h2 ho => by
      unfold updV
      rw [if_neg (ho 3 (by omega)), if_neg (ho 2 (by omega))])
    (fun j _ hj => hblk j hj) (fun ho => h.nout i hi ho) (fun o ho => by
      obtain ⟨g, h1, h2, h3, h4⟩ := h.sout i o hi ho
      exact ⟨g, h1, h2, h3, (hblk g h3).trans h4⟩) (fun j g hj hji h1 h2 => hji (h.inj j i g hj hi h2 h1))
  rw [updP_self] at this
  exact this

/-- out := nil -/
theorem SenAt.putNone {T : Nat → Prop} {w : World} {b : Nat} {S : Sen} {P : Nat → Option Nat} (h : SenAt T w b S P) {i : Nat} (hi : i < 64)  :
    SenAt T (w.setCell ⟨b, 4 + i * 13 + 4, none⟩ (.pointer none)) b { S with st := upd S.st i { S.st i with out := none } } (updP P i none) := by
  have hF := (h.cells.set (k := 4 + i * 13 + 4) (by omega) (.pointer none))
  have hcn := h.ok.counter
  have hblk : ∀ j, j ≠ b → (w.setCell ⟨b, 4 + i * 13 + 4, none⟩ (.pointer none)).heap[j]? = w.heap[j]? := fun j hj => Below.heap_setCell _ ⟨b, _, none⟩ _ j hj
  have := h.story1 hi (x := { S.st i with out := none }) (p := none) (c := S.counter) (T' := T) (h.ok.lose i _ _ S.counter ⟨by omega, hcn.2⟩ (h.ok.held i) (fun m hm => h.ok.acked i m hm))
    (fun _ hk => hk) (fun k hk => by simp; exact h.lt k hk) hF (fun c hc => by
      match c, hc with
      | 0, _ => simp [updV, senV_at0, stoV]
      | 1, _ => simp [updV, senV_at, stoV]
      | 2, _ => simp [updV, senV_at, stoV]
      | 3, _ => simp [updV, senV_at, stoV]
      | 4, _ => simp [updV, stoV, ptrV]
      | 5, _ => simp [updV, senV_at, stoV, ackN]
      | 6, _ => simp [updV, senV_at, stoV, ackM]
      | 7, _ => simp [updV, senV_at, stoV, ackM]
      | 8, _ => simp [updV, senV_at, stoV, ackM]
      | 9, _ => simp [updV, senV_at, stoV, ackM]
      | 10, _ => simp [updV, senV_at, stoV, ackM]
      | 11, _ => simp [updV, senV_at, stoV, ackM]
      | 12, _ => simp [updV, senV_at, stoV, ackM]) (by unfold updV; rw [if_neg (by omega)]; rfl) (fun o h2 ho => by
      unfold updV
      rw [if_neg (ho 4 (by omega))])
    (fun j _ hj => hblk j hj) (fun _ => rfl) (fun o ho => by cases ho) (fun j g hj hji h1 => by cases h1)
  exact this

/-- acked := a message -/
theorem SenAt.putAcked {T : Nat → Prop} {w : World} {b : Nat} {S : Sen} {P : Nat → Option Nat} (h : SenAt T w b S P) {i : Nat} (hi : i < 64) (m : Msg) (hm : m.data.length ≤ 1000000) :
    SenAt T ((((((((w.setCell ⟨b, 4 + i * 13 + 5, none⟩ (.int .i64 2)).setCell ⟨b, 4 + i * 13 + 6, none⟩ (.int .i64 m.kind)).setCell ⟨b, 4 + i * 13 + 7, none⟩ (.int .i64 m.partner)).setCell ⟨b, 4 + i * 13 + 8, none⟩ (.int .i64 m.seq)).setCell ⟨b, 4 + i * 13 + 9, none⟩ (.int .i64 m.story)).setCell ⟨b, 4 + i * 13 + 10, none⟩ (.int .i64 m.base)).setCell ⟨b, 4 + i * 13 + 11, none⟩ (.int .i64 m.version)).setCell ⟨b, 4 + i * 13 + 12, none⟩ (.string ⟨m.data.toArray⟩)) b { S with st := upd S.st i { S.st i with acked := some m } } P := by
  have hF := ((((((((h.cells.set (k := 4 + i * 13 + 5) (by omega) (.int .i64 2)).set (k := 4 + i * 13 + 6) (by omega) (.int .i64 m.kind)).set (k := 4 + i * 13 + 7) (by omega) (.int .i64 m.partner)).set (k := 4 + i * 13 + 8) (by omega) (.int .i64 m.seq)).set (k := 4 + i * 13 + 9) (by omega) (.int .i64 m.story)).set (k := 4 + i * 13 + 10) (by omega) (.int .i64 m.base)).set (k := 4 + i * 13 + 11) (by omega) (.int .i64 m.version)).set (k := 4 + i * 13 + 12) (by omega) (.string ⟨m.data.toArray⟩))
  have hcn := h.ok.counter
  have hblk : ∀ j, j ≠ b → ((((((((w.setCell ⟨b, 4 + i * 13 + 5, none⟩ (.int .i64 2)).setCell ⟨b, 4 + i * 13 + 6, none⟩ (.int .i64 m.kind)).setCell ⟨b, 4 + i * 13 + 7, none⟩ (.int .i64 m.partner)).setCell ⟨b, 4 + i * 13 + 8, none⟩ (.int .i64 m.seq)).setCell ⟨b, 4 + i * 13 + 9, none⟩ (.int .i64 m.story)).setCell ⟨b, 4 + i * 13 + 10, none⟩ (.int .i64 m.base)).setCell ⟨b, 4 + i * 13 + 11, none⟩ (.int .i64 m.version)).setCell ⟨b, 4 + i * 13 + 12, none⟩ (.string ⟨m.data.toArray⟩)).heap[j]? = w.heap[j]? := fun j hj => (Below.heap_setCell _ ⟨b, _, none⟩ _ j hj).trans ((Below.heap_setCell _ ⟨b, _, none⟩ _ j hj).trans ((Below.heap_setCell _ ⟨b, _, none⟩ _ j hj).trans ((Below.heap_setCell _ ⟨b, _, none⟩ _ j hj).trans ((Below.heap_setCell _ ⟨b, _, none⟩ _ j hj).trans ((Below.heap_setCell _ ⟨b, _, none⟩ _ j hj).trans ((Below.heap_setCell _ ⟨b, _, none⟩ _ j hj).trans (Below.heap_setCell _ ⟨b, _, none⟩ _ j hj)))))))
  have := h.story1 hi (x := { S.st i with acked := some m }) (p := P i) (c := S.counter) (T' := T) (h.ok.upd1 i _ S.counter ⟨by omega, hcn.2⟩ (h.ok.wanted i) (h.ok.held i) (fun o ho => h.ok.outs i o ho) (fun m' hm' => by cases hm'; exact hm) (fun o ho j o' hj ho' e => hj (h.ok.apart j i o' o ho' ho e.symm)))
    (fun _ hk => hk) (fun k hk => by simp; exact h.lt k hk) hF (fun c hc => by
      match c, hc with
      | 0, _ => simp [updV, senV_at0, stoV]
      | 1, _ => simp [updV, senV_at, stoV]
      | 2, _ => simp [updV, senV_at, stoV]
      | 3, _ => simp [updV, senV_at, stoV]
      | 4, _ => simp [updV, senV_at, stoV, ptrV]
      | 5, _ => simp [updV, stoV, ackN]
      | 6, _ => simp [updV, stoV, ackM]
      | 7, _ => simp [updV, stoV, ackM]
      | 8, _ => simp [updV, stoV, ackM]
      | 9, _ => simp [updV, stoV, ackM]
      | 10, _ => simp [updV, stoV, ackM]
      | 11, _ => simp [updV, stoV, ackM]
      | 12, _ => simp [updV, stoV, ackM]) (by unfold updV; rw [if_neg (by omega), if_neg (by omega), if_neg (by omega), if_neg (by omega), if_neg (by omega), if_neg (by omega), if_neg (by omega), if_neg (by omega)]; rfl) (fun o h2 ho => by
      unfold updV
      rw [if_neg (ho 12 (by omega)), if_neg (ho 11 (by omega)), if_neg (ho 10 (by omega)), if_neg (ho 9 (by omega)), if_neg (ho 8 (by omega)), if_neg (ho 7 (by omega)), if_neg (ho 6 (by omega)), if_neg (ho 5 (by omega))])
    (fun j _ hj => hblk j hj) (fun ho => h.nout i hi ho) (fun o ho => by
      obtain ⟨g, h1, h2, h3, h4⟩ := h.sout i o hi ho
      exact ⟨g, h1, h2, h3, (hblk g h3).trans h4⟩) (fun j g hj hji h1 h2 => hji (h.inj j i g hj hi h2 h1))
  rw [updP_self] at this
  exact this

/-- wanted := k -/
theorem SenAt.putWanted {T : Nat → Prop} {w : World} {b : Nat} {S : Sen} {P : Nat → Option Nat} (h : SenAt T w b S P) {i : Nat} (hi : i < 64) (k : Kn) (hk : k.txt.length ≤ 8192) (hu : k ≠ .unk) :
    SenAt T ((w.setCell ⟨b, 4 + i * 13 + 0, none⟩ (.int .i64 k.num)).setCell ⟨b, 4 + i * 13 + 1, none⟩ (.string ⟨k.txt.toArray⟩)) b { S with st := upd S.st i { S.st i with wanted := k } } P := by
  have hF := ((h.cells.set (k := 4 + i * 13 + 0) (by omega) (.int .i64 k.num)).set (k := 4 + i * 13 + 1) (by omega) (.string ⟨k.txt.toArray⟩))
  have hcn := h.ok.counter
  have hblk : ∀ j, j ≠ b → ((w.setCell ⟨b, 4 + i * 13 + 0, none⟩ (.int .i64 k.num)).setCell ⟨b, 4 + i * 13 + 1, none⟩ (.string ⟨k.txt.toArray⟩)).heap[j]? = w.heap[j]? := fun j hj => (Below.heap_setCell _ ⟨b, _, none⟩ _ j hj).trans (Below.heap_setCell _ ⟨b, _, none⟩ _ j hj)
  have := h.story1 hi (x := { S.st i with wanted := k }) (p := P i) (c := S.counter) (T' := T) (h.ok.upd1 i _ S.counter ⟨by omega, hcn.2⟩ ⟨hk, hu⟩ (h.ok.held i) (fun o ho => h.ok.outs i o ho) (fun m hm => h.ok.acked i m hm) (fun o ho j o' hj ho' e => hj (h.ok.apart j i o' o ho' ho e.symm)))
    (fun _ hk => hk) (fun k hk => by simp; exact h.lt k hk) hF (fun c hc => by
      match c, hc with
      | 0, _ => simp [updV, stoV]
      | 1, _ => simp [updV, stoV]
      | 2, _ => simp [updV, senV_at, stoV]
      | 3, _ => simp [updV, senV_at, stoV]
      | 4, _ => simp [updV, senV_at, stoV, ptrV]
      | 5, _ => simp [updV, senV_at, stoV, ackN]
      | 6, _ => simp [updV, senV_at, stoV, ackM]
      | 7, _ => simp [updV, senV_at, stoV, ackM]
      | 8, _ => simp [updV, senV_at, stoV, ackM]
      | 9, _ => simp [updV, senV_at, stoV, ackM]
      | 10, _ => simp [updV, senV_at, stoV, ackM]
      | 11, _ => simp [updV, senV_at, stoV, ackM]
      | 12, _ => simp [updV, senV_at, stoV, ackM]) (by unfold updV; rw [if_neg (by omega), if_neg (by omega)]; rfl) (fun o h2 ho => by
      unfold updV
      rw [if_neg (ho 1 (by omega)), if_neg (ho 0 (by omega))])
    (fun j _ hj => hblk j hj) (fun ho => h.nout i hi ho) (fun o ho => by
      obtain ⟨g, h1, h2, h3, h4⟩ := h.sout i o hi ho
      exact ⟨g, h1, h2, h3, (hblk g h3).trans h4⟩) (fun j g hj hji h1 h2 => hji (h.inj j i g hj hi h2 h1))
  rw [updP_self] at this
  exact this

/-- the counter -/
theorem SenAt.putCounter {T : Nat → Prop} {w : World} {b : Nat} {S : Sen} {P : Nat → Option Nat} (h : SenAt T w b S P) (c : Int) (hc : S.counter ≤ c ∧ c ≤ 4611686018427387903) :
    SenAt T (w.setCell ⟨b, 2, none⟩ (.int .i64 c)) b { S with counter := c } P := by
  have hblk : ∀ j, j ≠ b → (w.setCell ⟨b, 2, none⟩ (.int .i64 c)).heap[j]? = w.heap[j]? := fun j hj => Below.heap_setCell _ ⟨b, _, none⟩ _ j hj
  have hF := h.cells.set (k := 2) (by omega) (.int .i64 c)
  refine ⟨⟨h.ok.partner, h.ok.lease, ⟨by have := h.ok.counter; simp only; omega, hc.2⟩, h.ok.audit, h.ok.wanted, h.ok.held, fun i o ho => by have := h.ok.outs i o ho; exact ⟨this.1, by simp only; omega, this.2.2⟩, h.ok.acked, h.ok.apart⟩, fun k hk => by simp; exact h.lt k hk, h.own, hF.congr (all_cells rfl rfl rfl rfl fun i c hi hc => ?_), h.nout, fun i o hi ho => ?_, h.inj⟩
  · unfold updV
    rw [if_neg (by omega), senV_at _ _ _ _ hc, senV_at _ _ _ _ hc]
  · obtain ⟨g, h1, h2, h3, h4⟩ := h.sout i o hi ho
    exact ⟨g, h1, h2, h3, (hblk g h3).trans h4⟩
/-- the lease -/
theorem SenAt.putLease {T : Nat → Prop} {w : World} {b : Nat} {S : Sen} {P : Nat → Option Nat} (h : SenAt T w b S P) (c : Int) (hc : -9223372036854775808 ≤ c ∧ c ≤ 9223372036854775807) :
    SenAt T (w.setCell ⟨b, 1, none⟩ (.int .i64 c)) b { S with lease := c } P := by
  have hblk : ∀ j, j ≠ b → (w.setCell ⟨b, 1, none⟩ (.int .i64 c)).heap[j]? = w.heap[j]? := fun j hj => Below.heap_setCell _ ⟨b, _, none⟩ _ j hj
  have hF := h.cells.set (k := 1) (by omega) (.int .i64 c)
  refine ⟨⟨h.ok.partner, hc, h.ok.counter, h.ok.audit, h.ok.wanted, h.ok.held, h.ok.outs, h.ok.acked, h.ok.apart⟩, fun k hk => by simp; exact h.lt k hk, h.own, hF.congr (all_cells rfl rfl rfl rfl fun i c hi hc => ?_), h.nout, fun i o hi ho => ?_, h.inj⟩
  · unfold updV
    rw [if_neg (by omega), senV_at _ _ _ _ hc, senV_at _ _ _ _ hc]
  · obtain ⟨g, h1, h2, h3, h4⟩ := h.sout i o hi ho
    exact ⟨g, h1, h2, h3, (hblk g h3).trans h4⟩
/-- the story that is audited next -/
theorem SenAt.putAudit {T : Nat → Prop} {w : World} {b : Nat} {S : Sen} {P : Nat → Option Nat} (h : SenAt T w b S P) (c : Nat) (hc : c < 64) :
    SenAt T (w.setCell ⟨b, 3, none⟩ (.int .i64 c)) b { S with audit := c } P := by
  have hblk : ∀ j, j ≠ b → (w.setCell ⟨b, 3, none⟩ (.int .i64 c)).heap[j]? = w.heap[j]? := fun j hj => Below.heap_setCell _ ⟨b, _, none⟩ _ j hj
  have hF := h.cells.set (k := 3) (by omega) (.int .i64 c)
  refine ⟨⟨h.ok.partner, h.ok.lease, h.ok.counter, hc, h.ok.wanted, h.ok.held, h.ok.outs, h.ok.acked, h.ok.apart⟩, fun k hk => by simp; exact h.lt k hk, h.own, hF.congr (all_cells rfl rfl rfl rfl fun i c hi hc => ?_), h.nout, fun i o hi ho => ?_, h.inj⟩
  · unfold updV
    rw [if_neg (by omega), senV_at _ _ _ _ hc, senV_at _ _ _ _ hc]
  · obtain ⟨g, h1, h2, h3, h4⟩ := h.sout i o hi ho
    exact ⟨g, h1, h2, h3, (hblk g h3).trans h4⟩
end Go.Proofs.YtefloieanpgnmaaDoor
/- made, is, target, the choosers. -/
namespace Go.Proofs.YtefloieanpgnmaaDoor
open Go.RowKit

theorem ret_b {a b : Bool} (h : a = b) : Ending.returned (.bool a) = .returned (.bool b) := by rw [h]
theorem made_nil (w : World) : Calls Tryd.prog 25 #[.pointer none] w fun e w' => e = .returned (.bool false) ∧ w = w' := by
  go_enter Tryd.func25, Tryd.ntmps25
  go_wp2
  go_ret
  exact ⟨rfl, rfl⟩
theorem made_any {T : Nat → Prop} {w : World} {b : Nat} {S : Sen} {P : Nat → Option Nat} (h : SenAt T w b S P) : Calls Tryd.prog 25 #[.pointer (some ⟨b, 0, none⟩)] w fun e w' => e = .returned (.bool true) ∧ w = w' := by
  have c0 := (h.cells 0 (by omega)).1
  simp only [senV] at c0
  have hp := h.ok.partner.1
  have hp' : (0 : Int) < S.partner := by omega
  clear h
  go_enter Tryd.func25, Tryd.ntmps25
  go_wp2
  go_ret
  exact ⟨rfl, rfl⟩

set_option maxHeartbeats 1000000 in
theorem is_any (k o : Kn) (w : World) : Calls Tryd.prog 28 #[k.enc, o.enc] w fun e w' => e = .returned (.bool (k.is o)) ∧ Below w.heap.size w w' := by
  have HB : Hid (∀ a c, Below w.heap.size w ((w.alloc a).alloc c)) := Lib.hid (fun a c => ((Below.refl _ w).alloc (Nat.le_refl _) a).alloc (by simp) c)
  unfold Kn.enc
  by_cases hut : ∃ u t, k = .pres u ∧ o = .pres t
  · obtain ⟨u, t, rfl, rfl⟩ := hut
    simp only [Kn.num, Kn.txt]
    by_cases hut : u = t
    · subst hut
      have hr : Kn.is (.pres u) (.pres u) = true := by simp [Kn.is]
      rw [hr]
      clear hr
      go_enter Tryd.func28, Tryd.ntmps28
      go_wp2
      go_ret
      exact ⟨rfl, HB.out _ _⟩
    · have hr : Kn.is (.pres u) (.pres t) = false := by simp [Kn.is, hut]
      have hg : (u == t) = false := by simpa using hut
      rw [hr]
      clear hr hut
      go_enter Tryd.func28, Tryd.ntmps28
      go_wp2
      go_ret
      exact ⟨rfl, HB.out _ _⟩
  · cases k
    all_goals cases o
    all_goals first
      | (exact absurd ⟨_, _, rfl, rfl⟩ hut)
      | skip
    all_goals
      clear hut
      simp only [Kn.num, Kn.txt]
      go_enter Tryd.func28, Tryd.ntmps28
      go_wp2
      go_ret
      exact ⟨rfl, HB.out _ _⟩

set_option maxRecDepth 100000 in
set_option maxHeartbeats 1000000 in
theorem target_any {T : Nat → Prop} {w : World} {b : Nat} {S : Sen} {P : Nat → Option Nat} (h : SenAt T w b S P) (i : Nat) (hi : i < 64) (now : Int) :
    Calls Tryd.prog 29 #[.pointer (some ⟨b, 0, none⟩), .int .i64 i, .int .i64 now] w fun e w' => e = .returned (S.tgt i now).enc ∧ Below w.heap.size w w' := by
  have c1 := (h.cells 1 (by omega)).1
  simp only [senV] at c1
  have s0 := (h.story hi 0 (by omega)).1
  have s1 := (h.story hi 1 (by omega)).1
  simp only [stoV, Nat.add_zero] at s0 s1
  have hii : (i : Int) < 64 := by omega
  have hbl := h.blt
  unfold Sen.tgt Kn.enc
  obtain ⟨wn, hwn⟩ : ∃ k, (S.st i).wanted = k := ⟨_, rfl⟩
  rw [hwn] at s0 s1 ⊢
  clear h hwn
  by_cases hl : S.lease < now
  · rw [if_pos hl]
    simp only [Kn.num, Kn.txt]
    go_enter Tryd.func29, Tryd.ntmps29
    go_wp2
    exact bodyPost_ret (v := .agg #[.int .i64 1, .string ⟨#[]⟩]) (by simp [results, Tryd.results29, go_sem]) rfl ⟨rfl, (Below.refl _ w).alloc (Nat.le_refl _) _⟩
  · rw [if_neg hl]
    go_enter Tryd.func29, Tryd.ntmps29
    go_wp2
    exact bodyPost_ret (v := .agg #[.int .i64 wn.num, .string ⟨wn.txt.toArray⟩]) (by simp [results, Tryd.results29, go_sem]) rfl ⟨rfl, (Below.refl _ w).alloc (Nat.le_refl _) _⟩
end Go.Proofs.YtefloieanpgnmaaDoor
/- A sender's New, Lease. -/
namespace Go.Proofs.YtefloieanpgnmaaDoor
open Go.RowKit

set_option maxRecDepth 100000 in
theorem lease_any {T : Nat → Prop} {w : World} {b : Nat} {S : Sen} {P : Nat → Option Nat} (h : SenAt T w b S P) (u : Int) (hu : -9223372036854775808 ≤ u ∧ u ≤ 9223372036854775807) :
    Calls Tryd.prog 22 #[.pointer (some ⟨b, 0, none⟩), .int .i64 u] w fun e w' => e = .returned (.tuple #[]) ∧ SenAt T w' b { S with lease := u } P ∧ But (fun k => k = b) w.heap.size w w' := by
  have c1 := h.cells 1 (by omega)
  have HP := Lib.hid (h.putLease u hu)
  have HM := Lib.hid (made_any h)
  have HB : Hid (But (fun k => k = b) w.heap.size w (w.setCell ⟨b, 1, none⟩ (.int .i64 u))) := Lib.hid (But.setCell (S := fun k => k = b) (But.refl _ _ _) rfl _)
  obtain ⟨c1, f1⟩ := c1
  clear h
  go_enter Tryd.func22, Tryd.ntmps22
  go_wp2_with fail
  refine HM.out.mono ?_
  rintro e w2 ⟨rfl, rfl⟩
  go_wp2
  exact ⟨rfl, .tuple #[], (by simp [results, Tryd.results22, go_sem]), rfl, HP.out, HB.out⟩
theorem lease_nil (u : Int) (w : World) : Calls Tryd.prog 22 #[.pointer none, .int .i64 u] w fun e w' => e = .returned (.tuple #[]) ∧ w = w' := by
  go_enter Tryd.func22, Tryd.ntmps22
  go_wp2_with fail
  refine (made_nil _).mono ?_
  rintro e w2 ⟨rfl, rfl⟩
  go_wp2
  exact ⟨rfl, .tuple #[], (by simp [results, Tryd.results22, go_sem]), rfl, rfl⟩

/-! ### New -/
def zV (c : Nat) : Value := if c = 5 then .int .i64 0 else stoV ⟨.unk, .unk, none, none⟩ none c
/-- the cells when k stories are set up -/
def newV (k : Nat) : Nat → Value
  | 0 => .int .i64 2
  | 1 => .int .i64 1000
  | 2 => .int .i64 0
  | 3 => .int .i64 0
  | o + 4 => if o / 13 < k then stoV sto0 none (o % 13) else zV (o % 13)
theorem zero_sender : (Tryd.zeroCells82.setIfInBounds 0 (.int .i64 2)).setIfInBounds 1 (.int .i64 1000) = ((List.range 836).map (newV 0)).toArray := by kernel_rfl
theorem newV_full : ∀ o, o < 836 → newV 64 o = senV (newS 2 1000) (fun _ => none) o := fun o ho => by
  match o, ho with
  | 0, _ => rfl
  | 1, _ => rfl
  | 2, _ => rfl
  | 3, _ => rfl
  | o + 4, ho => unfold newV senV; simp only; rw [if_pos (by omega)]; rfl
theorem newV_step (k : Nat) (_hk : k < 64) : ∀ o, o < 836 → updV (updV (newV k) (4 + k * 13 + 0) (.int .i64 1)) (4 + k * 13 + 5) (.int .i64 1) o = newV (k + 1) o := fun o ho => by
  unfold updV
  match o, ho with
  | 0, _ => rw [if_neg (by omega), if_neg (by omega)]; rfl
  | 1, _ => rw [if_neg (by omega), if_neg (by omega)]; rfl
  | 2, _ => rw [if_neg (by omega), if_neg (by omega)]; rfl
  | 3, _ => rw [if_neg (by omega), if_neg (by omega)]; rfl
  | o + 4, ho =>
    unfold newV
    simp only
    by_cases h1 : o / 13 < k
    · rw [if_neg (by omega), if_neg (by omega), if_pos h1, if_pos (by omega)]
    · by_cases h2 : o / 13 = k
      · obtain ⟨c, hc⟩ : ∃ c, o % 13 = c := ⟨_, rfl⟩
        have hc13 : c < 13 := by omega
        rw [if_neg h1, if_pos (show o / 13 < k + 1 by omega), hc]
        match c, hc13, hc with
        | 0, _, hc => rw [if_neg (by omega), if_pos (by omega)]; rfl
        | 1, _, hc => rw [if_neg (by omega), if_neg (by omega)]; rfl
        | 2, _, hc => rw [if_neg (by omega), if_neg (by omega)]; rfl
        | 3, _, hc => rw [if_neg (by omega), if_neg (by omega)]; rfl
        | 4, _, hc => rw [if_neg (by omega), if_neg (by omega)]; rfl
        | 5, _, hc => rw [if_pos (by omega)]; rfl
        | 6, _, hc => rw [if_neg (by omega), if_neg (by omega)]; rfl
        | 7, _, hc => rw [if_neg (by omega), if_neg (by omega)]; rfl
        | 8, _, hc => rw [if_neg (by omega), if_neg (by omega)]; rfl
        | 9, _, hc => rw [if_neg (by omega), if_neg (by omega)]; rfl
        | 10, _, hc => rw [if_neg (by omega), if_neg (by omega)]; rfl
        | 11, _, hc => rw [if_neg (by omega), if_neg (by omega)]; rfl
        | 12, _, hc => rw [if_neg (by omega), if_neg (by omega)]; rfl
      · rw [if_neg (by omega), if_neg (by omega), if_neg h1, if_neg (by omega)]
theorem cells_senF {n : Nat} {W : World} {b : Nat} {f : Nat → Value} {t : TypeId} (h : W.heap[b]? = some (.cells ((List.range n).map f).toArray t (0, 0))) : SenF n W b f := fun o ho => by
  refine ⟨?_, Lib.frozen_of_heap h o⟩
  rw [Lib.cell_of_heap h]
  simp [ho]
theorem newS_ok : SenOk (newS 2 1000) :=
  ⟨by decide, by decide, by decide, by decide, fun i => ⟨by simp [newS, sto0, Kn.txt], by simp [newS, sto0]⟩, fun i => by simp [newS, sto0, Kn.txt], (fun i o h => by cases h), (fun i m h => by cases h), (fun i j o o' h => by cases h)⟩
set_option maxRecDepth 100000 in
theorem new_any (w : World) :
    Calls Tryd.prog 21 #[.int .i64 2, .int .i64 1000] w fun e w' => e = .returned (.tuple #[.pointer (some ⟨w.heap.size, 0, none⟩), .int .i64 0]) ∧ SenAt (fun k => k = w.heap.size) w' w.heap.size (newS 2 1000) (fun _ => none) ∧ Below w.heap.size w w' := by
  go_enter Tryd.func21, Tryd.ntmps21
  go_wp2_with fail
  rw [zero_sender]
  obtain ⟨arr, harr⟩ : ∃ arr, ((List.range 836).map (newV 0)).toArray = arr := ⟨_, rfl⟩
  rw [harr]
  obtain ⟨w1, hw1⟩ : ∃ w1, w.alloc (Obj.cells arr 82) = w1 := ⟨_, rfl⟩
  rw [hw1]
  have HF : Hid (SenF 836 w1 w.heap.size (newV 0)) := Lib.hid (by rw [← hw1, ← harr]; exact cells_senF (heap_alloc_new w _))
  have HB : Hid (Below w.heap.size w w1 ∧ w.heap.size < w1.heap.size) := Lib.hid (by rw [← hw1]; exact ⟨(Below.refl _ w).alloc (Nat.le_refl _) _, by simp⟩)
  clear hw1 harr
  go_loopw [18] (fun i wr => ∃ k : Nat, i = .int .i64 k ∧ k ≤ 64 ∧ Hid (SenF 836 wr w.heap.size (newV k)) ∧ Hid (Below w.heap.size w wr ∧ w.heap.size < wr.heap.size)) (fun i _ => 64 - (intOf i).toNat)
  case atStart => exact ⟨0, rfl, by omega, HF, HB⟩
  case round =>
    obtain ⟨k, rfl, hk, HK, HBK⟩ := hrel
    by_cases hk64 : k < 64
    · have hki : (k : Int) < 64 := by omega
      obtain ⟨c0, f0⟩ := HK.out (4 + k * 13 + 0) (by omega)
      obtain ⟨c5, f5⟩ := HK.out (4 + k * 13 + 5) (by omega)
      have HK2 : Hid (SenF 836 ((wr.setCell ⟨w.heap.size, 4 + k * 13 + 0, none⟩ (.int .i64 1)).setCell ⟨w.heap.size, 4 + k * 13 + 5, none⟩ (.int .i64 1)) w.heap.size (newV (k + 1))) := Lib.hid (((HK.out.set (k := 4 + k * 13 + 0) (by omega) _).set (k := 4 + k * 13 + 5) (by omega) _).congr (newV_step k hk64))
      have HB2 : Hid (Below w.heap.size w ((wr.setCell ⟨w.heap.size, 4 + k * 13 + 0, none⟩ (.int .i64 1)).setCell ⟨w.heap.size, 4 + k * 13 + 5, none⟩ (.int .i64 1)) ∧ w.heap.size < ((wr.setCell ⟨w.heap.size, 4 + k * 13 + 0, none⟩ (.int .i64 1)).setCell ⟨w.heap.size, 4 + k * 13 + 5, none⟩ (.int .i64 1)).heap.size) := Lib.hid ⟨(HBK.out.1.setCell (Nat.le_refl _) _).setCell (Nat.le_refl _) _, by simpa using HBK.out.2⟩
      simp only [Nat.add_zero] at c0 f0 HK2 HB2
      obtain ⟨v0, hv0⟩ : ∃ v, newV k (4 + k * 13) = v := ⟨_, rfl⟩
      obtain ⟨v5, hv5⟩ : ∃ v, newV k (4 + k * 13 + 5) = v := ⟨_, rfl⟩
      rw [hv0] at c0
      rw [hv5] at c5
      clear hv0 hv5
      go_wp2_with fail
      go_roundw
      case rel => exact ⟨k + 1, by go_num, by omega, HK2, HB2⟩
      case measure => simp [intOf]; omega
    · obtain rfl : k = 64 := by omega
      go_wp2_with fail
      exact bodyPost_ret (v := .tuple #[.pointer (some ⟨w.heap.size, 0, none⟩), .int .i64 0]) (by simp [results, Tryd.results21, go_sem]) rfl ⟨rfl, ⟨newS_ok, (fun k hk => by rw [hk]; exact HBK.out.2), rfl, HK.out.congr newV_full, (fun _ _ _ => rfl), (fun i o _ h => by cases h), (fun i j g _ _ h => by cases h)⟩, HBK.out.1⟩
end Go.Proofs.YtefloieanpgnmaaDoor
/- A sender's Settled, Held, audits. -/
namespace Go.Proofs.YtefloieanpgnmaaDoor
open Go.RowKit

theorem kp3 {w0 w1 w2 : World} {p q r : Addr} {x y z : Value} (h : w1.cell? p = some x ∧ w1.cell? q = some y ∧ w1.cell? r = some z ∧ Below w0.heap.size w0 w1) (hb : Below w1.heap.size w1 w2) : w2.cell? p = some x ∧ w2.cell? q = some y ∧ w2.cell? r = some z ∧ Below w0.heap.size w0 w2 :=
  ⟨(hb.cell (World.block_lt_of_cell? w1 _ h.1)).trans h.1, (hb.cell (World.block_lt_of_cell? w1 _ h.2.1)).trans h.2.1, (hb.cell (World.block_lt_of_cell? w1 _ h.2.2.1)).trans h.2.2.1, h.2.2.2.trans (hb.mono h.2.2.2.size)⟩
def setl (S : Sen) (now : Int) (i : Nat) : Bool := (S.st i).out.isNone && (S.st i).held.is (S.tgt i now)
theorem settled_no {S : Sen} {now : Int} {k : Nat} (hk : k < 64) (h : setl S now k = false) : S.settled now = false := by
  unfold Sen.settled
  rw [List.all_eq_false]
  exact ⟨k, List.mem_range.2 hk, by unfold setl at h; rw [h]; decide⟩
theorem settled_yes {S : Sen} {now : Int} (h : ∀ j, j < 64 → setl S now j = true) : S.settled now = true := by
  unfold Sen.settled
  rw [List.all_eq_true]
  exact fun j hj => h j (List.mem_range.1 hj)

set_option maxRecDepth 100000 in
set_option maxHeartbeats 4000000 in
theorem settled_any {T : Nat → Prop} {w : World} {b : Nat} {S : Sen} {P : Nat → Option Nat} (h : SenAt T w b S P) (now : Int) :
    Calls Tryd.prog 16 #[.pointer (some ⟨b, 0, none⟩), .int .i64 now] w fun e w' => e = .returned (.bool (S.settled now)) ∧ Below w.heap.size w w' := by
  have HH := Lib.hid h
  have hbl := h.blt
  obtain ⟨R, hR⟩ : ∃ R, S.settled now = R := ⟨_, rfl⟩
  rw [hR]
  have HR := Lib.hid hR
  clear h hR
  go_enter Tryd.func16, Tryd.ntmps16
  go_wp2_with fail
  refine (made_any HH.out).mono ?_
  rintro e w2 ⟨rfl, rfl⟩
  go_wp2_with fail
  go_loopw [9] (fun i wr => ∃ k : Nat, i = .int .i64 k ∧ k ≤ 64 ∧ Hid (∀ j, j < k → setl S now j = true) ∧ Hid (Below w.heap.size w wr)) (fun i _ => 64 - (intOf i).toNat)
  case atStart => exact ⟨0, rfl, by omega, Lib.hid (fun j hj => by omega), Lib.hid (Below.refl _ _)⟩
  case round =>
    obtain ⟨k, rfl, hk, HK, HB⟩ := hrel
    by_cases hk64 : k < 64
    · have hki : (k : Int) < 64 := by omega
      have s4 := ((HH.out.below HB.out).story hk64 4 (by omega)).1
      have s2 := ((HH.out.below HB.out).story hk64 2 (by omega)).1
      have s3 := ((HH.out.below HB.out).story hk64 3 (by omega)).1
      simp only [stoV] at s2 s3 s4
      obtain ⟨r, hr⟩ : ∃ r, (S.st k).held.is (S.tgt k now) = r := ⟨_, rfl⟩
      obtain ⟨hn, hhn⟩ : ∃ x, (S.st k).held.num = x := ⟨_, rfl⟩
      obtain ⟨hx, hhx⟩ : ∃ x, (S.st k).held.txt = x := ⟨_, rfl⟩
      obtain ⟨te, hte⟩ : ∃ te, (S.tgt k now).enc = te := ⟨_, rfl⟩
      have CT : Hid (∀ W, Below wr.heap.size wr W → Calls Tryd.prog 29 #[.pointer (some ⟨b, 0, none⟩), .int .i64 k, .int .i64 now] W fun e w' => e = .returned te ∧ Below W.heap.size W w') := Lib.hid (fun W hW => by
        have := target_any ((HH.out.below HB.out).below hW) k hk64 now
        rw [hte] at this
        exact this)
      have CI : Hid (∀ W, Calls Tryd.prog 28 #[.agg #[.int .i64 hn, .string ⟨hx.toArray⟩], te] W fun e w' => e = .returned (.bool r) ∧ Below W.heap.size W w') := Lib.hid (fun W => by
        have := is_any (S.st k).held (S.tgt k now) W
        rw [hr, hte] at this
        unfold Kn.enc at this
        rw [hhn, hhx] at this
        exact this)
      rw [hhn] at s2
      rw [hhx] at s3
      have HRR := Lib.hid hr
      clear hr hhn hhx hte
      cases ho : (S.st k).out with
      | some o =>
        obtain ⟨g, hp, -, -, -⟩ := HH.out.sout k o hk64 ho
        rw [hp] at s4
        simp only [ptrV, Option.map_some] at s4
        obtain rfl : false = R := by rw [← HR.out]; exact (settled_no hk64 (by unfold setl; rw [ho]; rfl)).symm
        have HS0 : Hid (wr.drew.cell? ⟨b, 4 + k * 13 + 4, none⟩ = some (.pointer (some ⟨g, 0, none⟩)) ∧ wr.drew.cell? ⟨b, 4 + k * 13 + 2, none⟩ = some (.int .i64 hn) ∧ wr.drew.cell? ⟨b, 4 + k * 13 + 3, none⟩ = some (.string ⟨hx.toArray⟩) ∧ Below wr.heap.size wr wr.drew) := Lib.hid ⟨s4, s2, s3, (Below.refl _ wr).drew⟩
        clear hp ho
        clear CT CI HS0
        go_wp2_with fail
        go_quiet (fail)
        go_wp2
        go_ret
        exact ⟨rfl, HB.out.drewN _⟩
      | none =>
        have hp := HH.out.nout k hk64 ho
        rw [hp] at s4
        simp only [ptrV, Option.map_none] at s4
        have HS0 : Hid (wr.drew.cell? ⟨b, 4 + k * 13 + 4, none⟩ = some (.pointer none) ∧ wr.drew.cell? ⟨b, 4 + k * 13 + 2, none⟩ = some (.int .i64 hn) ∧ wr.drew.cell? ⟨b, 4 + k * 13 + 3, none⟩ = some (.string ⟨hx.toArray⟩) ∧ Below wr.heap.size wr wr.drew) := Lib.hid ⟨s4, s2, s3, (Below.refl _ wr).drew⟩
        have HST : Hid (setl S now k = r) := Lib.hid (by unfold setl; rw [ho, HRR.out]; rfl)
        clear hp ho
        go_upto_region 6 with fail
        first
          | (go_region_held3 (fun w' => w'.cell? ⟨b, 4 + k * 13 + 4, none⟩ = some (.pointer none) ∧ w'.cell? ⟨b, 4 + k * 13 + 2, none⟩ = some (.int .i64 hn) ∧ w'.cell? ⟨b, 4 + k * 13 + 3, none⟩ = some (.string ⟨hx.toArray⟩) ∧ Below wr.heap.size wr w')
              (first
                | (with_reducible assumption)
                | (exact kp3 (by with_reducible assumption) (by with_reducible assumption))
                | (with_reducible exact HS0.out))
              (first
                | (go_at_call 29; with_reducible (refine (CT.out _ (by first | with_reducible assumption | exact (And.right (And.right (And.right (by with_reducible assumption)))))).mono ?_); rintro e wn ⟨rfl, hbn⟩)
                | (go_at_call 28; with_reducible (refine (CI.out _).mono ?_); rintro e wn ⟨rfl, hbn⟩)
                | fail))
          | fail
        have HX := Lib.hid (HB.out.trans ((And.right (And.right (And.right (by with_reducible assumption : wn.cell? ⟨b, 4 + k * 13 + 4, none⟩ = some (.pointer none) ∧ wn.cell? ⟨b, 4 + k * 13 + 2, none⟩ = some (.int .i64 hn) ∧ wn.cell? ⟨b, 4 + k * 13 + 3, none⟩ = some (.string ⟨hx.toArray⟩) ∧ Below wr.heap.size wr wn)))).mono HB.out.size))
        cases r with
        | true =>
          have HK2 : Hid (∀ j, j < k + 1 → setl S now j = true) := Lib.hid (fun j hj => by
            by_cases e : j = k
            · rw [e]; exact HST.out
            · exact HK.out j (by omega))
          go_wp2_with fail
          go_roundw
          case rel => exact ⟨k + 1, by go_num, by omega, HK2, HX⟩
          case measure => simp [intOf]; omega
        | false =>
          obtain rfl : false = R := by rw [← HR.out]; exact (settled_no hk64 HST.out).symm
          go_wp2_with fail
          go_ret
          exact ⟨rfl, HX.out⟩
    · obtain rfl : k = 64 := by omega
      obtain rfl : true = R := by rw [← HR.out]; exact (settled_yes HK.out).symm
      go_wp2_with fail
      go_ret
      exact ⟨rfl, HB.out⟩
end Go.Proofs.YtefloieanpgnmaaDoor

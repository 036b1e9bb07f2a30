/- The program's partner: New, its answers, what a delivery makes of a copy. -/
import Derived.Test.YtnhpnipfledihaaDoorParM
import Derived.Test.YtnhpnipfledihaaDoorMsgB
import Derived.Test.YtnhpnipfledihaaDoorMap
import Derived.Test.YtnhpnipfledihaaDoorApp
import Derived.Deep.QuietTactic
import Derived.BigQuiet
namespace Go.Proofs.YtnhpnipfledihaaDoor
open Go.RowKit

def Msg.cells (m : Msg) : Array Value := #[.int .i64 m.kind, .int .i64 m.partner, .int .i64 m.seq, .int .i64 m.story, .int .i64 m.base, .int .i64 m.version, .string ⟨m.data.toArray⟩]
/-- block M holds the message m -/
def MAt (M : Nat) (m : Msg) (w : World) : Prop := w.heap[M]? = some (.cells m.cells 33 (0, 0))

structure MCells (M : Nat) (m : Msg) (w : World) : Prop where
  c0 : w.cell? ⟨M, 0, none⟩ = some (.int .i64 m.kind)
  c1 : w.cell? ⟨M, 1, none⟩ = some (.int .i64 m.partner)
  c2 : w.cell? ⟨M, 2, none⟩ = some (.int .i64 m.seq)
  c3 : w.cell? ⟨M, 3, none⟩ = some (.int .i64 m.story)
  c4 : w.cell? ⟨M, 4, none⟩ = some (.int .i64 m.base)
  c5 : w.cell? ⟨M, 5, none⟩ = some (.int .i64 m.version)
  c6 : w.cell? ⟨M, 6, none⟩ = some (.string ⟨m.data.toArray⟩)

theorem MAt.cells {M : Nat} {m : Msg} {w : World} (h : MAt M m w) : MCells M m w := by
  unfold MAt at h
  refine ⟨?_, ?_, ?_, ?_, ?_, ?_, ?_⟩ <;> (rw [Lib.cell_of_heap h]; rfl)
theorem MAt.kept {M : Nat} {m : Msg} {w w' : World} (h : MAt M m w) (hk : w'.heap[M]? = w.heap[M]?) : MAt M m w' := hk.trans h
theorem MAt.lt {M : Nat} {m : Msg} {w : World} (h : MAt M m w) : M < w.heap.size := some_lt h
theorem MAt.below {M : Nat} {m : Msg} {w w' : World} (h : MAt M m w) (hb : Below w.heap.size w w') : MAt M m w' := h.kept (hb.block _ h.lt)

/-- v is a slice of the messages ms (at most one), in a block from n on -/
def MsgsAt (n : Nat) (v : Value) (ms : List Msg) (w : World) : Prop :=
  (ms = [] ∧ v = .slice none 0 0) ∨ ∃ m g, ms = [m] ∧ v = .slice (some ⟨g, 0, none⟩) 1 1 ∧ n ≤ g ∧ MAt g m w

theorem MsgsAt.kept {n : Nat} {v : Value} {ms : List Msg} {w w' : World} (h : MsgsAt n v ms w) (hk : ∀ k, n ≤ k → k < w.heap.size → w'.heap[k]? = w.heap[k]?) : MsgsAt n v ms w' := by
  rcases h with h | ⟨m, g, h1, h2, h3, h4⟩
  · exact .inl h
  · exact .inr ⟨m, g, h1, h2, h3, h4.kept (hk g h3 h4.lt)⟩

theorem answer_any (kind seq base version : Int) (M : Nat) (m : Msg) (w : World) (h : MAt M m w) :
    Calls Tryd.prog 32 #[.int .i64 kind, .int .i64 seq, .int .i64 base, .int .i64 version, .pointer (some ⟨M, 0, none⟩)] w
      fun e w' => e = .returned (.slice (some ⟨w.heap.size, 0, none⟩) 1 1) ∧ MAt w.heap.size ⟨kind, m.partner, seq, m.story, base, version, []⟩ w' ∧ Below w.heap.size w w' := by
  obtain ⟨_, c1, _, c3, _, _, _⟩ := h.cells
  have HN : Hid (MAt w.heap.size ⟨kind, m.partner, seq, m.story, base, version, []⟩ (w.alloc (.cells (Msg.cells ⟨kind, m.partner, seq, m.story, base, version, []⟩) 33))) := Lib.hid (heap_alloc_new _ _)
  clear h
  go_enter Tryd.func32, Tryd.ntmps32
  go_wp2
  go_ret
  exact ⟨rfl, HN.out, (Below.refl _ w).alloc (Nat.le_refl _) _⟩

/-- what 'applied' returns -/
def AppEnd (r : Option (List UInt8)) (e : Ending) : Prop :=
  match r with
  | some t => e = .returned (.tuple #[.string ⟨t.toArray⟩, .bool true])
  | none => ∃ x : List UInt8, e = .returned (.tuple #[.string ⟨x.toArray⟩, .bool false])

theorem ret_sb {x : ByteArray} {a b : Bool} (h : a = b) : Ending.returned (.tuple #[.string x, .bool a]) = .returned (.tuple #[.string x, .bool b]) := by rw [h]
theorem shifts_drewN {W : World} (h : ShiftsAt W) (n : Nat) : ShiftsAt (W.drewN n) := h
theorem sum_list (d : List UInt8) (w : World) (hd : d.length ≤ 9223372036854775000) (hsh : ShiftsAt w) :
    Calls Tryd.prog 33 #[.string ⟨d.toArray⟩] w fun e w' => e = .returned (.int .i64 (crcOf d)) ∧ w = w' := by
  have := sum_any ⟨d.toArray⟩ w (by rw [mk_size]; omega) hsh
  rwa [mk_data] at this
theorem sum_quiet (d : List UInt8) (w : World) (n : Nat) (hd : d.length ≤ 9223372036854775000) (hsh : ShiftsAt w) :
    Calls Tryd.prog 33 #[.string ⟨d.toArray⟩] (w.drewN n) fun e w'' => e = .returned (.int .i64 (crcOf d)) ∧ ∃ m, w'' = w.drewN m :=
  Calls.quiet_of_same ((sum_list d _ hd (shifts_drewN hsh n)).mono fun _ _ ⟨h1, h2⟩ => ⟨h1, h2.symm⟩)

theorem shifts_under {W W' : World} (h : ShiftsAt W) (hb : Below W.heap.size W W') : ShiftsAt W' := fun i hi =>
  (World.cell?_of_block (w := W) (hb.block _ (World.block_lt_of_cell? W _ (h i hi)))).trans (h i hi)
theorem apply_list {a0 a1 : Addr} (o d : List UInt8) (w : World) (ho : o.length ≤ 9223372036854775000) (hd : d.length ≤ 9223372036854775000) (hS : Sents a0 a1 w) (hsh : ShiftsAt w) :
    Calls Tryd.prog 40 #[.string ⟨o.toArray⟩, .string ⟨d.toArray⟩] w fun e w' => e = .returned (exTup (applyD o d)) ∧ Below w.heap.size w w' := by
  have := apply_any (a0 := a0) (a1 := a1) ⟨o.toArray⟩ ⟨d.toArray⟩ w (by rw [mk_size]; exact ho) (by rw [mk_size]; exact hd) hS hsh
  rwa [mk_data, mk_data] at this

/-- errors of Apply are 10 or 190 -/
theorem applyD_err {o d : List UInt8} {e : Int} (h : applyD o d = .error e) : e = 10 ∨ e = 190 := by
  have hg : ∀ (f a : Nat) (out : List UInt8) (e : Int), applyGo f o d a out = .error e → e = 10 ∨ e = 190 := by
    intro f
    induction f with
    | zero => intro a out e h; rw [applyGo] at h; cases h
    | succ f ih =>
      intro a out e h
      rw [applyGo] at h
      split at h
      · cases h
      · cases hop : opAt o d a with
        | error c => rw [hop] at h; cases h; exact opAt_err hop
        | ok q =>
          obtain ⟨x, k⟩ := q
          rw [hop] at h
          simp only [] at h
          split at h
          · exact ih _ _ _ h
          · cases h; exact .inr rfl
  unfold applyD at h
  split at h
  · cases h; exact .inr rfl
  · cases hi : intAt d 0 with
    | none => rw [hi] at h; cases h; exact .inl rfl
    | some p =>
      obtain ⟨s, a⟩ := p
      rw [hi] at h
      simp only [] at h
      split at h
      · cases hi2 : intAt d a with
        | none => rw [hi2] at h; cases h; exact .inl rfl
        | some q =>
          obtain ⟨w, a2⟩ := q
          rw [hi2] at h
          simp only [] at h
          cases hgo : applyGo (d.length + 1) o d a2 [] with
          | error c => rw [hgo] at h; cases h; exact hg _ _ _ _ hgo
          | ok out =>
            rw [hgo] at h
            simp only [] at h
            split at h
            · cases h
            · cases h; exact .inr rfl
      · cases h; exact .inr rfl

set_option maxRecDepth 100000 in
set_option maxHeartbeats 2000000 in
theorem applied_any {a0 a1 : Addr} (old : List UInt8) (m : Msg) (w : World) (ho : old.length ≤ 8192) (hd : m.data.length ≤ 9223372036854775000) (hS : Sents a0 a1 w) (hsh : ShiftsAt w) :
    Calls Tryd.prog 34 #[.string ⟨old.toArray⟩, m.enc] w fun e w' => AppEnd (applied m old) e ∧ Below w.heap.size w w' := by
  obtain ⟨R, hR⟩ : ∃ R, applied m old = R := ⟨_, rfl⟩
  rw [hR]
  obtain ⟨base, hbase⟩ : ∃ base, (if m.base = 0 then [] else old) = base := ⟨_, rfl⟩
  have hbl : base.length ≤ 8192 := by rw [← hbase]; by_cases h0 : m.base = 0 <;> simp [h0, ho]
  have HR : Hid (R = if (crcOf base : Int) = m.base then match applyD base m.data with | .ok t => if (crcOf t : Int) = m.version then some t else none | .error _ => none else none) := Lib.hid (by rw [← hR, ← hbase]; rfl)
  have hmw : MAt w.heap.size m (w.alloc (.cells m.cells 33)) := heap_alloc_new w _
  have hB : Below w.heap.size w (w.alloc (.cells m.cells 33)) := (Below.refl _ w).alloc (Nat.le_refl _) _
  have hb0 : m.base = 0 ∧ base = [] ∨ (m.base != 0) = true ∧ base = old := by
    by_cases h0 : m.base = 0
    · exact .inl ⟨h0, by rw [← hbase, if_pos h0]⟩
    · exact .inr ⟨by simpa using h0, by rw [← hbase, if_neg h0]⟩
  have HM := Lib.hid hmw
  have HB := Lib.hid hB
  have HS := Lib.hid (hS.below hB)
  have HSH := Lib.hid (shifts_under hsh hB)
  clear hR hS hsh hbase hmw hB
  rcases hb0 with ⟨h0, h1⟩ | ⟨h0, h1⟩
  have he0 : (⟨#[]⟩ : ByteArray) = ⟨base.toArray⟩ := by rw [h1]
  have h0' : (m.base != 0) = false := by rw [h0]; rfl
  have HE0 := Lib.hid he0
  clear h0 h1 he0
  go_enter Tryd.func34, Tryd.ntmps34
  unfold Msg.enc
  go_wp2_with fail
  rw [HE0.out]
  clear HE0 h0'
  rotate_left
  subst h1
  go_enter Tryd.func34, Tryd.ntmps34
  unfold Msg.enc
  go_wp2_with fail
  clear h0
  rotate_left
  all_goals
    have hc := HM.out.cells.c4
    go_quiet ((go_at_call 33; exact sum_quiet base _ _ (by omega) HSH.out))
    obtain ⟨w1, hw1⟩ : ∃ w1, (w.alloc (.cells m.cells 33)).drewN nq = w1 := ⟨_, rfl⟩
    have HM1 : Hid (MAt w.heap.size m w1) := Lib.hid (by rw [← hw1]; exact HM.out)
    have HB1 : Hid (Below w.heap.size w w1) := Lib.hid (by rw [← hw1]; exact HB.out.drewN _)
    have HS1 : Hid (Sents a0 a1 w1) := Lib.hid (by rw [← hw1]; exact HS.out.kept fun _ _ => rfl)
    have HSH1 : Hid (ShiftsAt w1) := Lib.hid (by rw [← hw1]; exact HSH.out)
    unfold Msg.cells at hw1
    rw [hw1]
    clear hw1 HM HB HS HSH hc
    obtain ⟨c0, c1, c2, c3, c4, c5, c6⟩ := HM1.out.cells
    by_cases hs : (crcOf base : Int) = m.base
    · have hsb : ((crcOf base : Int) != m.base) = false := by rw [hs]; simp
      have HR1 : Hid (R = match applyD base m.data with | .ok t => if (crcOf t : Int) = m.version then some t else none | .error _ => none) := Lib.hid (by rw [HR.out, if_pos hs])
      clear hs HR
      go_wp2_with fail
      refine (apply_list base m.data _ (by omega) hd HS1.out HSH1.out).mono ?_
      cases hap : applyD base m.data with
      | error er =>
        have hre : R = none := by rw [HR1.out, hap]
        have hne : ((er : Int) == 0) = false := by rcases applyD_err hap with rfl | rfl <;> rfl
        subst hre
        clear hap HR1
        unfold exTup
        rintro e w2 ⟨rfl, hb2⟩
        have HB2 := Lib.hid (HB1.out.trans (hb2.mono HB1.out.size))
        clear hb2 c0 c1 c2 c3 c4 c5 c6
        go_wp2_with fail
        go_quiet (fail)
        go_wp2
        go_ret2
        exact ⟨⟨_, rfl⟩, HB2.out.drewN _⟩
      | ok t =>
        have ht := applyD_short hap
        have HR2 : Hid (R = if (crcOf t : Int) = m.version then some t else none) := Lib.hid (by rw [HR1.out, hap])
        clear hap HR1
        unfold exTup
        rintro e w2 ⟨rfl, hb2⟩
        have HB2 := Lib.hid (HB1.out.trans (hb2.mono HB1.out.size))
        have HSH2 := Lib.hid (shifts_under HSH1.out hb2)
        have d5 := (HM1.out.below hb2).cells.c5
        clear hb2 c0 c1 c2 c3 c4 c5 c6
        go_wp2_with fail
        go_quiet ((go_at_call 33; exact sum_quiet t _ _ (by omega) HSH2.out))
        by_cases hv : (crcOf t : Int) = m.version
        · have hvb : ((crcOf t : Int) == m.version) = true := by rw [hv]; simp
          have hre : R = some t := by rw [HR2.out, if_pos hv]
          subst hre
          clear hv
          go_wp2
          go_ret2
          exact ⟨ret_sb hvb, HB2.out.drewN _⟩
        · have hvb : ((crcOf t : Int) == m.version) = false := by simpa using hv
          have hre : R = none := by rw [HR2.out, if_neg hv]
          subst hre
          clear hv
          go_wp2
          go_ret2
          exact ⟨⟨t, ret_sb hvb⟩, HB2.out.drewN _⟩
    · have hsb : ((crcOf base : Int) != m.base) = true := by simpa using hs
      have hre : R = none := by rw [HR.out, if_neg hs]
      subst hre
      clear hs
      go_wp2
      go_ret2
      exact ⟨⟨[], rfl⟩, HB1.out⟩
end Go.Proofs.YtnhpnipfledihaaDoor

/- Facts and contracts for the laws of the sender, part 17. Conditions: those that each theorem names. -/
import Derived.Test.YtefloieanpgnmaaDoorK16
import Derived.Test.YtefloieanpgnmaaDoorK11
import Derived.Deep.RegionHeld3
import Derived.Outline
import Derived.OwnWalk
import Derived.Deep.DeepCutAuto
import Derived.StillTailTactics
import Derived.IntWalk
import Derived.BigRegion
/- A sender's Held, and its audits. -/
namespace Go.Proofs.YtefloieanpgnmaaDoor
open Go.RowKit

/-- what a list owns lies as it lay, if the blocks from base on do -/
theorem row_keep {w w' : World} {base : Nat} {v : Value} {n : Nat} {xs : List Value} {e : TypeId} {size : Nat} (h : w.ownsRow base e size v n xs) (hk : ∀ j, base ≤ j → j < w.heap.size → w'.heap[j]? = w.heap[j]?) : w'.ownsRow base e size v n xs := by
  refine ⟨h.1, ?_⟩
  rcases h.2 with h1 | ⟨g, cap, cur, h1, h2, h3, h4⟩
  · exact .inl h1
  · exact .inr ⟨g, cap, cur, h1, h2, by rw [hk g h2 (Array.getElem?_eq_some_iff.1 h3).1]; exact h3, h4⟩

/-! ### Held -/
def itemC (x : Int × List UInt8) : List Value := [.int .i64 x.1, .string ⟨x.2.toArray⟩]
def heldK (S : Sen) (k : Nat) : List (Int × List UInt8) := (List.range k).filterMap fun i => match (S.st i).held with | .pres t => some ((i : Int) + 1, t) | _ => none
theorem heldK_len (S : Sen) (k : Nat) : (heldK S k).length ≤ k := by
  unfold heldK
  have := List.length_filterMap_le (fun i => match (S.st i).held with | .pres t => some ((i : Int) + 1, t) | _ => none) (List.range k)
  simpa using this
theorem heldK_succ (S : Sen) (k : Nat) : heldK S (k + 1) = heldK S k ++ (match (S.st k).held with | .pres t => [((k : Int) + 1, t)] | _ => []) := by
  unfold heldK
  rw [List.range_succ, List.filterMap_append]
  congr 1
  simp only [List.filterMap_cons, List.filterMap_nil]
  cases (S.st k).held <;> rfl
theorem infoItem : (Tryd.prog.info? 60).map (fun i => (i.zero, i.size, i.bytes)) = some (some (.agg #[.int .i64 0, .string ⟨#[]⟩]), 2, 24) := by kernel_rfl
theorem infoMsg : (Tryd.prog.info? 33).map (fun i => (i.zero, i.size, i.bytes)) = some (some (.agg #[.int .i64 0, .int .i64 0, .int .i64 0, .int .i64 0, .int .i64 0, .int .i64 0, .string ⟨#[]⟩]), 7, 64) := by kernel_rfl

set_option maxRecDepth 100000 in
set_option maxHeartbeats 4000000 in
theorem held_any {T : Nat → Prop} {w : World} {b : Nat} {S : Sen} {P : Nat → Option Nat} (h : SenAt T w b S P) :
    Calls Tryd.prog 20 #[.pointer (some ⟨b, 0, none⟩)] w fun e w' => ∃ v, e = .returned v ∧ w'.ownsRow w.heap.size 60 2 v S.heldL.length (S.heldL.flatMap itemC) ∧ Below w.heap.size w w' := by
  obtain ⟨i0, hi, hz0, hz1, hz2⟩ := info_parts infoItem
  have HH := Lib.hid h
  have hbl := h.blt
  have hend : heldK S 64 = S.heldL := rfl
  rw [← hend]
  clear h hend
  go_enter Tryd.func20, Tryd.ntmps20
  go_wp2_with fail
  refine (made_any HH.out).mono ?_
  rintro e w2 ⟨rfl, rfl⟩
  go_wp2_with fail
  go_loopw [3, 9] (fun u i wr => ∃ k : Nat, i = .int .i64 k ∧ k ≤ 64 ∧ Hid (wr.ownsRow w.heap.size 60 2 u (heldK S k).length ((heldK S k).flatMap itemC)) ∧ Hid (Below w.heap.size w wr)) (fun _ i _ => 64 - (intOf i).toNat)
  case atStart => exact ⟨0, rfl, by omega, Lib.hid ⟨rfl, .inl ⟨rfl, rfl⟩⟩, Lib.hid (Below.refl _ _)⟩
  case round =>
    obtain ⟨k, rfl, hk, HO, HB⟩ := hrel
    by_cases hk64 : k < 64
    · have hki : (k : Int) < 64 := by omega
      have s2 := ((HH.out.below HB.out).story hk64 2 (by omega)).1
      have s3 := ((HH.out.below HB.out).story hk64 3 (by omega)).1
      simp only [stoV] at s2 s3
      have hkl := heldK_len S k
      have HSU := Lib.hid (heldK_succ S k)
      by_cases hp : ∃ t, (S.st k).held = .pres t
      · obtain ⟨t, ht⟩ := hp
        rw [ht] at s2 s3 HSU
        simp only [Kn.num, Kn.txt] at s2 s3
        clear ht
        have hrow := HO.out
        obtain ⟨w2, hw2⟩ : ∃ w2, wr.alloc (.cells #[.int .i64 2, .string ⟨t.toArray⟩] 74) = w2 := ⟨_, rfl⟩
        have hrow2 : w2.ownsRow w.heap.size 60 2 u3 (heldK S k).length ((heldK S k).flatMap itemC) := by rw [← hw2]; exact hrow.alloc _
        have hb2 : Below w.heap.size w w2 := by rw [← hw2]; exact HB.out.alloc HB.out.size _
        have HB2 := Lib.hid hb2; have HR2 := Lib.hid hrow2
        have hj1 : w2.cell? ⟨wr.heap.size, 1, none⟩ = some (.string ⟨t.toArray⟩) := by rw [← hw2, Lib.cell_of_heap (heap_alloc_new wr _)]; rfl
        have hj0 : w2.cell? ⟨wr.heap.size, 0, none⟩ = some (.int .i64 2) := by rw [← hw2, Lib.cell_of_heap (heap_alloc_new wr _)]; rfl
        clear hrow hrow2 hb2 HO
        go_upto_region 8 with fail
        try rw [hw2]
        clear hw2
        have hki2 : IntKind.i64.wrap ((k : Int) + 1) = (k : Int) + 1 := IntWalk.i64_in _ (by omega)
        go_wp2_with (at_builtin; refine wpList_append_own _ rfl _ _ 31 rfl w.heap.size 60 i0 _ 2 24 Tryd.underlying31 hi hz0 hz1 hz2 rfl (by decide) _ _ _ rfl (HR2.out.alloc _) ⟨w2.heap.size, 0, none⟩ 1 1 [.int .i64 ((k : Int) + 1), .string ⟨t.toArray⟩] rfl rfl ?c1 ?c2 ?c3 ?c4 ?c5 ?_)
        case c2 => simp [Value.oneCell']
        case c3 => unfold maxLen; omega
        case c4 => omega
        case c5 => have := HB2.out.size; simp; omega
        intro v' w3 ho3 hg3 _
        have HO3 : Hid (w3.ownsRow w.heap.size 60 2 v' (heldK S (k + 1)).length ((heldK S (k + 1)).flatMap itemC)) := Lib.hid (by
          rw [HSU.out, List.length_append, List.flatMap_append]
          simpa [itemC] using ho3)
        have HB3 : Hid (Below w.heap.size w w3) := Lib.hid ((HB2.out.alloc HB2.out.size _).grown hg3 (by have := HB2.out.size; simp; omega) (fun j e => (HR2.out.lt j e).1))
        clear ho3 hg3 hki2
        go_wp2_with fail
        go_roundw
        case rel => exact ⟨k + 1, by go_num, by omega, HO3, HB3⟩
        case measure => simp [intOf]; omega
      · have hnum : ((S.st k).held.num == 2) = false := by
          cases hh : (S.st k).held with
          | pres t => exact absurd ⟨t, hh⟩ hp
          | unk => rfl
          | abs => rfl
        have hsame : heldK S (k + 1) = heldK S k := by
          rw [heldK_succ]
          cases hh : (S.st k).held with
          | pres t => exact absurd ⟨t, hh⟩ hp
          | unk => simp
          | abs => simp
        obtain ⟨nn, hnn⟩ : ∃ n, (S.st k).held.num = n := ⟨_, rfl⟩
        rw [hnn] at s2 hnum
        have HO3 : Hid (∀ o, (wr.alloc o).ownsRow w.heap.size 60 2 u3 (heldK S (k + 1)).length ((heldK S (k + 1)).flatMap itemC)) := Lib.hid (fun o => by rw [hsame]; exact HO.out.alloc o)
        have HB3 : Hid (∀ o, Below w.heap.size w (wr.alloc o)) := Lib.hid (fun o => HB.out.alloc HB.out.size o)
        clear hsame hp hnn HO
        go_wp2_with fail
        go_roundw
        case rel => exact ⟨k + 1, by go_num, by omega, Lib.hid (HO3.out _), Lib.hid (HB3.out _)⟩
        case measure => simp [intOf]; omega
    · obtain rfl : k = 64 := by omega
      go_wp2_with fail
      go_ret
      exact ⟨_, rfl, HO.out, HB.out⟩
end Go.Proofs.YtefloieanpgnmaaDoor
/- The law's items. -/
namespace Go.Proofs.YtefloieanpgnmaaDoor
open Go.RowKit

def itemsK (W : Wld) (k : Nat) : List (Int × List UInt8) := (List.range k).filterMap fun i => if W.wanted (i + 1) = 0 then none else some ((i : Int) + 1, txtOf (W.wanted (i + 1) - 1))
theorem itemsK_len (W : Wld) (k : Nat) : (itemsK W k).length ≤ k := by
  unfold itemsK
  have := List.length_filterMap_le (fun i => if W.wanted (i + 1) = 0 then none else some ((i : Int) + 1, txtOf (W.wanted (i + 1) - 1))) (List.range k)
  simpa using this
theorem itemsK_succ (W : Wld) (k : Nat) : itemsK W (k + 1) = itemsK W k ++ (if W.wanted (k + 1) = 0 then [] else [((k : Int) + 1, txtOf (W.wanted (k + 1) - 1))]) := by
  unfold itemsK
  rw [List.range_succ, List.filterMap_append]
  congr 1
  simp only [List.filterMap_cons, List.filterMap_nil]
  by_cases h0 : W.wanted (k + 1) = 0
  · simp [h0]
  · simp [h0]

set_option maxRecDepth 100000 in
set_option maxHeartbeats 4000000 in
theorem items_any {W : Wld} {vf va : Value} {q : Nat} {w : World} (h : SenF 264 w q (wldV W vf va)) (hq : q < w.heap.size) (hw : W100 W) :
    Calls Tryd.prog 23 #[.pointer (some ⟨q, 0, none⟩)] w fun e w' => ∃ v, e = .returned v ∧ w'.ownsRow w.heap.size 60 2 v W.items.length (W.items.flatMap itemC) ∧ Below w.heap.size w w' := by
  obtain ⟨i0, hi, hz0, hz1, hz2⟩ := info_parts infoItem
  have HH := Lib.hid h; have HW := Lib.hid hw
  have hend : itemsK W 64 = W.items := rfl
  rw [← hend]
  clear h hend hw
  go_enter Tryd.func23, Tryd.ntmps23
  go_wp2_with fail
  go_loopw [3, 4] (fun u i wr => ∃ k : Nat, i = .int .i64 ((k : Int) + 1) ∧ k ≤ 64 ∧ Hid (wr.ownsRow w.heap.size 60 2 u (itemsK W k).length ((itemsK W k).flatMap itemC)) ∧ Hid (Below w.heap.size w wr)) (fun _ i _ => 65 - (intOf i).toNat)
  case atStart => exact ⟨0, rfl, by omega, Lib.hid ⟨rfl, .inl ⟨rfl, rfl⟩⟩, Lib.hid (Below.refl _ _)⟩
  case round =>
    obtain ⟨k, rfl, hk, HO, HB⟩ := hrel
    by_cases hk64 : k < 64
    · have hki : (k : Int) + 1 ≤ 64 := by omega
      have hk0 : (0 : Int) ≤ (k : Int) + 1 := by omega
      have hk65 : (k : Int) + 1 < 65 := by omega
      have hkt : ((k : Int) + 1).toNat = k + 1 := by omega
      have hkw : IntKind.i64.wrap ((k : Int) + 1 + 1) = (k : Int) + 1 + 1 := IntWalk.i64_in _ (by omega)
      have s2 := ((HH.out.kept (HB.out.block q hq)) (2 + (k + 1)) (by omega)).1
      rw [wldV_wanted _ _ _ _ (by omega)] at s2
      have hkl := itemsK_len W k
      have HSU := Lib.hid (itemsK_succ W k)
      obtain ⟨n, hn⟩ : ∃ n, W.wanted (k + 1) = n := ⟨_, rfl⟩
      have hn100 : n ≤ 100 := by rw [← hn]; exact HW.out (k + 1)
      rw [hn] at s2 HSU
      clear hn
      by_cases h0 : n = 0
      · have hsame : itemsK W (k + 1) = itemsK W k := by rw [HSU.out, if_pos h0, List.append_nil]
        have hnb : decide ((0 : Int) < (n : Int)) = false := decide_eq_false (by omega)
        have hnb2 : decide (0 < n) = false := decide_eq_false (by omega)
        have HO3 : Hid (wr.ownsRow w.heap.size 60 2 u3 (itemsK W (k + 1)).length ((itemsK W (k + 1)).flatMap itemC)) := Lib.hid (by rw [hsame]; exact HO.out)
        have hn0 : ¬ 0 < n := by omega
        clear hsame h0 HO HSU
        go_wp2_with fail
        go_roundw
        case rel => exact ⟨k + 1, by go_num, by omega, HO3, HB⟩
        case measure => simp [intOf]; omega
      · have hnb : decide ((0 : Int) < (n : Int)) = true := decide_eq_true (by omega)
        have hnw : IntKind.i64.wrap ((n : Int) - 1) = (n : Int) - 1 := IntWalk.i64_in _ (by omega)
        have CT : Hid (∀ W, Calls Tryd.prog 13 #[.int .i64 ((n : Int) - 1)] W fun e w' => e = .returned (.string ⟨(txtOf (n - 1)).toArray⟩) ∧ Below W.heap.size W w') := Lib.hid (fun W => by
          have := text_any (n - 1) W (by omega)
          rwa [show ((n - 1 : Nat) : Int) = (n : Int) - 1 by omega] at this)
        rw [if_neg h0] at HSU
        obtain ⟨t, ht⟩ : ∃ t, txtOf (n - 1) = t := ⟨_, rfl⟩
        rw [ht] at CT HSU
        have hn0 : 0 < n := by omega
        clear ht h0
        have hsz := HB.out.size
        go_wp2_with (first
          | (go_at_call 13; refine (CT.out _).mono ?_; rintro e w2 ⟨rfl, hb2⟩)
          | (at_builtin; refine wpList_append_own _ rfl _ _ 31 rfl w.heap.size 60 i0 _ 2 24 Tryd.underlying31 hi hz0 hz1 hz2 rfl (by decide) _ _ _ rfl ((row_keep HO.out fun j _ hj => hb2.block j hj).alloc _) ⟨w2.heap.size, 0, none⟩ 1 1 [.int .i64 ((k : Int) + 1), .string ⟨t.toArray⟩] rfl rfl ?c1 ?c2 ?c3 ?c4 ?c5 ?_)
          | fail)
        case c1 => exact World.news_of_block (cs := #[.int .i64 ((k : Int) + 1), .string ⟨t.toArray⟩]) (t := 60) (fr := (0, 0)) (heap_alloc_new w2 _)
        case c2 => simp [Value.oneCell']
        case c3 => unfold maxLen; omega
        case c4 => omega
        case c5 => have := hb2.size; first | omega | (simp; omega)
        intro v' w3 ho3 hg3 _
        have HO3 : Hid (w3.ownsRow w.heap.size 60 2 v' (itemsK W (k + 1)).length ((itemsK W (k + 1)).flatMap itemC)) := Lib.hid (by
          rw [HSU.out, List.length_append, List.flatMap_append]
          simpa [itemC] using ho3)
        have HB3 : Hid (Below w.heap.size w w3) := Lib.hid (((HB.out.trans (hb2.mono hsz)).alloc (Nat.le_trans hsz hb2.size) _).grown hg3 (by have := hb2.size; simp; omega) (fun j e => (HO.out.lt j e).1))
        clear ho3 hg3
        go_wp2_with fail
        go_roundw
        case rel => exact ⟨k + 1, by go_num, by omega, HO3, HB3⟩
        case measure => simp [intOf]; omega
    · obtain rfl : k = 64 := by omega
      go_wp2_with fail
      go_ret
      exact ⟨_, rfl, HO.out, HB.out⟩
end Go.Proofs.YtefloieanpgnmaaDoor
/- A sender's audits. -/
namespace Go.Proofs.YtefloieanpgnmaaDoor
open Go.RowKit

def msgC (m : Msg) : List Value := [.int .i64 m.kind, .int .i64 m.partner, .int .i64 m.seq, .int .i64 m.story, .int .i64 m.base, .int .i64 m.version, .string ⟨m.data.toArray⟩]
theorem msgC_len (m : Msg) : (msgC m).length = 7 := rfl
/-- the audits so far -/
def audL (S : Sen) (k : Nat) : List Msg := (List.range k).filterMap fun j => (S.st ((S.audit + j) % 64)).acked
theorem audL_len (S : Sen) (k : Nat) : (audL S k).length ≤ k := by
  unfold audL
  have := List.length_filterMap_le (fun j => (S.st ((S.audit + j) % 64)).acked) (List.range k)
  simpa using this
theorem audL_succ (S : Sen) (k : Nat) : audL S (k + 1) = audL S k ++ (match (S.st ((S.audit + k) % 64)).acked with | some m => [m] | none => []) := by
  unfold audL
  rw [List.range_succ, List.filterMap_append]
  congr 1
  simp only [List.filterMap_cons, List.filterMap_nil]
  cases (S.st ((S.audit + k) % 64)).acked <;> rfl
theorem audits_eq : ∀ (k : Nat) (S : Sen), S.audit < 64 → audits S k = (audL S k, { S with audit := (S.audit + k) % 64 })
  | 0, S, h => by
    show ([], S) = _
    rw [Nat.add_zero, Nat.mod_eq_of_lt h]; rfl
  | k + 1, S, h => by
    have ih := audits_eq k { S with audit := (S.audit + 1) % 64 } (by simp only; omega)
    show ((match (S.st S.audit).acked with | some m => [m] | none => []) ++ (audits { S with audit := (S.audit + 1) % 64 } k).1, (audits { S with audit := (S.audit + 1) % 64 } k).2) = _
    rw [ih]
    have h1 : ∀ j, ((S.audit + 1) % 64 + j) % 64 = (S.audit + (j + 1)) % 64 := fun j => by omega
    simp only [h1]
    congr 1
    unfold audL
    rw [List.range_succ_eq_map, List.filterMap_cons, List.filterMap_map]
    simp only [Function.comp_def, h1, Nat.add_zero, Nat.mod_eq_of_lt h]
    cases (S.st S.audit).acked <;> rfl
theorem msgs_len (l : List Msg) : (l.flatMap msgC).length = l.length * 7 := by
  induction l with
  | nil => rfl
  | cons x l ih => rw [List.flatMap_cons, List.length_append, ih]; simp [msgC]; omega

/-- the audits' loop -/
def AudSt (T : Nat → Prop) (w : World) (b : Nat) (S : Sen) (P : Nat → Option Nat) (k : Nat) (W : World) : Prop := SenAt T W b { S with audit := (S.audit + k) % 64 } P ∧ But (fun j => j = b) w.heap.size w W
set_option maxRecDepth 100000 in
set_option maxHeartbeats 4000000 in
theorem audited_any {T : Nat → Prop} {w : World} {b : Nat} {S : Sen} {P : Nat → Option Nat} (h : SenAt T w b S P) :
    Calls Tryd.prog 32 #[.pointer (some ⟨b, 0, none⟩)] w fun e w' => ∃ v, e = .returned v ∧ w'.ownsRow w.heap.size 33 7 v (audits S 4).1.length ((audits S 4).1.flatMap msgC) ∧ SenAt T w' b (audits S 4).2 P ∧ But (fun j => j = b) w.heap.size w w' := by
  obtain ⟨i0, hi, hz0, hz1, hz2⟩ := info_parts infoMsg
  have hau := h.ok.audit
  rw [audits_eq 4 S hau]
  have hbl := h.blt
  have HTL := Lib.hid h.lt
  have HA : Hid (AudSt T w b S P 0 w) := Lib.hid ⟨by rw [Nat.add_zero, Nat.mod_eq_of_lt hau]; exact h, But.refl _ _ _⟩
  clear h
  go_enter Tryd.func32, Tryd.ntmps32
  go_wp2_with fail
  go_loopw [3, 5] (fun u i wr => ∃ k : Nat, i = .int .i64 k ∧ k ≤ 4 ∧ Hid (wr.ownsRow w.heap.size 33 7 u (audL S k).length ((audL S k).flatMap msgC)) ∧ Hid (AudSt T w b S P k wr)) (fun _ i _ => 4 - (intOf i).toNat)
  case atStart => exact ⟨0, rfl, by omega, Lib.hid ⟨rfl, .inl ⟨rfl, rfl⟩⟩, HA⟩
  case round =>
    obtain ⟨k, rfl, hk, HO, HS⟩ := hrel
    by_cases hk4 : k < 4
    · have hki : (k : Int) < 4 := by omega
      obtain ⟨a, ha⟩ : ∃ a, (S.audit + k) % 64 = a := ⟨_, rfl⟩
      have HAA := Lib.hid ha
      have ha64 : (a : Int) < 64 := by omega
      have SA := HS.out.1
      rw [ha] at SA
      obtain ⟨c3, f3⟩ := SA.cells 3 (by omega)
      simp only [senV] at c3
      have al : a < 64 := by omega
      have k0 := (SA.story al 5 (by omega)).1
      have k1 : wr.cell? ⟨b, 4 + a * 13 + 5 + 1, none⟩ = some (stoV (S.st a) (P a) 6) := (SA.story al 6 (by omega)).1
      have k2 : wr.cell? ⟨b, 4 + a * 13 + 5 + 2, none⟩ = some (stoV (S.st a) (P a) 7) := (SA.story al 7 (by omega)).1
      have k3 : wr.cell? ⟨b, 4 + a * 13 + 5 + 3, none⟩ = some (stoV (S.st a) (P a) 8) := (SA.story al 8 (by omega)).1
      have k4 : wr.cell? ⟨b, 4 + a * 13 + 5 + 4, none⟩ = some (stoV (S.st a) (P a) 9) := (SA.story al 9 (by omega)).1
      have k5 : wr.cell? ⟨b, 4 + a * 13 + 5 + 5, none⟩ = some (stoV (S.st a) (P a) 10) := (SA.story al 10 (by omega)).1
      have k6 : wr.cell? ⟨b, 4 + a * 13 + 5 + 6, none⟩ = some (stoV (S.st a) (P a) 11) := (SA.story al 11 (by omega)).1
      have k7 : wr.cell? ⟨b, 4 + a * 13 + 5 + 7, none⟩ = some (stoV (S.st a) (P a) 12) := (SA.story al 12 (by omega)).1
      simp only [stoV] at k0 k1 k2 k3 k4 k5 k6 k7
      have HSU := Lib.hid (audL_succ S k)
      rw [ha] at HSU
      have hkl := audL_len S k
      have hblr := SA.blt
      clear ha SA
      go_upto_region 4 with fail
      go_region
      obtain ⟨w2, hw2⟩ : ∃ w2, (wr.alloc (.cells #[.int .i64 (ackN (S.st a).acked), .int .i64 (ackM (S.st a).acked).kind, .int .i64 (ackM (S.st a).acked).partner, .int .i64 (ackM (S.st a).acked).seq, .int .i64 (ackM (S.st a).acked).story, .int .i64 (ackM (S.st a).acked).base, .int .i64 (ackM (S.st a).acked).version, .string ⟨(ackM (S.st a).acked).data.toArray⟩] 77)).drew = w2 := ⟨_, rfl⟩
      have hbb : Below wr.heap.size wr w2 := by rw [← hw2]; exact ((Below.refl _ wr).alloc (Nat.le_refl _) _).drew
      have hblk : w2.heap[wr.heap.size]? = some (.cells #[.int .i64 (ackN (S.st a).acked), .int .i64 (ackM (S.st a).acked).kind, .int .i64 (ackM (S.st a).acked).partner, .int .i64 (ackM (S.st a).acked).seq, .int .i64 (ackM (S.st a).acked).story, .int .i64 (ackM (S.st a).acked).base, .int .i64 (ackM (S.st a).acked).version, .string ⟨(ackM (S.st a).acked).data.toArray⟩] 77 (0, 0)) := by rw [← hw2]; exact heap_alloc_new wr _
      rw [hw2]
      have HSA : Hid (SenAt T w2 b { S with audit := a } P) := Lib.hid (by have := HS.out.1; rw [HAA.out] at this; exact this.below hbb)
      have HBU : Hid (But (fun j => j = b) w.heap.size w w2) := Lib.hid (HS.out.2.trans (But.of_below (hbb.mono HS.out.2.size)))
      have HO2 : Hid (w2.ownsRow w.heap.size 33 7 u3 (audL S k).length ((audL S k).flatMap msgC)) := Lib.hid (row_keep HO.out fun j _ hj => hbb.block j hj)
      have HSZ : Hid (w.heap.size ≤ w2.heap.size) := Lib.hid (Nat.le_trans HS.out.2.size hbb.size)
      have hst : ∀ k', (stoV (S.st a) (P a) 5) = k' → True := fun _ _ => trivial
      clear hst hw2 hbb c3 f3 k0 k1 k2 k3 k4 k5 k6 k7 HO HS
      obtain ⟨c3, f3⟩ := HSA.out.cells 3 (by omega)
      simp only [senV] at c3
      obtain ⟨g, hg⟩ : ∃ g, wr.heap.size = g := ⟨_, rfl⟩
      rw [hg] at hblk ⊢
      have hbw := HSA.out.blt
      have hwa : IntKind.i64.wrap ((a : Int) + 1) = (a : Int) + 1 := IntWalk.i64_in _ (by omega)
      have HEND : Hid (∀ W, SenAt T W b { S with audit := a } P → But (fun j => j = b) w.heap.size w W → AudSt T w b S P (k + 1) (W.setCell ⟨b, 3, none⟩ (.int .i64 (((a : Int) + 1) % 64)))) := Lib.hid (fun W hW hB => by
        have h1 := hW.putAudit ((a + 1) % 64) (by omega)
        refine ⟨?_, hB.setCell rfl _⟩
        rw [show (S.audit + (k + 1)) % 64 = (a + 1) % 64 by rw [← HAA.out]; omega, show ((a : Int) + 1) % 64 = (((a + 1) % 64 : Nat) : Int) by omega]
        exact h1)
      cases hac : (S.st a).acked with
      | none =>
        rw [hac] at hblk HSU
        simp only [ackN, ackM] at hblk
        have j0 : w2.cell? ⟨g, 0, none⟩ = some (.int .i64 1) := by rw [Lib.cell_of_heap hblk]; rfl
        have HE := Lib.hid (HEND.out w2 HSA.out HBU.out)
        have HO3 : Hid (∀ c : Value, (w2.setCell ⟨b, 3, none⟩ c).ownsRow w.heap.size 33 7 u3 (audL S (k + 1)).length ((audL S (k + 1)).flatMap msgC)) := Lib.hid (fun c => by
          rw [HSU.out, List.append_nil]
          exact row_keep HO2.out fun j hj _ => Below.heap_setCell _ ⟨b, _, none⟩ _ _ (by show j ≠ b; omega))
        clear hac hblk HSU HO2 HEND
        go_wp2_with fail
        go_roundw
        case rel => exact ⟨k + 1, by go_num, by omega, Lib.hid (HO3.out _), HE⟩
        case measure => simp [intOf]; omega
      | some m =>
        rw [hac] at hblk HSU
        simp only [ackN, ackM] at hblk
        have j0 : w2.cell? ⟨g, 0, none⟩ = some (.int .i64 2) := by rw [Lib.cell_of_heap hblk]; rfl
        have j1 : w2.cell? ⟨g, 1, none⟩ = some (.int .i64 m.kind) := by rw [Lib.cell_of_heap hblk]; rfl
        have j2 : w2.cell? ⟨g, 2, none⟩ = some (.int .i64 m.partner) := by rw [Lib.cell_of_heap hblk]; rfl
        have j3 : w2.cell? ⟨g, 3, none⟩ = some (.int .i64 m.seq) := by rw [Lib.cell_of_heap hblk]; rfl
        have j4 : w2.cell? ⟨g, 4, none⟩ = some (.int .i64 m.story) := by rw [Lib.cell_of_heap hblk]; rfl
        have j5 : w2.cell? ⟨g, 5, none⟩ = some (.int .i64 m.base) := by rw [Lib.cell_of_heap hblk]; rfl
        have j6 : w2.cell? ⟨g, 6, none⟩ = some (.int .i64 m.version) := by rw [Lib.cell_of_heap hblk]; rfl
        have j7 : w2.cell? ⟨g, 7, none⟩ = some (.string ⟨m.data.toArray⟩) := by rw [Lib.cell_of_heap hblk]; rfl
        have hsz := HSZ.out
        clear hac hblk
        go_wp2_with (at_builtin; refine wpList_append_own _ rfl _ _ 28 rfl w.heap.size 33 i0 _ 7 64 Tryd.underlying28 hi hz0 hz1 hz2 rfl (by decide) _ _ _ rfl (HO2.out.alloc _) ⟨w2.heap.size, 0, none⟩ 1 1 [.int .i64 m.kind, .int .i64 m.partner, .int .i64 m.seq, .int .i64 m.story, .int .i64 m.base, .int .i64 m.version, .string ⟨m.data.toArray⟩] rfl rfl ?c1 ?c2 ?c3 ?c4 ?c5 ?_)
        case c2 => simp [Value.oneCell']
        case c3 => unfold maxLen; omega
        case c4 => omega
        case c5 => have hsz2 := HSZ.out; first | omega | (simp; omega)
        intro v' w3 ho3 hg3 _
        have hgb : ∀ j, j < w2.heap.size → (Value.ownBlock u3 = some j → False) → w3.heap[j]? = w2.heap[j]? := fun j hj hn => by
          rw [hg3.block j (by simp; omega) (fun e => hn e.symm)]
          exact heap_alloc_old w2 _ hj
        have hgl : ∀ j, j < w.heap.size → w3.heap[j]? = w2.heap[j]? := fun j hj => hgb j (by omega) fun e => by have := (HO2.out.lt j e).1; omega
        have hs3 : w2.heap.size ≤ w3.heap.size := by have := hg3.size; simp at this; omega
        have HE := Lib.hid (HEND.out w3 (HSA.out.kept hs3 fun j hj => hgl j (HTL.out j hj)) (HBU.out.trans ⟨hg3.os, hg3.tape, hg3.output, hs3, fun j hj _ => hgl j hj⟩))
        have HO3 : Hid (∀ c : Value, (w3.setCell ⟨b, 3, none⟩ c).ownsRow w.heap.size 33 7 v' (audL S (k + 1)).length ((audL S (k + 1)).flatMap msgC)) := Lib.hid (fun c => by
          rw [HSU.out, List.length_append, List.flatMap_append]
          refine row_keep (w := w3) ?_ fun j hj _ => Below.heap_setCell _ ⟨b, _, none⟩ _ _ (by show j ≠ b; omega)
          simpa [msgC] using ho3)
        have c3' : w3.cell? ⟨b, 3, none⟩ = some (.int .i64 a) := cell_same (hgl b hbl) c3
        have f3' : w3.frozen? ⟨b, 3, none⟩ = false := frozen_same (hgl b hbl) f3
        clear ho3 hg3 hgb hgl HEND HO2 c3 f3 j0 j1 j2 j3 j4 j5 j6 j7
        go_wp2_with fail
        go_roundw
        case rel => exact ⟨k + 1, by go_num, by omega, Lib.hid (HO3.out _), HE⟩
        case measure => simp [intOf]; omega
    · obtain rfl : k = 4 := by omega
      go_wp2_with fail
      go_ret
      exact ⟨_, rfl, HO.out, HS.out.1, HS.out.2⟩
end Go.Proofs.YtefloieanpgnmaaDoor
/- The law's without. -/
namespace Go.Proofs.YtefloieanpgnmaaDoor
open Go.RowKit

/-- a slice of messages -/
def MsgsL (W : World) (v : Value) (l : List Msg) : Prop :=
  ∃ a c, v = .slice a l.length c ∧ l.length ≤ c ∧ c ≤ 9223372036854775807 ∧ (l ≠ [] → ∃ b off, a = some ⟨b, off, none⟩ ∧ ∀ j u, (l.flatMap msgC)[j]? = some u → W.cell? ⟨b, off + j, none⟩ = some u)
theorem MsgsL.below {W W' : World} {v : Value} {l : List Msg} (h : MsgsL W v l) (hb : Below W.heap.size W W') : MsgsL W' v l := by
  obtain ⟨a, c, h1, h2, h3, h4⟩ := h
  refine ⟨a, c, h1, h2, h3, fun h => ?_⟩
  obtain ⟨b, off, h5, h6⟩ := h4 h
  exact ⟨b, off, h5, fun j u hj => (hb.cell (World.block_lt_of_cell? W _ (h6 j u hj))).trans (h6 j u hj)⟩
theorem msgs_at (l : List Msg) (k c : Nat) (hk : k < l.length) (hc : c < 7) : (l.flatMap msgC)[k * 7 + c]? = (msgC l[k])[c]? := by
  induction l generalizing k with
  | nil => simp at hk
  | cons x l ih =>
    rw [List.flatMap_cons]
    cases k with
    | zero =>
      rw [Nat.zero_mul, Nat.zero_add, List.getElem?_append_left (by simpa [msgC] using hc)]; rfl
    | succ k =>
      rw [List.getElem?_append_right (by simp [msgC]; omega)]
      have : (k + 1) * 7 + c - (msgC x).length = k * 7 + c := by simp [msgC]; omega
      rw [this, ih k (by simpa using hk)]; rfl
theorem msgs_drop (l : List Msg) (k : Nat) : (l.flatMap msgC).drop (k * 7) = (l.drop k).flatMap msgC := by
  induction k generalizing l with
  | zero => simp
  | succ k ih =>
    cases l with
    | nil => simp
    | cons x l =>
      rw [List.flatMap_cons, show (k + 1) * 7 = 7 + k * 7 by omega, ← List.drop_drop]
      have : (msgC x ++ l.flatMap msgC).drop 7 = l.flatMap msgC := by rw [List.drop_left' (by rfl)]
      rw [this, ih]; rfl
theorem msgs_take (l : List Msg) (k : Nat) : (l.flatMap msgC).take (k * 7) = (l.take k).flatMap msgC := by
  induction k generalizing l with
  | zero => simp
  | succ k ih =>
    cases l with
    | nil => simp
    | cons x l =>
      rw [List.flatMap_cons, show (k + 1) * 7 = (msgC x).length + k * 7 by simp [msgC]; omega, List.take_length_add_append, ih]; rfl
theorem msgC_one (l : List Msg) : ∀ u ∈ l.flatMap msgC, u.oneCell' = true := fun u hu => by
  obtain ⟨m, -, h⟩ := List.mem_flatMap.1 hu
  simp only [msgC, List.mem_cons, List.not_mem_nil, or_false] at h
  rcases h with rfl | rfl | rfl | rfl | rfl | rfl | rfl <;> simp [Value.oneCell']

set_option maxRecDepth 100000 in
set_option maxHeartbeats 4000000 in
theorem without_any (v : Value) (l : List Msg) (i : Nat) (w : World) (h : MsgsL w v l) (hi : i < l.length) (hl : l.length ≤ 100000) :
    Calls Tryd.prog 24 #[v, .int .i64 i] w fun e w' => ∃ v', e = .returned v' ∧ w'.ownsRow w.heap.size 33 7 v' (l.eraseIdx i).length ((l.eraseIdx i).flatMap msgC) ∧ Below w.heap.size w w' := by
  obtain ⟨i0, hinf, hz0, hz1, hz2⟩ := info_parts infoMsg
  obtain ⟨a, c, rfl, hc, hc2, hcel⟩ := h
  obtain ⟨b, off, rfl, hcell⟩ := hcel (fun h => by rw [h] at hi; simp at hi)
  have HC := Lib.hid hcell
  have hii : (i : Int) < (l.length : Int) := by omega
  have hic : (i : Int) ≤ (c : Int) := by omega
  have hic2 : i ≤ c := by omega
  have hi1 : (i : Int) + 1 ≤ (l.length : Int) := by omega
  have hwr : IntKind.i64.wrap ((i : Int) + 1) = (i : Int) + 1 := IntWalk.i64_in _ (by omega)
  obtain ⟨n, hn⟩ : ∃ n, l.length = n := ⟨_, rfl⟩
  have HN := Lib.hid hn
  rw [hn] at hc hii hi1 hi hl ⊢
  clear hcell hcel hn
  go_enter Tryd.func24, Tryd.ntmps24
  have h1l : ((l.take i).flatMap msgC).length = i * 7 := by rw [msgs_len, List.length_take]; have := HN.out; omega
  have h1c : ∀ j u, ((l.take i).flatMap msgC)[j]? = some u → w.cell? ((⟨b, off, none⟩ : Addr).add j) = some u := fun j u hj => by
    rw [← msgs_take] at hj
    have hj2 : j < i * 7 := by
      have := (List.getElem?_eq_some_iff.1 hj).1
      rw [List.length_take] at this
      omega
    rw [List.getElem?_take_of_lt hj2] at hj
    have : (⟨b, off, none⟩ : Addr).add j = ⟨b, off + j, none⟩ := by unfold Addr.add; by_cases h0 : j = 0 <;> simp [h0]
    rw [this]
    exact HC.out j u hj
  have H1L := Lib.hid h1l; have H1C := Lib.hid h1c
  obtain ⟨n1, hn1⟩ : ∃ x, (l.take i).flatMap msgC = x := ⟨_, rfl⟩
  have HN1 := Lib.hid hn1
  have H1O : Hid (∀ u ∈ n1, u.oneCell' = true) := Lib.hid (by rw [← hn1]; exact msgC_one _)
  rw [hn1] at H1L H1C
  clear h1l h1c hn1
  go_wp2_with (first
    | (at_builtin; refine wpList_append_own _ rfl _ _ 28 rfl w.heap.size 33 i0 _ 7 64 Tryd.underlying28 hinf hz0 hz1 hz2 rfl (by decide) _ _ _ rfl (World.ownsRow_nil _ _ _ _) ⟨b, off, none⟩ i c n1 rfl H1L.out H1C.out ?c2 ?c3 ?c4 ?c5 ?_)
    | fail)
  case c2 => exact H1O.out
  case c3 => unfold maxLen; omega
  case c4 => omega
  case c5 => exact Nat.le_refl _
  intro v' w2 ho2 hg2 _
  have HO2 := Lib.hid ho2
  have HB2 : Hid (Below w.heap.size w w2) := Lib.hid ((Below.refl _ w).grown hg2 (Nat.le_refl _) (fun j e => by simp [Value.ownBlock] at e))
  clear ho2 hg2
  obtain ⟨n2, hn2⟩ : ∃ x, (l.drop (i + 1)).flatMap msgC = x := ⟨_, rfl⟩
  have H2L : Hid (n2.length = (n - (i + 1)) * 7) := Lib.hid (by rw [← hn2, msgs_len, List.length_drop, HN.out])
  have H2O : Hid (∀ u ∈ n2, u.oneCell' = true) := Lib.hid (by rw [← hn2]; exact msgC_one _)
  have H2C : Hid (∀ j u, n2[j]? = some u → w2.cell? ⟨b, off + (i + 1) * 7 + j, none⟩ = some u) := Lib.hid (fun j u hj => by
    rw [← hn2, ← msgs_drop, List.getElem?_drop] at hj
    have h1 := HC.out _ u hj
    have h2 := (HB2.out.cell (World.block_lt_of_cell? w _ h1)).trans h1
    rw [show off + (i + 1) * 7 + j = off + ((i + 1) * 7 + j) by omega]
    exact h2)
  have HEND : Hid (∀ (v2 : Value) (w3 : World), w3.ownsRow w.heap.size 33 7 v2 (i + (n - (i + 1))) (n1 ++ n2) → w3.ownsRow w.heap.size 33 7 v2 (l.eraseIdx i).length ((l.eraseIdx i).flatMap msgC)) := Lib.hid (fun v2 w3 h => by
    rw [List.length_eraseIdx_of_lt (by rw [HN.out]; exact hi), HN.out, List.eraseIdx_eq_take_drop_succ, List.flatMap_append, HN1.out, hn2]
    rwa [show i + (n - (i + 1)) = n - 1 by omega] at h)
  have hsz := HB2.out.size
  clear hn2
  by_cases hcc : i + 1 = c
  · have hnil : Hid (n2 = []) := Lib.hid (List.length_eq_zero_iff.1 (by rw [H2L.out]; omega))
    have HL0 : Hid (n2.length = 0 * 7) := Lib.hid (by rw [hnil.out]; rfl)
    have HN0 : Hid (n - (i + 1) = 0) := Lib.hid (by omega)
    subst hcc
    go_wp2_with (first
      | (at_builtin; refine wpList_append_own _ rfl _ _ 28 rfl w.heap.size 33 i0 _ 7 64 Tryd.underlying28 hinf hz0 hz1 hz2 rfl (by decide) _ _ _ rfl HO2.out ⟨b, off, none⟩ 0 0 n2 rfl HL0.out ?c1 H2O.out ?c3 ?c4 ?c5 ?_)
      | fail)
    case c1 => rw [hnil.out]; intro j u hj; simp at hj
    case c3 => unfold maxLen; omega
    case c4 => omega
    case c5 => exact hsz
    intro v3 w3 ho3 hg3 _
    have HO3 := Lib.hid (HEND.out v3 w3 (by rw [HN0.out]; exact ho3))
    have HB3 : Hid (Below w.heap.size w w3) := Lib.hid (HB2.out.grown hg3 hsz (fun j e => (HO2.out.lt j e).1))
    clear ho3 hg3
    go_wp2_with fail
    go_ret
    exact ⟨_, rfl, HO3.out, HB3.out⟩
  · have hlt : i + 1 < c := by omega
    have hlti : (i : Int) + 1 < (c : Int) := by omega
    go_wp2_with (first
      | (at_builtin; refine wpList_append_own _ rfl _ _ 28 rfl w.heap.size 33 i0 _ 7 64 Tryd.underlying28 hinf hz0 hz1 hz2 rfl (by decide) _ _ _ rfl HO2.out ⟨b, off + (i + 1) * 7, none⟩ (n - (i + 1)) (c - (i + 1)) n2 rfl H2L.out ?c1 H2O.out ?c3 ?c4 ?c5 ?_)
      | fail)
    case c1 =>
      intro j u hj
      have : (⟨b, off + (i + 1) * 7, none⟩ : Addr).add j = ⟨b, off + (i + 1) * 7 + j, none⟩ := by unfold Addr.add; by_cases h0 : j = 0 <;> simp [h0]
      rw [this]
      exact H2C.out j u hj
    case c3 => unfold maxLen; omega
    case c4 => omega
    case c5 => exact hsz
    intro v3 w3 ho3 hg3 _
    have HO3 := Lib.hid (HEND.out v3 w3 ho3)
    have HB3 : Hid (Below w.heap.size w w3) := Lib.hid (HB2.out.grown hg3 hsz (fun j e => (HO2.out.lt j e).1))
    clear ho3 hg3
    go_wp2_with fail
    go_ret
    exact ⟨_, rfl, HO3.out, HB3.out⟩
end Go.Proofs.YtefloieanpgnmaaDoor

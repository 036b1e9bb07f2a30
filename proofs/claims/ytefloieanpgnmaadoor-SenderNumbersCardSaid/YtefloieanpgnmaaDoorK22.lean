/- Facts and contracts for the laws of the sender, part 22. Conditions: those that each theorem names. -/
import Derived.Test.YtefloieanpgnmaaDoorK20
import Derived.Test.YtefloieanpgnmaaDoorK17
import Derived.Test.YtefloieanpgnmaaDoorK21
import Derived.Deep.RegionHeld3
import Derived.BigRegion
import Derived.BigQuiet
/- A sender's Receive. -/
namespace Go.Proofs.YtefloieanpgnmaaDoor
open Go.RowKit

/-- the sender behind a step: its blocks may have grown -/
def SEnd (a0 a1 : Addr) (w0 : World) (T : Nat → Prop) (w : World) (b : Nat) (S' : Sen) (w' : World) : Prop := ∃ (T' : Nat → Prop) (P' : Nat → Option Nat), Snd a0 a1 w0 T' w' b S' P' ∧ But T w.heap.size w w' ∧ ∀ k, T' k → T k ∨ w.heap.size ≤ k
theorem SEnd.via {a0 a1 : Addr} {w0 : World} {T : Nat → Prop} {w wz w9 : World} {b : Nat} {S' : Sen} (_ : ∀ k, T k → k < wz.heap.size) (hb : But T w.heap.size w wz) (h : SEnd a0 a1 w0 T wz b S' w9) : SEnd a0 a1 w0 T w b S' w9 := by
  obtain ⟨T', P', h1, h2, h3⟩ := h
  have hsz := hb.size
  exact ⟨T', P', h1, hb.trans (h2.mono hsz), fun k hk => (h3 k hk).elim .inl fun h => .inr (by omega)⟩
theorem keep8 {w0 w1 w2 : World} {p1 p2 p3 p4 p5 p6 p7 p8 : Addr} {x1 x2 x3 x4 x5 x6 x7 x8 : Value} (h : w1.cell? p1 = some x1 ∧ w1.cell? p2 = some x2 ∧ w1.cell? p3 = some x3 ∧ w1.cell? p4 = some x4 ∧ w1.cell? p5 = some x5 ∧ w1.cell? p6 = some x6 ∧ w1.cell? p7 = some x7 ∧ w1.cell? p8 = some x8 ∧ Below w0.heap.size w0 w1) (hb : Below w1.heap.size w1 w2) :
    w2.cell? p1 = some x1 ∧ w2.cell? p2 = some x2 ∧ w2.cell? p3 = some x3 ∧ w2.cell? p4 = some x4 ∧ w2.cell? p5 = some x5 ∧ w2.cell? p6 = some x6 ∧ w2.cell? p7 = some x7 ∧ w2.cell? p8 = some x8 ∧ Below w0.heap.size w0 w2 := by
  obtain ⟨h1, h2, h3, h4, h5, h6, h7, h8, h9⟩ := h
  have key : ∀ {p : Addr} {x : Value}, w1.cell? p = some x → w2.cell? p = some x := fun h => (hb.cell (World.block_lt_of_cell? w1 _ h)).trans h
  exact ⟨key h1, key h2, key h3, key h4, key h5, key h6, key h7, key h8, h9.trans (hb.mono h9.size)⟩
theorem MAt.far2 {K : Nat} {m : Msg} {w : World} (h : MAt K m w) {b o : Nat} (hb : K ≠ b) (v : Value) : MAt K m (w.setCell ⟨b, o, none⟩ v) := (Below.heap_setCell w ⟨b, o, none⟩ v K hb).trans h
theorem last9 {a b c d e f g h i : Prop} (x : a ∧ b ∧ c ∧ d ∧ e ∧ f ∧ g ∧ h ∧ i) : i := x.2.2.2.2.2.2.2.2

/-- is the message an answer to this sender? -/
def recOk (S : Sen) (m : Msg) : Bool := m.valid && decide (m.partner = S.partner) && (decide (m.kind = 3) || decide (m.kind = 4))
theorem recv_no {S : Sen} {m : Msg} {now : Int} (h : recOk S m = false) : S.recv now m = S := by
  unfold Sen.recv
  rw [if_neg]
  rintro ⟨h1, h2, h3⟩
  unfold recOk at h
  rw [h1, decide_eq_true h2] at h
  rcases h3 with h3 | h3 <;> simp [h3] at h
theorem recv_yes {S : Sen} {m : Msg} {now : Int} (h : recOk S m = true) : S.recv now m = match S.recv1 m (m.story - 1).toNat with | some S' => S'.plan now | none => S := by
  unfold recOk at h
  simp only [Bool.and_eq_true, decide_eq_true_eq, Bool.or_eq_true] at h
  have hc : m.valid = true ∧ m.partner = S.partner ∧ (m.kind = 3 ∨ m.kind = 4) := ⟨h.1.1, h.1.2, h.2⟩
  unfold Sen.recv
  rw [if_pos hc]
  cases S.recv1 m (m.story - 1).toNat <;> rfl
theorem recOk_facts {S : Sen} {m : Msg} (h : recOk S m = true) : 1 ≤ m.story ∧ m.story ≤ 64 ∧ 1 ≤ m.seq ∧ m.seq ≤ 4611686018427387903 ∧ (m.kind = 3 ∨ m.kind = 4) := by
  unfold recOk Msg.valid at h
  simp only [Bool.and_eq_true, decide_eq_true_eq, Bool.or_eq_true] at h
  exact ⟨h.1.1.2.2.2.2.1, h.1.1.2.2.2.2.2.1, h.1.1.2.2.1, h.1.1.2.2.2.1, h.2⟩

set_option maxRecDepth 100000 in
set_option maxHeartbeats 8000000 in
theorem receive_any {a0 a1 : Addr} {w0 : World} {T : Nat → Prop} {w : World} {b : Nat} {S : Sen} {P : Nat → Option Nat} (h : Snd a0 a1 w0 T w b S P) (now : Int) (hnow : -9223372036854775808 ≤ now ∧ now ≤ 9223372036854775807) (m : Msg) (hd : m.data.length ≤ 9223372036854775000) :
    Calls Tryd.prog 15 #[.pointer (some ⟨b, 0, none⟩), .int .i64 now, m.enc] w fun e w' => e = .returned (.tuple #[]) ∧ SEnd a0 a1 w0 T w b (S.recv now m) w' := by
  have hB : Below w.heap.size w (w.alloc (.cells m.cells 33)) := (Below.refl _ w).alloc (Nat.le_refl _) _
  have hmw : MAt w.heap.size m (w.alloc (.cells m.cells 33)) := heap_alloc_new w _
  obtain ⟨R, hR⟩ : ∃ R, recOk S m = R := ⟨_, rfl⟩
  obtain ⟨SR, hSR⟩ : ∃ SR, S.recv now m = SR := ⟨_, rfl⟩
  rw [hSR]
  have HSR := Lib.hid hSR
  have HRR := Lib.hid hR
  have HR : Hid (recOk S m = R) := Lib.hid hR
  have CV : Hid (∀ W, Calls Tryd.prog 26 #[m.enc] W fun e w' => e = .returned (.bool m.valid) ∧ Below W.heap.size W w') := Lib.hid (fun W => valid_any m W hd)
  have HMM : Hid (recOk S m = R) := HR
  have HT : Hid (∀ W, Below w.heap.size w W → SEnd a0 a1 w0 T w b S W) := Lib.hid (fun W hW => ⟨T, P, h.below hW, But.of_below hW, fun k hk => .inl hk⟩)
  have hbl := h.at_.blt
  obtain ⟨w1, hw1⟩ : ∃ w1, w.alloc (.cells m.cells 33) = w1 := ⟨_, rfl⟩
  rw [hw1] at hB hmw
  have HH : Hid (Snd a0 a1 w0 T w1 b S P) := Lib.hid (h.below hB)
  have HB1 := Lib.hid hB; have HM1 := Lib.hid hmw
  have HK : Hid (w.heap.size < w1.heap.size) := Lib.hid hmw.lt
  have e0 := (HH.out.at_.cells 0 (by omega)).1
  simp only [senV] at e0
  have CM : Hid (∀ W, Below w1.heap.size w1 W → Calls Tryd.prog 25 #[.pointer (some ⟨b, 0, none⟩)] W fun e w' => e = .returned (.bool true) ∧ W = w') := Lib.hid (fun W hW => made_any (HH.out.below hW).at_)
  obtain ⟨m0, m1, m2, m3, m4, m5, m6⟩ := hmw.c
  obtain ⟨V, hV⟩ : ∃ V, m.valid = V := ⟨_, rfl⟩
  rw [hV] at CV
  obtain ⟨sp, hsp⟩ : ∃ sp, S.partner = sp := ⟨_, rfl⟩
  rw [hsp] at e0
  have HV := Lib.hid hV; have HSP := Lib.hid hsp
  unfold Msg.enc at CV ⊢
  unfold Msg.cells at hw1
  obtain ⟨kind, partner, seq, story, base, version, data⟩ := m
  simp only at m0 m1 m2 m3 m4 m5 m6 hw1 CV hd
  obtain ⟨K, hK⟩ : ∃ K, w.heap.size = K := ⟨_, rfl⟩
  rw [hK] at m0 m1 m2 m3 m4 m5 m6
  have HKK := Lib.hid hK
  have HS0 : Hid (w1.drew.cell? ⟨b, 0, none⟩ = some (.int .i64 sp) ∧ w1.drew.cell? ⟨K, 0, none⟩ = some (.int .i64 kind) ∧ w1.drew.cell? ⟨K, 1, none⟩ = some (.int .i64 partner) ∧ w1.drew.cell? ⟨K, 2, none⟩ = some (.int .i64 seq) ∧ w1.drew.cell? ⟨K, 3, none⟩ = some (.int .i64 story) ∧ w1.drew.cell? ⟨K, 4, none⟩ = some (.int .i64 base) ∧ w1.drew.cell? ⟨K, 5, none⟩ = some (.int .i64 version) ∧ w1.drew.cell? ⟨K, 6, none⟩ = some (.string ⟨data.toArray⟩) ∧ Below w1.heap.size w1 w1.drew) := Lib.hid ⟨e0, m0, m1, m2, m3, m4, m5, m6, (Below.refl _ w1).drew⟩
  clear h hB hmw hR hSR hV hsp e0 m0 m1 m2 m3 m4 m5 m6
  go_enter Tryd.func15, Tryd.ntmps15
  go_upto_region 1 with fail
  try rw [hw1]
  try rw [hK]
  clear hw1 hK
  go_cut [34] (fun v wx => v = .bool (!R) ∧ Hid (Below w1.heap.size w1 wx))
  case first =>
    cases V with
    | false =>
      obtain rfl : false = R := by rw [← HR.out]; unfold recOk; rw [HV.out]; rfl
      refine wp_region_held_drew (S := (fun w' => w'.cell? ⟨b, 0, none⟩ = some (.int .i64 sp) ∧ w'.cell? ⟨K, 0, none⟩ = some (.int .i64 kind) ∧ w'.cell? ⟨K, 1, none⟩ = some (.int .i64 partner) ∧ w'.cell? ⟨K, 2, none⟩ = some (.int .i64 seq) ∧ w'.cell? ⟨K, 3, none⟩ = some (.int .i64 story) ∧ w'.cell? ⟨K, 4, none⟩ = some (.int .i64 base) ∧ w'.cell? ⟨K, 5, none⟩ = some (.int .i64 version) ∧ w'.cell? ⟨K, 6, none⟩ = some (.string ⟨data.toArray⟩) ∧ Below w1.heap.size w1 w')) (by kernel_rfl) ?_ (fun hHeld => ?_)
      · ((try dsimp only); (first | (with_reducible assumption) | (exact keep8 (by with_reducible assumption) (by with_reducible assumption)) | (with_reducible exact HS0.out)))
      refine take_w 0 ⟨_, by simp only [List.getElem?_toArray, List.getElem?_cons_zero]; rfl, by kernel_rfl, by kernel_rfl, by kernel_rfl, ?_⟩
      refine ⟨?_, fun _ _ _ h => h, Or.inl ⟨by rfl, ?_⟩, by assumption, ?_⟩
      rotate_left
      · (intro w hSw; (try dsimp only at hSw); go_simp; try with_reducible rfl)
      try simp only [Act.put, List.setIfInBounds_toArray, List.set_cons_zero, List.set_cons_succ]
      refine call_w 1 ⟨_, by simp only [List.getElem?_toArray, List.getElem?_cons_succ, List.getElem?_cons_zero]; rfl, by kernel_rfl, ?_, ?_⟩
      · rfl
      intro K hK
      go_simp
      go_at_call 25; with_reducible (refine (CM.out _ (last9 (by with_reducible assumption))).mono ?_); rintro e wm ⟨rfl, rfl⟩
      refine hK.out _ _ ?_ (fun hHeld => ?_)
      · ((try dsimp only); (first | (with_reducible assumption) | (exact keep8 (by with_reducible assumption) (by with_reducible assumption)) | (with_reducible exact HS0.out)))
      clear hK K
      try simp only [Act.put, List.setIfInBounds_toArray, List.set_cons_zero, List.set_cons_succ]
      refine take_w 2 ⟨_, by simp only [List.getElem?_toArray, List.getElem?_cons_succ, List.getElem?_cons_zero]; rfl, by kernel_rfl, by kernel_rfl, by kernel_rfl, ?_⟩
      refine ⟨?_, fun _ _ _ h => h, Or.inl ⟨by rfl, ?_⟩, by assumption, ?_⟩
      rotate_left
      · (intro w hSw; (try dsimp only at hSw); go_simp; try with_reducible rfl)
      try simp only [Act.put, List.setIfInBounds_toArray, List.set_cons_zero, List.set_cons_succ]
      refine take_w 3 ⟨_, by simp only [List.getElem?_toArray, List.getElem?_cons_succ, List.getElem?_cons_zero]; rfl, by kernel_rfl, by kernel_rfl, by kernel_rfl, ?_⟩
      refine ⟨?_, fun _ _ _ h => h, Or.inl ⟨by rfl, ?_⟩, by assumption, ?_⟩
      rotate_left
      · (intro w hSw; (try dsimp only at hSw); go_simp; try with_reducible rfl)
      try simp only [Act.put, List.setIfInBounds_toArray, List.set_cons_zero, List.set_cons_succ]
      refine take_w 4 ⟨_, by simp only [List.getElem?_toArray, List.getElem?_cons_succ, List.getElem?_cons_zero]; rfl, by kernel_rfl, by kernel_rfl, by kernel_rfl, ?_⟩
      refine ⟨?_, fun _ _ _ h => h, Or.inl ⟨by rfl, ?_⟩, by assumption, ?_⟩
      rotate_left
      · (intro w hSw; (try dsimp only at hSw); go_simp; try with_reducible rfl)
      try simp only [Act.put, List.setIfInBounds_toArray, List.set_cons_zero, List.set_cons_succ]
      refine call_w 5 ⟨_, by simp only [List.getElem?_toArray, List.getElem?_cons_succ, List.getElem?_cons_zero]; rfl, by kernel_rfl, ?_, ?_⟩
      · rfl
      intro K hK
      go_simp
      go_at_call 26; with_reducible (refine (CV.out _).mono ?_); rintro e wn ⟨rfl, hbn⟩
      refine hK.out _ _ ?_ (fun hHeld => ?_)
      · ((try dsimp only); (first | (with_reducible assumption) | (exact keep8 (by with_reducible assumption) (by with_reducible assumption)) | (with_reducible exact HS0.out)))
      clear hK K
      try simp only [Act.put, List.setIfInBounds_toArray, List.set_cons_zero, List.set_cons_succ]
      refine take_w 6 ⟨_, by simp only [List.getElem?_toArray, List.getElem?_cons_succ, List.getElem?_cons_zero]; rfl, by kernel_rfl, by kernel_rfl, by kernel_rfl, ?_⟩
      refine ⟨?_, fun _ _ _ h => h, Or.inl ⟨by rfl, ?_⟩, by assumption, ?_⟩
      rotate_left
      · (intro w hSw; (try dsimp only at hSw); go_simp; try with_reducible rfl)
      try simp only [Act.put, List.setIfInBounds_toArray, List.set_cons_zero, List.set_cons_succ]
      refine take_w 7 ⟨_, by simp only [List.getElem?_toArray, List.getElem?_cons_succ, List.getElem?_cons_zero]; rfl, by kernel_rfl, by kernel_rfl, by kernel_rfl, ?_⟩
      refine ⟨?_, fun _ _ _ h => h, Or.inl ⟨by rfl, ?_⟩, by assumption, ?_⟩
      rotate_left
      · (intro w hSw; (try dsimp only at hSw); go_simp; try with_reducible rfl)
      try simp only [Act.put, List.setIfInBounds_toArray, List.set_cons_zero, List.set_cons_succ]
      refine take_w 8 ⟨_, by simp only [List.getElem?_toArray, List.getElem?_cons_succ, List.getElem?_cons_zero]; rfl, by kernel_rfl, by kernel_rfl, by kernel_rfl, ?_⟩
      refine ⟨?_, fun _ _ _ h => h, Or.inl ⟨by rfl, ?_⟩, by assumption, ?_⟩
      rotate_left
      · (intro w hSw; (try dsimp only at hSw); go_simp; try with_reducible rfl)
      try simp only [Act.put, List.setIfInBounds_toArray, List.set_cons_zero, List.set_cons_succ]
      refine take_w 9 ⟨_, by simp only [List.getElem?_toArray, List.getElem?_cons_succ, List.getElem?_cons_zero]; rfl, by kernel_rfl, by kernel_rfl, by kernel_rfl, ?_⟩
      refine ⟨undef, fun _ _ _ h => h, Or.inr ⟨by rfl, rfl⟩, by assumption, ?_⟩
      try simp only [Act.put, List.setIfInBounds_toArray, List.set_cons_zero, List.set_cons_succ]
      refine take_w 10 ⟨_, by simp only [List.getElem?_toArray, List.getElem?_cons_succ, List.getElem?_cons_zero]; rfl, by kernel_rfl, by kernel_rfl, by kernel_rfl, ?_⟩
      refine ⟨undef, fun _ _ _ h => h, Or.inr ⟨by rfl, rfl⟩, by assumption, ?_⟩
      try simp only [Act.put, List.setIfInBounds_toArray, List.set_cons_zero, List.set_cons_succ]
      refine take_w 11 ⟨_, by simp only [List.getElem?_toArray, List.getElem?_cons_succ, List.getElem?_cons_zero]; rfl, by kernel_rfl, by kernel_rfl, by kernel_rfl, ?_⟩
      refine ⟨undef, fun _ _ _ h => h, Or.inr ⟨by rfl, rfl⟩, by assumption, ?_⟩
      try simp only [Act.put, List.setIfInBounds_toArray, List.set_cons_zero, List.set_cons_succ]
      refine take_w 12 ⟨_, by simp only [List.getElem?_toArray, List.getElem?_cons_succ, List.getElem?_cons_zero]; rfl, by kernel_rfl, by kernel_rfl, by kernel_rfl, ?_⟩
      refine ⟨undef, fun _ _ _ h => h, Or.inr ⟨by rfl, rfl⟩, by assumption, ?_⟩
      try simp only [Act.put, List.setIfInBounds_toArray, List.set_cons_zero, List.set_cons_succ]
      refine take_w 13 ⟨_, by simp only [List.getElem?_toArray, List.getElem?_cons_succ, List.getElem?_cons_zero]; rfl, by kernel_rfl, by kernel_rfl, by kernel_rfl, ?_⟩
      refine ⟨undef, fun _ _ _ h => h, Or.inr ⟨by rfl, rfl⟩, by assumption, ?_⟩
      try simp only [Act.put, List.setIfInBounds_toArray, List.set_cons_zero, List.set_cons_succ]
      refine take_w 14 ⟨_, by simp only [List.getElem?_toArray, List.getElem?_cons_succ, List.getElem?_cons_zero]; rfl, by kernel_rfl, by kernel_rfl, by kernel_rfl, ?_⟩
      refine ⟨undef, fun _ _ _ h => h, Or.inr ⟨by rfl, rfl⟩, by assumption, ?_⟩
      try simp only [Act.put, List.setIfInBounds_toArray, List.set_cons_zero, List.set_cons_succ]
      refine take_w 15 ⟨_, by simp only [List.getElem?_toArray, List.getElem?_cons_succ, List.getElem?_cons_zero]; rfl, by kernel_rfl, by kernel_rfl, by kernel_rfl, ?_⟩
      refine ⟨undef, fun _ _ _ h => h, Or.inr ⟨by rfl, rfl⟩, by assumption, ?_⟩
      try simp only [Act.put, List.setIfInBounds_toArray, List.set_cons_zero, List.set_cons_succ]
      refine take_w 16 ⟨_, by simp only [List.getElem?_toArray, List.getElem?_cons_succ, List.getElem?_cons_zero]; rfl, by kernel_rfl, by kernel_rfl, by kernel_rfl, ?_⟩
      refine ⟨?_, fun _ _ _ h => h, Or.inl ⟨by rfl, ?_⟩, by assumption, ?_⟩
      rotate_left
      · (intro w hSw; (try dsimp only at hSw); go_simp; try with_reducible rfl)
      try simp only [Act.put, List.setIfInBounds_toArray, List.set_cons_zero, List.set_cons_succ]
      refine take_w 17 ⟨_, by simp only [List.getElem?_toArray, List.getElem?_cons_succ, List.getElem?_cons_zero]; rfl, by kernel_rfl, by kernel_rfl, by kernel_rfl, ?_⟩
      refine ⟨?_, fun _ _ _ h => h, Or.inl ⟨by rfl, ?_⟩, by assumption, ?_⟩
      rotate_left
      · (intro w hSw; (try dsimp only at hSw); go_simp; try with_reducible rfl)
      try simp only [Act.put, List.setIfInBounds_toArray, List.set_cons_zero, List.set_cons_succ]
      refine take_w 18 ⟨_, by simp only [List.getElem?_toArray, List.getElem?_cons_succ, List.getElem?_cons_zero]; rfl, by kernel_rfl, by kernel_rfl, by kernel_rfl, ?_⟩
      refine ⟨undef, fun _ _ _ h => h, Or.inr ⟨by rfl, rfl⟩, by assumption, ?_⟩
      try simp only [Act.put, List.setIfInBounds_toArray, List.set_cons_zero, List.set_cons_succ]
      refine take_w 19 ⟨_, by simp only [List.getElem?_toArray, List.getElem?_cons_succ, List.getElem?_cons_zero]; rfl, by kernel_rfl, by kernel_rfl, by kernel_rfl, ?_⟩
      refine ⟨undef, fun _ _ _ h => h, Or.inr ⟨by rfl, rfl⟩, by assumption, ?_⟩
      try simp only [Act.put, List.setIfInBounds_toArray, List.set_cons_zero, List.set_cons_succ]
      refine take_w 20 ⟨_, by simp only [List.getElem?_toArray, List.getElem?_cons_succ, List.getElem?_cons_zero]; rfl, by kernel_rfl, by kernel_rfl, by kernel_rfl, ?_⟩
      refine ⟨undef, fun _ _ _ h => h, Or.inr ⟨by rfl, rfl⟩, by assumption, ?_⟩
      try simp only [Act.put, List.setIfInBounds_toArray, List.set_cons_zero, List.set_cons_succ]
      refine take_w 21 ⟨_, by simp only [List.getElem?_toArray, List.getElem?_cons_succ, List.getElem?_cons_zero]; rfl, by kernel_rfl, by kernel_rfl, by kernel_rfl, ?_⟩
      refine ⟨undef, fun _ _ _ h => h, Or.inr ⟨by rfl, rfl⟩, by assumption, ?_⟩
      try simp only [Act.put, List.setIfInBounds_toArray, List.set_cons_zero, List.set_cons_succ]
      refine take_w 22 ⟨_, by simp only [List.getElem?_toArray, List.getElem?_cons_succ, List.getElem?_cons_zero]; rfl, by kernel_rfl, by kernel_rfl, by kernel_rfl, ?_⟩
      refine ⟨undef, fun _ _ _ h => h, Or.inr ⟨by rfl, rfl⟩, by assumption, ?_⟩
      try simp only [Act.put, List.setIfInBounds_toArray, List.set_cons_zero, List.set_cons_succ]
      refine take_w 23 ⟨_, by simp only [List.getElem?_toArray, List.getElem?_cons_succ, List.getElem?_cons_zero]; rfl, by kernel_rfl, by kernel_rfl, by kernel_rfl, ?_⟩
      refine ⟨undef, fun _ _ _ h => h, Or.inr ⟨by rfl, rfl⟩, by assumption, ?_⟩
      try simp only [Act.put, List.setIfInBounds_toArray, List.set_cons_zero, List.set_cons_succ]
      refine take_w 24 ⟨_, by simp only [List.getElem?_toArray, List.getElem?_cons_succ, List.getElem?_cons_zero]; rfl, by kernel_rfl, by kernel_rfl, by kernel_rfl, ?_⟩
      refine ⟨undef, fun _ _ _ h => h, Or.inr ⟨by rfl, rfl⟩, by assumption, ?_⟩
      try simp only [Act.put, List.setIfInBounds_toArray, List.set_cons_zero, List.set_cons_succ]
      refine take_w 25 ⟨_, by simp only [List.getElem?_toArray, List.getElem?_cons_succ, List.getElem?_cons_zero]; rfl, by kernel_rfl, by kernel_rfl, by kernel_rfl, ?_⟩
      refine ⟨undef, fun _ _ _ h => h, Or.inr ⟨by rfl, rfl⟩, by assumption, ?_⟩
      try simp only [Act.put, List.setIfInBounds_toArray, List.set_cons_zero, List.set_cons_succ]
      refine take_w 26 ⟨_, by simp only [List.getElem?_toArray, List.getElem?_cons_succ, List.getElem?_cons_zero]; rfl, by kernel_rfl, by kernel_rfl, by kernel_rfl, ?_⟩
      refine ⟨?_, fun _ _ _ h => h, Or.inl ⟨by rfl, ?_⟩, by assumption, ?_⟩
      rotate_left
      · (intro w hSw; (try dsimp only at hSw); go_simp; try with_reducible rfl)
      try simp only [Act.put, List.setIfInBounds_toArray, List.set_cons_zero, List.set_cons_succ]
      refine wpAnyH_done (by kernel_rfl) ?_ _
      go_wp2_with fail
      go_meet
      exact ⟨rfl, Lib.hid (last9 (by with_reducible assumption))⟩
    | true =>
      by_cases hp : partner = sp
      · have hpb : (partner != sp) = false := by rw [hp]; simp
        by_cases hk3 : kind = 3
        · obtain rfl : true = R := by rw [← HR.out]; unfold recOk; rw [HV.out, HSP.out]; simp [hp, hk3]
          have hkb : (kind != 3) = false := by rw [hk3]; rfl
          clear hp hk3
          refine wp_region_held_drew (S := (fun w' => w'.cell? ⟨b, 0, none⟩ = some (.int .i64 sp) ∧ w'.cell? ⟨K, 0, none⟩ = some (.int .i64 kind) ∧ w'.cell? ⟨K, 1, none⟩ = some (.int .i64 partner) ∧ w'.cell? ⟨K, 2, none⟩ = some (.int .i64 seq) ∧ w'.cell? ⟨K, 3, none⟩ = some (.int .i64 story) ∧ w'.cell? ⟨K, 4, none⟩ = some (.int .i64 base) ∧ w'.cell? ⟨K, 5, none⟩ = some (.int .i64 version) ∧ w'.cell? ⟨K, 6, none⟩ = some (.string ⟨data.toArray⟩) ∧ Below w1.heap.size w1 w')) (by kernel_rfl) ?_ (fun hHeld => ?_)
          · ((try dsimp only); (first | (with_reducible assumption) | (exact keep8 (by with_reducible assumption) (by with_reducible assumption)) | (with_reducible exact HS0.out)))
          refine take_w 0 ⟨_, by simp only [List.getElem?_toArray, List.getElem?_cons_zero]; rfl, by kernel_rfl, by kernel_rfl, by kernel_rfl, ?_⟩
          refine ⟨?_, fun _ _ _ h => h, Or.inl ⟨by rfl, ?_⟩, by assumption, ?_⟩
          rotate_left
          · (intro w hSw; (try dsimp only at hSw); go_simp; try with_reducible rfl)
          try simp only [Act.put, List.setIfInBounds_toArray, List.set_cons_zero, List.set_cons_succ]
          refine call_w 1 ⟨_, by simp only [List.getElem?_toArray, List.getElem?_cons_succ, List.getElem?_cons_zero]; rfl, by kernel_rfl, ?_, ?_⟩
          · rfl
          intro K hK
          go_simp
          go_at_call 25; with_reducible (refine (CM.out _ (last9 (by with_reducible assumption))).mono ?_); rintro e wm ⟨rfl, rfl⟩
          refine hK.out _ _ ?_ (fun hHeld => ?_)
          · ((try dsimp only); (first | (with_reducible assumption) | (exact keep8 (by with_reducible assumption) (by with_reducible assumption)) | (with_reducible exact HS0.out)))
          clear hK K
          try simp only [Act.put, List.setIfInBounds_toArray, List.set_cons_zero, List.set_cons_succ]
          refine take_w 2 ⟨_, by simp only [List.getElem?_toArray, List.getElem?_cons_succ, List.getElem?_cons_zero]; rfl, by kernel_rfl, by kernel_rfl, by kernel_rfl, ?_⟩
          refine ⟨?_, fun _ _ _ h => h, Or.inl ⟨by rfl, ?_⟩, by assumption, ?_⟩
          rotate_left
          · (intro w hSw; (try dsimp only at hSw); go_simp; try with_reducible rfl)
          try simp only [Act.put, List.setIfInBounds_toArray, List.set_cons_zero, List.set_cons_succ]
          refine take_w 3 ⟨_, by simp only [List.getElem?_toArray, List.getElem?_cons_succ, List.getElem?_cons_zero]; rfl, by kernel_rfl, by kernel_rfl, by kernel_rfl, ?_⟩
          refine ⟨?_, fun _ _ _ h => h, Or.inl ⟨by rfl, ?_⟩, by assumption, ?_⟩
          rotate_left
          · (intro w hSw; (try dsimp only at hSw); go_simp; try with_reducible rfl)
          try simp only [Act.put, List.setIfInBounds_toArray, List.set_cons_zero, List.set_cons_succ]
          refine take_w 4 ⟨_, by simp only [List.getElem?_toArray, List.getElem?_cons_succ, List.getElem?_cons_zero]; rfl, by kernel_rfl, by kernel_rfl, by kernel_rfl, ?_⟩
          refine ⟨?_, fun _ _ _ h => h, Or.inl ⟨by rfl, ?_⟩, by assumption, ?_⟩
          rotate_left
          · (intro w hSw; (try dsimp only at hSw); go_simp; try with_reducible rfl)
          try simp only [Act.put, List.setIfInBounds_toArray, List.set_cons_zero, List.set_cons_succ]
          refine call_w 5 ⟨_, by simp only [List.getElem?_toArray, List.getElem?_cons_succ, List.getElem?_cons_zero]; rfl, by kernel_rfl, ?_, ?_⟩
          · rfl
          intro K hK
          go_simp
          go_at_call 26; with_reducible (refine (CV.out _).mono ?_); rintro e wn ⟨rfl, hbn⟩
          refine hK.out _ _ ?_ (fun hHeld => ?_)
          · ((try dsimp only); (first | (with_reducible assumption) | (exact keep8 (by with_reducible assumption) (by with_reducible assumption)) | (with_reducible exact HS0.out)))
          clear hK K
          try simp only [Act.put, List.setIfInBounds_toArray, List.set_cons_zero, List.set_cons_succ]
          refine take_w 6 ⟨_, by simp only [List.getElem?_toArray, List.getElem?_cons_succ, List.getElem?_cons_zero]; rfl, by kernel_rfl, by kernel_rfl, by kernel_rfl, ?_⟩
          refine ⟨?_, fun _ _ _ h => h, Or.inl ⟨by rfl, ?_⟩, by assumption, ?_⟩
          rotate_left
          · (intro w hSw; (try dsimp only at hSw); go_simp; try with_reducible rfl)
          try simp only [Act.put, List.setIfInBounds_toArray, List.set_cons_zero, List.set_cons_succ]
          refine take_w 7 ⟨_, by simp only [List.getElem?_toArray, List.getElem?_cons_succ, List.getElem?_cons_zero]; rfl, by kernel_rfl, by kernel_rfl, by kernel_rfl, ?_⟩
          refine ⟨?_, fun _ _ _ h => h, Or.inl ⟨by rfl, ?_⟩, by assumption, ?_⟩
          rotate_left
          · (intro w hSw; (try dsimp only at hSw); go_simp; try with_reducible rfl)
          try simp only [Act.put, List.setIfInBounds_toArray, List.set_cons_zero, List.set_cons_succ]
          refine take_w 8 ⟨_, by simp only [List.getElem?_toArray, List.getElem?_cons_succ, List.getElem?_cons_zero]; rfl, by kernel_rfl, by kernel_rfl, by kernel_rfl, ?_⟩
          refine ⟨?_, fun _ _ _ h => h, Or.inl ⟨by rfl, ?_⟩, by assumption, ?_⟩
          rotate_left
          · (intro w hSw; (try dsimp only at hSw); go_simp; try with_reducible rfl)
          try simp only [Act.put, List.setIfInBounds_toArray, List.set_cons_zero, List.set_cons_succ]
          refine take_w 9 ⟨_, by simp only [List.getElem?_toArray, List.getElem?_cons_succ, List.getElem?_cons_zero]; rfl, by kernel_rfl, by kernel_rfl, by kernel_rfl, ?_⟩
          refine ⟨?_, fun _ _ _ h => h, Or.inl ⟨by rfl, ?_⟩, by assumption, ?_⟩
          rotate_left
          · (intro w hSw; (try dsimp only at hSw); go_simp; try with_reducible rfl)
          try simp only [Act.put, List.setIfInBounds_toArray, List.set_cons_zero, List.set_cons_succ]
          refine take_w 10 ⟨_, by simp only [List.getElem?_toArray, List.getElem?_cons_succ, List.getElem?_cons_zero]; rfl, by kernel_rfl, by kernel_rfl, by kernel_rfl, ?_⟩
          refine ⟨?_, fun _ _ _ h => h, Or.inl ⟨by rfl, ?_⟩, by assumption, ?_⟩
          rotate_left
          · (intro w hSw; (try dsimp only at hSw); go_simp; try with_reducible rfl)
          try simp only [Act.put, List.setIfInBounds_toArray, List.set_cons_zero, List.set_cons_succ]
          refine take_w 11 ⟨_, by simp only [List.getElem?_toArray, List.getElem?_cons_succ, List.getElem?_cons_zero]; rfl, by kernel_rfl, by kernel_rfl, by kernel_rfl, ?_⟩
          refine ⟨?_, fun _ _ _ h => h, Or.inl ⟨by rfl, ?_⟩, by assumption, ?_⟩
          rotate_left
          · (intro w hSw; (try dsimp only at hSw); go_simp; try with_reducible rfl)
          try simp only [Act.put, List.setIfInBounds_toArray, List.set_cons_zero, List.set_cons_succ]
          refine take_w 12 ⟨_, by simp only [List.getElem?_toArray, List.getElem?_cons_succ, List.getElem?_cons_zero]; rfl, by kernel_rfl, by kernel_rfl, by kernel_rfl, ?_⟩
          refine ⟨?_, fun _ _ _ h => h, Or.inl ⟨by rfl, ?_⟩, by assumption, ?_⟩
          rotate_left
          · (intro w hSw; (try dsimp only at hSw); go_simp; try with_reducible rfl)
          try simp only [Act.put, List.setIfInBounds_toArray, List.set_cons_zero, List.set_cons_succ]
          refine take_w 13 ⟨_, by simp only [List.getElem?_toArray, List.getElem?_cons_succ, List.getElem?_cons_zero]; rfl, by kernel_rfl, by kernel_rfl, by kernel_rfl, ?_⟩
          refine ⟨?_, fun _ _ _ h => h, Or.inl ⟨by rfl, ?_⟩, by assumption, ?_⟩
          rotate_left
          · (intro w hSw; (try dsimp only at hSw); go_simp; try with_reducible rfl)
          try simp only [Act.put, List.setIfInBounds_toArray, List.set_cons_zero, List.set_cons_succ]
          refine take_w 14 ⟨_, by simp only [List.getElem?_toArray, List.getElem?_cons_succ, List.getElem?_cons_zero]; rfl, by kernel_rfl, by kernel_rfl, by kernel_rfl, ?_⟩
          refine ⟨?_, fun _ _ _ h => h, Or.inl ⟨by rfl, ?_⟩, by assumption, ?_⟩
          rotate_left
          · (intro w hSw; (try dsimp only at hSw); go_simp; try with_reducible rfl)
          try simp only [Act.put, List.setIfInBounds_toArray, List.set_cons_zero, List.set_cons_succ]
          refine take_w 15 ⟨_, by simp only [List.getElem?_toArray, List.getElem?_cons_succ, List.getElem?_cons_zero]; rfl, by kernel_rfl, by kernel_rfl, by kernel_rfl, ?_⟩
          refine ⟨?_, fun _ _ _ h => h, Or.inl ⟨by rfl, ?_⟩, by assumption, ?_⟩
          rotate_left
          · (intro w hSw; (try dsimp only at hSw); go_simp; try with_reducible rfl)
          try simp only [Act.put, List.setIfInBounds_toArray, List.set_cons_zero, List.set_cons_succ]
          refine take_w 16 ⟨_, by simp only [List.getElem?_toArray, List.getElem?_cons_succ, List.getElem?_cons_zero]; rfl, by kernel_rfl, by kernel_rfl, by kernel_rfl, ?_⟩
          refine ⟨?_, fun _ _ _ h => h, Or.inl ⟨by rfl, ?_⟩, by assumption, ?_⟩
          rotate_left
          · (intro w hSw; (try dsimp only at hSw); go_simp; try with_reducible rfl)
          try simp only [Act.put, List.setIfInBounds_toArray, List.set_cons_zero, List.set_cons_succ]
          refine take_w 17 ⟨_, by simp only [List.getElem?_toArray, List.getElem?_cons_succ, List.getElem?_cons_zero]; rfl, by kernel_rfl, by kernel_rfl, by kernel_rfl, ?_⟩
          refine ⟨?_, fun _ _ _ h => h, Or.inl ⟨by rfl, ?_⟩, by assumption, ?_⟩
          rotate_left
          · (intro w hSw; (try dsimp only at hSw); go_simp; try with_reducible rfl)
          try simp only [Act.put, List.setIfInBounds_toArray, List.set_cons_zero, List.set_cons_succ]
          refine take_w 18 ⟨_, by simp only [List.getElem?_toArray, List.getElem?_cons_succ, List.getElem?_cons_zero]; rfl, by kernel_rfl, by kernel_rfl, by kernel_rfl, ?_⟩
          refine ⟨?_, fun _ _ _ h => h, Or.inl ⟨by rfl, ?_⟩, by assumption, ?_⟩
          rotate_left
          · (intro w hSw; (try dsimp only at hSw); go_simp; try with_reducible rfl)
          try simp only [Act.put, List.setIfInBounds_toArray, List.set_cons_zero, List.set_cons_succ]
          refine take_w 19 ⟨_, by simp only [List.getElem?_toArray, List.getElem?_cons_succ, List.getElem?_cons_zero]; rfl, by kernel_rfl, by kernel_rfl, by kernel_rfl, ?_⟩
          refine ⟨?_, fun _ _ _ h => h, Or.inl ⟨by rfl, ?_⟩, by assumption, ?_⟩
          rotate_left
          · (intro w hSw; (try dsimp only at hSw); go_simp; try with_reducible rfl)
          try simp only [Act.put, List.setIfInBounds_toArray, List.set_cons_zero, List.set_cons_succ]
          refine take_w 20 ⟨_, by simp only [List.getElem?_toArray, List.getElem?_cons_succ, List.getElem?_cons_zero]; rfl, by kernel_rfl, by kernel_rfl, by kernel_rfl, ?_⟩
          refine ⟨?_, fun _ _ _ h => h, Or.inl ⟨by rfl, ?_⟩, by assumption, ?_⟩
          rotate_left
          · (intro w hSw; (try dsimp only at hSw); go_simp; try with_reducible rfl)
          try simp only [Act.put, List.setIfInBounds_toArray, List.set_cons_zero, List.set_cons_succ]
          refine take_w 21 ⟨_, by simp only [List.getElem?_toArray, List.getElem?_cons_succ, List.getElem?_cons_zero]; rfl, by kernel_rfl, by kernel_rfl, by kernel_rfl, ?_⟩
          refine ⟨?_, fun _ _ _ h => h, Or.inl ⟨by rfl, ?_⟩, by assumption, ?_⟩
          rotate_left
          · (intro w hSw; (try dsimp only at hSw); go_simp; try with_reducible rfl)
          try simp only [Act.put, List.setIfInBounds_toArray, List.set_cons_zero, List.set_cons_succ]
          refine take_w 22 ⟨_, by simp only [List.getElem?_toArray, List.getElem?_cons_succ, List.getElem?_cons_zero]; rfl, by kernel_rfl, by kernel_rfl, by kernel_rfl, ?_⟩
          refine ⟨undef, fun _ _ _ h => h, Or.inr ⟨by rfl, rfl⟩, by assumption, ?_⟩
          try simp only [Act.put, List.setIfInBounds_toArray, List.set_cons_zero, List.set_cons_succ]
          refine take_w 23 ⟨_, by simp only [List.getElem?_toArray, List.getElem?_cons_succ, List.getElem?_cons_zero]; rfl, by kernel_rfl, by kernel_rfl, by kernel_rfl, ?_⟩
          refine ⟨undef, fun _ _ _ h => h, Or.inr ⟨by rfl, rfl⟩, by assumption, ?_⟩
          try simp only [Act.put, List.setIfInBounds_toArray, List.set_cons_zero, List.set_cons_succ]
          refine take_w 24 ⟨_, by simp only [List.getElem?_toArray, List.getElem?_cons_succ, List.getElem?_cons_zero]; rfl, by kernel_rfl, by kernel_rfl, by kernel_rfl, ?_⟩
          refine ⟨undef, fun _ _ _ h => h, Or.inr ⟨by rfl, rfl⟩, by assumption, ?_⟩
          try simp only [Act.put, List.setIfInBounds_toArray, List.set_cons_zero, List.set_cons_succ]
          refine take_w 25 ⟨_, by simp only [List.getElem?_toArray, List.getElem?_cons_succ, List.getElem?_cons_zero]; rfl, by kernel_rfl, by kernel_rfl, by kernel_rfl, ?_⟩
          refine ⟨?_, fun _ _ _ h => h, Or.inl ⟨by rfl, ?_⟩, by assumption, ?_⟩
          rotate_left
          · (intro w hSw; (try dsimp only at hSw); go_simp; try with_reducible rfl)
          try simp only [Act.put, List.setIfInBounds_toArray, List.set_cons_zero, List.set_cons_succ]
          refine take_w 26 ⟨_, by simp only [List.getElem?_toArray, List.getElem?_cons_succ, List.getElem?_cons_zero]; rfl, by kernel_rfl, by kernel_rfl, by kernel_rfl, ?_⟩
          refine ⟨?_, fun _ _ _ h => h, Or.inl ⟨by rfl, ?_⟩, by assumption, ?_⟩
          rotate_left
          · (intro w hSw; (try dsimp only at hSw); go_simp; try with_reducible rfl)
          try simp only [Act.put, List.setIfInBounds_toArray, List.set_cons_zero, List.set_cons_succ]
          refine wpAnyH_done (by kernel_rfl) ?_ _
          go_wp2_with fail
          go_meet
          exact ⟨rfl, Lib.hid (last9 (by with_reducible assumption))⟩
        · have hkb : (kind != 3) = true := by rw [bne_iff_ne]; exact hk3
          by_cases hk4 : kind = 4
          · obtain rfl : true = R := by rw [← HR.out]; unfold recOk; rw [HV.out, HSP.out]; simp [hp, hk4]
            have hkb4 : (kind != 4) = false := by rw [hk4]; rfl
            clear hp hk3 hk4
            refine wp_region_held_drew (S := (fun w' => w'.cell? ⟨b, 0, none⟩ = some (.int .i64 sp) ∧ w'.cell? ⟨K, 0, none⟩ = some (.int .i64 kind) ∧ w'.cell? ⟨K, 1, none⟩ = some (.int .i64 partner) ∧ w'.cell? ⟨K, 2, none⟩ = some (.int .i64 seq) ∧ w'.cell? ⟨K, 3, none⟩ = some (.int .i64 story) ∧ w'.cell? ⟨K, 4, none⟩ = some (.int .i64 base) ∧ w'.cell? ⟨K, 5, none⟩ = some (.int .i64 version) ∧ w'.cell? ⟨K, 6, none⟩ = some (.string ⟨data.toArray⟩) ∧ Below w1.heap.size w1 w')) (by kernel_rfl) ?_ (fun hHeld => ?_)
            · ((try dsimp only); (first | (with_reducible assumption) | (exact keep8 (by with_reducible assumption) (by with_reducible assumption)) | (with_reducible exact HS0.out)))
            refine take_w 0 ⟨_, by simp only [List.getElem?_toArray, List.getElem?_cons_zero]; rfl, by kernel_rfl, by kernel_rfl, by kernel_rfl, ?_⟩
            refine ⟨?_, fun _ _ _ h => h, Or.inl ⟨by rfl, ?_⟩, by assumption, ?_⟩
            rotate_left
            · (intro w hSw; (try dsimp only at hSw); go_simp; try with_reducible rfl)
            try simp only [Act.put, List.setIfInBounds_toArray, List.set_cons_zero, List.set_cons_succ]
            refine call_w 1 ⟨_, by simp only [List.getElem?_toArray, List.getElem?_cons_succ, List.getElem?_cons_zero]; rfl, by kernel_rfl, ?_, ?_⟩
            · rfl
            intro K hK
            go_simp
            go_at_call 25; with_reducible (refine (CM.out _ (last9 (by with_reducible assumption))).mono ?_); rintro e wm ⟨rfl, rfl⟩
            refine hK.out _ _ ?_ (fun hHeld => ?_)
            · ((try dsimp only); (first | (with_reducible assumption) | (exact keep8 (by with_reducible assumption) (by with_reducible assumption)) | (with_reducible exact HS0.out)))
            clear hK K
            try simp only [Act.put, List.setIfInBounds_toArray, List.set_cons_zero, List.set_cons_succ]
            refine take_w 2 ⟨_, by simp only [List.getElem?_toArray, List.getElem?_cons_succ, List.getElem?_cons_zero]; rfl, by kernel_rfl, by kernel_rfl, by kernel_rfl, ?_⟩
            refine ⟨?_, fun _ _ _ h => h, Or.inl ⟨by rfl, ?_⟩, by assumption, ?_⟩
            rotate_left
            · (intro w hSw; (try dsimp only at hSw); go_simp; try with_reducible rfl)
            try simp only [Act.put, List.setIfInBounds_toArray, List.set_cons_zero, List.set_cons_succ]
            refine take_w 3 ⟨_, by simp only [List.getElem?_toArray, List.getElem?_cons_succ, List.getElem?_cons_zero]; rfl, by kernel_rfl, by kernel_rfl, by kernel_rfl, ?_⟩
            refine ⟨?_, fun _ _ _ h => h, Or.inl ⟨by rfl, ?_⟩, by assumption, ?_⟩
            rotate_left
            · (intro w hSw; (try dsimp only at hSw); go_simp; try with_reducible rfl)
            try simp only [Act.put, List.setIfInBounds_toArray, List.set_cons_zero, List.set_cons_succ]
            refine take_w 4 ⟨_, by simp only [List.getElem?_toArray, List.getElem?_cons_succ, List.getElem?_cons_zero]; rfl, by kernel_rfl, by kernel_rfl, by kernel_rfl, ?_⟩
            refine ⟨?_, fun _ _ _ h => h, Or.inl ⟨by rfl, ?_⟩, by assumption, ?_⟩
            rotate_left
            · (intro w hSw; (try dsimp only at hSw); go_simp; try with_reducible rfl)
            try simp only [Act.put, List.setIfInBounds_toArray, List.set_cons_zero, List.set_cons_succ]
            refine call_w 5 ⟨_, by simp only [List.getElem?_toArray, List.getElem?_cons_succ, List.getElem?_cons_zero]; rfl, by kernel_rfl, ?_, ?_⟩
            · rfl
            intro K hK
            go_simp
            go_at_call 26; with_reducible (refine (CV.out _).mono ?_); rintro e wn ⟨rfl, hbn⟩
            refine hK.out _ _ ?_ (fun hHeld => ?_)
            · ((try dsimp only); (first | (with_reducible assumption) | (exact keep8 (by with_reducible assumption) (by with_reducible assumption)) | (with_reducible exact HS0.out)))
            clear hK K
            try simp only [Act.put, List.setIfInBounds_toArray, List.set_cons_zero, List.set_cons_succ]
            refine take_w 6 ⟨_, by simp only [List.getElem?_toArray, List.getElem?_cons_succ, List.getElem?_cons_zero]; rfl, by kernel_rfl, by kernel_rfl, by kernel_rfl, ?_⟩
            refine ⟨?_, fun _ _ _ h => h, Or.inl ⟨by rfl, ?_⟩, by assumption, ?_⟩
            rotate_left
            · (intro w hSw; (try dsimp only at hSw); go_simp; try with_reducible rfl)
            try simp only [Act.put, List.setIfInBounds_toArray, List.set_cons_zero, List.set_cons_succ]
            refine take_w 7 ⟨_, by simp only [List.getElem?_toArray, List.getElem?_cons_succ, List.getElem?_cons_zero]; rfl, by kernel_rfl, by kernel_rfl, by kernel_rfl, ?_⟩
            refine ⟨?_, fun _ _ _ h => h, Or.inl ⟨by rfl, ?_⟩, by assumption, ?_⟩
            rotate_left
            · (intro w hSw; (try dsimp only at hSw); go_simp; try with_reducible rfl)
            try simp only [Act.put, List.setIfInBounds_toArray, List.set_cons_zero, List.set_cons_succ]
            refine take_w 8 ⟨_, by simp only [List.getElem?_toArray, List.getElem?_cons_succ, List.getElem?_cons_zero]; rfl, by kernel_rfl, by kernel_rfl, by kernel_rfl, ?_⟩
            refine ⟨?_, fun _ _ _ h => h, Or.inl ⟨by rfl, ?_⟩, by assumption, ?_⟩
            rotate_left
            · (intro w hSw; (try dsimp only at hSw); go_simp; try with_reducible rfl)
            try simp only [Act.put, List.setIfInBounds_toArray, List.set_cons_zero, List.set_cons_succ]
            refine take_w 9 ⟨_, by simp only [List.getElem?_toArray, List.getElem?_cons_succ, List.getElem?_cons_zero]; rfl, by kernel_rfl, by kernel_rfl, by kernel_rfl, ?_⟩
            refine ⟨?_, fun _ _ _ h => h, Or.inl ⟨by rfl, ?_⟩, by assumption, ?_⟩
            rotate_left
            · (intro w hSw; (try dsimp only at hSw); go_simp; try with_reducible rfl)
            try simp only [Act.put, List.setIfInBounds_toArray, List.set_cons_zero, List.set_cons_succ]
            refine take_w 10 ⟨_, by simp only [List.getElem?_toArray, List.getElem?_cons_succ, List.getElem?_cons_zero]; rfl, by kernel_rfl, by kernel_rfl, by kernel_rfl, ?_⟩
            refine ⟨?_, fun _ _ _ h => h, Or.inl ⟨by rfl, ?_⟩, by assumption, ?_⟩
            rotate_left
            · (intro w hSw; (try dsimp only at hSw); go_simp; try with_reducible rfl)
            try simp only [Act.put, List.setIfInBounds_toArray, List.set_cons_zero, List.set_cons_succ]
            refine take_w 11 ⟨_, by simp only [List.getElem?_toArray, List.getElem?_cons_succ, List.getElem?_cons_zero]; rfl, by kernel_rfl, by kernel_rfl, by kernel_rfl, ?_⟩
            refine ⟨?_, fun _ _ _ h => h, Or.inl ⟨by rfl, ?_⟩, by assumption, ?_⟩
            rotate_left
            · (intro w hSw; (try dsimp only at hSw); go_simp; try with_reducible rfl)
            try simp only [Act.put, List.setIfInBounds_toArray, List.set_cons_zero, List.set_cons_succ]
            refine take_w 12 ⟨_, by simp only [List.getElem?_toArray, List.getElem?_cons_succ, List.getElem?_cons_zero]; rfl, by kernel_rfl, by kernel_rfl, by kernel_rfl, ?_⟩
            refine ⟨?_, fun _ _ _ h => h, Or.inl ⟨by rfl, ?_⟩, by assumption, ?_⟩
            rotate_left
            · (intro w hSw; (try dsimp only at hSw); go_simp; try with_reducible rfl)
            try simp only [Act.put, List.setIfInBounds_toArray, List.set_cons_zero, List.set_cons_succ]
            refine take_w 13 ⟨_, by simp only [List.getElem?_toArray, List.getElem?_cons_succ, List.getElem?_cons_zero]; rfl, by kernel_rfl, by kernel_rfl, by kernel_rfl, ?_⟩
            refine ⟨?_, fun _ _ _ h => h, Or.inl ⟨by rfl, ?_⟩, by assumption, ?_⟩
            rotate_left
            · (intro w hSw; (try dsimp only at hSw); go_simp; try with_reducible rfl)
            try simp only [Act.put, List.setIfInBounds_toArray, List.set_cons_zero, List.set_cons_succ]
            refine take_w 14 ⟨_, by simp only [List.getElem?_toArray, List.getElem?_cons_succ, List.getElem?_cons_zero]; rfl, by kernel_rfl, by kernel_rfl, by kernel_rfl, ?_⟩
            refine ⟨?_, fun _ _ _ h => h, Or.inl ⟨by rfl, ?_⟩, by assumption, ?_⟩
            rotate_left
            · (intro w hSw; (try dsimp only at hSw); go_simp; try with_reducible rfl)
            try simp only [Act.put, List.setIfInBounds_toArray, List.set_cons_zero, List.set_cons_succ]
            refine take_w 15 ⟨_, by simp only [List.getElem?_toArray, List.getElem?_cons_succ, List.getElem?_cons_zero]; rfl, by kernel_rfl, by kernel_rfl, by kernel_rfl, ?_⟩
            refine ⟨?_, fun _ _ _ h => h, Or.inl ⟨by rfl, ?_⟩, by assumption, ?_⟩
            rotate_left
            · (intro w hSw; (try dsimp only at hSw); go_simp; try with_reducible rfl)
            try simp only [Act.put, List.setIfInBounds_toArray, List.set_cons_zero, List.set_cons_succ]
            refine take_w 16 ⟨_, by simp only [List.getElem?_toArray, List.getElem?_cons_succ, List.getElem?_cons_zero]; rfl, by kernel_rfl, by kernel_rfl, by kernel_rfl, ?_⟩
            refine ⟨?_, fun _ _ _ h => h, Or.inl ⟨by rfl, ?_⟩, by assumption, ?_⟩
            rotate_left
            · (intro w hSw; (try dsimp only at hSw); go_simp; try with_reducible rfl)
            try simp only [Act.put, List.setIfInBounds_toArray, List.set_cons_zero, List.set_cons_succ]
            refine take_w 17 ⟨_, by simp only [List.getElem?_toArray, List.getElem?_cons_succ, List.getElem?_cons_zero]; rfl, by kernel_rfl, by kernel_rfl, by kernel_rfl, ?_⟩
            refine ⟨?_, fun _ _ _ h => h, Or.inl ⟨by rfl, ?_⟩, by assumption, ?_⟩
            rotate_left
            · (intro w hSw; (try dsimp only at hSw); go_simp; try with_reducible rfl)
            try simp only [Act.put, List.setIfInBounds_toArray, List.set_cons_zero, List.set_cons_succ]
            refine take_w 18 ⟨_, by simp only [List.getElem?_toArray, List.getElem?_cons_succ, List.getElem?_cons_zero]; rfl, by kernel_rfl, by kernel_rfl, by kernel_rfl, ?_⟩
            refine ⟨?_, fun _ _ _ h => h, Or.inl ⟨by rfl, ?_⟩, by assumption, ?_⟩
            rotate_left
            · (intro w hSw; (try dsimp only at hSw); go_simp; try with_reducible rfl)
            try simp only [Act.put, List.setIfInBounds_toArray, List.set_cons_zero, List.set_cons_succ]
            refine take_w 19 ⟨_, by simp only [List.getElem?_toArray, List.getElem?_cons_succ, List.getElem?_cons_zero]; rfl, by kernel_rfl, by kernel_rfl, by kernel_rfl, ?_⟩
            refine ⟨?_, fun _ _ _ h => h, Or.inl ⟨by rfl, ?_⟩, by assumption, ?_⟩
            rotate_left
            · (intro w hSw; (try dsimp only at hSw); go_simp; try with_reducible rfl)
            try simp only [Act.put, List.setIfInBounds_toArray, List.set_cons_zero, List.set_cons_succ]
            refine take_w 20 ⟨_, by simp only [List.getElem?_toArray, List.getElem?_cons_succ, List.getElem?_cons_zero]; rfl, by kernel_rfl, by kernel_rfl, by kernel_rfl, ?_⟩
            refine ⟨?_, fun _ _ _ h => h, Or.inl ⟨by rfl, ?_⟩, by assumption, ?_⟩
            rotate_left
            · (intro w hSw; (try dsimp only at hSw); go_simp; try with_reducible rfl)
            try simp only [Act.put, List.setIfInBounds_toArray, List.set_cons_zero, List.set_cons_succ]
            refine take_w 21 ⟨_, by simp only [List.getElem?_toArray, List.getElem?_cons_succ, List.getElem?_cons_zero]; rfl, by kernel_rfl, by kernel_rfl, by kernel_rfl, ?_⟩
            refine ⟨?_, fun _ _ _ h => h, Or.inl ⟨by rfl, ?_⟩, by assumption, ?_⟩
            rotate_left
            · (intro w hSw; (try dsimp only at hSw); go_simp; try with_reducible rfl)
            try simp only [Act.put, List.setIfInBounds_toArray, List.set_cons_zero, List.set_cons_succ]
            refine take_w 22 ⟨_, by simp only [List.getElem?_toArray, List.getElem?_cons_succ, List.getElem?_cons_zero]; rfl, by kernel_rfl, by kernel_rfl, by kernel_rfl, ?_⟩
            refine ⟨?_, fun _ _ _ h => h, Or.inl ⟨by rfl, ?_⟩, by assumption, ?_⟩
            rotate_left
            · (intro w hSw; (try dsimp only at hSw); go_simp; try with_reducible rfl)
            try simp only [Act.put, List.setIfInBounds_toArray, List.set_cons_zero, List.set_cons_succ]
            refine take_w 23 ⟨_, by simp only [List.getElem?_toArray, List.getElem?_cons_succ, List.getElem?_cons_zero]; rfl, by kernel_rfl, by kernel_rfl, by kernel_rfl, ?_⟩
            refine ⟨?_, fun _ _ _ h => h, Or.inl ⟨by rfl, ?_⟩, by assumption, ?_⟩
            rotate_left
            · (intro w hSw; (try dsimp only at hSw); go_simp; try with_reducible rfl)
            try simp only [Act.put, List.setIfInBounds_toArray, List.set_cons_zero, List.set_cons_succ]
            refine take_w 24 ⟨_, by simp only [List.getElem?_toArray, List.getElem?_cons_succ, List.getElem?_cons_zero]; rfl, by kernel_rfl, by kernel_rfl, by kernel_rfl, ?_⟩
            refine ⟨?_, fun _ _ _ h => h, Or.inl ⟨by rfl, ?_⟩, by assumption, ?_⟩
            rotate_left
            · (intro w hSw; (try dsimp only at hSw); go_simp; try with_reducible rfl)
            try simp only [Act.put, List.setIfInBounds_toArray, List.set_cons_zero, List.set_cons_succ]
            refine take_w 25 ⟨_, by simp only [List.getElem?_toArray, List.getElem?_cons_succ, List.getElem?_cons_zero]; rfl, by kernel_rfl, by kernel_rfl, by kernel_rfl, ?_⟩
            refine ⟨?_, fun _ _ _ h => h, Or.inl ⟨by rfl, ?_⟩, by assumption, ?_⟩
            rotate_left
            · (intro w hSw; (try dsimp only at hSw); go_simp; try with_reducible rfl)
            try simp only [Act.put, List.setIfInBounds_toArray, List.set_cons_zero, List.set_cons_succ]
            refine take_w 26 ⟨_, by simp only [List.getElem?_toArray, List.getElem?_cons_succ, List.getElem?_cons_zero]; rfl, by kernel_rfl, by kernel_rfl, by kernel_rfl, ?_⟩
            refine ⟨?_, fun _ _ _ h => h, Or.inl ⟨by rfl, ?_⟩, by assumption, ?_⟩
            rotate_left
            · (intro w hSw; (try dsimp only at hSw); go_simp; try with_reducible rfl)
            try simp only [Act.put, List.setIfInBounds_toArray, List.set_cons_zero, List.set_cons_succ]
            refine wpAnyH_done (by kernel_rfl) ?_ _
            go_wp2_with fail
            go_meet
            exact ⟨rfl, Lib.hid (last9 (by with_reducible assumption))⟩
          · obtain rfl : false = R := by rw [← HR.out]; unfold recOk; rw [HV.out, HSP.out]; simp [hp, hk3, hk4]
            have hkb4 : (kind != 4) = true := by rw [bne_iff_ne]; exact hk4
            clear hp hk3 hk4
            refine wp_region_held_drew (S := (fun w' => w'.cell? ⟨b, 0, none⟩ = some (.int .i64 sp) ∧ w'.cell? ⟨K, 0, none⟩ = some (.int .i64 kind) ∧ w'.cell? ⟨K, 1, none⟩ = some (.int .i64 partner) ∧ w'.cell? ⟨K, 2, none⟩ = some (.int .i64 seq) ∧ w'.cell? ⟨K, 3, none⟩ = some (.int .i64 story) ∧ w'.cell? ⟨K, 4, none⟩ = some (.int .i64 base) ∧ w'.cell? ⟨K, 5, none⟩ = some (.int .i64 version) ∧ w'.cell? ⟨K, 6, none⟩ = some (.string ⟨data.toArray⟩) ∧ Below w1.heap.size w1 w')) (by kernel_rfl) ?_ (fun hHeld => ?_)
            · ((try dsimp only); (first | (with_reducible assumption) | (exact keep8 (by with_reducible assumption) (by with_reducible assumption)) | (with_reducible exact HS0.out)))
            refine take_w 0 ⟨_, by simp only [List.getElem?_toArray, List.getElem?_cons_zero]; rfl, by kernel_rfl, by kernel_rfl, by kernel_rfl, ?_⟩
            refine ⟨?_, fun _ _ _ h => h, Or.inl ⟨by rfl, ?_⟩, by assumption, ?_⟩
            rotate_left
            · (intro w hSw; (try dsimp only at hSw); go_simp; try with_reducible rfl)
            try simp only [Act.put, List.setIfInBounds_toArray, List.set_cons_zero, List.set_cons_succ]
            refine call_w 1 ⟨_, by simp only [List.getElem?_toArray, List.getElem?_cons_succ, List.getElem?_cons_zero]; rfl, by kernel_rfl, ?_, ?_⟩
            · rfl
            intro K hK
            go_simp
            go_at_call 25; with_reducible (refine (CM.out _ (last9 (by with_reducible assumption))).mono ?_); rintro e wm ⟨rfl, rfl⟩
            refine hK.out _ _ ?_ (fun hHeld => ?_)
            · ((try dsimp only); (first | (with_reducible assumption) | (exact keep8 (by with_reducible assumption) (by with_reducible assumption)) | (with_reducible exact HS0.out)))
            clear hK K
            try simp only [Act.put, List.setIfInBounds_toArray, List.set_cons_zero, List.set_cons_succ]
            refine take_w 2 ⟨_, by simp only [List.getElem?_toArray, List.getElem?_cons_succ, List.getElem?_cons_zero]; rfl, by kernel_rfl, by kernel_rfl, by kernel_rfl, ?_⟩
            refine ⟨?_, fun _ _ _ h => h, Or.inl ⟨by rfl, ?_⟩, by assumption, ?_⟩
            rotate_left
            · (intro w hSw; (try dsimp only at hSw); go_simp; try with_reducible rfl)
            try simp only [Act.put, List.setIfInBounds_toArray, List.set_cons_zero, List.set_cons_succ]
            refine take_w 3 ⟨_, by simp only [List.getElem?_toArray, List.getElem?_cons_succ, List.getElem?_cons_zero]; rfl, by kernel_rfl, by kernel_rfl, by kernel_rfl, ?_⟩
            refine ⟨?_, fun _ _ _ h => h, Or.inl ⟨by rfl, ?_⟩, by assumption, ?_⟩
            rotate_left
            · (intro w hSw; (try dsimp only at hSw); go_simp; try with_reducible rfl)
            try simp only [Act.put, List.setIfInBounds_toArray, List.set_cons_zero, List.set_cons_succ]
            refine take_w 4 ⟨_, by simp only [List.getElem?_toArray, List.getElem?_cons_succ, List.getElem?_cons_zero]; rfl, by kernel_rfl, by kernel_rfl, by kernel_rfl, ?_⟩
            refine ⟨?_, fun _ _ _ h => h, Or.inl ⟨by rfl, ?_⟩, by assumption, ?_⟩
            rotate_left
            · (intro w hSw; (try dsimp only at hSw); go_simp; try with_reducible rfl)
            try simp only [Act.put, List.setIfInBounds_toArray, List.set_cons_zero, List.set_cons_succ]
            refine call_w 5 ⟨_, by simp only [List.getElem?_toArray, List.getElem?_cons_succ, List.getElem?_cons_zero]; rfl, by kernel_rfl, ?_, ?_⟩
            · rfl
            intro K hK
            go_simp
            go_at_call 26; with_reducible (refine (CV.out _).mono ?_); rintro e wn ⟨rfl, hbn⟩
            refine hK.out _ _ ?_ (fun hHeld => ?_)
            · ((try dsimp only); (first | (with_reducible assumption) | (exact keep8 (by with_reducible assumption) (by with_reducible assumption)) | (with_reducible exact HS0.out)))
            clear hK K
            try simp only [Act.put, List.setIfInBounds_toArray, List.set_cons_zero, List.set_cons_succ]
            refine take_w 6 ⟨_, by simp only [List.getElem?_toArray, List.getElem?_cons_succ, List.getElem?_cons_zero]; rfl, by kernel_rfl, by kernel_rfl, by kernel_rfl, ?_⟩
            refine ⟨?_, fun _ _ _ h => h, Or.inl ⟨by rfl, ?_⟩, by assumption, ?_⟩
            rotate_left
            · (intro w hSw; (try dsimp only at hSw); go_simp; try with_reducible rfl)
            try simp only [Act.put, List.setIfInBounds_toArray, List.set_cons_zero, List.set_cons_succ]
            refine take_w 7 ⟨_, by simp only [List.getElem?_toArray, List.getElem?_cons_succ, List.getElem?_cons_zero]; rfl, by kernel_rfl, by kernel_rfl, by kernel_rfl, ?_⟩
            refine ⟨?_, fun _ _ _ h => h, Or.inl ⟨by rfl, ?_⟩, by assumption, ?_⟩
            rotate_left
            · (intro w hSw; (try dsimp only at hSw); go_simp; try with_reducible rfl)
            try simp only [Act.put, List.setIfInBounds_toArray, List.set_cons_zero, List.set_cons_succ]
            refine take_w 8 ⟨_, by simp only [List.getElem?_toArray, List.getElem?_cons_succ, List.getElem?_cons_zero]; rfl, by kernel_rfl, by kernel_rfl, by kernel_rfl, ?_⟩
            refine ⟨?_, fun _ _ _ h => h, Or.inl ⟨by rfl, ?_⟩, by assumption, ?_⟩
            rotate_left
            · (intro w hSw; (try dsimp only at hSw); go_simp; try with_reducible rfl)
            try simp only [Act.put, List.setIfInBounds_toArray, List.set_cons_zero, List.set_cons_succ]
            refine take_w 9 ⟨_, by simp only [List.getElem?_toArray, List.getElem?_cons_succ, List.getElem?_cons_zero]; rfl, by kernel_rfl, by kernel_rfl, by kernel_rfl, ?_⟩
            refine ⟨?_, fun _ _ _ h => h, Or.inl ⟨by rfl, ?_⟩, by assumption, ?_⟩
            rotate_left
            · (intro w hSw; (try dsimp only at hSw); go_simp; try with_reducible rfl)
            try simp only [Act.put, List.setIfInBounds_toArray, List.set_cons_zero, List.set_cons_succ]
            refine take_w 10 ⟨_, by simp only [List.getElem?_toArray, List.getElem?_cons_succ, List.getElem?_cons_zero]; rfl, by kernel_rfl, by kernel_rfl, by kernel_rfl, ?_⟩
            refine ⟨?_, fun _ _ _ h => h, Or.inl ⟨by rfl, ?_⟩, by assumption, ?_⟩
            rotate_left
            · (intro w hSw; (try dsimp only at hSw); go_simp; try with_reducible rfl)
            try simp only [Act.put, List.setIfInBounds_toArray, List.set_cons_zero, List.set_cons_succ]
            refine take_w 11 ⟨_, by simp only [List.getElem?_toArray, List.getElem?_cons_succ, List.getElem?_cons_zero]; rfl, by kernel_rfl, by kernel_rfl, by kernel_rfl, ?_⟩
            refine ⟨?_, fun _ _ _ h => h, Or.inl ⟨by rfl, ?_⟩, by assumption, ?_⟩
            rotate_left
            · (intro w hSw; (try dsimp only at hSw); go_simp; try with_reducible rfl)
            try simp only [Act.put, List.setIfInBounds_toArray, List.set_cons_zero, List.set_cons_succ]
            refine take_w 12 ⟨_, by simp only [List.getElem?_toArray, List.getElem?_cons_succ, List.getElem?_cons_zero]; rfl, by kernel_rfl, by kernel_rfl, by kernel_rfl, ?_⟩
            refine ⟨?_, fun _ _ _ h => h, Or.inl ⟨by rfl, ?_⟩, by assumption, ?_⟩
            rotate_left
            · (intro w hSw; (try dsimp only at hSw); go_simp; try with_reducible rfl)
            try simp only [Act.put, List.setIfInBounds_toArray, List.set_cons_zero, List.set_cons_succ]
            refine take_w 13 ⟨_, by simp only [List.getElem?_toArray, List.getElem?_cons_succ, List.getElem?_cons_zero]; rfl, by kernel_rfl, by kernel_rfl, by kernel_rfl, ?_⟩
            refine ⟨?_, fun _ _ _ h => h, Or.inl ⟨by rfl, ?_⟩, by assumption, ?_⟩
            rotate_left
            · (intro w hSw; (try dsimp only at hSw); go_simp; try with_reducible rfl)
            try simp only [Act.put, List.setIfInBounds_toArray, List.set_cons_zero, List.set_cons_succ]
            refine take_w 14 ⟨_, by simp only [List.getElem?_toArray, List.getElem?_cons_succ, List.getElem?_cons_zero]; rfl, by kernel_rfl, by kernel_rfl, by kernel_rfl, ?_⟩
            refine ⟨?_, fun _ _ _ h => h, Or.inl ⟨by rfl, ?_⟩, by assumption, ?_⟩
            rotate_left
            · (intro w hSw; (try dsimp only at hSw); go_simp; try with_reducible rfl)
            try simp only [Act.put, List.setIfInBounds_toArray, List.set_cons_zero, List.set_cons_succ]
            refine take_w 15 ⟨_, by simp only [List.getElem?_toArray, List.getElem?_cons_succ, List.getElem?_cons_zero]; rfl, by kernel_rfl, by kernel_rfl, by kernel_rfl, ?_⟩
            refine ⟨?_, fun _ _ _ h => h, Or.inl ⟨by rfl, ?_⟩, by assumption, ?_⟩
            rotate_left
            · (intro w hSw; (try dsimp only at hSw); go_simp; try with_reducible rfl)
            try simp only [Act.put, List.setIfInBounds_toArray, List.set_cons_zero, List.set_cons_succ]
            refine take_w 16 ⟨_, by simp only [List.getElem?_toArray, List.getElem?_cons_succ, List.getElem?_cons_zero]; rfl, by kernel_rfl, by kernel_rfl, by kernel_rfl, ?_⟩
            refine ⟨?_, fun _ _ _ h => h, Or.inl ⟨by rfl, ?_⟩, by assumption, ?_⟩
            rotate_left
            · (intro w hSw; (try dsimp only at hSw); go_simp; try with_reducible rfl)
            try simp only [Act.put, List.setIfInBounds_toArray, List.set_cons_zero, List.set_cons_succ]
            refine take_w 17 ⟨_, by simp only [List.getElem?_toArray, List.getElem?_cons_succ, List.getElem?_cons_zero]; rfl, by kernel_rfl, by kernel_rfl, by kernel_rfl, ?_⟩
            refine ⟨?_, fun _ _ _ h => h, Or.inl ⟨by rfl, ?_⟩, by assumption, ?_⟩
            rotate_left
            · (intro w hSw; (try dsimp only at hSw); go_simp; try with_reducible rfl)
            try simp only [Act.put, List.setIfInBounds_toArray, List.set_cons_zero, List.set_cons_succ]
            refine take_w 18 ⟨_, by simp only [List.getElem?_toArray, List.getElem?_cons_succ, List.getElem?_cons_zero]; rfl, by kernel_rfl, by kernel_rfl, by kernel_rfl, ?_⟩
            refine ⟨?_, fun _ _ _ h => h, Or.inl ⟨by rfl, ?_⟩, by assumption, ?_⟩
            rotate_left
            · (intro w hSw; (try dsimp only at hSw); go_simp; try with_reducible rfl)
            try simp only [Act.put, List.setIfInBounds_toArray, List.set_cons_zero, List.set_cons_succ]
            refine take_w 19 ⟨_, by simp only [List.getElem?_toArray, List.getElem?_cons_succ, List.getElem?_cons_zero]; rfl, by kernel_rfl, by kernel_rfl, by kernel_rfl, ?_⟩
            refine ⟨?_, fun _ _ _ h => h, Or.inl ⟨by rfl, ?_⟩, by assumption, ?_⟩
            rotate_left
            · (intro w hSw; (try dsimp only at hSw); go_simp; try with_reducible rfl)
            try simp only [Act.put, List.setIfInBounds_toArray, List.set_cons_zero, List.set_cons_succ]
            refine take_w 20 ⟨_, by simp only [List.getElem?_toArray, List.getElem?_cons_succ, List.getElem?_cons_zero]; rfl, by kernel_rfl, by kernel_rfl, by kernel_rfl, ?_⟩
            refine ⟨?_, fun _ _ _ h => h, Or.inl ⟨by rfl, ?_⟩, by assumption, ?_⟩
            rotate_left
            · (intro w hSw; (try dsimp only at hSw); go_simp; try with_reducible rfl)
            try simp only [Act.put, List.setIfInBounds_toArray, List.set_cons_zero, List.set_cons_succ]
            refine take_w 21 ⟨_, by simp only [List.getElem?_toArray, List.getElem?_cons_succ, List.getElem?_cons_zero]; rfl, by kernel_rfl, by kernel_rfl, by kernel_rfl, ?_⟩
            refine ⟨?_, fun _ _ _ h => h, Or.inl ⟨by rfl, ?_⟩, by assumption, ?_⟩
            rotate_left
            · (intro w hSw; (try dsimp only at hSw); go_simp; try with_reducible rfl)
            try simp only [Act.put, List.setIfInBounds_toArray, List.set_cons_zero, List.set_cons_succ]
            refine take_w 22 ⟨_, by simp only [List.getElem?_toArray, List.getElem?_cons_succ, List.getElem?_cons_zero]; rfl, by kernel_rfl, by kernel_rfl, by kernel_rfl, ?_⟩
            refine ⟨?_, fun _ _ _ h => h, Or.inl ⟨by rfl, ?_⟩, by assumption, ?_⟩
            rotate_left
            · (intro w hSw; (try dsimp only at hSw); go_simp; try with_reducible rfl)
            try simp only [Act.put, List.setIfInBounds_toArray, List.set_cons_zero, List.set_cons_succ]
            refine take_w 23 ⟨_, by simp only [List.getElem?_toArray, List.getElem?_cons_succ, List.getElem?_cons_zero]; rfl, by kernel_rfl, by kernel_rfl, by kernel_rfl, ?_⟩
            refine ⟨?_, fun _ _ _ h => h, Or.inl ⟨by rfl, ?_⟩, by assumption, ?_⟩
            rotate_left
            · (intro w hSw; (try dsimp only at hSw); go_simp; try with_reducible rfl)
            try simp only [Act.put, List.setIfInBounds_toArray, List.set_cons_zero, List.set_cons_succ]
            refine take_w 24 ⟨_, by simp only [List.getElem?_toArray, List.getElem?_cons_succ, List.getElem?_cons_zero]; rfl, by kernel_rfl, by kernel_rfl, by kernel_rfl, ?_⟩
            refine ⟨?_, fun _ _ _ h => h, Or.inl ⟨by rfl, ?_⟩, by assumption, ?_⟩
            rotate_left
            · (intro w hSw; (try dsimp only at hSw); go_simp; try with_reducible rfl)
            try simp only [Act.put, List.setIfInBounds_toArray, List.set_cons_zero, List.set_cons_succ]
            refine take_w 25 ⟨_, by simp only [List.getElem?_toArray, List.getElem?_cons_succ, List.getElem?_cons_zero]; rfl, by kernel_rfl, by kernel_rfl, by kernel_rfl, ?_⟩
            refine ⟨?_, fun _ _ _ h => h, Or.inl ⟨by rfl, ?_⟩, by assumption, ?_⟩
            rotate_left
            · (intro w hSw; (try dsimp only at hSw); go_simp; try with_reducible rfl)
            try simp only [Act.put, List.setIfInBounds_toArray, List.set_cons_zero, List.set_cons_succ]
            refine take_w 26 ⟨_, by simp only [List.getElem?_toArray, List.getElem?_cons_succ, List.getElem?_cons_zero]; rfl, by kernel_rfl, by kernel_rfl, by kernel_rfl, ?_⟩
            refine ⟨?_, fun _ _ _ h => h, Or.inl ⟨by rfl, ?_⟩, by assumption, ?_⟩
            rotate_left
            · (intro w hSw; (try dsimp only at hSw); go_simp; try with_reducible rfl)
            try simp only [Act.put, List.setIfInBounds_toArray, List.set_cons_zero, List.set_cons_succ]
            refine wpAnyH_done (by kernel_rfl) ?_ _
            go_wp2_with fail
            go_meet
            exact ⟨rfl, Lib.hid (last9 (by with_reducible assumption))⟩
      · obtain rfl : false = R := by rw [← HR.out]; unfold recOk; rw [HV.out, HSP.out]; simp [hp]
        have hpb : (partner != sp) = true := by rw [bne_iff_ne]; exact hp
        clear hp
        refine wp_region_held_drew (S := (fun w' => w'.cell? ⟨b, 0, none⟩ = some (.int .i64 sp) ∧ w'.cell? ⟨K, 0, none⟩ = some (.int .i64 kind) ∧ w'.cell? ⟨K, 1, none⟩ = some (.int .i64 partner) ∧ w'.cell? ⟨K, 2, none⟩ = some (.int .i64 seq) ∧ w'.cell? ⟨K, 3, none⟩ = some (.int .i64 story) ∧ w'.cell? ⟨K, 4, none⟩ = some (.int .i64 base) ∧ w'.cell? ⟨K, 5, none⟩ = some (.int .i64 version) ∧ w'.cell? ⟨K, 6, none⟩ = some (.string ⟨data.toArray⟩) ∧ Below w1.heap.size w1 w')) (by kernel_rfl) ?_ (fun hHeld => ?_)
        · ((try dsimp only); (first | (with_reducible assumption) | (exact keep8 (by with_reducible assumption) (by with_reducible assumption)) | (with_reducible exact HS0.out)))
        refine take_w 0 ⟨_, by simp only [List.getElem?_toArray, List.getElem?_cons_zero]; rfl, by kernel_rfl, by kernel_rfl, by kernel_rfl, ?_⟩
        refine ⟨?_, fun _ _ _ h => h, Or.inl ⟨by rfl, ?_⟩, by assumption, ?_⟩
        rotate_left
        · (intro w hSw; (try dsimp only at hSw); go_simp; try with_reducible rfl)
        try simp only [Act.put, List.setIfInBounds_toArray, List.set_cons_zero, List.set_cons_succ]
        refine call_w 1 ⟨_, by simp only [List.getElem?_toArray, List.getElem?_cons_succ, List.getElem?_cons_zero]; rfl, by kernel_rfl, ?_, ?_⟩
        · rfl
        intro K hK
        go_simp
        go_at_call 25; with_reducible (refine (CM.out _ (last9 (by with_reducible assumption))).mono ?_); rintro e wm ⟨rfl, rfl⟩
        refine hK.out _ _ ?_ (fun hHeld => ?_)
        · ((try dsimp only); (first | (with_reducible assumption) | (exact keep8 (by with_reducible assumption) (by with_reducible assumption)) | (with_reducible exact HS0.out)))
        clear hK K
        try simp only [Act.put, List.setIfInBounds_toArray, List.set_cons_zero, List.set_cons_succ]
        refine take_w 2 ⟨_, by simp only [List.getElem?_toArray, List.getElem?_cons_succ, List.getElem?_cons_zero]; rfl, by kernel_rfl, by kernel_rfl, by kernel_rfl, ?_⟩
        refine ⟨?_, fun _ _ _ h => h, Or.inl ⟨by rfl, ?_⟩, by assumption, ?_⟩
        rotate_left
        · (intro w hSw; (try dsimp only at hSw); go_simp; try with_reducible rfl)
        try simp only [Act.put, List.setIfInBounds_toArray, List.set_cons_zero, List.set_cons_succ]
        refine take_w 3 ⟨_, by simp only [List.getElem?_toArray, List.getElem?_cons_succ, List.getElem?_cons_zero]; rfl, by kernel_rfl, by kernel_rfl, by kernel_rfl, ?_⟩
        refine ⟨?_, fun _ _ _ h => h, Or.inl ⟨by rfl, ?_⟩, by assumption, ?_⟩
        rotate_left
        · (intro w hSw; (try dsimp only at hSw); go_simp; try with_reducible rfl)
        try simp only [Act.put, List.setIfInBounds_toArray, List.set_cons_zero, List.set_cons_succ]
        refine take_w 4 ⟨_, by simp only [List.getElem?_toArray, List.getElem?_cons_succ, List.getElem?_cons_zero]; rfl, by kernel_rfl, by kernel_rfl, by kernel_rfl, ?_⟩
        refine ⟨?_, fun _ _ _ h => h, Or.inl ⟨by rfl, ?_⟩, by assumption, ?_⟩
        rotate_left
        · (intro w hSw; (try dsimp only at hSw); go_simp; try with_reducible rfl)
        try simp only [Act.put, List.setIfInBounds_toArray, List.set_cons_zero, List.set_cons_succ]
        refine call_w 5 ⟨_, by simp only [List.getElem?_toArray, List.getElem?_cons_succ, List.getElem?_cons_zero]; rfl, by kernel_rfl, ?_, ?_⟩
        · rfl
        intro K hK
        go_simp
        go_at_call 26; with_reducible (refine (CV.out _).mono ?_); rintro e wn ⟨rfl, hbn⟩
        refine hK.out _ _ ?_ (fun hHeld => ?_)
        · ((try dsimp only); (first | (with_reducible assumption) | (exact keep8 (by with_reducible assumption) (by with_reducible assumption)) | (with_reducible exact HS0.out)))
        clear hK K
        try simp only [Act.put, List.setIfInBounds_toArray, List.set_cons_zero, List.set_cons_succ]
        refine take_w 6 ⟨_, by simp only [List.getElem?_toArray, List.getElem?_cons_succ, List.getElem?_cons_zero]; rfl, by kernel_rfl, by kernel_rfl, by kernel_rfl, ?_⟩
        refine ⟨?_, fun _ _ _ h => h, Or.inl ⟨by rfl, ?_⟩, by assumption, ?_⟩
        rotate_left
        · (intro w hSw; (try dsimp only at hSw); go_simp; try with_reducible rfl)
        try simp only [Act.put, List.setIfInBounds_toArray, List.set_cons_zero, List.set_cons_succ]
        refine take_w 7 ⟨_, by simp only [List.getElem?_toArray, List.getElem?_cons_succ, List.getElem?_cons_zero]; rfl, by kernel_rfl, by kernel_rfl, by kernel_rfl, ?_⟩
        refine ⟨?_, fun _ _ _ h => h, Or.inl ⟨by rfl, ?_⟩, by assumption, ?_⟩
        rotate_left
        · (intro w hSw; (try dsimp only at hSw); go_simp; try with_reducible rfl)
        try simp only [Act.put, List.setIfInBounds_toArray, List.set_cons_zero, List.set_cons_succ]
        refine take_w 8 ⟨_, by simp only [List.getElem?_toArray, List.getElem?_cons_succ, List.getElem?_cons_zero]; rfl, by kernel_rfl, by kernel_rfl, by kernel_rfl, ?_⟩
        refine ⟨?_, fun _ _ _ h => h, Or.inl ⟨by rfl, ?_⟩, by assumption, ?_⟩
        rotate_left
        · (intro w hSw; (try dsimp only at hSw); go_simp; try with_reducible rfl)
        try simp only [Act.put, List.setIfInBounds_toArray, List.set_cons_zero, List.set_cons_succ]
        refine take_w 9 ⟨_, by simp only [List.getElem?_toArray, List.getElem?_cons_succ, List.getElem?_cons_zero]; rfl, by kernel_rfl, by kernel_rfl, by kernel_rfl, ?_⟩
        refine ⟨?_, fun _ _ _ h => h, Or.inl ⟨by rfl, ?_⟩, by assumption, ?_⟩
        rotate_left
        · (intro w hSw; (try dsimp only at hSw); go_simp; try with_reducible rfl)
        try simp only [Act.put, List.setIfInBounds_toArray, List.set_cons_zero, List.set_cons_succ]
        refine take_w 10 ⟨_, by simp only [List.getElem?_toArray, List.getElem?_cons_succ, List.getElem?_cons_zero]; rfl, by kernel_rfl, by kernel_rfl, by kernel_rfl, ?_⟩
        refine ⟨?_, fun _ _ _ h => h, Or.inl ⟨by rfl, ?_⟩, by assumption, ?_⟩
        rotate_left
        · (intro w hSw; (try dsimp only at hSw); go_simp; try with_reducible rfl)
        try simp only [Act.put, List.setIfInBounds_toArray, List.set_cons_zero, List.set_cons_succ]
        refine take_w 11 ⟨_, by simp only [List.getElem?_toArray, List.getElem?_cons_succ, List.getElem?_cons_zero]; rfl, by kernel_rfl, by kernel_rfl, by kernel_rfl, ?_⟩
        refine ⟨?_, fun _ _ _ h => h, Or.inl ⟨by rfl, ?_⟩, by assumption, ?_⟩
        rotate_left
        · (intro w hSw; (try dsimp only at hSw); go_simp; try with_reducible rfl)
        try simp only [Act.put, List.setIfInBounds_toArray, List.set_cons_zero, List.set_cons_succ]
        refine take_w 12 ⟨_, by simp only [List.getElem?_toArray, List.getElem?_cons_succ, List.getElem?_cons_zero]; rfl, by kernel_rfl, by kernel_rfl, by kernel_rfl, ?_⟩
        refine ⟨?_, fun _ _ _ h => h, Or.inl ⟨by rfl, ?_⟩, by assumption, ?_⟩
        rotate_left
        · (intro w hSw; (try dsimp only at hSw); go_simp; try with_reducible rfl)
        try simp only [Act.put, List.setIfInBounds_toArray, List.set_cons_zero, List.set_cons_succ]
        refine take_w 13 ⟨_, by simp only [List.getElem?_toArray, List.getElem?_cons_succ, List.getElem?_cons_zero]; rfl, by kernel_rfl, by kernel_rfl, by kernel_rfl, ?_⟩
        refine ⟨?_, fun _ _ _ h => h, Or.inl ⟨by rfl, ?_⟩, by assumption, ?_⟩
        rotate_left
        · (intro w hSw; (try dsimp only at hSw); go_simp; try with_reducible rfl)
        try simp only [Act.put, List.setIfInBounds_toArray, List.set_cons_zero, List.set_cons_succ]
        refine take_w 14 ⟨_, by simp only [List.getElem?_toArray, List.getElem?_cons_succ, List.getElem?_cons_zero]; rfl, by kernel_rfl, by kernel_rfl, by kernel_rfl, ?_⟩
        refine ⟨?_, fun _ _ _ h => h, Or.inl ⟨by rfl, ?_⟩, by assumption, ?_⟩
        rotate_left
        · (intro w hSw; (try dsimp only at hSw); go_simp; try with_reducible rfl)
        try simp only [Act.put, List.setIfInBounds_toArray, List.set_cons_zero, List.set_cons_succ]
        refine take_w 15 ⟨_, by simp only [List.getElem?_toArray, List.getElem?_cons_succ, List.getElem?_cons_zero]; rfl, by kernel_rfl, by kernel_rfl, by kernel_rfl, ?_⟩
        refine ⟨?_, fun _ _ _ h => h, Or.inl ⟨by rfl, ?_⟩, by assumption, ?_⟩
        rotate_left
        · (intro w hSw; (try dsimp only at hSw); go_simp; try with_reducible rfl)
        try simp only [Act.put, List.setIfInBounds_toArray, List.set_cons_zero, List.set_cons_succ]
        refine take_w 16 ⟨_, by simp only [List.getElem?_toArray, List.getElem?_cons_succ, List.getElem?_cons_zero]; rfl, by kernel_rfl, by kernel_rfl, by kernel_rfl, ?_⟩
        refine ⟨?_, fun _ _ _ h => h, Or.inl ⟨by rfl, ?_⟩, by assumption, ?_⟩
        rotate_left
        · (intro w hSw; (try dsimp only at hSw); go_simp; try with_reducible rfl)
        try simp only [Act.put, List.setIfInBounds_toArray, List.set_cons_zero, List.set_cons_succ]
        refine take_w 17 ⟨_, by simp only [List.getElem?_toArray, List.getElem?_cons_succ, List.getElem?_cons_zero]; rfl, by kernel_rfl, by kernel_rfl, by kernel_rfl, ?_⟩
        refine ⟨?_, fun _ _ _ h => h, Or.inl ⟨by rfl, ?_⟩, by assumption, ?_⟩
        rotate_left
        · (intro w hSw; (try dsimp only at hSw); go_simp; try with_reducible rfl)
        try simp only [Act.put, List.setIfInBounds_toArray, List.set_cons_zero, List.set_cons_succ]
        refine take_w 18 ⟨_, by simp only [List.getElem?_toArray, List.getElem?_cons_succ, List.getElem?_cons_zero]; rfl, by kernel_rfl, by kernel_rfl, by kernel_rfl, ?_⟩
        refine ⟨undef, fun _ _ _ h => h, Or.inr ⟨by rfl, rfl⟩, by assumption, ?_⟩
        try simp only [Act.put, List.setIfInBounds_toArray, List.set_cons_zero, List.set_cons_succ]
        refine take_w 19 ⟨_, by simp only [List.getElem?_toArray, List.getElem?_cons_succ, List.getElem?_cons_zero]; rfl, by kernel_rfl, by kernel_rfl, by kernel_rfl, ?_⟩
        refine ⟨undef, fun _ _ _ h => h, Or.inr ⟨by rfl, rfl⟩, by assumption, ?_⟩
        try simp only [Act.put, List.setIfInBounds_toArray, List.set_cons_zero, List.set_cons_succ]
        refine take_w 20 ⟨_, by simp only [List.getElem?_toArray, List.getElem?_cons_succ, List.getElem?_cons_zero]; rfl, by kernel_rfl, by kernel_rfl, by kernel_rfl, ?_⟩
        refine ⟨undef, fun _ _ _ h => h, Or.inr ⟨by rfl, rfl⟩, by assumption, ?_⟩
        try simp only [Act.put, List.setIfInBounds_toArray, List.set_cons_zero, List.set_cons_succ]
        refine take_w 21 ⟨_, by simp only [List.getElem?_toArray, List.getElem?_cons_succ, List.getElem?_cons_zero]; rfl, by kernel_rfl, by kernel_rfl, by kernel_rfl, ?_⟩
        refine ⟨undef, fun _ _ _ h => h, Or.inr ⟨by rfl, rfl⟩, by assumption, ?_⟩
        try simp only [Act.put, List.setIfInBounds_toArray, List.set_cons_zero, List.set_cons_succ]
        refine take_w 22 ⟨_, by simp only [List.getElem?_toArray, List.getElem?_cons_succ, List.getElem?_cons_zero]; rfl, by kernel_rfl, by kernel_rfl, by kernel_rfl, ?_⟩
        refine ⟨undef, fun _ _ _ h => h, Or.inr ⟨by rfl, rfl⟩, by assumption, ?_⟩
        try simp only [Act.put, List.setIfInBounds_toArray, List.set_cons_zero, List.set_cons_succ]
        refine take_w 23 ⟨_, by simp only [List.getElem?_toArray, List.getElem?_cons_succ, List.getElem?_cons_zero]; rfl, by kernel_rfl, by kernel_rfl, by kernel_rfl, ?_⟩
        refine ⟨undef, fun _ _ _ h => h, Or.inr ⟨by rfl, rfl⟩, by assumption, ?_⟩
        try simp only [Act.put, List.setIfInBounds_toArray, List.set_cons_zero, List.set_cons_succ]
        refine take_w 24 ⟨_, by simp only [List.getElem?_toArray, List.getElem?_cons_succ, List.getElem?_cons_zero]; rfl, by kernel_rfl, by kernel_rfl, by kernel_rfl, ?_⟩
        refine ⟨undef, fun _ _ _ h => h, Or.inr ⟨by rfl, rfl⟩, by assumption, ?_⟩
        try simp only [Act.put, List.setIfInBounds_toArray, List.set_cons_zero, List.set_cons_succ]
        refine take_w 25 ⟨_, by simp only [List.getElem?_toArray, List.getElem?_cons_succ, List.getElem?_cons_zero]; rfl, by kernel_rfl, by kernel_rfl, by kernel_rfl, ?_⟩
        refine ⟨undef, fun _ _ _ h => h, Or.inr ⟨by rfl, rfl⟩, by assumption, ?_⟩
        try simp only [Act.put, List.setIfInBounds_toArray, List.set_cons_zero, List.set_cons_succ]
        refine take_w 26 ⟨_, by simp only [List.getElem?_toArray, List.getElem?_cons_succ, List.getElem?_cons_zero]; rfl, by kernel_rfl, by kernel_rfl, by kernel_rfl, ?_⟩
        refine ⟨?_, fun _ _ _ h => h, Or.inl ⟨by rfl, ?_⟩, by assumption, ?_⟩
        rotate_left
        · (intro w hSw; (try dsimp only at hSw); go_simp; try with_reducible rfl)
        try simp only [Act.put, List.setIfInBounds_toArray, List.set_cons_zero, List.set_cons_succ]
        refine wpAnyH_done (by kernel_rfl) ?_ _
        go_wp2_with fail
        go_meet
        exact ⟨rfl, Lib.hid (last9 (by with_reducible assumption))⟩
  case rest =>
    obtain ⟨rfl, HX⟩ := hcut
    clear CV HS0 CM
    cases R with
    | false =>
      obtain rfl : S = SR := by rw [← HSR.out]; exact (recv_no HR.out).symm
      have HF := Lib.hid (HT.out wc (HB1.out.trans (HX.out.mono HB1.out.size)))
      go_wp2_with fail
      exact ⟨rfl, .tuple #[], by simp [results, Tryd.results15, go_sem], rfl, HF.out⟩
    | true =>
      obtain ⟨hs1, hs64, hq1, hq2, hk34⟩ := recOk_facts HR.out
      simp only at hs1 hs64 hq1 hq2 hk34
      obtain ⟨i, hi⟩ : ∃ i : Nat, story = (i : Int) + 1 := ⟨(story - 1).toNat, by omega⟩
      subst hi
      have hi64 : i < 64 := by omega
      have HRV : Hid (SR = match S.recv1 ⟨kind, partner, seq, (i : Int) + 1, base, version, data⟩ i with | some S' => S'.plan now | none => S) := Lib.hid (by
        rw [← HSR.out, recv_yes HR.out]
        simp only [show ((i : Int) + 1 - 1).toNat = i by omega])
      have HMK : Hid (MAt K ⟨kind, partner, seq, (i : Int) + 1, base, version, data⟩ wc) := Lib.hid (by
        have := HM1.out
        rw [HKK.out] at this
        exact this.below HX.out)
      have SX := HH.out.below HX.out
      have HNK : Hid (K ≠ b) := Lib.hid (by have := HKK.out; have := hbl; omega)
      have HBW : Hid (Below w.heap.size w wc) := Lib.hid (HB1.out.trans (HX.out.mono HB1.out.size))
      obtain ⟨m0, m1, m2, m3, m4, m5, m6⟩ := HMK.out.c
      simp only at m0 m1 m2 m3 m4 m5 m6
      have hi0 : (0 : Int) ≤ (i : Int) := by omega
      have hii : (i : Int) < 64 := by omega
      have hwr : IntKind.i64.wrap ((i : Int) + 1 - 1) = (i : Int) := by rw [show (i : Int) + 1 - 1 = (i : Int) by omega]; exact IntWalk.i64_in _ (by omega)
      have HSX := Lib.hid SX
      clear HSR SX HX HMM HRR HT
      go_upto_region 2 with fail
      go_quiet (fail)
      obtain ⟨wd, hwd⟩ : ∃ wd, wc.drewN nq = wd := ⟨_, rfl⟩
      have hbd : Below wc.heap.size wc wd := by rw [← hwd]; exact (Below.refl _ _).drewN _
      have HSD : Hid (Snd a0 a1 w0 T wd b S P) := Lib.hid (HSX.out.below hbd)
      have HMD := Lib.hid (HMK.out.below hbd)
      have HBD : Hid (Below w.heap.size w wd) := Lib.hid (HBW.out.trans (hbd.mono HBW.out.size))
      rw [hwd]
      clear hwd hbd HSX HMK HBW m0 m1 m2 m3 m4 m5 m6
      obtain ⟨m0, m1, m2, m3, m4, m5, m6⟩ := HMD.out.c
      simp only at m0 m1 m2 m3 m4 m5 m6
      have k8 : wd.cell? ⟨b, 4 + i * 13 + 5 + 1 + 2, none⟩ = some (stoV (S.st i) (P i) 8) := (HSD.out.at_.story hi64 8 (by omega)).1
      have s4 := (HSD.out.at_.story hi64 4 (by omega)).1
      simp only [stoV] at k8 s4
      have HT2 : Hid (SEnd a0 a1 w0 T w b S wd) := Lib.hid ⟨T, P, HSD.out, But.of_below HBD.out, fun k hk => .inl hk⟩
      cases ho : (S.st i).out with
      | none =>
        have hp := HSD.out.at_.nout i hi64 ho
        rw [hp] at s4
        simp only [ptrV, Option.map_none] at s4
        obtain ⟨aq, haq⟩ : ∃ x, (ackM (S.st i).acked).seq = x := ⟨_, rfl⟩
        rw [haq] at k8
        have hsa : S.seqAt i = aq := by
          unfold Sen.seqAt
          rw [ho, ← haq]
          cases (S.st i).acked <;> rfl
        have HRV2 : Hid (SR = if kind = 4 ∧ aq < seq then Sen.plan { S with counter := max S.counter seq, st := upd S.st i { S.st i with held := .unk, out := none } } now else S) := Lib.hid (by
          rw [HRV.out]
          unfold Sen.recv1
          rw [ho]
          simp only [hsa]
          by_cases hc : kind = 4 ∧ aq < seq
          · rw [if_pos hc, if_pos hc]
          · rw [if_neg hc, if_neg hc])
        have HP4 := Lib.hid hp
        clear hp ho haq hsa HRV
        go_upto_region 6 with fail
        go_quiet (fail)
        obtain ⟨we, hwe⟩ : ∃ we, wd.drewN nq = we := ⟨_, rfl⟩
        have hbe : Below wd.heap.size wd we := by rw [← hwe]; exact (Below.refl _ _).drewN _
        have HSE : Hid (Snd a0 a1 w0 T we b S P) := Lib.hid (HSD.out.below hbe)
        have HBE : Hid (Below w.heap.size w we) := Lib.hid (HBD.out.trans (hbe.mono HBD.out.size))
        have HMK := Lib.hid (HMD.out.below hbe)
        rw [hwe]
        clear hwe hbe HSD HMD HBD HT2 k8 s4 m0 m1 m2 m3 m4 m5 m6
        obtain ⟨m0, m1, m2, m3, m4, m5, m6⟩ := HMK.out.c
        simp only at m0 m1 m2 m3 m4 m5 m6
        have s4 : we.cell? ⟨b, 4 + i * 13 + 4, none⟩ = some (.pointer none) := by
          have := (HSE.out.at_.story hi64 4 (by omega)).1
          rw [HP4.out] at this
          exact this
        by_cases hc : kind = 4 ∧ aq < seq
        · obtain ⟨hk4, hlt⟩ := hc
          have hkb : (kind == 4) = true := by rw [hk4]; rfl
          have hltb : decide (aq < seq) = true := decide_eq_true hlt
          have HRV3 : Hid (SR = Sen.plan { S with counter := max S.counter seq, st := upd S.st i { S.st i with held := .unk, out := none } } now) := Lib.hid (by rw [HRV2.out, if_pos ⟨hk4, hlt⟩])
          clear HRV2 hk4 hlt
          have SE := HSE.out.at_
          have e2 := (SE.story hi64 2 (by omega)).2
          have e3 := (SE.story hi64 3 (by omega)).2
          have e4 := (SE.story hi64 4 (by omega)).2
          obtain ⟨v2, c2⟩ : ∃ v, we.cell? ⟨b, 4 + i * 13 + 2, none⟩ = some v := ⟨_, (SE.story hi64 2 (by omega)).1⟩
          obtain ⟨v3, c3⟩ : ∃ v, we.cell? ⟨b, 4 + i * 13 + 3, none⟩ = some v := ⟨_, (SE.story hi64 3 (by omega)).1⟩
          clear SE
          go_upto_region 13 with fail
          obtain ⟨wf, hwf⟩ : ∃ wf, (we.setCell ⟨b, 4 + i * 13 + 2, none⟩ (.int .i64 0)).setCell ⟨b, 4 + i * 13 + 3, none⟩ (.string ⟨#[]⟩) = wf := ⟨_, rfl⟩
          have HSF : Hid (SenAt T wf b { S with st := upd S.st i { S.st i with held := .unk } } P) := Lib.hid (by rw [← hwf]; exact HSE.out.at_.putHeld hi64 .unk (by simp [Kn.txt]))
          have HBF : Hid (But T we.heap.size we wf) := Lib.hid (by rw [← hwf]; exact ((But.refl _ _ _).setCell HSE.out.at_.own _).setCell HSE.out.at_.own _)
          have HMF : Hid (MAt K ⟨kind, partner, seq, (i : Int) + 1, base, version, data⟩ wf) := Lib.hid (by rw [← hwf]; exact (HMK.out.far2 (HNK.out) _).far2 (HNK.out) _)
          rw [hwf]
          clear hwf c2 c3 e2 e3 e4 s4 m0 m1 m2 m3 m4 m5 m6
          obtain ⟨m0, m1, m2, m3, m4, m5, m6⟩ := HMF.out.c
          simp only at m0 m1 m2 m3 m4 m5 m6
          obtain ⟨c2, f2⟩ := HSF.out.cells 2 (by omega)
          simp only [senV] at c2
          obtain ⟨cn, hcn⟩ : ∃ x, S.counter = x := ⟨_, rfl⟩
          rw [hcn] at c2 HRV3
          have HCN := Lib.hid hcn
          clear hcn
          have hcr := HSF.out.ok.counter
          simp only at hcr
          rw [HCN.out] at hcr
          have hcn0 : decide (cn < seq) = decide (cn < seq) := rfl
          clear hcn0
          by_cases hmx : cn ≤ seq
          · have hmx2 : max cn seq = seq := by omega
            have HCC : Hid (cn ≤ seq ∧ seq ≤ 4611686018427387903) := Lib.hid ⟨hmx, hq2⟩
            go_region
            rw [hmx2] at HRV3
            clear hmx2
            obtain ⟨wg, hwg⟩ : ∃ wg, (wf.setCell ⟨b, 2, none⟩ (.int .i64 seq)).drew = wg := ⟨_, rfl⟩
            have HSG : Hid (SenAt T wg b { S with counter := seq, st := upd S.st i { S.st i with held := .unk } } P) := Lib.hid (by rw [← hwg]; exact (HSF.out.putCounter seq (by rw [HCN.out]; exact HCC.out)).below (Below.refl _ _).drew)
            have HBG : Hid (But T we.heap.size we wg) := Lib.hid (by rw [← hwg]; exact (HBF.out.setCell HSE.out.at_.own _).drew1)
            rw [hwg]
            clear hwg HMF c2 f2 m0 m1 m2 m3 m4 m5 m6
            have hno := HSG.out.putNone hi64
            simp only [upd_same, upd_upd] at hno
            have HBZ : Hid (But T we.heap.size we (wg.setCell ⟨b, 4 + i * 13 + 4, none⟩ (.pointer none))) := Lib.hid (HBG.out.setCell HSE.out.at_.own _)
            have HSZ : Hid (Snd a0 a1 w0 T (wg.setCell ⟨b, 4 + i * 13 + 4, none⟩ (.pointer none)) b { S with counter := seq, st := upd S.st i { S.st i with held := .unk, out := none } } (updP P i none)) := Lib.hid (HSE.out.of hno HBZ.out (fun k hk => .inl hk))
            have CP := Lib.hid (plan_any HSZ.out now hnow)
            have f4 := (HSG.out.story hi64 4 (by omega)).2
            obtain ⟨v4, c4⟩ : ∃ v, wg.cell? ⟨b, 4 + i * 13 + 4, none⟩ = some v := ⟨_, (HSG.out.story hi64 4 (by omega)).1⟩
            clear hno
            go_wp2_with (first | (go_at_call 27; refine CP.out.mono ?_; rintro e w9 ⟨rfl, hend⟩; have HEND := Lib.hid hend; clear hend) | fail)
            have HFIN : Hid (SEnd a0 a1 w0 T w b SR w9) := Lib.hid (by
              rw [HRV3.out]
              exact SEnd.via HSZ.out.at_.lt ((But.of_below HBE.out).trans (HBZ.out.mono HBE.out.size)) HEND.out)
            clear HEND CP
            go_wp2_with fail
            exact ⟨rfl, .tuple #[], by simp [results, Tryd.results15, go_sem], rfl, HFIN.out⟩
          · have hmx2 : max cn seq = cn := by omega
            have hmx3 : seq ≤ cn := by omega
            have HCC : Hid (cn ≤ cn ∧ cn ≤ 4611686018427387903) := Lib.hid ⟨Int.le_refl _, hcr.2⟩
            go_region
            rw [hmx2] at HRV3
            clear hmx2
            obtain ⟨wg, hwg⟩ : ∃ wg, (wf.setCell ⟨b, 2, none⟩ (.int .i64 cn)).drew = wg := ⟨_, rfl⟩
            have HSG : Hid (SenAt T wg b { S with counter := cn, st := upd S.st i { S.st i with held := .unk } } P) := Lib.hid (by rw [← hwg]; exact (HSF.out.putCounter cn (by rw [HCN.out]; exact HCC.out)).below (Below.refl _ _).drew)
            have HBG : Hid (But T we.heap.size we wg) := Lib.hid (by rw [← hwg]; exact (HBF.out.setCell HSE.out.at_.own _).drew1)
            rw [hwg]
            clear hwg HMF c2 f2 m0 m1 m2 m3 m4 m5 m6
            have hno := HSG.out.putNone hi64
            simp only [upd_same, upd_upd] at hno
            have HBZ : Hid (But T we.heap.size we (wg.setCell ⟨b, 4 + i * 13 + 4, none⟩ (.pointer none))) := Lib.hid (HBG.out.setCell HSE.out.at_.own _)
            have HSZ : Hid (Snd a0 a1 w0 T (wg.setCell ⟨b, 4 + i * 13 + 4, none⟩ (.pointer none)) b { S with counter := cn, st := upd S.st i { S.st i with held := .unk, out := none } } (updP P i none)) := Lib.hid (HSE.out.of hno HBZ.out (fun k hk => .inl hk))
            have CP := Lib.hid (plan_any HSZ.out now hnow)
            have f4 := (HSG.out.story hi64 4 (by omega)).2
            obtain ⟨v4, c4⟩ : ∃ v, wg.cell? ⟨b, 4 + i * 13 + 4, none⟩ = some v := ⟨_, (HSG.out.story hi64 4 (by omega)).1⟩
            clear hno
            go_wp2_with (first | (go_at_call 27; refine CP.out.mono ?_; rintro e w9 ⟨rfl, hend⟩; have HEND := Lib.hid hend; clear hend) | fail)
            have HFIN : Hid (SEnd a0 a1 w0 T w b SR w9) := Lib.hid (by
              rw [HRV3.out]
              exact SEnd.via HSZ.out.at_.lt ((But.of_below HBE.out).trans (HBZ.out.mono HBE.out.size)) HEND.out)
            clear HEND CP
            go_wp2_with fail
            exact ⟨rfl, .tuple #[], by simp [results, Tryd.results15, go_sem], rfl, HFIN.out⟩
        · have HF : Hid (SEnd a0 a1 w0 T w b SR we) := Lib.hid (by rw [HRV2.out, if_neg hc]; exact ⟨T, P, HSE.out, But.of_below HBE.out, fun k hk => .inl hk⟩)
          have hkb : (kind == 4) = false ∨ (kind == 4) = true ∧ decide (aq < seq) = false := by
            by_cases hk : kind = 4
            · right; exact ⟨by rw [hk]; rfl, decide_eq_false fun h => hc ⟨hk, h⟩⟩
            · left; rw [beq_eq_false_iff_ne]; exact hk
          clear HRV2 hc
          rcases hkb with hkb | ⟨hkb, hkb2⟩
          all_goals
            go_wp2_with fail
            exact ⟨rfl, .tuple #[], by simp [results, Tryd.results15, go_sem], rfl, HF.out⟩
      | some o =>
        obtain ⟨g, hp, hTg, hgb, hg⟩ := HSD.out.at_.sout i o hi64 ho
        rw [hp] at s4
        simp only [ptrV, Option.map_some] at s4
        have HP4 := Lib.hid hp; have HO := Lib.hid ho
        have HG0 := Lib.hid hg
        obtain ⟨oq, hoq⟩ : ∃ x, o.msg.seq = x := ⟨_, rfl⟩
        obtain ⟨ov, hov⟩ : ∃ x, o.msg.version = x := ⟨_, rfl⟩
        have g2 : wd.cell? ⟨g, 2, none⟩ = some (.int .i64 oq) := by rw [Lib.cell_of_heap hg, ← hoq]; rfl
        have g5 : wd.cell? ⟨g, 5, none⟩ = some (.int .i64 ov) := by rw [Lib.cell_of_heap hg, ← hov]; rfl
        have HOQ := Lib.hid hoq; have HOV := Lib.hid hov
        have HGB := Lib.hid hgb
        clear hp ho hg hoq hov hgb hTg
        go_upto_region 6 with fail
        by_cases hsq : seq = oq
        · have hsb : (seq == oq) = true := by rw [hsq]; simp
          by_cases hak : kind = 3 ∧ base = base ∧ version = ov
          · have hkb : (kind == 3) = true := by rw [hak.1]; rfl
            have hvb : (version == ov) = true := by rw [hak.2.2]; simp
            have HRV3 : Hid (SR = Sen.plan { S with st := upd S.st i { S.st i with held := o.text, out := none, acked := some o.msg } } now) := Lib.hid (by
              rw [HRV.out]
              unfold Sen.recv1
              rw [HO.out]
              simp only
              rw [if_pos ⟨by rw [HOQ.out]; exact hsq, hak.1, by rw [HOV.out]; exact hak.2.2⟩])
            clear hsq hak HRV
            go_quiet (fail)
            obtain ⟨we, hwe⟩ : ∃ we, wd.drewN nq = we := ⟨_, rfl⟩
            have hbe : Below wd.heap.size wd we := by rw [← hwe]; exact (Below.refl _ _).drewN _
            have HSE : Hid (Snd a0 a1 w0 T we b S P) := Lib.hid (HSD.out.below hbe)
            have HBE : Hid (Below w.heap.size w we) := Lib.hid (HBD.out.trans (hbe.mono HBD.out.size))
            have HMK := Lib.hid (HMD.out.below hbe)
            have HGE := Lib.hid ((hbe.block g (Array.getElem?_eq_some_iff.1 HG0.out).1).trans HG0.out)
            rw [hwe]
            clear hwe hbe HSD HMD HBD HT2 HG0 k8 s4 g2 g5 m0 m1 m2 m3 m4 m5 m6
            obtain ⟨m0, m1, m2, m3, m4, m5, m6⟩ := HMK.out.c
            simp only at m0 m1 m2 m3 m4 m5 m6
            have s4 : we.cell? ⟨b, 4 + i * 13 + 4, none⟩ = some (.pointer (some ⟨g, 0, none⟩)) := by
              have := (HSE.out.at_.story hi64 4 (by omega)).1
              rw [HP4.out] at this
              exact this
            have SE := HSE.out.at_
            have e2 := (SE.story hi64 2 (by omega)).2
            have e3 := (SE.story hi64 3 (by omega)).2
            have e4 := (SE.story hi64 4 (by omega)).2
            obtain ⟨v2, c2⟩ : ∃ v, we.cell? ⟨b, 4 + i * 13 + 2, none⟩ = some v := ⟨_, (SE.story hi64 2 (by omega)).1⟩
            obtain ⟨v3, c3⟩ : ∃ v, we.cell? ⟨b, 4 + i * 13 + 3, none⟩ = some v := ⟨_, (SE.story hi64 3 (by omega)).1⟩
            clear SE
            obtain ⟨hn, hhn⟩ : ∃ x, o.text.num = x := ⟨_, rfl⟩
            obtain ⟨hx, hhx⟩ : ∃ x, o.text.txt = x := ⟨_, rfl⟩
            have g7 : we.cell? ⟨g, 7, none⟩ = some (.int .i64 hn) := by rw [Lib.cell_of_heap HGE.out, ← hhn]; rfl
            have g8 : we.cell? ⟨g, 8, none⟩ = some (.string ⟨hx.toArray⟩) := by rw [Lib.cell_of_heap HGE.out, ← hhx]; rfl
            go_upto_region 8 with fail
            obtain ⟨wf, hwf⟩ : ∃ wf, (we.setCell ⟨b, 4 + i * 13 + 2, none⟩ (.int .i64 hn)).setCell ⟨b, 4 + i * 13 + 3, none⟩ (.string ⟨hx.toArray⟩) = wf := ⟨_, rfl⟩
            have HSF : Hid (SenAt T wf b { S with st := upd S.st i { S.st i with held := o.text } } P) := Lib.hid (by rw [← hwf, ← hhn, ← hhx]; exact HSE.out.at_.putHeld hi64 o.text (HSE.out.at_.ok.outs i o HO.out).2.2.1)
            have HBF : Hid (But T we.heap.size we wf) := Lib.hid (by rw [← hwf]; exact ((But.refl _ _ _).setCell HSE.out.at_.own _).setCell HSE.out.at_.own _)
            have HGF : Hid (wf.heap[g]? = some (.cells (outC o) 85 (0, 0))) := Lib.hid (by rw [← hwf, Below.heap_setCell _ ⟨b, _, none⟩ _ g HGB.out, Below.heap_setCell _ ⟨b, _, none⟩ _ g HGB.out]; exact HGE.out)
            rw [hwf]
            clear hwf g7 g8 c2 c3 e2 e3 e4 s4 m0 m1 m2 m3 m4 m5 m6 hhn hhx
            obtain ⟨om, hom⟩ : ∃ m, o.msg = m := ⟨_, rfl⟩
            have HOM := Lib.hid hom
            have g0 : wf.cell? ⟨g, 0, none⟩ = some (.int .i64 om.kind) := by rw [Lib.cell_of_heap HGF.out, ← hom]; rfl
            have g1 : wf.cell? ⟨g, 1, none⟩ = some (.int .i64 om.partner) := by rw [Lib.cell_of_heap HGF.out, ← hom]; rfl
            have g2 : wf.cell? ⟨g, 2, none⟩ = some (.int .i64 om.seq) := by rw [Lib.cell_of_heap HGF.out, ← hom]; rfl
            have g3 : wf.cell? ⟨g, 3, none⟩ = some (.int .i64 om.story) := by rw [Lib.cell_of_heap HGF.out, ← hom]; rfl
            have g4 : wf.cell? ⟨g, 4, none⟩ = some (.int .i64 om.base) := by rw [Lib.cell_of_heap HGF.out, ← hom]; rfl
            have g5 : wf.cell? ⟨g, 5, none⟩ = some (.int .i64 om.version) := by rw [Lib.cell_of_heap HGF.out, ← hom]; rfl
            have g6 : wf.cell? ⟨g, 6, none⟩ = some (.string ⟨om.data.toArray⟩) := by rw [Lib.cell_of_heap HGF.out, ← hom]; rfl
            have s4 : wf.cell? ⟨b, 4 + i * 13 + 4, none⟩ = some (.pointer (some ⟨g, 0, none⟩)) := by
              have := (HSF.out.story hi64 4 (by omega)).1
              rw [HP4.out] at this
              exact this
            have hpa := HSF.out.putAcked hi64 om (by rw [← hom]; exact (HSE.out.at_.ok.outs i o HO.out).2.2.2.1)
            simp only [upd_same, upd_upd] at hpa
            obtain ⟨u5, a5⟩ : ∃ v, wf.cell? ⟨b, 4 + i * 13 + 5, none⟩ = some v := ⟨_, (HSF.out.story hi64 5 (by omega)).1⟩
            obtain ⟨u6, a6⟩ : ∃ v, wf.cell? ⟨b, 4 + i * 13 + 6, none⟩ = some v := ⟨_, (HSF.out.story hi64 6 (by omega)).1⟩
            obtain ⟨u7, a7⟩ : ∃ v, wf.cell? ⟨b, 4 + i * 13 + 7, none⟩ = some v := ⟨_, (HSF.out.story hi64 7 (by omega)).1⟩
            obtain ⟨u8', a8⟩ : ∃ v, wf.cell? ⟨b, 4 + i * 13 + 8, none⟩ = some v := ⟨_, (HSF.out.story hi64 8 (by omega)).1⟩
            obtain ⟨u9', a9⟩ : ∃ v, wf.cell? ⟨b, 4 + i * 13 + 9, none⟩ = some v := ⟨_, (HSF.out.story hi64 9 (by omega)).1⟩
            obtain ⟨u10', a10⟩ : ∃ v, wf.cell? ⟨b, 4 + i * 13 + 10, none⟩ = some v := ⟨_, (HSF.out.story hi64 10 (by omega)).1⟩
            obtain ⟨u11', a11⟩ : ∃ v, wf.cell? ⟨b, 4 + i * 13 + 11, none⟩ = some v := ⟨_, (HSF.out.story hi64 11 (by omega)).1⟩
            obtain ⟨u12', a12⟩ : ∃ v, wf.cell? ⟨b, 4 + i * 13 + 12, none⟩ = some v := ⟨_, (HSF.out.story hi64 12 (by omega)).1⟩
            have q5 := (HSF.out.story hi64 5 (by omega)).2
            have q6 := (HSF.out.story hi64 6 (by omega)).2
            have q7 := (HSF.out.story hi64 7 (by omega)).2
            have q8 := (HSF.out.story hi64 8 (by omega)).2
            have q9 := (HSF.out.story hi64 9 (by omega)).2
            have q10 := (HSF.out.story hi64 10 (by omega)).2
            have q11 := (HSF.out.story hi64 11 (by omega)).2
            have q12 := (HSF.out.story hi64 12 (by omega)).2
            have HPA := Lib.hid hpa
            clear hpa hom
            go_upto_region 14 with fail
            obtain ⟨wg, hwg⟩ : ∃ wg, ((((((((wf.setCell ⟨b, 4 + i * 13 + 5, none⟩ (.int .i64 2)).setCell ⟨b, 4 + i * 13 + 6, none⟩ (.int .i64 om.kind)).setCell ⟨b, 4 + i * 13 + 7, none⟩ (.int .i64 om.partner)).setCell ⟨b, 4 + i * 13 + 8, none⟩ (.int .i64 om.seq)).setCell ⟨b, 4 + i * 13 + 9, none⟩ (.int .i64 om.story)).setCell ⟨b, 4 + i * 13 + 10, none⟩ (.int .i64 om.base)).setCell ⟨b, 4 + i * 13 + 11, none⟩ (.int .i64 om.version)).setCell ⟨b, 4 + i * 13 + 12, none⟩ (.string ⟨om.data.toArray⟩)) = wg := ⟨_, rfl⟩
            rw [hwg] at HPA
            have HBG : Hid (But T we.heap.size we wg) := Lib.hid (by
              rw [← hwg]
              exact (((((((HBF.out.setCell HSE.out.at_.own _).setCell HSE.out.at_.own _).setCell HSE.out.at_.own _).setCell HSE.out.at_.own _).setCell HSE.out.at_.own _).setCell HSE.out.at_.own _).setCell HSE.out.at_.own _).setCell HSE.out.at_.own _)
            rw [hwg]
            clear hwg a5 a6 a7 a8 a9 a10 a11 a12 q5 q6 q7 q8 q9 q10 q11 q12 g0 g1 g2 g3 g4 g5 g6 s4
            have hno := HPA.out.putNone hi64
            simp only [upd_same, upd_upd] at hno
            have HBZ : Hid (But T we.heap.size we (wg.setCell ⟨b, 4 + i * 13 + 4, none⟩ (.pointer none))) := Lib.hid (HBG.out.setCell HSE.out.at_.own _)
            rw [← HOM.out] at hno
            have HSZ : Hid (Snd a0 a1 w0 T (wg.setCell ⟨b, 4 + i * 13 + 4, none⟩ (.pointer none)) b { S with st := upd S.st i { S.st i with held := o.text, out := none, acked := some o.msg } } (updP P i none)) := Lib.hid (HSE.out.of hno HBZ.out (fun k hk => .inl hk))
            have CP := Lib.hid (plan_any HSZ.out now hnow)
            have e4 := (HPA.out.story hi64 4 (by omega)).2
            obtain ⟨v4, c4⟩ : ∃ v, wg.cell? ⟨b, 4 + i * 13 + 4, none⟩ = some v := ⟨_, (HPA.out.story hi64 4 (by omega)).1⟩
            clear hno
            go_wp2_with (first | (go_at_call 27; refine CP.out.mono ?_; rintro e w9 ⟨rfl, hend⟩; have HEND := Lib.hid hend; clear hend) | fail)
            have HFIN : Hid (SEnd a0 a1 w0 T w b SR w9) := Lib.hid (by
              rw [HRV3.out]
              exact SEnd.via HSZ.out.at_.lt ((But.of_below HBE.out).trans (HBZ.out.mono HBE.out.size)) HEND.out)
            clear HEND CP
            go_wp2_with fail
            exact ⟨rfl, .tuple #[], by simp [results, Tryd.results15, go_sem], rfl, HFIN.out⟩
          · have hkb : (kind == 3) = false ∨ (kind == 3) = true ∧ (version == ov) = false := by
              by_cases hk : kind = 3
              · right; exact ⟨by rw [hk]; rfl, by rw [beq_eq_false_iff_ne]; exact fun h => hak ⟨hk, rfl, h⟩⟩
              · left; rw [beq_eq_false_iff_ne]; exact hk
            have HRV3 : Hid (SR = Sen.plan { S with st := upd S.st i { S.st i with held := .unk, out := none } } now) := Lib.hid (by
              rw [HRV.out]
              unfold Sen.recv1
              rw [HO.out]
              simp only
              rw [if_neg (fun h => hak ⟨h.2.1, rfl, by rw [← HOV.out]; exact h.2.2⟩), if_pos (by rw [HOQ.out]; exact hsq)])
            clear hsq hak HRV
            rcases hkb with hkb | ⟨hkb, hkb2⟩
            all_goals
              go_quiet (fail)
              obtain ⟨we, hwe⟩ : ∃ we, wd.drewN nq = we := ⟨_, rfl⟩
              have hbe : Below wd.heap.size wd we := by rw [← hwe]; exact (Below.refl _ _).drewN _
              have HSE : Hid (Snd a0 a1 w0 T we b S P) := Lib.hid (HSD.out.below hbe)
              have HBE : Hid (Below w.heap.size w we) := Lib.hid (HBD.out.trans (hbe.mono HBD.out.size))
              have HMK := Lib.hid (HMD.out.below hbe)
              have HGE := Lib.hid ((hbe.block g (Array.getElem?_eq_some_iff.1 HG0.out).1).trans HG0.out)
              rw [hwe]
              clear hwe hbe HSD HMD HBD HT2 HG0 k8 s4 g2 g5 m0 m1 m2 m3 m4 m5 m6
              obtain ⟨m0, m1, m2, m3, m4, m5, m6⟩ := HMK.out.c
              simp only at m0 m1 m2 m3 m4 m5 m6
              have s4 : we.cell? ⟨b, 4 + i * 13 + 4, none⟩ = some (.pointer (some ⟨g, 0, none⟩)) := by
                have := (HSE.out.at_.story hi64 4 (by omega)).1
                rw [HP4.out] at this
                exact this
              have SE := HSE.out.at_
              have e2 := (SE.story hi64 2 (by omega)).2
              have e3 := (SE.story hi64 3 (by omega)).2
              have e4 := (SE.story hi64 4 (by omega)).2
              obtain ⟨v2, c2⟩ : ∃ v, we.cell? ⟨b, 4 + i * 13 + 2, none⟩ = some v := ⟨_, (SE.story hi64 2 (by omega)).1⟩
              obtain ⟨v3, c3⟩ : ∃ v, we.cell? ⟨b, 4 + i * 13 + 3, none⟩ = some v := ⟨_, (SE.story hi64 3 (by omega)).1⟩
              clear SE
              have h1 := HSE.out.at_.putHeld hi64 .unk (by simp [Kn.txt])
              have hno := h1.putNone hi64
              simp only [upd_same, upd_upd] at hno
              have HBZ : Hid (But T we.heap.size we (((we.setCell ⟨b, 4 + i * 13 + 2, none⟩ (.int .i64 0)).setCell ⟨b, 4 + i * 13 + 3, none⟩ (.string ⟨#[]⟩)).setCell ⟨b, 4 + i * 13 + 4, none⟩ (.pointer none))) := Lib.hid ((((But.refl _ _ _).setCell HSE.out.at_.own _).setCell HSE.out.at_.own _).setCell HSE.out.at_.own _)
              have HSZ : Hid (Snd a0 a1 w0 T (((we.setCell ⟨b, 4 + i * 13 + 2, none⟩ (.int .i64 0)).setCell ⟨b, 4 + i * 13 + 3, none⟩ (.string ⟨#[]⟩)).setCell ⟨b, 4 + i * 13 + 4, none⟩ (.pointer none)) b { S with st := upd S.st i { S.st i with held := .unk, out := none } } (updP P i none)) := Lib.hid (HSE.out.of hno HBZ.out (fun k hk => .inl hk))
              have CP := Lib.hid (plan_any HSZ.out now hnow)
              clear h1 hno
              go_wp2_with (first | (go_at_call 27; refine CP.out.mono ?_; rintro e w9 ⟨rfl, hend⟩; have HEND := Lib.hid hend; clear hend) | fail)
              have HFIN : Hid (SEnd a0 a1 w0 T w b SR w9) := Lib.hid (by
                rw [HRV3.out]
                exact SEnd.via HSZ.out.at_.lt ((But.of_below HBE.out).trans (HBZ.out.mono HBE.out.size)) HEND.out)
              clear HEND CP
              go_wp2_with fail
              exact ⟨rfl, .tuple #[], by simp [results, Tryd.results15, go_sem], rfl, HFIN.out⟩
        · have hsb : (seq == oq) = false := by rw [beq_eq_false_iff_ne]; exact hsq
          have HRV2 : Hid (SR = if kind = 4 ∧ oq < seq then Sen.plan { S with counter := max S.counter seq, st := upd S.st i { S.st i with held := .unk, out := none } } now else S) := Lib.hid (by
            rw [HRV.out]
            unfold Sen.recv1
            rw [HO.out]
            simp only
            rw [if_neg (fun h => hsq (h.1.trans HOQ.out)), if_neg (fun h => hsq (h.trans HOQ.out)), HOQ.out]
            by_cases hc : kind = 4 ∧ oq < seq
            · rw [if_pos hc, if_pos hc]
            · rw [if_neg hc, if_neg hc])
          clear hsq HRV
          go_quiet (fail)
          obtain ⟨we, hwe⟩ : ∃ we, wd.drewN nq = we := ⟨_, rfl⟩
          have hbe : Below wd.heap.size wd we := by rw [← hwe]; exact (Below.refl _ _).drewN _
          have HSE : Hid (Snd a0 a1 w0 T we b S P) := Lib.hid (HSD.out.below hbe)
          have HBE : Hid (Below w.heap.size w we) := Lib.hid (HBD.out.trans (hbe.mono HBD.out.size))
          have HMK := Lib.hid (HMD.out.below hbe)
          rw [hwe]
          clear hwe hbe HSD HMD HBD HT2 HG0 k8 s4 g2 g5 m0 m1 m2 m3 m4 m5 m6
          obtain ⟨m0, m1, m2, m3, m4, m5, m6⟩ := HMK.out.c
          simp only at m0 m1 m2 m3 m4 m5 m6
          have s4 : we.cell? ⟨b, 4 + i * 13 + 4, none⟩ = some (.pointer (some ⟨g, 0, none⟩)) := by
            have := (HSE.out.at_.story hi64 4 (by omega)).1
            rw [HP4.out] at this
            exact this
          by_cases hc : kind = 4 ∧ oq < seq
          · obtain ⟨hk4, hlt⟩ := hc
            have hkb : (kind == 4) = true := by rw [hk4]; rfl
            have hltb : decide (oq < seq) = true := decide_eq_true hlt
            have HRV3 : Hid (SR = Sen.plan { S with counter := max S.counter seq, st := upd S.st i { S.st i with held := .unk, out := none } } now) := Lib.hid (by rw [HRV2.out, if_pos ⟨hk4, hlt⟩])
            clear HRV2 hk4 hlt
            have SE := HSE.out.at_
            have e2 := (SE.story hi64 2 (by omega)).2
            have e3 := (SE.story hi64 3 (by omega)).2
            have e4 := (SE.story hi64 4 (by omega)).2
            obtain ⟨v2, c2⟩ : ∃ v, we.cell? ⟨b, 4 + i * 13 + 2, none⟩ = some v := ⟨_, (SE.story hi64 2 (by omega)).1⟩
            obtain ⟨v3, c3⟩ : ∃ v, we.cell? ⟨b, 4 + i * 13 + 3, none⟩ = some v := ⟨_, (SE.story hi64 3 (by omega)).1⟩
            clear SE
            go_upto_region 13 with fail
            obtain ⟨wf, hwf⟩ : ∃ wf, (we.setCell ⟨b, 4 + i * 13 + 2, none⟩ (.int .i64 0)).setCell ⟨b, 4 + i * 13 + 3, none⟩ (.string ⟨#[]⟩) = wf := ⟨_, rfl⟩
            have HSF : Hid (SenAt T wf b { S with st := upd S.st i { S.st i with held := .unk } } P) := Lib.hid (by rw [← hwf]; exact HSE.out.at_.putHeld hi64 .unk (by simp [Kn.txt]))
            have HBF : Hid (But T we.heap.size we wf) := Lib.hid (by rw [← hwf]; exact ((But.refl _ _ _).setCell HSE.out.at_.own _).setCell HSE.out.at_.own _)
            have HMF : Hid (MAt K ⟨kind, partner, seq, (i : Int) + 1, base, version, data⟩ wf) := Lib.hid (by rw [← hwf]; exact (HMK.out.far2 (HNK.out) _).far2 (HNK.out) _)
            rw [hwf]
            clear hwf c2 c3 e2 e3 e4 s4 m0 m1 m2 m3 m4 m5 m6
            obtain ⟨m0, m1, m2, m3, m4, m5, m6⟩ := HMF.out.c
            simp only at m0 m1 m2 m3 m4 m5 m6
            obtain ⟨c2, f2⟩ := HSF.out.cells 2 (by omega)
            simp only [senV] at c2
            obtain ⟨cn, hcn⟩ : ∃ x, S.counter = x := ⟨_, rfl⟩
            rw [hcn] at c2 HRV3
            have HCN := Lib.hid hcn
            clear hcn
            have hcr := HSF.out.ok.counter
            simp only at hcr
            rw [HCN.out] at hcr
            have hcn0 : decide (cn < seq) = decide (cn < seq) := rfl
            clear hcn0
            by_cases hmx : cn ≤ seq
            · have hmx2 : max cn seq = seq := by omega
              have HCC : Hid (cn ≤ seq ∧ seq ≤ 4611686018427387903) := Lib.hid ⟨hmx, hq2⟩
              go_region
              rw [hmx2] at HRV3
              clear hmx2
              obtain ⟨wg, hwg⟩ : ∃ wg, (wf.setCell ⟨b, 2, none⟩ (.int .i64 seq)).drew = wg := ⟨_, rfl⟩
              have HSG : Hid (SenAt T wg b { S with counter := seq, st := upd S.st i { S.st i with held := .unk } } P) := Lib.hid (by rw [← hwg]; exact (HSF.out.putCounter seq (by rw [HCN.out]; exact HCC.out)).below (Below.refl _ _).drew)
              have HBG : Hid (But T we.heap.size we wg) := Lib.hid (by rw [← hwg]; exact (HBF.out.setCell HSE.out.at_.own _).drew1)
              rw [hwg]
              clear hwg HMF c2 f2 m0 m1 m2 m3 m4 m5 m6
              have hno := HSG.out.putNone hi64
              simp only [upd_same, upd_upd] at hno
              have HBZ : Hid (But T we.heap.size we (wg.setCell ⟨b, 4 + i * 13 + 4, none⟩ (.pointer none))) := Lib.hid (HBG.out.setCell HSE.out.at_.own _)
              have HSZ : Hid (Snd a0 a1 w0 T (wg.setCell ⟨b, 4 + i * 13 + 4, none⟩ (.pointer none)) b { S with counter := seq, st := upd S.st i { S.st i with held := .unk, out := none } } (updP P i none)) := Lib.hid (HSE.out.of hno HBZ.out (fun k hk => .inl hk))
              have CP := Lib.hid (plan_any HSZ.out now hnow)
              have f4 := (HSG.out.story hi64 4 (by omega)).2
              obtain ⟨v4, c4⟩ : ∃ v, wg.cell? ⟨b, 4 + i * 13 + 4, none⟩ = some v := ⟨_, (HSG.out.story hi64 4 (by omega)).1⟩
              clear hno
              go_wp2_with (first | (go_at_call 27; refine CP.out.mono ?_; rintro e w9 ⟨rfl, hend⟩; have HEND := Lib.hid hend; clear hend) | fail)
              have HFIN : Hid (SEnd a0 a1 w0 T w b SR w9) := Lib.hid (by
                rw [HRV3.out]
                exact SEnd.via HSZ.out.at_.lt ((But.of_below HBE.out).trans (HBZ.out.mono HBE.out.size)) HEND.out)
              clear HEND CP
              go_wp2_with fail
              exact ⟨rfl, .tuple #[], by simp [results, Tryd.results15, go_sem], rfl, HFIN.out⟩
            · have hmx2 : max cn seq = cn := by omega
              have hmx3 : seq ≤ cn := by omega
              have HCC : Hid (cn ≤ cn ∧ cn ≤ 4611686018427387903) := Lib.hid ⟨Int.le_refl _, hcr.2⟩
              go_region
              rw [hmx2] at HRV3
              clear hmx2
              obtain ⟨wg, hwg⟩ : ∃ wg, (wf.setCell ⟨b, 2, none⟩ (.int .i64 cn)).drew = wg := ⟨_, rfl⟩
              have HSG : Hid (SenAt T wg b { S with counter := cn, st := upd S.st i { S.st i with held := .unk } } P) := Lib.hid (by rw [← hwg]; exact (HSF.out.putCounter cn (by rw [HCN.out]; exact HCC.out)).below (Below.refl _ _).drew)
              have HBG : Hid (But T we.heap.size we wg) := Lib.hid (by rw [← hwg]; exact (HBF.out.setCell HSE.out.at_.own _).drew1)
              rw [hwg]
              clear hwg HMF c2 f2 m0 m1 m2 m3 m4 m5 m6
              have hno := HSG.out.putNone hi64
              simp only [upd_same, upd_upd] at hno
              have HBZ : Hid (But T we.heap.size we (wg.setCell ⟨b, 4 + i * 13 + 4, none⟩ (.pointer none))) := Lib.hid (HBG.out.setCell HSE.out.at_.own _)
              have HSZ : Hid (Snd a0 a1 w0 T (wg.setCell ⟨b, 4 + i * 13 + 4, none⟩ (.pointer none)) b { S with counter := cn, st := upd S.st i { S.st i with held := .unk, out := none } } (updP P i none)) := Lib.hid (HSE.out.of hno HBZ.out (fun k hk => .inl hk))
              have CP := Lib.hid (plan_any HSZ.out now hnow)
              have f4 := (HSG.out.story hi64 4 (by omega)).2
              obtain ⟨v4, c4⟩ : ∃ v, wg.cell? ⟨b, 4 + i * 13 + 4, none⟩ = some v := ⟨_, (HSG.out.story hi64 4 (by omega)).1⟩
              clear hno
              go_wp2_with (first | (go_at_call 27; refine CP.out.mono ?_; rintro e w9 ⟨rfl, hend⟩; have HEND := Lib.hid hend; clear hend) | fail)
              have HFIN : Hid (SEnd a0 a1 w0 T w b SR w9) := Lib.hid (by
                rw [HRV3.out]
                exact SEnd.via HSZ.out.at_.lt ((But.of_below HBE.out).trans (HBZ.out.mono HBE.out.size)) HEND.out)
              clear HEND CP
              go_wp2_with fail
              exact ⟨rfl, .tuple #[], by simp [results, Tryd.results15, go_sem], rfl, HFIN.out⟩
          · have HF : Hid (SEnd a0 a1 w0 T w b SR we) := Lib.hid (by rw [HRV2.out, if_neg hc]; exact ⟨T, P, HSE.out, But.of_below HBE.out, fun k hk => .inl hk⟩)
            have hkb : (kind == 4) = false ∨ (kind == 4) = true ∧ decide (oq < seq) = false := by
              by_cases hk : kind = 4
              · right; exact ⟨by rw [hk]; rfl, decide_eq_false fun h => hc ⟨hk, h⟩⟩
              · left; rw [beq_eq_false_iff_ne]; exact hk
            clear HRV2 hc
            rcases hkb with hkb | ⟨hkb, hkb2⟩
            all_goals
              go_wp2_with fail
              exact ⟨rfl, .tuple #[], by simp [results, Tryd.results15, go_sem], rfl, HF.out⟩
end Go.Proofs.YtefloieanpgnmaaDoor

/- Facts and contracts for the laws of the sender, part 4. Conditions: those that each theorem names. -/
import Derived.Test.YtefloieanpgnmaaDoorK03
/- Plain: what a plan makes of a sender. -/
namespace Go.Proofs.YtefloieanpgnmaaDoor

theorem countP_one {f g : Nat → Bool} {i : Nat} (h0 : f i = false) (h1 : g i = true) (h : ∀ j, j ≠ i → g j = f j) : ∀ n, (List.range n).countP g = (List.range n).countP f + if i < n then 1 else 0
  | 0 => by simp
  | n + 1 => by
    rw [List.range_succ, List.countP_append, List.countP_append, countP_one h0 h1 h n]
    simp only [List.countP_cons, List.countP_nil]
    by_cases e : n = i
    · subst e
      rw [h0, h1]
      simp
    · rw [h n e]
      by_cases hl : i < n
      · rw [if_pos hl, if_pos (show i < n + 1 by omega)]; omega
      · rw [if_neg hl, if_neg (show ¬ i < n + 1 by omega)]; omega
/-- the message that turns held into t -/
def nm (partner seq : Int) (i : Nat) (held t : Kn) : Msg := match t with
  | .pres x => match baseOf held with
    | some h => ⟨1, partner, seq, (i : Int) + 1, crcOf h, crcOf x, diffD h x⟩
    | none => ⟨1, partner, seq, (i : Int) + 1, 0, crcOf x, diffD [] x⟩
  | _ => ⟨2, partner, seq, (i : Int) + 1, 0, 0, []⟩
theorem nextMsg_nm (S : Sen) (i : Nat) (t : Kn) : nextMsg S i t = nm S.partner (S.counter + 1) i (S.st i).held t := rfl
theorem nm_seq (p q : Int) (i : Nat) (h t : Kn) : (nm p q i h t).seq = q := by
  unfold nm; split
  · split <;> rfl
  · rfl
theorem tgt_of {S S' : Sen} (hl : S'.lease = S.lease) (i : Nat) (hw : (S'.st i).wanted = (S.st i).wanted) (now : Int) : S'.tgt i now = S.tgt i now := by unfold Sen.tgt; rw [hl, hw]

/-- X: what the fill has made of D so far -/
structure FillR (D : Sen) (now : Int) (X : Sen × Nat) : Prop where
  lease : X.1.lease = D.lease
  partner : X.1.partner = D.partner
  audit : X.1.audit = D.audit
  wanted : ∀ i, (X.1.st i).wanted = (D.st i).wanted
  held : ∀ i, (X.1.st i).held = (D.st i).held
  acked : ∀ i, (X.1.st i).acked = (D.st i).acked
  keep : ∀ i o, (D.st i).out = some o → (X.1.st i).out = some o
  new : ∀ i o, (D.st i).out = none → (X.1.st i).out = some o → ∃ q, o = ⟨nm D.partner q i (D.st i).held (D.tgt i now), D.tgt i now, false, 0⟩ ∧ D.counter < q ∧ q ≤ X.1.counter ∧ (D.st i).held.is (D.tgt i now) = false
  num : X.2 = X.1.outs
  cnt : X.1.counter = D.counter + ((X.2 : Int) - (D.outs : Int))
  mono : D.outs ≤ X.2
  le : X.2 ≤ max 16 D.outs
theorem FillR.tgt {D : Sen} {now : Int} {X : Sen × Nat} (h : FillR D now X) (i : Nat) (t : Int) : X.1.tgt i t = D.tgt i t := tgt_of h.lease i (h.wanted i) t
theorem FillR.start (D : Sen) (now : Int) : FillR D now (D, D.outs) :=
  ⟨rfl, rfl, rfl, fun _ => rfl, fun _ => rfl, fun _ => rfl, fun _ _ h => h, (fun i o h k => by rw [h] at k; cases k), rfl, (by simp), Nat.le_refl _, (by simp only; omega)⟩
theorem outNew_st (S : Sen) (now : Int) (i j : Nat) : (outNew S now i).st j = if j = i then { S.st i with out := some ⟨nextMsg S i (S.tgt i now), S.tgt i now, false, 0⟩ } else S.st j := rfl
theorem FillR.one {D : Sen} {now : Int} {X : Sen × Nat} (h : FillR D now X) (c : Nat) {i : Nat} (hi : i < 64) : FillR D now (fill1 now c X i) := by
  by_cases hs : skips now c X i = true
  · rw [fill1_skip hs]; exact h
  · have hs : skips now c X i = false := by simpa using hs
    rw [fill1_new hs]
    obtain ⟨h1, h2, -, h4, h5⟩ := skips_false hs
    have hst := outNew_st X.1 now i
    have hc : (outNew X.1 now i).counter = X.1.counter + 1 := rfl
    have hD : (D.st i).out = none := by
      cases hd : (D.st i).out with
      | none => rfl
      | some o => rw [h.keep i o hd] at h1; cases h1
    have houts : (outNew X.1 now i).outs = X.1.outs + 1 := by
      unfold Sen.outs
      rw [countP_one (f := fun i => (X.1.st i).out.isSome) (i := i) (by simp [h1]) (by simp [hst]) (fun j hj => by simp [hst, hj]) 64, if_pos hi]
    have hx := h.cnt
    refine ⟨h.lease, h.partner, h.audit, fun j => ?_, fun j => ?_, fun j => ?_, fun j o hj => ?_, fun j o hj hx => ?_, ?_, ?_, ?_, ?_⟩
    · simp only [hst]; split
      · rename_i e; subst e; exact h.wanted _
      · exact h.wanted j
    · simp only [hst]; split
      · rename_i e; subst e; exact h.held _
      · exact h.held j
    · simp only [hst]; split
      · rename_i e; subst e; exact h.acked _
      · exact h.acked j
    · simp only [hst]; split
      · rename_i e; subst e; rw [hD] at hj; cases hj
      · exact h.keep j o hj
    · simp only [hst] at hx
      split at hx
      · rename_i e; subst e
        simp only [Option.some.injEq] at hx
        refine ⟨X.1.counter + 1, ?_, ?_, ?_, ?_⟩
        · rw [← hx, nextMsg_nm, h.partner, h.held, h.tgt]
        · have := h.mono; omega
        · simp only [hc]; omega
        · rw [← h.tgt, ← h.held]; exact h2
      · obtain ⟨q, h6, h7, h8, h9⟩ := h.new j o hj hx
        exact ⟨q, h6, h7, by simp only [hc]; omega, h9⟩
    · simp only [houts, h.num]
    · simp only [hc]; push_cast; omega
    · have := h.mono; simp only; omega
    · simp only; omega
theorem FillR.many {D : Sen} {now : Int} {X : Sen × Nat} (h : FillR D now X) (c : Nat) : ∀ k, k ≤ 64 → FillR D now (fillC now c X k)
  | 0, _ => by rw [fillC_zero]; exact h
  | k + 1, hk => by rw [fillC_succ]; exact (FillR.many h c k (by omega)).one c (by omega)
theorem FillR.all {D : Sen} {now : Int} {X : Sen × Nat} (h : FillR D now X) : ∀ c, FillR D now (fillK now X c)
  | 0 => by rw [fillK_zero]; exact h
  | c + 1 => by rw [fillK_succ]; exact (FillR.all h c).many c 64 (by omega)

theorem fill1_snd (now : Int) (c : Nat) (X : Sen × Nat) (i : Nat) : X.2 ≤ (fill1 now c X i).2 ∧ X.1.counter ≤ (fill1 now c X i).1.counter := by
  unfold fill1; split
  · exact ⟨Nat.le_refl _, Int.le_refl _⟩
  · exact ⟨by simp only; omega, by simp only [outNew]; omega⟩
theorem cls_two (h t : Kn) : cls 2 h t = true := by cases h <;> cases t <;> rfl
/-- the last pass: who is left out is settled, or there is no room -/
theorem fill_full {D : Sen} {now : Int} {X : Sen × Nat} (h : FillR D now X) : ∀ k, k ≤ 64 → ∀ i, i < k → ((fillC now 2 X k).1.st i).out = none → (D.st i).held.is (D.tgt i now) = true ∨ 16 ≤ (fillC now 2 X k).2 ∨ maxI ≤ (fillC now 2 X k).1.counter
  | 0, _, i, hi, _ => by omega
  | k + 1, hk, i, hi, ho => by
    have hX := h.many 2 k (by omega)
    have ih := fill_full h k (by omega)
    obtain ⟨Y, hY⟩ : ∃ Y, fillC now 2 X k = Y := ⟨_, rfl⟩
    rw [fillC_succ] at ho ⊢
    rw [hY] at ho hX ih ⊢
    have hm := fill1_snd now 2 Y k
    by_cases hs : skips now 2 Y k = true
    · rw [fill1_skip hs] at ho ⊢
      by_cases e : i = k
      · subst e
        unfold skips at hs
        rw [ho, hX.held, hX.tgt, cls_two] at hs
        simp only [Option.isSome_none, Bool.false_or, Bool.not_true, Bool.or_false, Bool.or_eq_true, decide_eq_true_eq] at hs
        rcases hs with (hs | hs) | hs
        · exact .inl hs
        · exact .inr (.inl hs)
        · exact .inr (.inr hs)
      · exact ih i (by omega) ho
    · have hs : skips now 2 Y k = false := by simpa using hs
      have hf := fill1_new hs
      by_cases e : i = k
      · subst e
        rw [hf] at ho
        simp [outNew_st] at ho
      · have ho' : (Y.1.st i).out = none := by
          rw [hf] at ho
          simpa [outNew_st, e] using ho
        rcases ih i (by omega) ho' with h1 | h1 | h1
        · exact .inl h1
        · exact .inr (.inl (by omega))
        · exact .inr (.inr (by omega))

/-- what a plan makes of S -/
structure PlanR (S : Sen) (now : Int) (S' : Sen) : Prop where
  lease : S'.lease = S.lease
  partner : S'.partner = S.partner
  audit : S'.audit = S.audit
  wanted : ∀ i, (S'.st i).wanted = (S.st i).wanted
  acked : ∀ i, (S'.st i).acked = (S.st i).acked
  cnt : S.counter ≤ S'.counter ∧ S'.counter ≤ S.counter + 16
  held : ∀ i, (S'.st i).held = (S.st i).held ∨ (S'.st i).held = .unk
  heldN : ∀ i, i < 64 → (S.st i).out = none → (S'.st i).held = (S.st i).held
  heldO : ∀ i o, i < 64 → (S.st i).out = some o → o.sent = false → (S'.st i).held = (S.st i).held
  heldX : ∀ i o, i < 64 → (S.st i).out = some o → o.text.is (S.tgt i now) = false → o.sent = true → (S'.st i).held = .unk
  keep : ∀ i o, i < 64 → (S.st i).out = some o → o.text.is (S.tgt i now) = true → (S'.st i).out = some o ∧ (S'.st i).held = (S.st i).held
  new : ∀ i o, i < 64 → (S'.st i).out = some o → ((S.st i).out = some o ∧ o.text.is (S.tgt i now) = true) ∨ ∃ q, o = ⟨nm S.partner q i (S'.st i).held (S.tgt i now), S.tgt i now, false, 0⟩ ∧ S.counter < q ∧ q ≤ S'.counter ∧ (S'.st i).held.is (S.tgt i now) = false
  full : S'.outs < 16 → S'.counter < maxI → ∀ i, i < 64 → (S'.st i).out = none → (S'.st i).held.is (S.tgt i now) = true
  outs : S.outs ≤ 16 → S'.outs ≤ 16
  out_ : ∀ i, 64 ≤ i → (S'.st i).held = (S.st i).held
theorem PlanR.tgt {S S' : Sen} {now : Int} (h : PlanR S now S') (i : Nat) (t : Int) : S'.tgt i t = S.tgt i t := tgt_of h.lease i (h.wanted i) t
theorem drops_st (S : Sen) (now : Int) (i : Nat) : (S.drops now 64).st i = if i < 64 then drop1 (S.tgt i now) (S.st i) else S.st i := rfl
theorem drop1_wanted (t : Kn) (x : Sto) : (drop1 t x).wanted = x.wanted ∧ (drop1 t x).acked = x.acked := by
  unfold drop1; split
  · exact ⟨rfl, rfl⟩
  · split <;> exact ⟨rfl, rfl⟩
theorem drop1_none {t : Kn} {x : Sto} (h : x.out = none) : drop1 t x = x := by unfold drop1; rw [h]
theorem drop1_keep {t : Kn} {x : Sto} {o : Out} (h : x.out = some o) (k : o.text.is t = true) : drop1 t x = x := by unfold drop1; rw [h]; simp only; rw [if_pos k]
theorem drop1_drop {t : Kn} {x : Sto} {o : Out} (h : x.out = some o) (k : o.text.is t = false) : drop1 t x = { x with held := if o.sent then .unk else x.held, out := none } := by unfold drop1; rw [h]; simp only; rw [if_neg (by rw [k]; decide)]
theorem countP_le_of {f g : Nat → Bool} : ∀ n, (∀ j, j < n → g j = true → f j = true) → (List.range n).countP g ≤ (List.range n).countP f
  | 0, _ => by simp
  | n + 1, h => by
    rw [List.range_succ, List.countP_append, List.countP_append]
    have := countP_le_of n fun j hj => h j (by omega)
    simp only [List.countP_cons, List.countP_nil]
    cases hg : g n with
    | false => simp; omega
    | true => rw [h n (by omega) hg]; simp; omega
theorem cnt_room {a b c : Int} {x d : Nat} (h1 : a = b + ((x : Int) - (d : Int))) (h2 : d ≤ x) (h3 : x ≤ max 16 d) (h : b = c) (h4 : d ≤ 64) : c ≤ a ∧ a ≤ c + 16 := by omega
theorem plan_rel (S : Sen) (now : Int) : PlanR S now (S.plan now) := by
  obtain ⟨D, hD⟩ : ∃ D, S.drops now 64 = D := ⟨_, rfl⟩
  have hl : D.lease = S.lease := by rw [← hD]; rfl
  have hp : D.partner = S.partner := by rw [← hD]; rfl
  have hau : D.audit = S.audit := by rw [← hD]; rfl
  have hc : D.counter = S.counter := by rw [← hD]; rfl
  have hst : ∀ i, D.st i = if i < 64 then drop1 (S.tgt i now) (S.st i) else S.st i := fun i => by rw [← hD]; rfl
  have hw : ∀ i, (D.st i).wanted = (S.st i).wanted ∧ (D.st i).acked = (S.st i).acked := fun i => by
    rw [hst]; split
    · exact drop1_wanted _ _
    · exact ⟨rfl, rfl⟩
  have ht : ∀ i, D.tgt i now = S.tgt i now := fun i => tgt_of hl i (hw i).1 now
  have h0 := FillR.start D now
  have hK := h0.all 3
  have hpl : S.plan now = (fillK now (D, D.outs) 3).1 := by unfold Sen.plan; rw [hD]
  have hfull := fill_full (h0.all 2) 64 (by omega)
  rw [← fillK_succ, show 2 + 1 = 3 from rfl] at hfull
  rw [hpl]
  obtain ⟨X, hX⟩ : ∃ X, fillK now (D, D.outs) 3 = X := ⟨_, rfl⟩
  rw [hX] at hK
  rw [hX] at hfull
  rw [hX]
  clear hX hpl h0 hD
  have hDout : ∀ i o, (D.st i).out = some o → (S.st i).out = some o := fun i o h => by
    rw [hst] at h; split at h
    · cases hs : (S.st i).out with
      | none => rw [drop1_none hs, hs] at h; cases h
      | some o' =>
        by_cases hk : o'.text.is (S.tgt i now) = true
        · rw [drop1_keep hs hk, hs] at h; exact h
        · rw [drop1_drop hs (by simpa using hk)] at h; cases h
    · exact h
  have houtsD : D.outs ≤ S.outs := by
    unfold Sen.outs
    refine countP_le_of 64 fun j hj h => ?_
    obtain ⟨o, ho⟩ := Option.isSome_iff_exists.1 h
    rw [hDout j o ho]; rfl
  have hkp : ∀ i o, i < 64 → (S.st i).out = some o → o.text.is (S.tgt i now) = true → D.st i = S.st i := fun i o hi ho hk => by rw [hst, if_pos hi, drop1_keep ho hk]
  refine ⟨hK.lease.trans hl, hK.partner.trans hp, hK.audit.trans hau, fun i => (hK.wanted i).trans (hw i).1, fun i => (hK.acked i).trans (hw i).2, ?_, fun i => ?_, fun i hi ho => ?_, fun i o hi ho hs => ?_, fun i o hi ho hn hs => ?_, fun i o hi ho hk => ?_, fun i o hi ho => ?_, fun hn hm i hi ho => ?_, fun hn => ?_, fun i hi => ?_⟩
  · exact cnt_room hK.cnt hK.mono hK.le hc (outs_le D)
  · rw [hK.held, hst]
    split
    · cases hs : (S.st i).out with
      | none => rw [drop1_none hs]; exact .inl rfl
      | some o =>
        by_cases hk : o.text.is (S.tgt i now) = true
        · rw [drop1_keep hs hk]; exact .inl rfl
        · rw [drop1_drop hs (by simpa using hk)]
          simp only
          split
          · exact .inr rfl
          · exact .inl rfl
    · exact .inl rfl
  · rw [hK.held, hst, if_pos hi, drop1_none ho]
  · rw [hK.held, hst, if_pos hi]
    by_cases hk : o.text.is (S.tgt i now) = true
    · rw [drop1_keep ho hk]
    · rw [drop1_drop ho (by simpa using hk)]
      simp [hs]
  · rw [hK.held, hst, if_pos hi, drop1_drop ho hn]
    simp [hs]
  · have := hkp i o hi ho hk
    exact ⟨hK.keep i o (by rw [this]; exact ho), by rw [hK.held, this]⟩
  · cases hd : (D.st i).out with
    | some o' =>
      rw [hK.keep i o' hd] at ho
      cases ho
      have hs := hDout i _ hd
      refine .inl ⟨hs, ?_⟩
      cases hk : o.text.is (S.tgt i now) with
      | true => rfl
      | false => rw [hst, if_pos hi, drop1_drop hs hk] at hd; cases hd
    | none =>
      obtain ⟨q, h1, h2, h3, h4⟩ := hK.new i o hd ho
      exact .inr ⟨q, by rw [h1, hp, ht, hK.held], by omega, h3, by rw [hK.held, ← ht]; exact h4⟩
  · rw [hK.held, ← ht]
    rcases hfull i hi ho with h1 | h1 | h1
    · exact h1
    · rw [hK.num] at h1; omega
    · omega
  · have := hK.le
    rw [← hK.num]; omega
  · rw [hK.held, hst, if_neg (by omega)]
end Go.Proofs.YtefloieanpgnmaaDoor
/- Plain: what is true of a sender, of the partner, and of what is on its way. -/
namespace Go.Proofs.YtefloieanpgnmaaDoor

def KOk (Q : Nat → List UInt8 → Prop) (i : Nat) (k : Kn) : Prop := ∀ t, k = .pres t → Q i t
/-- texts that may occur: not too long, told apart by their checksums, which are not 0 -/
structure QOk (Q : Nat → List UInt8 → Prop) : Prop where
  len : ∀ i t, Q i t → t.length ≤ 8192
  crc : ∀ i t, Q i t → crcOf t ≠ 0
  inj : ∀ i t u, Q i t → Q i u → crcOf t = crcOf u → t = u
/-- m is a message about story i that brings k -/
def Brings (Q : Nat → List UInt8 → Prop) (i : Nat) (m : Msg) (k : Kn) : Prop :=
  m.partner = 2 ∧ m.story = (i : Int) + 1 ∧
  ((k = .abs ∧ m.kind = 2 ∧ m.base = 0 ∧ m.version = 0 ∧ m.data = []) ∨
   (∃ x, k = .pres x ∧ Q i x ∧ m.kind = 1 ∧ m.version = crcOf x ∧ ((m.base = 0 ∧ m.data = diffD [] x) ∨ ∃ h, Q i h ∧ crcOf h ≠ 0 ∧ m.base = crcOf h ∧ m.data = diffD h x)))
theorem Brings.mono {Q Q' : Nat → List UInt8 → Prop} {i : Nat} {m : Msg} {k : Kn} (h : Brings Q i m k) (hQ : ∀ t, Q i t → Q' i t) : Brings Q' i m k := by
  obtain ⟨h1, h2, h3⟩ := h
  refine ⟨h1, h2, ?_⟩
  rcases h3 with h3 | ⟨x, h4, h5, h6, h7, h8⟩
  · exact .inl h3
  · refine .inr ⟨x, h4, hQ _ h5, h6, h7, ?_⟩
    rcases h8 with h8 | ⟨y, h9, h10⟩
    · exact .inl h8
    · exact .inr ⟨y, hQ _ h9, h10⟩
theorem Brings.nm {Q : Nat → List UInt8 → Prop} {i : Nat} {held t : Kn} (q : Int) (hh : KOk Q i held) (ht : KOk Q i t) (hu : t ≠ .unk) : Brings Q i (nm 2 q i held t) t := by
  cases t with
  | unk => exact absurd rfl hu
  | abs => exact ⟨rfl, rfl, .inl ⟨rfl, rfl, rfl, rfl, rfl⟩⟩
  | pres x =>
    unfold Proofs.YtefloieanpgnmaaDoor.nm
    simp only
    cases hb : baseOf held with
    | none => exact ⟨rfl, rfl, .inr ⟨x, rfl, ht x rfl, rfl, rfl, .inl ⟨rfl, rfl⟩⟩⟩
    | some h =>
      obtain ⟨h1, h2⟩ := baseOf_some hb
      exact ⟨rfl, rfl, .inr ⟨x, rfl, ht x rfl, rfl, rfl, .inr ⟨h, hh h h1, h2, rfl, rfl⟩⟩⟩
theorem Brings.ne {Q : Nat → List UInt8 → Prop} {i : Nat} {m : Msg} {k : Kn} (h : Brings Q i m k) : k ≠ .unk := by
  rcases h.2.2 with ⟨rfl, _⟩ | ⟨x, rfl, _⟩ <;> simp

structure SI (Q : Nat → List UInt8 → Prop) (S : Sen) : Prop where
  partner : S.partner = 2
  pos : 0 ≤ S.counter
  wanted : ∀ i, i < 64 → KOk Q i (S.st i).wanted ∧ (S.st i).wanted ≠ .unk
  held : ∀ i, i < 64 → KOk Q i (S.st i).held
  outs : ∀ i o, i < 64 → (S.st i).out = some o → Brings Q i o.msg o.text ∧ 1 ≤ o.msg.seq ∧ o.msg.seq ≤ S.counter
  acked : ∀ i m, i < 64 → (S.st i).acked = some m → 1 ≤ m.seq ∧ m.seq ≤ S.counter ∧ ∃ k, Brings Q i m k ∧ ((S.st i).held ≠ .unk → (S.st i).held = k)
  known : ∀ i, i < 64 → (S.st i).held ≠ .unk → (S.st i).acked ≠ none
  out16 : S.outs ≤ 16
theorem SI.mono {Q Q' : Nat → List UInt8 → Prop} {S : Sen} (h : SI Q S) (hQ : ∀ i t, i < 64 → Q i t → Q' i t) : SI Q' S :=
  ⟨h.partner, h.pos, fun i hi => ⟨fun t e => hQ i t hi ((h.wanted i hi).1 t e), (h.wanted i hi).2⟩, fun i hi t e => hQ i t hi (h.held i hi t e), fun i o hi ho => ⟨(h.outs i o hi ho).1.mono fun t => hQ i t hi, (h.outs i o hi ho).2⟩,
    fun i m hi hm => by
      obtain ⟨h1, h2, k, h3, h4⟩ := h.acked i m hi hm
      exact ⟨h1, h2, k, h3.mono fun t => hQ i t hi, h4⟩, h.known, h.out16⟩
theorem SI.tgt {Q : Nat → List UInt8 → Prop} {S : Sen} (h : SI Q S) {i : Nat} (hi : i < 64) (now : Int) : KOk Q i (S.tgt i now) ∧ S.tgt i now ≠ .unk := by
  unfold Sen.tgt; split
  · exact ⟨(fun t e => by cases e), (by simp)⟩
  · exact h.wanted i hi
theorem SI.plan {Q : Nat → List UInt8 → Prop} {S S' : Sen} {now : Int} (h : SI Q S) (hp : PlanR S now S') : SI Q S' := by
  have hc := hp.cnt
  have hh : ∀ i, i < 64 → KOk Q i (S'.st i).held := fun i hi t e => by
    rcases hp.held i with h1 | h1
    · exact h.held i hi t (by rw [← h1]; exact e)
    · rw [h1] at e; cases e
  refine ⟨hp.partner.trans h.partner, by have := h.pos; omega, fun i hi => by rw [hp.wanted]; exact h.wanted i hi, hh, fun i o hi ho => ?_, fun i m hi hm => ?_, fun i hi hu => ?_, hp.outs h.out16⟩
  · rcases hp.new i o hi ho with ⟨h1, -⟩ | ⟨q, h1, h2, h3, -⟩
    · have := h.outs i o hi h1
      exact ⟨this.1, this.2.1, by omega⟩
    · subst h1
      simp only
      rw [nm_seq, h.partner]
      exact ⟨Brings.nm q (hh i hi) (h.tgt hi now).1 (h.tgt hi now).2, by have := h.pos; omega, h3⟩
  · rw [hp.acked] at hm
    obtain ⟨h1, h2, k, h3, h4⟩ := h.acked i m hi hm
    refine ⟨h1, by omega, k, h3, fun hu => ?_⟩
    rcases hp.held i with h5 | h5
    · rw [h5] at hu ⊢; exact h4 hu
    · exact absurd h5 hu
  · rw [hp.acked]
    rcases hp.held i with h5 | h5
    · rw [h5] at hu; exact h.known i hi hu
    · exact absurd h5 hu
theorem outs_lose {S S' : Sen} {i : Nat} {x : Sto} (h : ∀ j, S'.st j = upd S.st i x j) (hx : x.out = none) : S'.outs ≤ S.outs := by
  unfold Sen.outs
  refine countP_le_of 64 fun j _ hj => ?_
  rw [h] at hj
  unfold upd at hj
  split at hj
  · rw [hx] at hj; cases hj
  · exact hj
/-- one story forgets its message -/
theorem SI.lose {Q : Nat → List UInt8 → Prop} {S : Sen} (h : SI Q S) (i : Nat) (k : Kn) (a : Option Msg) (c : Int) (hc : S.counter ≤ c) (hk : i < 64 → KOk Q i k)
    (ha : ∀ m, i < 64 → a = some m → 1 ≤ m.seq ∧ m.seq ≤ c ∧ ∃ k', Brings Q i m k' ∧ (k ≠ .unk → k = k')) (hu : i < 64 → k ≠ .unk → a ≠ none) : SI Q { S with counter := c, st := upd S.st i { S.st i with held := k, out := none, acked := a } } := by
  have hst : ∀ j, upd S.st i { S.st i with held := k, out := none, acked := a } j = if j = i then { S.st i with held := k, out := none, acked := a } else S.st j := fun j => rfl
  refine ⟨h.partner, by have := h.pos; simp only; omega, fun j hj => ?_, fun j hj => ?_, fun j o hj ho => ?_, fun j m hj hm => ?_, fun j hj => ?_, Nat.le_trans (outs_lose (fun _ => rfl) rfl) h.out16⟩
  · simp only [hst]; split
    · rename_i e; subst e; exact h.wanted _ hj
    · exact h.wanted j hj
  · simp only [hst]; split
    · rename_i e; subst e; exact hk hj
    · exact h.held j hj
  · simp only [hst] at ho; split at ho
    · cases ho
    · have := h.outs j o hj ho
      exact ⟨this.1, this.2.1, by simp only; omega⟩
  · simp only [hst] at hm ⊢; split
    · rename_i e; subst e
      rw [if_pos rfl] at hm
      exact ha m hj hm
    · rename_i e
      rw [if_neg e] at hm
      obtain ⟨h1, h2, h3⟩ := h.acked j m hj hm
      exact ⟨h1, by omega, h3⟩
  · simp only [hst]; split
    · rename_i e; subst e; exact hu hj
    · exact h.known j hj

/-! ### the partner -/
structure PI (Q : Nat → List UInt8 → Prop) (B : Int) (p : Peer) : Prop where
  seq : ∀ i, i < 64 → 0 ≤ p.seq (i + 1) ∧ p.seq (i + 1) ≤ B
  text : ∀ i, i < 64 → (p.has (i + 1) = true → Q i (p.text (i + 1))) ∧ (p.has (i + 1) = false → p.text (i + 1) = [])
def Peer.copy (p : Peer) (i : Nat) : Kn := if p.has (i + 1) then .pres (p.text (i + 1)) else .abs
/-- an answer tells how it stood when the partner had accepted the number q -/
def Tells (p : Peer) (i : Nat) (q v : Int) : Prop := q ≤ p.seq (i + 1) ∧ (q = p.seq (i + 1) → v = p.sum (i + 1))
structure AOk (B : Int) (p : Peer) (i : Nat) (a : Msg) : Prop where
  lt : i < 64
  story : a.story = (i : Int) + 1
  valid : a.valid = true
  partner : a.partner = 2
  kind : a.kind = 3 ∨ a.kind = 4
  seq : 1 ≤ a.seq ∧ a.seq ≤ B
  tells : a.kind = 3 → Tells p i a.seq a.version
/-- p' is p, or has accepted more -/
def Grew (p p' : Peer) : Prop := ∀ i, i < 64 → p.seq (i + 1) ≤ p'.seq (i + 1) ∧ (p'.seq (i + 1) = p.seq (i + 1) → p'.has (i + 1) = p.has (i + 1) ∧ p'.text (i + 1) = p.text (i + 1))
theorem Grew.refl (p : Peer) : Grew p p := fun _ _ => ⟨Int.le_refl _, fun _ => ⟨rfl, rfl⟩⟩
theorem Tells.grew {p p' : Peer} (h : Grew p p') {i : Nat} (hi : i < 64) {q v : Int} (k : Tells p i q v) : Tells p' i q v := by
  obtain ⟨h1, h2⟩ := h i hi
  refine ⟨by have := k.1; omega, fun e => ?_⟩
  have h3 : p'.seq (i + 1) = p.seq (i + 1) := by have := k.1; omega
  obtain ⟨h4, h5⟩ := h2 h3
  unfold Peer.sum
  rw [h4, h5]
  exact k.2 (by omega)
theorem AOk.grew {B : Int} {p p' : Peer} (h : Grew p p') {i : Nat} {a : Msg} (k : AOk B p i a) {B' : Int} (hB : B ≤ B') : AOk B' p' i a :=
  ⟨k.lt, k.story, k.valid, k.partner, k.kind, ⟨k.seq.1, by have := k.seq.2; omega⟩, fun e => (k.tells e).grew h k.lt⟩
theorem sum_copy {Q : Nat → List UInt8 → Prop} (hQ : QOk Q) {B : Int} {p : Peer} (h : PI Q B p) {i : Nat} (hi : i < 64) {m : Msg} {k : Kn} (hb : Brings Q i m k) (hv : m.version = p.sum (i + 1)) : p.copy i = k := by
  unfold Peer.sum at hv
  unfold Peer.copy
  cases hh : p.has (i + 1) with
  | false =>
    rw [hh] at hv
    simp only [Bool.false_eq_true, if_false] at hv ⊢
    rcases hb.2.2 with ⟨h1, _⟩ | ⟨x, h1, h2, h3, h4, _⟩
    · rw [h1]
    · have := hQ.crc i x h2
      omega
  | true =>
    rw [hh] at hv
    simp only [if_true] at hv ⊢
    have ht := (h.text i hi).1 hh
    rcases hb.2.2 with ⟨h1, h2, h3, h4, _⟩ | ⟨x, h1, h2, h3, h4, _⟩
    · have := hQ.crc i _ ht
      omega
    · rw [h1, hQ.inj i _ x ht h2 (by omega)]
theorem sum_range (p : Peer) (j : Nat) : 0 ≤ p.sum j ∧ p.sum j ≤ 4294967295 := by
  unfold Peer.sum; split
  · have := crcOf_le (p.text j); omega
  · omega
theorem ack_valid {m : Msg} {q v : Int} (h1 : 1 ≤ q) (h2 : q ≤ 4611686018427387903) (h3 : m.partner = 2) (h4 : 1 ≤ m.story ∧ m.story ≤ 64) (h5 : 0 ≤ v ∧ v ≤ 4294967295) : (ackOf m q v).valid = true := by
  unfold Msg.valid ackOf
  simp only [decide_eq_true_eq]
  refine ⟨by omega, by omega, h1, h2, h4.1, h4.2, by omega, by omega, h5.1, h5.2, .inr (.inr (.inl (by simp)))⟩
theorem rej_valid {m : Msg} {q v : Int} (h1 : 1 ≤ q) (h2 : q ≤ 4611686018427387903) (h3 : m.partner = 2) (h4 : 1 ≤ m.story ∧ m.story ≤ 64) (h5 : 0 ≤ v ∧ v ≤ 4294967295) : (rejOf m q v).valid = true := by
  unfold Msg.valid rejOf
  simp only [decide_eq_true_eq]
  refine ⟨by omega, by omega, h1, h2, h4.1, h4.2, h5.1, h5.2, by omega, by omega, .inr (.inr (.inr (by simp)))⟩
/-- what a delivery makes of the copy -/
theorem made_of {Q : Nat → List UInt8 → Prop} (hQ : QOk Q) {B : Int} {p : Peer} (h : PI Q B p) {i : Nat} (hi : i < 64) {m : Msg} {x : List UInt8} (hb : Brings Q i m (.pres x)) : p.made m = some x ∨ (p.made m = none ∧ m.base ≠ 0) := by
  obtain ⟨-, hs, h3⟩ := hb
  rcases h3 with ⟨h3, _⟩ | ⟨y, h3, hx, hk, hv, h4⟩
  · cases h3
  · cases h3
    have hlx := hQ.len i x hx
    have hst : m.story.toNat = i + 1 := by omega
    unfold Peer.made
    rw [hst]
    rcases h4 with ⟨h5, h6⟩ | ⟨y, hy, hy0, h5, h6⟩
    · left
      rw [if_pos h5, h6, apply_diff (by simp) (by omega)]
      simp only
      rw [if_pos ⟨by rw [h5, crcOf_nil]; rfl, hv.symm⟩]
    · have hb0 : m.base ≠ 0 := by omega
      rw [if_neg hb0]
      by_cases he : crcOf (p.text (i + 1)) = crcOf y
      · have hey : p.text (i + 1) = y := by
          cases hh : p.has (i + 1) with
          | false =>
            rw [(h.text i hi).2 hh, crcOf_nil] at he
            exact absurd he.symm hy0
          | true => exact hQ.inj i _ y ((h.text i hi).1 hh) hy he
        left
        rw [hey, h6, apply_diff (hQ.len i y hy) hlx]
        simp only
        rw [if_pos ⟨h5.symm, hv.symm⟩]
      · right
        refine ⟨?_, hb0⟩
        split
        · rw [if_neg (by omega)]
        · rfl
/-- what the partner makes of a message -/
structure AnsR (Q : Nat → List UInt8 → Prop) (B : Int) (p : Peer) (i : Nat) (m : Msg) (k : Kn) (a : Msg) (p' : Peer) : Prop where
  pi : PI Q B p'
  grew : Grew p p'
  aok : AOk B p' i a
  far : ∀ j, j ≠ i → j < 64 → p'.seq (j + 1) = p.seq (j + 1) ∧ p'.has (j + 1) = p.has (j + 1) ∧ p'.text (j + 1) = p.text (j + 1)
  way : (a.kind = 3 ∧ a.seq = m.seq ∧ a.version = m.version ∧ p'.seq (i + 1) = m.seq ∧ p'.copy i = k) ∨
    (p' = p ∧ p.seq (i + 1) < m.seq ∧ m.base ≠ 0 ∧ a.kind = 4 ∧ a.seq = m.seq) ∨
    (p' = p ∧ p.seq (i + 1) = m.seq ∧ a.kind = 3 ∧ a.seq = m.seq ∧ a.version ≠ m.version) ∨
    (p' = p ∧ m.seq < p.seq (i + 1) ∧ a.kind = 4 ∧ a.seq = p.seq (i + 1))
theorem take_at {p : Peer} {i : Nat} {q : Int} {h : Bool} {t : List UInt8} : (p.take i q h t).seq i = q ∧ (p.take i q h t).has i = h ∧ (p.take i q h t).text i = t := by simp [Peer.take, updF]
theorem take_far {p : Peer} {i j : Nat} {q : Int} {h : Bool} {t : List UInt8} (e : j ≠ i) : (p.take i q h t).seq j = p.seq j ∧ (p.take i q h t).has j = p.has j ∧ (p.take i q h t).text j = p.text j := by simp [Peer.take, updF, e]
theorem take_grew {p : Peer} {i : Nat} {q : Int} {h : Bool} {t : List UInt8} (hq : p.seq (i + 1) < q) : Grew p (p.take (i + 1) q h t) := fun j _ => by
  by_cases e : j = i
  · subst e
    rw [take_at.1]
    exact ⟨by omega, fun e => by omega⟩
  · have := take_far (p := p) (q := q) (h := h) (t := t) (show j + 1 ≠ i + 1 by omega)
    rw [this.1, this.2.1, this.2.2]
    exact ⟨Int.le_refl _, fun _ => ⟨rfl, rfl⟩⟩
theorem take_pi {Q : Nat → List UInt8 → Prop} {B : Int} {p : Peer} (h : PI Q B p) {i : Nat} {q : Int} {b : Bool} {t : List UInt8} (hq : 0 ≤ q ∧ q ≤ B) (h1 : b = true → Q i t) (h2 : b = false → t = []) : PI Q B (p.take (i + 1) q b t) := by
  refine ⟨fun j hj => ?_, fun j hj => ?_⟩
  · by_cases e : j = i
    · subst e; rw [take_at.1]; exact hq
    · rw [(take_far (show j + 1 ≠ i + 1 by omega)).1]; exact h.seq j hj
  · by_cases e : j = i
    · subst e; rw [take_at.2.1, take_at.2.2]; exact ⟨h1, h2⟩
    · have := take_far (p := p) (q := q) (h := b) (t := t) (show j + 1 ≠ i + 1 by omega)
      rw [this.2.1, this.2.2]; exact h.text j hj
theorem answer_rel {Q : Nat → List UInt8 → Prop} (hQ : QOk Q) {B : Int} (hB : B ≤ 4611686018427387903) {p : Peer} (h : PI Q B p) {i : Nat} (hi : i < 64) {m : Msg} {k : Kn} (hb : Brings Q i m k) (hs1 : 1 ≤ m.seq) (hs2 : m.seq ≤ B) : AnsR Q B p i m k (p.answer m).1 (p.answer m).2 := by
  have hst : m.story.toNat = i + 1 := by have := hb.2.1; omega
  have hst2 : 1 ≤ m.story ∧ m.story ≤ 64 := by have := hb.2.1; omega
  have hstory := hb.2.1
  have hpart := hb.1
  have hq := h.seq i hi
  have hsr := sum_range p (i + 1)
  have hver : 0 ≤ m.version ∧ m.version ≤ 4294967295 := by
    rcases hb.2.2 with ⟨-, -, -, h1, -⟩ | ⟨x, -, -, -, h1, -⟩
    · omega
    · have := crcOf_le x; omega
  unfold Peer.answer
  rw [if_neg (by omega), hst]
  by_cases h1 : m.seq ≤ p.seq (i + 1)
  · rw [if_pos h1]
    by_cases h2 : m.seq = p.seq (i + 1)
    · rw [if_pos h2]
      refine ⟨h, Grew.refl p, ⟨hi, hstory, ack_valid (by omega) (by omega) hpart hst2 hsr, hpart, .inl rfl, by simp only [ackOf]; omega, fun _ => ⟨Int.le_refl _, fun _ => rfl⟩⟩, fun j _ _ => ⟨rfl, rfl, rfl⟩, ?_⟩
      by_cases h3 : m.version = p.sum (i + 1)
      · exact .inl ⟨rfl, h2.symm, h3.symm, h2.symm, sum_copy hQ h hi hb h3⟩
      · exact .inr (.inr (.inl ⟨rfl, h2.symm, rfl, h2.symm, fun e => h3 e.symm⟩))
    · rw [if_neg h2]
      refine ⟨h, Grew.refl p, ⟨hi, hstory, rej_valid (by omega) (by omega) hpart hst2 hsr, hpart, .inr rfl, by simp only [rejOf]; omega, fun e => ?_⟩, fun j _ _ => ⟨rfl, rfl, rfl⟩, .inr (.inr (.inr ⟨rfl, by omega, rfl, rfl⟩))⟩
      simp [rejOf] at e
  · rw [if_neg h1]
    by_cases hk : m.kind = 1
    · rw [if_pos hk]
      obtain ⟨x, rfl⟩ : ∃ x, k = .pres x := by
        rcases hb.2.2 with ⟨-, h3, -⟩ | ⟨x, h3, -⟩
        · omega
        · exact ⟨x, h3⟩
      have hQx : Q i x ∧ m.version = crcOf x := by
        rcases hb.2.2 with ⟨h3, -⟩ | ⟨y, h3, h4, -, h5, -⟩
        · cases h3
        · cases h3; exact ⟨h4, h5⟩
      rcases made_of hQ h hi hb with h4 | ⟨h4, h5⟩
      · rw [h4]
        refine ⟨take_pi h (by omega) (fun _ => hQx.1) (fun e => by cases e), take_grew (by omega), ⟨hi, hstory, ack_valid hs1 (by omega) hpart hst2 hver, hpart, .inl rfl, ⟨hs1, hs2⟩, fun _ => ⟨by simp only [ackOf]; rw [take_at.1]; omega, fun _ => ?_⟩⟩, fun j hj _ => take_far (by omega), .inl ⟨rfl, rfl, rfl, take_at.1, ?_⟩⟩
        · simp only [ackOf]
          unfold Peer.sum
          rw [take_at.2.1, take_at.2.2, if_pos rfl]
          exact hQx.2
        · unfold Peer.copy
          simp only
          rw [take_at.2.1, take_at.2.2, if_pos rfl]
      · rw [h4]
        refine ⟨h, Grew.refl p, ⟨hi, hstory, rej_valid hs1 (by omega) hpart hst2 hsr, hpart, .inr rfl, ⟨hs1, hs2⟩, fun e => ?_⟩, fun j _ _ => ⟨rfl, rfl, rfl⟩, .inr (.inl ⟨rfl, by omega, h5, rfl, rfl⟩)⟩
        simp [rejOf] at e
    · rw [if_neg hk]
      obtain ⟨rfl, hv0⟩ : k = .abs ∧ m.version = 0 := by
        rcases hb.2.2 with ⟨h3, -, -, h4, -⟩ | ⟨x, -, -, h3, -⟩
        · exact ⟨h3, h4⟩
        · exact absurd h3 hk
      refine ⟨take_pi h (by omega) (fun e => by cases e) (fun _ => rfl), take_grew (by omega), ⟨hi, hstory, ack_valid hs1 (by omega) hpart hst2 (by omega), hpart, .inl rfl, ⟨hs1, hs2⟩, fun _ => ⟨by simp only [ackOf]; rw [take_at.1]; omega, fun _ => ?_⟩⟩, fun j hj _ => take_far (by omega), .inl ⟨rfl, rfl, hv0.symm, take_at.1, ?_⟩⟩
      · simp only [ackOf]
        unfold Peer.sum
        rw [take_at.2.1]; simp
      · unfold Peer.copy
        simp only
        rw [take_at.2.1]; simp
end Go.Proofs.YtefloieanpgnmaaDoor

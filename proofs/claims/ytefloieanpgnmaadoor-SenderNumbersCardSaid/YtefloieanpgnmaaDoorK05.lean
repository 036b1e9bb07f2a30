/- Facts and contracts for the laws of the sender, part 5. Conditions: those that each theorem names. -/
import Derived.Test.YtefloieanpgnmaaDoorK04
import Derived.Test.YtefloieanpgnmaaDoorK02
import Derived.WalkKit
import Derived.WalkSpells
import Derived.IntWalk
import Derived.OwnWalk
import Derived.Outline
import Derived.Deep.DeepCutAuto
/- Plain: what the law's steps keep true. -/
namespace Go.Proofs.YtefloieanpgnmaaDoor

structure SP (Q : Nat → List UInt8 → Prop) (B : Int) (p : Peer) (S : Sen) : Prop where
  si : SI Q S
  cnt : S.counter ≤ B
  aud : S.audit < 64
  told : ∀ i m, i < 64 → (S.st i).acked = some m → Tells p i m.seq m.version
theorem SP.more {Q : Nat → List UInt8 → Prop} {B B' : Int} {p : Peer} {S : Sen} (h : SP Q B p S) (hB : B ≤ B') : SP Q B' p S := ⟨h.si, by have := h.cnt; omega, h.aud, h.told⟩
theorem SP.grew {Q : Nat → List UInt8 → Prop} {B : Int} {p p' : Peer} {S : Sen} (h : SP Q B p S) (hg : Grew p p') : SP Q B p' S := ⟨h.si, h.cnt, h.aud, fun i m hi hm => (h.told i m hi hm).grew hg hi⟩
/-- lease and wanted texts are the same -/
structure Same (S S' : Sen) : Prop where
  lease : S'.lease = S.lease
  wanted : ∀ i, (S'.st i).wanted = (S.st i).wanted
theorem Same.refl (S : Sen) : Same S S := ⟨rfl, fun _ => rfl⟩
theorem Same.trans {a b c : Sen} (h : Same a b) (k : Same b c) : Same a c := ⟨k.lease.trans h.lease, fun i => (k.wanted i).trans (h.wanted i)⟩
theorem Same.tgt {S S' : Sen} (h : Same S S') (i : Nat) (now : Int) : S'.tgt i now = S.tgt i now := tgt_of h.lease i (h.wanted i) now
theorem PlanR.same {S S' : Sen} {now : Int} (h : PlanR S now S') : Same S S' := ⟨h.lease, h.wanted⟩
theorem SP.plan {Q : Nat → List UInt8 → Prop} {B : Int} {p : Peer} {S : Sen} (h : SP Q B p S) (now : Int) : SP Q (B + 16) p (S.plan now) := by
  have hp := plan_rel S now
  exact ⟨h.si.plan hp, by have := hp.cnt; have := h.cnt; omega, by rw [hp.audit]; exact h.aud, fun i m hi hm => h.told i m hi (by rw [← hp.acked]; exact hm)⟩

/-- the ways of an answer that is not ignored -/
theorem recv1_ways {S S1 : Sen} {a : Msg} {i : Nat} (h : S.recv1 a i = some S1) :
    (∃ o, (S.st i).out = some o ∧ a.seq = o.msg.seq ∧ a.kind = 3 ∧ a.version = o.msg.version ∧ S1 = { S with counter := S.counter, st := upd S.st i { S.st i with held := o.text, out := none, acked := some o.msg } }) ∨
    (∃ c, (c = S.counter ∨ (c = max S.counter a.seq ∧ a.kind = 4 ∧ S.seqAt i < a.seq)) ∧ S1 = { S with counter := c, st := upd S.st i { S.st i with held := .unk, out := none, acked := (S.st i).acked } } ∧ ((∃ o, (S.st i).out = some o ∧ a.seq = o.msg.seq ∧ c = S.counter) ∨ (c = max S.counter a.seq ∧ a.kind = 4 ∧ S.seqAt i < a.seq))) := by
  unfold Sen.recv1 at h
  cases ho : (S.st i).out with
  | some o =>
    have hsq : S.seqAt i = o.msg.seq := by unfold Sen.seqAt; rw [ho]
    rw [ho] at h
    simp only at h
    split at h
    · rename_i h1
      cases h
      exact .inl ⟨o, rfl, h1.1, h1.2.1, h1.2.2, rfl⟩
    · split at h
      · rename_i h1
        cases h
        exact .inr ⟨S.counter, .inl rfl, rfl, .inl ⟨o, rfl, h1, rfl⟩⟩
      · split at h
        · rename_i h1
          cases h
          exact .inr ⟨_, .inr ⟨rfl, h1.1, by omega⟩, rfl, .inr ⟨rfl, h1.1, by omega⟩⟩
        · cases h
  | none =>
    rw [ho] at h
    simp only at h
    split at h
    · rename_i h1
      cases h
      exact .inr ⟨_, .inr ⟨rfl, h1⟩, rfl, .inr ⟨rfl, h1⟩⟩
    · cases h
theorem upd_wanted {S : Sen} {i : Nat} {x : Sto} (hx : x.wanted = (S.st i).wanted) (j : Nat) : (upd S.st i x j).wanted = (S.st j).wanted := by
  unfold upd; split
  · rename_i e; rw [e]; exact hx
  · rfl
theorem SP.recv1 {Q : Nat → List UInt8 → Prop} {B : Int} {p : Peer} {S S1 : Sen} (h : SP Q B p S) {a : Msg} {i : Nat} (ha : AOk B p i a) (h1 : S.recv1 a i = some S1) : SP Q B p S1 ∧ Same S S1 := by
  have hi := ha.lt
  rcases recv1_ways h1 with ⟨o, ho, h2, h3, h4, rfl⟩ | ⟨c, hc, rfl, -⟩
  · obtain ⟨hb, hs1, hs2⟩ := h.si.outs i o hi ho
    refine ⟨⟨h.si.lose i o.text (some o.msg) S.counter (Int.le_refl _) (fun _ t e => ?_) (fun m _ e => ?_) (fun _ _ => by simp), h.cnt, h.aud, fun j m hj hm => ?_⟩, rfl, fun j => by refine upd_wanted ?_ j; rfl⟩
    · rcases hb.2.2 with ⟨e', _⟩ | ⟨x, e', hx, _⟩
      · rw [e'] at e; cases e
      · rw [e'] at e; cases e; exact hx
    · cases e
      exact ⟨hs1, hs2, o.text, hb, fun _ => rfl⟩
    · simp only [upd] at hm
      split at hm
      · rename_i e
        subst e
        simp only [Option.some.injEq] at hm
        subst hm
        rw [← h2, ← h4]
        exact ha.tells h3
      · exact h.told j m hj hm
  · have hcS : S.counter ≤ c ∧ c ≤ B := by
      have := h.cnt; have := ha.seq
      rcases hc with hc | ⟨hc, -⟩ <;> omega
    refine ⟨⟨h.si.lose i .unk (S.st i).acked c hcS.1 (fun _ t e => by cases e) (fun m hi' e => ?_) (fun _ e => absurd rfl e), hcS.2, h.aud, fun j m hj hm => ?_⟩, rfl, fun j => by refine upd_wanted ?_ j; rfl⟩
    · obtain ⟨h5, h6, k, h7, -⟩ := h.si.acked i m hi' e
      exact ⟨h5, by omega, k, h7, fun e => absurd rfl e⟩
    · simp only [upd] at hm
      split at hm
      · rename_i e
        subst e
        exact h.told _ m hj hm
      · exact h.told j m hj hm
theorem recv_of {S : Sen} {a : Msg} {i : Nat} {now : Int} (hv : a.valid = true) (hp : a.partner = S.partner) (hk : a.kind = 3 ∨ a.kind = 4) (hs : a.story = (i : Int) + 1) : S.recv now a = match S.recv1 a i with | some S' => S'.plan now | none => S := by
  unfold Sen.recv
  rw [if_pos ⟨hv, hp, hk⟩, hs, show ((i : Int) + 1 - 1).toNat = i by omega]
  cases S.recv1 a i <;> rfl
theorem SP.recv {Q : Nat → List UInt8 → Prop} {B : Int} {p : Peer} {S : Sen} (h : SP Q B p S) {a : Msg} {i : Nat} (ha : AOk B p i a) (now : Int) : SP Q (B + 16) p (S.recv now a) ∧ Same S (S.recv now a) := by
  rw [recv_of ha.valid (ha.partner.trans h.si.partner.symm) ha.kind ha.story]
  cases h1 : S.recv1 a i with
  | none => exact ⟨h.more (by omega), Same.refl _⟩
  | some S1 =>
    obtain ⟨h2, h3⟩ := h.recv1 ha h1
    exact ⟨h2.plan now, h3.trans (plan_rel S1 now).same⟩

/-! ### a tick -/
theorem mem_sel {S : Sen} {p : Out → Bool} {i : Nat} : i ∈ S.sel p ↔ i < 64 ∧ ∃ o, (S.st i).out = some o ∧ p o = true := by
  unfold Sen.sel
  rw [List.mem_mergeSort, List.mem_filter, List.mem_range]
  constructor
  · rintro ⟨h1, h2⟩
    cases ho : (S.st i).out with
    | none => rw [ho] at h2; cases h2
    | some o => rw [ho] at h2; exact ⟨h1, o, rfl, h2⟩
  · rintro ⟨h1, o, ho, h2⟩
    rw [ho]; exact ⟨h1, h2⟩
theorem mem_msgs {S : Sen} {l : List Nat} {m : Msg} : m ∈ S.msgs l ↔ ∃ i ∈ l, ∃ o, (S.st i).out = some o ∧ o.msg = m := by
  unfold Sen.msgs
  rw [List.mem_filterMap]
  constructor
  · rintro ⟨i, hi, h⟩
    rw [Option.map_eq_some_iff] at h
    exact ⟨i, hi, h⟩
  · rintro ⟨i, hi, h⟩
    exact ⟨i, hi, by rw [Option.map_eq_some_iff]; exact h⟩
theorem audits_snd : ∀ (k : Nat) (S : Sen), (audits S k).2.partner = S.partner ∧ (audits S k).2.lease = S.lease ∧ (audits S k).2.counter = S.counter ∧ (audits S k).2.st = S.st ∧ (S.audit < 64 → (audits S k).2.audit = (S.audit + k) % 64)
  | 0, S => ⟨rfl, rfl, rfl, rfl, fun h => by rw [show (audits S 0).2 = S from rfl]; omega⟩
  | k + 1, S => by
    have ih := audits_snd k { S with audit := (S.audit + 1) % 64 }
    have he : (audits S (k + 1)).2 = (audits { S with audit := (S.audit + 1) % 64 } k).2 := rfl
    rw [he]
    refine ⟨ih.1, ih.2.1, ih.2.2.1, ih.2.2.2.1, fun _ => ?_⟩
    rw [ih.2.2.2.2 (by simp only; omega)]
    simp only
    omega
theorem mem_audits {m : Msg} : ∀ (k : Nat) (S : Sen), S.audit < 64 → (m ∈ (audits S k).1 ↔ ∃ j, j < k ∧ (S.st ((S.audit + j) % 64)).acked = some m)
  | 0, S, _ => by
    rw [show (audits S 0).1 = [] from rfl]
    simp
  | k + 1, S, h => by
    have ih := mem_audits (m := m) k { S with audit := (S.audit + 1) % 64 } (by simp only; omega)
    have he : (audits S (k + 1)).1 = (match (S.st S.audit).acked with | some m => [m] | none => []) ++ (audits { S with audit := (S.audit + 1) % 64 } k).1 := rfl
    rw [he, List.mem_append, ih]
    have hx : ∀ j, ((S.audit + 1) % 64 + j) % 64 = (S.audit + (j + 1)) % 64 := fun j => by omega
    simp only [hx]
    have h0 : m ∈ (match (S.st S.audit).acked with | some m => [m] | none => []) ↔ (S.st S.audit).acked = some m := by
      cases (S.st S.audit).acked with
      | none => simp
      | some x => simp [eq_comm]
    rw [h0]
    constructor
    · rintro (h1 | ⟨j, h1, h2⟩)
      · exact ⟨0, by omega, by rw [Nat.add_zero, Nat.mod_eq_of_lt h]; exact h1⟩
      · exact ⟨j + 1, by omega, h2⟩
    · rintro ⟨j, h1, h2⟩
      cases j with
      | zero => left; rw [Nat.add_zero, Nat.mod_eq_of_lt h] at h2; exact h2
      | succ j => exact .inr ⟨j, by omega, h2⟩
/-- S with the messages of l sent -/
theorem sends_st (S : Sen) (now : Int) (l : List Nat) (i : Nat) : ((S.sends now l).st i).wanted = (S.st i).wanted ∧ ((S.sends now l).st i).held = (S.st i).held ∧ ((S.sends now l).st i).acked = (S.st i).acked ∧ ((S.sends now l).st i).out = (S.st i).out.map fun o => if i ∈ l then { o with sent := true, tm := now } else o := by
  unfold Sen.sends sent1
  simp only
  split
  · rename_i h
    refine ⟨rfl, rfl, rfl, ?_⟩
    simp only
  · rename_i h
    refine ⟨rfl, rfl, rfl, ?_⟩
    cases (S.st i).out <;> rfl
theorem SI.sends {Q : Nat → List UInt8 → Prop} {S : Sen} (h : SI Q S) (now : Int) (l : List Nat) : SI Q (S.sends now l) := by
  have hst := sends_st S now l
  refine ⟨h.partner, h.pos, fun i hi => by rw [(hst i).1]; exact h.wanted i hi, fun i hi => by rw [(hst i).2.1]; exact h.held i hi, fun i o hi ho => ?_, fun i m hi hm => ?_, fun i hi => ?_, ?_⟩
  · rw [(hst i).2.2.2, Option.map_eq_some_iff] at ho
    obtain ⟨o', h1, h2⟩ := ho
    have := h.outs i o' hi h1
    rw [← h2]
    split <;> exact this
  · rw [(hst i).2.2.1] at hm
    rw [(hst i).2.1]
    exact h.acked i m hi hm
  · rw [(hst i).2.1, (hst i).2.2.1]
    exact h.known i hi
  · refine Nat.le_trans ?_ h.out16
    unfold Sen.outs
    refine countP_le_of 64 fun j _ hj => ?_
    rw [(hst j).2.2.2, Option.isSome_map] at hj
    exact hj
theorem SP.tick {Q : Nat → List UInt8 → Prop} {B : Int} {p : Peer} {S : Sen} (h : SP Q B p S) (now : Int) : SP Q (B + 16) p (S.tick now).2 ∧ Same S (S.tick now).2 ∧ ∀ m ∈ (S.tick now).1, ∃ i k, i < 64 ∧ Brings Q i m k ∧ 1 ≤ m.seq ∧ m.seq ≤ B + 16 := by
  have hP := h.plan now
  have hsm := (plan_rel S now).same
  unfold Sen.tick
  simp only
  obtain ⟨S1, hS1⟩ : ∃ S1, S.plan now = S1 := ⟨_, rfl⟩
  rw [hS1] at hP hsm ⊢
  split
  · obtain ⟨h1, h2, h3, h4, h5⟩ := audits_snd 4 S1
    refine ⟨⟨⟨h1.trans hP.si.partner, by rw [h3]; exact hP.si.pos, by rw [h4]; exact hP.si.wanted, by rw [h4]; exact hP.si.held, by rw [h4, h3]; exact hP.si.outs, by rw [h4, h3]; exact hP.si.acked, by rw [h4]; exact hP.si.known, by unfold Sen.outs; rw [h4]; exact hP.si.out16⟩, by rw [h3]; exact hP.cnt, by rw [h5 hP.aud]; omega, by rw [h4]; exact hP.told⟩, hsm.trans ⟨h2, fun i => by rw [h4]⟩, fun m hm => ?_⟩
    obtain ⟨j, hj, hm⟩ := (mem_audits 4 S1 hP.aud).1 hm
    obtain ⟨h6, h7, k, h8, -⟩ := hP.si.acked _ m (by omega) hm
    exact ⟨_, k, by omega, h8, h6, by have := hP.cnt; omega⟩
  · have hst := sends_st S1 now (S1.sel (due now))
    refine ⟨⟨hP.si.sends now _, hP.cnt, hP.aud, fun i m hi hm => hP.told i m hi (by rw [← (hst i).2.2.1]; exact hm)⟩, hsm.trans ⟨rfl, fun i => (hst i).1⟩, fun m hm => ?_⟩
    obtain ⟨i, hi, o, ho, rfl⟩ := mem_msgs.1 hm
    have hi := (mem_sel.1 hi).1
    obtain ⟨h1, h2, h3⟩ := hP.si.outs i o hi ho
    exact ⟨i, o.text, hi, h1, h2, by have := hP.cnt; omega⟩
end Go.Proofs.YtefloieanpgnmaaDoor
/- Plain: the law's steps. -/
namespace Go.Proofs.YtefloieanpgnmaaDoor

attribute [local irreducible] Sen.plan Sen.tick Sen.recv
theorem pick_range (c : Int) {n : Int} (h : 0 < n) : 0 ≤ pickD c n ∧ pickD c n < n := by
  unfold pickD; split
  · exact ⟨Int.emod_nonneg _ (by omega), Int.emod_lt_of_pos _ h⟩
  · exact ⟨Int.emod_nonneg _ (by omega), Int.emod_lt_of_pos _ h⟩
def wOf (n : Nat) : Kn := if n = 0 then .abs else .pres (txtOf (n - 1))
/-- what the step o makes of W, and which call it is -/
inductive NextR (W : Wld) : Cal → Wld → Prop where
  | want (st n : Nat) (h : 1 ≤ st ∧ st ≤ 64 ∧ n ≤ 100) : NextR W (.want W.now { W with wanted := updF W.wanted st n }.items) { W with wanted := updF W.wanted st n }
  | lease (u : Int) (h : W.now - 5 ≤ u ∧ u ≤ W.now + 34) : NextR W (.lease u) { W with lease := u }
  | tick (u : Int) (h : W.now - 29 ≤ u ∧ u ≤ W.now + 4) : NextR W (.tick u) { W with now := u }
  | give (m : Msg) (fl : List Msg) (hm : m ∈ W.flight) (hf : ∀ x ∈ fl, x ∈ W.flight) (hl : fl.length ≤ W.flight.length) : NextR W .none { W with answers := W.answers ++ [(W.p.answer m).1], p := (W.p.answer m).2, flight := fl }
  | lose (fl : List Msg) (hf : ∀ x ∈ fl, x ∈ W.flight) (hl : fl.length ≤ W.flight.length) : NextR W .none { W with flight := fl }
  | recv (m : Msg) (an : List Msg) (hm : m ∈ W.answers) (ha : ∀ x ∈ an, x ∈ W.answers) (hl : an.length ≤ W.answers.length) : NextR W (.recv W.now m) { W with answers := an }
theorem next_rel (W : Wld) (o : Op3) : NextR W (W.next o).1 (W.next o).2 := by
  have h6 := pick_range o.story (n := 6) (by omega)
  have h64 := pick_range o.story (n := 64) (by omega)
  have h101 := pick_range o.n (n := 101) (by omega)
  have h40 := pick_range o.n (n := 40) (by omega)
  have h5 := pick_range o.n (n := 5) (by omega)
  have h30 := pick_range o.n (n := 30) (by omega)
  have hself : W = { W with flight := W.flight } := rfl
  unfold Wld.next
  split
  · refine NextR.want _ _ ⟨?_, ?_, by omega⟩ <;> (split <;> omega)
  · split
    · exact NextR.lease _ (by omega)
    · split
      · exact NextR.tick _ (by omega)
      · split
        · exact NextR.tick _ (by omega)
        · split
          · cases hm : W.flight[(pickD o.story W.flight.length).toNat]? with
            | none => simp only; rw [hself]; exact NextR.lose _ (fun x h => h) (Nat.le_refl _)
            | some m =>
              simp only
              refine NextR.give m _ (List.mem_of_getElem? hm) (fun x hx => ?_) ?_
              · split at hx
                · exact List.mem_of_mem_eraseIdx hx
                · exact hx
              · split
                · exact List.length_eraseIdx_le _ _
                · exact Nat.le_refl _
          · split
            · exact NextR.lose _ (fun x hx => List.mem_of_mem_eraseIdx hx) (List.length_eraseIdx_le _ _)
            · cases hm : W.answers[(pickD o.story W.answers.length).toNat]? with
              | none => simp only; rw [hself]; exact NextR.lose _ (fun x h => h) (Nat.le_refl _)
              | some m =>
                simp only
                refine NextR.recv m _ (List.mem_of_getElem? hm) (fun x hx => ?_) ?_
                · split at hx
                  · exact List.mem_of_mem_eraseIdx hx
                  · exact hx
                · split
                  · exact List.length_eraseIdx_le _ _
                  · exact Nat.le_refl _

theorem find_items (f : Nat → Nat) (i : Nat) : ∀ n, ((List.range n).filterMap fun i => if f (i + 1) = 0 then none else some ((i : Int) + 1, txtOf (f (i + 1) - 1))).find? (fun x => decide (x.1 = (i : Int) + 1)) = if i < n then (if f (i + 1) = 0 then none else some ((i : Int) + 1, txtOf (f (i + 1) - 1))) else none
  | 0 => by simp
  | n + 1 => by
    rw [List.range_succ, List.filterMap_append, List.find?_append, find_items f i n]
    by_cases e : i = n
    · subst e
      rw [if_neg (show ¬ i < i by omega), if_pos (show i < i + 1 by omega)]
      by_cases h0 : f (i + 1) = 0 <;> simp [h0]
    · have hn : ((List.filterMap (fun i => if f (i + 1) = 0 then none else some ((i : Int) + 1, txtOf (f (i + 1) - 1))) [n]).find? (fun x => decide (x.1 = (i : Int) + 1))) = none := by
        by_cases h0 : f (n + 1) = 0
        · simp [h0]
        · simp [h0]; omega
      rw [hn, Option.or_none]
      by_cases hl : i < n
      · rw [if_pos hl, if_pos (show i < n + 1 by omega)]
      · rw [if_neg hl, if_neg (show ¬ i < n + 1 by omega)]
theorem wantAt_items (W : Wld) {i : Nat} (hi : i < 64) : wantAt W.items i = wOf (W.wanted (i + 1)) := by
  unfold wantAt Wld.items wOf
  rw [find_items W.wanted i 64, if_pos hi]
  by_cases h : W.wanted (i + 1) = 0 <;> simp [h]

structure WI (Q : Nat → List UInt8 → Prop) (B : Int) (W : Wld) (S : Sen) : Prop where
  pi : PI Q B W.p
  sp : SP Q B W.p S
  flight : ∀ m ∈ W.flight, ∃ i k, i < 64 ∧ Brings Q i m k ∧ 1 ≤ m.seq ∧ m.seq ≤ B
  answers : ∀ a ∈ W.answers, ∃ i, AOk B W.p i a
structure Syn (W : Wld) (S : Sen) : Prop where
  lease : S.lease = W.lease
  wanted : ∀ i, i < 64 → (S.st i).wanted = wOf (W.wanted (i + 1))
/-- the wanted texts may occur -/
def WQ (Q : Nat → List UInt8 → Prop) (W : Wld) : Prop := ∀ i, i < 64 → W.wanted (i + 1) ≠ 0 → Q i (txtOf (W.wanted (i + 1) - 1))
theorem WI.mono {Q Q' : Nat → List UInt8 → Prop} {B : Int} {W : Wld} {S : Sen} (h : WI Q B W S) (hQ : ∀ i t, i < 64 → Q i t → Q' i t) : WI Q' B W S :=
  ⟨⟨h.pi.seq, fun i hi => ⟨fun e => hQ i _ hi ((h.pi.text i hi).1 e), (h.pi.text i hi).2⟩⟩, ⟨h.sp.si.mono hQ, h.sp.cnt, h.sp.aud, h.sp.told⟩, fun m hm => by
    obtain ⟨i, k, h1, h2, h3⟩ := h.flight m hm
    exact ⟨i, k, h1, h2.mono fun t => hQ i t h1, h3⟩, h.answers⟩
theorem PI.more {Q : Nat → List UInt8 → Prop} {B B' : Int} {p : Peer} (h : PI Q B p) (hB : B ≤ B') : PI Q B' p := ⟨fun i hi => by have := h.seq i hi; omega, h.text⟩
theorem WI.more {Q : Nat → List UInt8 → Prop} {B B' : Int} {W : Wld} {S : Sen} (h : WI Q B W S) (hB : B ≤ B') : WI Q B' W S :=
  ⟨h.pi.more hB, h.sp.more hB, fun m hm => by
    obtain ⟨i, k, h1, h2, h3, h4⟩ := h.flight m hm
    exact ⟨i, k, h1, h2, h3, by omega⟩, fun a ha => by
    obtain ⟨i, h1⟩ := h.answers a ha
    exact ⟨i, h1.grew (Grew.refl _) hB⟩⟩
theorem SP.want {Q : Nat → List UInt8 → Prop} {B : Int} {p : Peer} {S : Sen} (h : SP Q B p S) (now : Int) (W : Wld) (hW : WQ Q W) : SP Q (B + 16) p (S.want now W.items) ∧ (S.want now W.items).lease = S.lease ∧ ∀ i, i < 64 → ((S.want now W.items).st i).wanted = wOf (W.wanted (i + 1)) := by
  have hw : ∀ i, i < 64 → wantAt W.items i = wOf (W.wanted (i + 1)) := fun i hi => wantAt_items W hi
  have h1 : SP Q B p { S with st := fun i => { S.st i with wanted := wantAt W.items i } } :=
    ⟨⟨h.si.partner, h.si.pos, fun i hi => by
      simp only [hw i hi]
      unfold wOf
      split
      · exact ⟨(fun t e => by cases e), (by simp)⟩
      · rename_i h0
        exact ⟨(fun t e => by cases e; exact hW i hi h0), (by simp)⟩, h.si.held, h.si.outs, h.si.acked, h.si.known, h.si.out16⟩, h.cnt, h.aud, h.told⟩
  have hp := (plan_rel { S with st := fun i => { S.st i with wanted := wantAt W.items i } } now).same
  exact ⟨h1.plan now, hp.lease, fun i hi => (hp.wanted i).trans (hw i hi)⟩
/-- a step of the law -/
theorem WI.step {Q : Nat → List UInt8 → Prop} (hQ : QOk Q) {B : Int} (hB : B + 16 ≤ 4611686018427387903) {W : Wld} {S : Sen} (h : WI Q B W S) (hs : Syn W S) {c : Cal} {W' : Wld} (hn : NextR W c W') (hq : WQ Q W') :
    WI Q (B + 16) W' (c.perform S).2 ∧ Syn W' (c.perform S).2 ∧ ∀ m ∈ (c.perform S).1, ∃ i k, i < 64 ∧ Brings Q i m k ∧ 1 ≤ m.seq ∧ m.seq ≤ B + 16 := by
  have h16 : B ≤ B + 16 := by omega
  have hm' := h.more h16
  have hp' := h.pi.more h16
  have hB1 : B ≤ 4611686018427387903 := by omega
  cases hn with
  | want st n hst =>
    obtain ⟨h1, h2, h3⟩ := h.sp.want W.now { W with wanted := updF W.wanted st n } hq
    exact ⟨⟨hp', h1, hm'.flight, hm'.answers⟩, ⟨h2.trans hs.lease, h3⟩, fun m hm => by cases hm⟩
  | lease u hu =>
    have h1 : SP Q (B + 16) W.p { S with lease := u } := ⟨⟨h.sp.si.partner, h.sp.si.pos, h.sp.si.wanted, h.sp.si.held, h.sp.si.outs, h.sp.si.acked, h.sp.si.known, h.sp.si.out16⟩, by have := h.sp.cnt; simp only; omega, h.sp.aud, h.sp.told⟩
    exact ⟨⟨hp', h1, hm'.flight, hm'.answers⟩, ⟨rfl, hs.wanted⟩, fun m hm => by cases hm⟩
  | tick u hu =>
    obtain ⟨h1, h2, h3⟩ := h.sp.tick u
    exact ⟨⟨hp', h1, hm'.flight, hm'.answers⟩, ⟨h2.lease.trans hs.lease, fun i hi => (h2.wanted i).trans (hs.wanted i hi)⟩, h3⟩
  | give m fl hm hf hl =>
    obtain ⟨i, k, h1, h2, h3, h4⟩ := h.flight m hm
    have ha := answer_rel hQ hB1 h.pi h1 h2 h3 h4
    exact ⟨⟨ha.pi.more h16, hm'.sp.grew ha.grew, fun x hx => hm'.flight x (hf x hx), fun a hx => by
      rw [List.mem_append, List.mem_singleton] at hx
      rcases hx with hx | rfl
      · obtain ⟨j, hj⟩ := h.answers a hx
        exact ⟨j, hj.grew ha.grew h16⟩
      · exact ⟨i, ha.aok.grew (Grew.refl _) h16⟩⟩, ⟨hs.lease, hs.wanted⟩, fun m hm => by cases hm⟩
  | lose fl hf hl =>
    exact ⟨⟨hm'.pi, hm'.sp, fun x hx => hm'.flight x (hf x hx), hm'.answers⟩, ⟨hs.lease, hs.wanted⟩, fun m hm => by cases hm⟩
  | recv m an hm ha hl =>
    obtain ⟨i, hi⟩ := h.answers m hm
    obtain ⟨h1, h2⟩ := h.sp.recv hi W.now
    exact ⟨⟨hm'.pi, h1, hm'.flight, fun a hx => hm'.answers a (ha a hx)⟩, ⟨h2.lease.trans hs.lease, fun i hi => (h2.wanted i).trans (hs.wanted i hi)⟩, fun m hm => by cases hm⟩
theorem WI.flown {Q : Nat → List UInt8 → Prop} {B : Int} {W : Wld} {S : Sen} (h : WI Q B W S) {fl : List Msg} (hf : ∀ m ∈ fl, m ∈ W.flight ∨ ∃ i k, i < 64 ∧ Brings Q i m k ∧ 1 ≤ m.seq ∧ m.seq ≤ B) : WI Q B { W with flight := fl } S :=
  ⟨h.pi, h.sp, fun m hm => (hf m hm).elim (fun h1 => h.flight m h1) (fun h1 => h1), h.answers⟩
theorem mem_trim {l : List Msg} {m : Msg} (h : m ∈ trimF l) : m ∈ l := by
  unfold trimF at h; split at h
  · exact List.mem_of_mem_drop h
  · exact h
theorem WI.step1 {Q : Nat → List UInt8 → Prop} (hQ : QOk Q) {B : Int} (hB : B + 16 ≤ 4611686018427387903) {W : Wld} {S : Sen} (h : WI Q B W S) (hs : Syn W S) (t : Bool) (o : Op3) (hq : WQ Q (W.next o).2) :
    WI Q (B + 16) (step1 t (W, S) o).1 (step1 t (W, S) o).2 ∧ Syn (step1 t (W, S) o).1 (step1 t (W, S) o).2 := by
  obtain ⟨h1, h2, h3⟩ := h.step hQ hB hs (next_rel W o) hq
  unfold Proofs.YtefloieanpgnmaaDoor.step1
  simp only
  refine ⟨h1.flown fun m hm => ?_, ⟨h2.lease, h2.wanted⟩⟩
  have hm' : m ∈ (W.next o).2.flight ++ ((W.next o).1.perform S).1 := by
    split at hm
    · exact mem_trim hm
    · exact hm
  rw [List.mem_append] at hm'
  rcases hm' with hm' | hm'
  · exact .inl hm'
  · exact .inr (h3 m hm')

/-! ### the hundred texts -/
def QT (_ : Nat) (t : List UInt8) : Prop := ∃ n, n < 100 ∧ t = txtOf n
theorem QT_ok : QOk QT := by
  obtain ⟨h1, h2⟩ := txt_crc
  refine ⟨fun i t ⟨n, _, e⟩ => by rw [e, txt_len]; omega, fun i t ⟨n, hn, e⟩ h0 => h2 (by rw [← h0, e]; exact List.mem_map.2 ⟨n, List.mem_range.2 hn, rfl⟩), fun i t u ⟨n, hn, e⟩ ⟨m, hm, e'⟩ hc => ?_⟩
  rw [e, e'] at hc ⊢
  have hnd := List.pairwise_iff_getElem.1 h1
  rcases Nat.lt_trichotomy n m with hl | hl | hl
  · have := hnd n m (by simpa using hn) (by simpa using hm) hl
    simp at this
    exact absurd hc this
  · rw [hl]
  · have := hnd m n (by simpa using hm) (by simpa using hn) hl
    simp at this
    exact absurd hc.symm this
/-- the wanted texts have numbers up to a hundred -/
def W100 (W : Wld) : Prop := ∀ i, W.wanted i ≤ 100
theorem W100.wq {W : Wld} (h : W100 W) : WQ QT W := fun i _ h0 => ⟨W.wanted (i + 1) - 1, by have := h (i + 1); omega, rfl⟩
theorem W100.next {W W' : Wld} {c : Cal} (h : W100 W) (hn : NextR W c W') : W100 W' := by
  cases hn with
  | want st n hst =>
    intro i
    simp only [updF]
    split
    · omega
    · exact h i
  | lease | tick | give | lose | recv => exact h
theorem start_sp (B : Int) (hB : 0 ≤ B) (Q : Nat → List UInt8 → Prop) (p : Peer) : SP Q B p startS :=
  ⟨⟨rfl, Int.le_refl _, fun i _ => ⟨(fun t e => by cases e), (by simp [startS, newS, sto0])⟩, (fun i _ t e => by cases e), (fun i o _ e => by cases e), (fun i m _ e => by cases e), (fun i _ e => absurd rfl e), by decide⟩, hB, by decide, (fun i m _ e => by cases e)⟩
theorem start_wi (Q : Nat → List UInt8 → Prop) : WI Q 0 wld0 startS :=
  ⟨⟨fun i _ => ⟨Int.le_refl _, Int.le_refl _⟩, fun i _ => ⟨(fun e => by cases e), fun _ => rfl⟩⟩, start_sp 0 (Int.le_refl _) Q _, (fun m hm => by cases hm), (fun a ha => by cases ha)⟩
theorem start_syn : Syn wld0 startS := ⟨rfl, fun _i _ => rfl⟩
theorem run_wi (t : Bool) : ∀ (l : List Op3) {B : Int} {W : Wld} {S : Sen}, B + 16 * l.length ≤ 4611686018427387903 → WI QT B W S → Syn W S → W100 W →
    WI QT (B + 16 * l.length) (runD t (W, S) l).1 (runD t (W, S) l).2 ∧ Syn (runD t (W, S) l).1 (runD t (W, S) l).2 ∧ W100 (runD t (W, S) l).1
  | [], B, W, S, _, h, hs, hw => ⟨by simpa [runD] using h, hs, hw⟩
  | o :: l, B, W, S, hB, h, hs, hw => by
    have hB' : B + 16 + 16 * (l.length : Int) = B + 16 * ((o :: l).length : Int) := by simp only [List.length_cons]; push_cast; omega
    have hn := hw.next (next_rel W o)
    obtain ⟨h1, h2⟩ := h.step1 QT_ok (by omega) hs t o hn.wq
    have := run_wi t l (by omega) h1 h2 hn
    rw [hB'] at this
    exact this
end Go.Proofs.YtefloieanpgnmaaDoor
/- The law's helpers: pick, text, few, has. -/
namespace Go.Proofs.YtefloieanpgnmaaDoor
open Go.RowKit

theorem retI {a b : Int} (h : a = b) : Ending.returned (.int .i64 a) = .returned (.int .i64 b) := by rw [h]
theorem pick_any (c n : Int) (w : World) (h1 : -9223372036854775808 ≤ c) (h2 : c ≤ 9223372036854775807) (h3 : 1 ≤ n) (h4 : n ≤ 9223372036854775807) :
    Calls Tryd.prog 14 #[.int .i64 c, .int .i64 n] w fun e w' => e = .returned (.int .i64 (pickD c n)) ∧ w = w' := by
  obtain ⟨R, hR⟩ : ∃ R, pickD c n = R := ⟨_, rfl⟩
  rw [hR]
  by_cases hc : c < 0
  · have HR : Hid (R = (-(c + 1)) % n) := Lib.hid (by rw [← hR, pickD, if_pos hc])
    have hnz : ((n : Int) == 0) = false := by rw [beq_eq_false_iff_ne]; omega
    clear hR
    go_enter Tryd.func14, Tryd.ntmps14
    go_wp2
    go_ret
    exact ⟨retI (by rw [HR.out, ← Int.neg_tmod, Int.tmod_eq_emod_of_nonneg (by omega)]), rfl⟩
  · have HR : Hid (R = c % n) := Lib.hid (by rw [← hR, pickD, if_neg hc])
    have hnz : ((n : Int) == 0) = false := by rw [beq_eq_false_iff_ne]; omega
    clear hR
    go_enter Tryd.func14, Tryd.ntmps14
    go_wp2
    go_ret
    exact ⟨retI (by rw [HR.out]), rfl⟩

set_option maxRecDepth 100000 in
theorem text_any (i : Nat) (w : World) (hi : i < 100) :
    Calls Tryd.prog 13 #[.int .i64 i] w fun e w' => e = .returned (.string ⟨(txtOf i).toArray⟩) ∧ Below w.heap.size w w' := by
  have HB : Hid (∀ o, Below w.heap.size w (w.alloc o)) := Lib.hid (fun o => (Below.refl _ w).alloc (Nat.le_refl _) o)
  have hii : (i : Int) < 100 := by omega
  have hconv : (convert 71 9 (.slice (some ⟨w.heap.size, 0, none⟩) 2 2)).run Tryd.prog (w.alloc (.cells #[.int .u8 (48 + (i : Int) / 10), .int .u8 (48 + (i : Int) % 10)] 5)) = .ok (.string ⟨[UInt8.ofNat (48 + i / 10), UInt8.ofNat (48 + i % 10)].toArray⟩) (w.alloc (.cells #[.int .u8 (48 + (i : Int) / 10), .int .u8 (48 + (i : Int) % 10)] 5)) :=
    run_convert_bytes_back _ 71 9 5 ⟨w.heap.size, 0, none⟩ 2 [UInt8.ofNat (48 + i / 10), UInt8.ofNat (48 + i % 10)] Tryd.underlying71 Tryd.underlying5 Tryd.underlying9 (fun j hj => by
      have h1 : ((UInt8.ofNat (48 + i / 10)).toNat : Int) = 48 + (i : Int) / 10 := by rw [UInt8.toNat_ofNat']; omega
      have h2 : ((UInt8.ofNat (48 + i % 10)).toNat : Int) = 48 + (i : Int) % 10 := by rw [UInt8.toNat_ofNat']; omega
      match j, hj with
      | 0, _ => show (w.alloc _).cell? ⟨w.heap.size, 0, none⟩ = _; rw [Lib.cell_of_heap (heap_alloc_new w _), ← h1]; rfl
      | 1, _ => show (w.alloc _).cell? ⟨w.heap.size, 1, none⟩ = _; rw [Lib.cell_of_heap (heap_alloc_new w _), ← h2]; rfl)
  have htx : txtOf i = [84, 104, 101, 32, 116, 101, 120, 116, 32, 119, 105, 116, 104, 32, 110, 117, 109, 98, 101, 114, 32] ++ [UInt8.ofNat (48 + i / 10), UInt8.ofNat (48 + i % 10)] ++ txtTail := rfl
  have HTX := Lib.hid htx
  obtain ⟨d, hd⟩ : ∃ d : List UInt8, [UInt8.ofNat (48 + i / 10), UInt8.ofNat (48 + i % 10)] = d := ⟨_, rfl⟩
  have hdl : d.length = 2 := by rw [← hd]; rfl
  rw [hd] at hconv HTX
  clear htx hd
  go_enter Tryd.func13, Tryd.ntmps13
  go_wp2_with fail
  go_ret
  refine ⟨?_, HB.out _⟩
  rw [HTX.out]
  congr 2

def OpsL (W : World) (v : Value) (l : List Op3) : Prop :=
  ∃ a c, v = .slice a l.length c ∧ l.length ≤ c ∧ l.length ≤ 9223372036854775807 ∧ ∀ k (h : k < l.length), ∃ b off, a = some ⟨b, off, none⟩ ∧ W.cell? ⟨b, off + k * 3, none⟩ = some (.int .i64 l[k].kind) ∧ W.cell? ⟨b, off + k * 3 + 1, none⟩ = some (.int .i64 l[k].story) ∧ W.cell? ⟨b, off + k * 3 + 2, none⟩ = some (.int .i64 l[k].n)
theorem OpsL.take {W : World} {a : Option Addr} {n c : Nat} {l : List Op3} (h : OpsL W (.slice a n c) l) (m : Nat) : OpsL W (.slice a (min n m) c) (l.take m) := by
  obtain ⟨a', c', hv, hle, hm, hc⟩ := h
  cases hv
  refine ⟨a, c, by rw [List.length_take, Nat.min_comm], by rw [List.length_take]; omega, by rw [List.length_take]; omega, fun k hk => ?_⟩
  rw [List.length_take] at hk
  obtain ⟨b, off, h1, h2, h3, h4⟩ := hc k (Nat.lt_of_lt_of_le hk (Nat.min_le_right _ _))
  exact ⟨b, off, h1, by rw [List.getElem_take]; exact h2, by rw [List.getElem_take]; exact h3, by rw [List.getElem_take]; exact h4⟩
theorem few_any (v : Value) (l : List Op3) (w : World) (h : OpsL w v l) :
    Calls Tryd.prog 8 #[v] w fun e w' => ∃ v', e = .returned v' ∧ OpsL w v' (l.take 60) ∧ w = w' := by
  obtain ⟨a, c, rfl, hle, hm, hc⟩ := id h
  have HH := Lib.hid (h.take 60)
  clear h hc
  have HH1 : Hid (l.length ≤ 60 → OpsL w (.slice a l.length c) (l.take 60)) := Lib.hid (fun h => by have := HH.out; rwa [Nat.min_eq_left h] at this)
  have HH2 : Hid (60 ≤ l.length → OpsL w (.slice a 60 c) (l.take 60)) := Lib.hid (fun h => by have := HH.out; rwa [Nat.min_eq_right h] at this)
  rcases Nat.le_total l.length 60 with hl | hl
  · have h1 : min (l.length : Int) 60 = (l.length : Int) := by omega
    go_enter Tryd.func8, Tryd.ntmps8
    go_wp2_with fail
    all_goals first
      | (go_ret; exact ⟨_, rfl, HH1.out hl, rfl⟩)
      | (exfalso; omega)
      | (go_ret; exact ⟨_, rfl, HH2.out (by omega), rfl⟩)
  · go_enter Tryd.func8, Tryd.ntmps8
    go_wp2_with fail
    all_goals first
      | (go_ret; exact ⟨_, rfl, HH2.out hl, rfl⟩)
      | (go_ret; exact ⟨_, rfl, HH1.out (by omega), rfl⟩)

/-- a slice of numbers -/
def IntsL (W : World) (v : Value) (l : List Int) : Prop :=
  ∃ a c, v = .slice a l.length c ∧ l.length ≤ c ∧ l.length ≤ 9223372036854775807 ∧ ∀ k (h : k < l.length), ∃ b off, a = some ⟨b, off, none⟩ ∧ W.cell? ⟨b, off + k, none⟩ = some (.int .i64 l[k])
set_option maxRecDepth 100000 in
theorem has_any (v : Value) (l : List Int) (n : Int) (w : World) (h : IntsL w v l) :
    Calls Tryd.prog 11 #[v, .int .i64 n] w fun e w' => e = .returned (.bool (decide (n ∈ l))) ∧ w = w' := by
  obtain ⟨a, c, rfl, hle, hm, hc⟩ := h
  have HC := Lib.hid hc
  obtain ⟨R, hR⟩ : ∃ R, decide (n ∈ l) = R := ⟨_, rfl⟩
  rw [hR]
  have HR := Lib.hid hR
  clear hc hR
  go_enter Tryd.func11, Tryd.ntmps11
  go_wp2_with fail
  go_loopw [5] (fun i wr => ∃ k : Nat, i = .int .i64 k ∧ k ≤ l.length ∧ Hid (∀ j (h : j < l.length), j < k → l[j] ≠ n) ∧ w = wr) (fun i _ => l.length - (intOf i).toNat)
  case atStart => exact ⟨0, rfl, by omega, Lib.hid (fun j _ hj => by omega), rfl⟩
  case round =>
    obtain ⟨k, rfl, hk, HK, rfl⟩ := hrel
    by_cases hlt : k < l.length
    · have hki : (k : Int) < l.length := by omega
      obtain ⟨b, off, rfl, hcell⟩ := HC.out k hlt
      obtain ⟨x, hx⟩ : ∃ x, l[k] = x := ⟨_, rfl⟩
      rw [hx] at hcell
      by_cases he : x = n
      · have hb : (x == n) = true := by simpa using he
        obtain rfl : true = R := by rw [← HR.out]; exact (decide_eq_true (by rw [← he, ← hx]; exact List.getElem_mem hlt)).symm
        clear hx he
        go_wp2_with fail
        go_ret
        exact ⟨rfl, rfl⟩
      · have hb : (x == n) = false := by simpa using he
        have HK2 : Hid (∀ j (h : j < l.length), j < k + 1 → l[j] ≠ n) := Lib.hid (fun j h hj => by
          by_cases e : j = k
          · subst e; rw [hx]; exact he
          · exact HK.out j h (by omega))
        clear hx he
        go_wp2_with fail
        go_roundw
        case rel => exact ⟨k + 1, by go_num, by omega, HK2, by first | trivial | rfl⟩
        case measure => simp [intOf]; omega
    · obtain rfl : k = l.length := by omega
      obtain rfl : false = R := by
        rw [← HR.out]
        refine (decide_eq_false fun hm => ?_).symm
        obtain ⟨j, hj, e⟩ := List.getElem_of_mem hm
        exact HK.out j hj hj e
      go_wp2_with fail
      go_ret
      exact ⟨rfl, rfl⟩
end Go.Proofs.YtefloieanpgnmaaDoor

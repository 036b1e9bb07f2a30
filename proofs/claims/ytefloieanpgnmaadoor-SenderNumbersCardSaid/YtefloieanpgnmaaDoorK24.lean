/- Facts and contracts for the laws of the sender, part 24. Conditions: those that each theorem names. -/
import Derived.Test.YtefloieanpgnmaaDoorK23
import Derived.Test.YtefloieanpgnmaaDoorK22
import Derived.Test.YtefloieanpgnmaaDoorK17
import Derived.Test.YtefloieanpgnmaaDoorK05
/- Plain: a tick in which everything arrives. -/
namespace Go.Proofs.YtefloieanpgnmaaDoor

attribute [local irreducible] Sen.plan Sen.recv
/-- nothing is left to be done, and the partner knows it -/
def Good (T : Nat → Kn) (p : Peer) (S : Sen) (i : Nat) : Prop := W0 T S i ∧ Fresh p S i
theorem plan_suit {T : Nat → Kn} {S S' : Sen} {now : Int} (hp : PlanR S now S') (ht : Tgts T now S) (hT : ∀ i, i < 64 → T i ≠ .unk) : Suit T S' := fun i o hi ho => by
  rcases hp.new i o hi ho with ⟨-, h2⟩ | ⟨q, h2, -⟩
  · rw [← ht i hi]; exact h2
  · rw [h2]; simp only; rw [ht i hi]; exact Kn.is_self (hT i hi)

/-- S2 is S, but for the times, and the audit -/
structure Alike (S S2 : Sen) : Prop where
  same : Same S S2
  cnt : S2.counter = S.counter
  held : ∀ i, (S2.st i).held = (S.st i).held
  acked : ∀ i, (S2.st i).acked = (S.st i).acked
  out : ∀ i, (S2.st i).out.map (fun o => (o.msg, o.text)) = (S.st i).out.map (fun o => (o.msg, o.text))
theorem Alike.outN {S S2 : Sen} (h : Alike S S2) (i : Nat) : (S2.st i).out = none ↔ (S.st i).out = none := by
  have := h.out i
  cases h1 : (S.st i).out <;> cases h2 : (S2.st i).out <;> rw [h1, h2] at this <;> simp at this ⊢
theorem Alike.outS {S S2 : Sen} (h : Alike S S2) {i : Nat} {o : Out} (ho : (S.st i).out = some o) : ∃ o', (S2.st i).out = some o' ∧ o'.msg = o.msg ∧ o'.text = o.text := by
  have := h.out i
  rw [ho] at this
  cases h2 : (S2.st i).out with
  | none => rw [h2] at this; simp at this
  | some o' => rw [h2] at this; simp at this; exact ⟨o', rfl, this.1, this.2⟩
theorem Alike.back {S S2 : Sen} (h : Alike S S2) {i : Nat} {o : Out} (ho : (S2.st i).out = some o) : ∃ o', (S.st i).out = some o' ∧ o'.msg = o.msg ∧ o'.text = o.text := by
  have := h.out i
  rw [ho] at this
  cases h2 : (S.st i).out with
  | none => rw [h2] at this; simp at this
  | some o' => rw [h2] at this; simp at this; exact ⟨o', rfl, this.1.symm, this.2.symm⟩
theorem Alike.w0 {S S2 : Sen} (h : Alike S S2) (T : Nat → Kn) (i : Nat) : W0 T S i ↔ W0 T S2 i := by
  unfold W0; rw [h.outN i, h.held i]
theorem Alike.w1 {S S2 : Sen} (h : Alike S S2) {p : Peer} {i : Nat} (k : W1 p S i) : W1 p S2 i := by
  rcases k with ⟨o, h1, h2, h3⟩ | ⟨h1, h2, h3⟩
  · obtain ⟨o', h4, h5, -⟩ := h.outS h1
    exact .inl ⟨o', h4, by rw [h5]; exact h2, by rw [h5]; exact h3⟩
  · exact .inr ⟨(h.outN i).2 h1, by rw [h.held i]; exact h2, by rw [h.cnt]; exact h3⟩
theorem Alike.fresh {S S2 : Sen} (h : Alike S S2) {p : Peer} {i : Nat} (k : Fresh p S i) : Fresh p S2 i := by
  obtain ⟨m, h1, h2⟩ := k
  exact ⟨m, by rw [h.acked i]; exact h1, h2⟩
theorem Alike.suit {S S2 : Sen} (h : Alike S S2) {T : Nat → Kn} (k : Suit T S) : Suit T S2 := fun i o hi ho => by
  obtain ⟨o', h1, -, h2⟩ := h.back ho
  rw [← h2]; exact k i o' hi h1
theorem alike_audits (S : Sen) (k : Nat) : Alike S (audits S k).2 := by
  obtain ⟨h1, h2, h3, h4, -⟩ := audits_snd k S
  exact ⟨⟨h2, fun i => by rw [h4]⟩, h3, fun i => by rw [h4], fun i => by rw [h4], fun i => by rw [h4]⟩
theorem alike_sends (S : Sen) (now : Int) (l : List Nat) : Alike S (S.sends now l) := by
  have h := sends_st S now l
  refine ⟨⟨rfl, fun i => (h i).1⟩, rfl, fun i => (h i).2.1, fun i => (h i).2.2.1, fun i => ?_⟩
  rw [(h i).2.2.2]
  cases (S.st i).out with
  | none => rfl
  | some o => simp only [Option.map_some]; split <;> rfl

/-! ### which stories are sent about -/
def auds : Nat → Nat → List Nat
  | _, 0 => []
  | a, k + 1 => a :: auds ((a + 1) % 64) k
theorem mem_auds {j : Nat} : ∀ (k a : Nat), a < 64 → (j ∈ auds a k ↔ ∃ x, x < k ∧ j = (a + x) % 64)
  | 0, a, _ => by simp [auds]
  | k + 1, a, h => by
    have ih := mem_auds (j := j) k ((a + 1) % 64) (by omega)
    rw [auds, List.mem_cons, ih]
    constructor
    · rintro (h1 | ⟨x, h1, h2⟩)
      · exact ⟨0, by omega, by omega⟩
      · exact ⟨x + 1, by omega, by omega⟩
    · rintro ⟨x, h1, h2⟩
      cases x with
      | zero => left; omega
      | succ x => exact .inr ⟨x, by omega, by omega⟩
theorem auds_nodup : ∀ (k a : Nat), a < 64 → k ≤ 64 → (auds a k).Nodup
  | 0, a, _, _ => List.nodup_nil
  | k + 1, a, h, hk => by
    rw [auds, List.nodup_cons]
    refine ⟨fun h1 => ?_, auds_nodup k _ (by omega) (by omega)⟩
    obtain ⟨x, h2, h3⟩ := (mem_auds k _ (by omega)).1 h1
    omega
theorem auds_len : ∀ (k a : Nat), (auds a k).length = k
  | 0, _ => rfl
  | k + 1, a => by rw [auds, List.length_cons, auds_len k]
def ackMsg (S : Sen) (i : Nat) : Msg := match (S.st i).acked with | some m => m | none => ⟨0, 0, 0, 0, 0, 0, []⟩
def outMsg (S : Sen) (i : Nat) : Msg := match (S.st i).out with | some o => o.msg | none => ⟨0, 0, 0, 0, 0, 0, []⟩
theorem audits_map : ∀ (k : Nat) (S : Sen), S.audit < 64 → (∀ i, i < 64 → (S.st i).acked ≠ none) → (audits S k).1 = (auds S.audit k).map (ackMsg S)
  | 0, S, _, _ => rfl
  | k + 1, S, h, hk => by
    have ih := audits_map k { S with audit := (S.audit + 1) % 64 } (by simp only; omega) hk
    have he : (audits S (k + 1)).1 = (match (S.st S.audit).acked with | some m => [m] | none => []) ++ (audits { S with audit := (S.audit + 1) % 64 } k).1 := rfl
    have hm : ackMsg { S with audit := (S.audit + 1) % 64 } = ackMsg S := rfl
    rw [he, ih, auds, List.map_cons, hm]
    have h0 := hk S.audit h
    have h1 : ackMsg S S.audit = match (S.st S.audit).acked with | some m => m | none => ⟨0, 0, 0, 0, 0, 0, []⟩ := rfl
    rw [h1]
    cases ha : (S.st S.audit).acked with
    | none => exact absurd ha h0
    | some m => rfl
theorem msgs_map (S : Sen) : ∀ l : List Nat, (∀ i ∈ l, ∃ o, (S.st i).out = some o) → S.msgs l = l.map (outMsg S)
  | [], _ => rfl
  | i :: l, h => by
    have ih := msgs_map S l (fun j hj => h j (List.mem_cons_of_mem _ hj))
    obtain ⟨o, ho⟩ := h i List.mem_cons_self
    unfold Sen.msgs at ih ⊢
    rw [List.filterMap_cons, ho, List.map_cons, ih]
    have h1 : outMsg S i = match (S.st i).out with | some o => o.msg | none => ⟨0, 0, 0, 0, 0, 0, []⟩ := rfl
    rw [h1, ho]
    rfl
theorem sel_nodup (S : Sen) (q : Out → Bool) : (S.sel q).Nodup := by
  unfold Sen.sel
  exact (List.mergeSort_perm _ _).nodup_iff.2 (List.nodup_range.filter _)
theorem sel_outs (S : Sen) (q : Out → Bool) : (S.sel q).length ≤ S.outs := by
  unfold Sen.sel Sen.outs
  rw [List.length_mergeSort, ← List.countP_eq_length_filter]
  refine countP_le_of 64 fun j _ hj => ?_
  cases ho : (S.st j).out with
  | none => rw [ho] at hj; cases hj
  | some o => rfl

/-- what a tick sends, after its plan -/
def tickOf (S : Sen) (now : Int) : List Msg × Sen := if S.outs = 0 then audits S 4 else (S.msgs (S.sel (due now)), S.sends now (S.sel (due now)))
theorem tick_eq (S : Sen) (now : Int) : S.tick now = tickOf (S.plan now) now := rfl
/-- all that a tick's messages do; S: after the plan -/
structure CoreR (Q : Nat → List UInt8 → Prop) (B : Int) (T : Nat → Kn) (now : Int) (p : Peer) (S : Sen) (l : List Nat) (S2 : Sen) (p' : Peer) (S' : Sen) : Prop where
  nodup : l.Nodup
  lt : ∀ j ∈ l, j < 64
  alike : Alike S S2
  fold : FoldR Q B T l p S2 p' S'
  len : l.length ≤ 16
  idle : S.outs = 0 → l = auds S.audit 4 ∧ S2.audit = (S.audit + 4) % 64
  busy : S.outs ≠ 0 → l = S.sel (due now) ∧ S2.audit = S.audit
  old : ∀ j o, (S2.st j).out = some o → j ∈ l ∨ (S.st j).out = some o
theorem core_rel {Q : Nat → List UInt8 → Prop} (hQ : QOk Q) {B : Int} (hB : B + 256 ≤ 4611686018427387903) {T : Nat → Kn} {now : Int} (hT : ∀ i, i < 64 → T i ≠ .unk) {p : Peer} {S : Sen} (hP : PI Q B p) (hS : SP Q B p S) (ht : Tgts T now S) (hs : Suit T S)
    (hf : S.outs < 16 → ∀ i, i < 64 → (S.st i).out = none → (S.st i).held.is (T i) = true) :
    ∃ l S2, CoreR Q B T now p S l S2 ((tickOf S now).1.foldl (give1 now) (p, (tickOf S now).2)).1 ((tickOf S now).1.foldl (give1 now) (p, (tickOf S now).2)).2 := by
  by_cases h0 : S.outs = 0
  · have hz : ∀ i, i < 64 → (S.st i).out = none := fun i hi => by
      have h := h0
      unfold Sen.outs at h
      rw [List.countP_eq_zero] at h
      simpa using h i (List.mem_range.2 hi)
    have hw : ∀ i, i < 64 → W0 T S i := fun i hi => ⟨hz i hi, hf (by omega) i hi (hz i hi)⟩
    have hk : ∀ i, i < 64 → (S.st i).acked ≠ none := fun i hi => hS.si.known i hi (Kn.is_iff.1 (hw i hi).2).2
    have he : tickOf S now = audits S 4 := by unfold tickOf; rw [if_pos h0]
    have hal := alike_audits S 4
    have hS2 : SP Q B p (audits S 4).2 := by
      obtain ⟨h1, h2, h3, h4, h5⟩ := audits_snd 4 S
      exact ⟨⟨h1.trans hS.si.partner, by rw [h3]; exact hS.si.pos, by rw [h4]; exact hS.si.wanted, by rw [h4]; exact hS.si.held, by rw [h4, h3]; exact hS.si.outs, by rw [h4, h3]; exact hS.si.acked, by rw [h4]; exact hS.si.known, by unfold Sen.outs; rw [h4]; exact hS.si.out16⟩, by rw [h3]; exact hS.cnt, by rw [h5 hS.aud]; omega, by rw [h4]; exact hS.told⟩
    have hm := audits_map 4 S hS.aud hk
    obtain ⟨-, -, -, h4, h5⟩ := audits_snd 4 S
    have hlen := auds_len 4 S.audit
    have hlt : ∀ j ∈ auds S.audit 4, j < 64 := fun j hj => by
      obtain ⟨x, -, h7⟩ := (mem_auds 4 _ hS.aud).1 hj
      omega
    have hfold := fold_rel (B := B) hQ (T := T) (now := now) hT (ackMsg S) (auds S.audit 4) (p := p) (S := (audits S 4).2) (auds_nodup 4 _ hS.aud (by omega)) (fun i hi => ⟨hlt i hi, .inr ⟨(hal.w0 T i).1 (hw i (hlt i hi)), by
      rw [hal.acked i]
      have h1 : ackMsg S i = match (S.st i).acked with | some m => m | none => ⟨0, 0, 0, 0, 0, 0, []⟩ := rfl
      rw [h1]
      cases ha : (S.st i).acked with
      | none => exact absurd ha (hk i (hlt i hi))
      | some m => rfl⟩⟩) (by rw [hlen]; omega) hP hS2 (fun i hi => (hal.same.tgt i now).trans (ht i hi)) (hal.suit hs)
    rw [he, hm]
    exact ⟨auds S.audit 4, (audits S 4).2, auds_nodup 4 _ hS.aud (by omega), hlt, hal, hfold, by omega, fun _ => ⟨rfl, h5 hS.aud⟩, fun h => absurd h0 h, fun j o ho => .inr (by rw [← h4]; exact ho)⟩
  · have he : tickOf S now = (S.msgs (S.sel (due now)), S.sends now (S.sel (due now))) := by unfold tickOf; rw [if_neg h0]
    obtain ⟨l, hl⟩ : ∃ l, S.sel (due now) = l := ⟨_, rfl⟩
    have hnd : l.Nodup := by rw [← hl]; exact sel_nodup S _
    have hmem : ∀ i ∈ l, i < 64 ∧ ∃ o, (S.st i).out = some o ∧ due now o = true := fun i hi => by rw [← hl] at hi; exact mem_sel.1 hi
    have hlen : l.length ≤ 16 := by rw [← hl]; exact Nat.le_trans (sel_outs S _) hS.si.out16
    have hal := alike_sends S now l
    have hS2 : SP Q B p (S.sends now l) := ⟨hS.si.sends now l, hS.cnt, hS.aud, fun i m hi hm => hS.told i m hi (by rw [← hal.acked i]; exact hm)⟩
    rw [he, hl]
    simp only
    rw [msgs_map S l (fun i hi => by obtain ⟨-, o, ho, -⟩ := hmem i hi; exact ⟨o, ho⟩)]
    have hfold := fold_rel (B := B) hQ (T := T) (now := now) hT (outMsg S) l (p := p) (S := S.sends now l) hnd (fun i hi => ⟨(hmem i hi).1, .inl (by
      obtain ⟨-, o, ho, -⟩ := hmem i hi
      obtain ⟨o', h1, h2, -⟩ := hal.outS ho
      refine ⟨o', h1, ?_⟩
      have h3 : outMsg S i = match (S.st i).out with | some o => o.msg | none => ⟨0, 0, 0, 0, 0, 0, []⟩ := rfl
      rw [h3, ho, h2])⟩) (by omega) hP hS2 (fun i hi => (hal.same.tgt i now).trans (ht i hi)) (hal.suit hs)
    refine ⟨l, S.sends now l, hnd, fun j hj => (hmem j hj).1, hal, hfold, hlen, fun h => absurd h h0, fun _ => ⟨hl.symm, rfl⟩, fun j o ho => ?_⟩
    rw [(sends_st S now l j).2.2.2, Option.map_eq_some_iff] at ho
    obtain ⟨o', h1, h2⟩ := ho
    by_cases hj : j ∈ l
    · exact .inl hj
    · rw [if_neg hj] at h2
      exact .inr (by rw [h1, h2])
end Go.Proofs.YtefloieanpgnmaaDoor
/- A sender's Tick. -/
namespace Go.Proofs.YtefloieanpgnmaaDoor
open Go.RowKit

/-- a message is sent -/
theorem SenAt.putSent {T : Nat → Prop} {w : World} {b : Nat} {S : Sen} {P : Nat → Option Nat} (h : SenAt T w b S P) {i : Nat} (hi : i < 64) {o : Out} (ho : (S.st i).out = some o) {g : Nat} (hg : P i = some g) (now : Int) (hnow : -9223372036854775808 ≤ now ∧ now ≤ 9223372036854775807) :
    SenAt T ((w.setCell ⟨g, 9, none⟩ (.bool true)).setCell ⟨g, 10, none⟩ (.int .i64 now)) b { S with st := upd S.st i (sent1 now (S.st i)) } P := by
  obtain ⟨g', h1, hTg, hgb, hblk⟩ := h.sout i o hi ho
  rw [hg] at h1
  cases h1
  have hfar : ∀ k, k ≠ g → ((w.setCell ⟨g, 9, none⟩ (.bool true)).setCell ⟨g, 10, none⟩ (.int .i64 now)).heap[k]? = w.heap[k]? := fun k hk => (Below.heap_setCell _ ⟨g, _, none⟩ _ k hk).trans (Below.heap_setCell _ ⟨g, _, none⟩ _ k hk)
  have hat : ((w.setCell ⟨g, 9, none⟩ (.bool true)).setCell ⟨g, 10, none⟩ (.int .i64 now)).heap[g]? = some (.cells (outC { o with sent := true, tm := now }) 85 (0, 0)) := by
    simp [World.setCell, Array.getElem?_modify, hblk, outC]
  have hso : (sent1 now (S.st i)).out = some { o with sent := true, tm := now } := by unfold sent1; rw [ho]; rfl
  have hst : ∀ j, upd S.st i (sent1 now (S.st i)) j = if j = i then sent1 now (S.st i) else S.st j := fun j => rfl
  have hout : ∀ j o', (upd S.st i (sent1 now (S.st i)) j).out = some o' → (j = i ∧ o' = { o with sent := true, tm := now }) ∨ (j ≠ i ∧ (S.st j).out = some o') := fun j o' h2 => by
    rw [hst] at h2
    by_cases e : j = i
    · rw [if_pos e, hso] at h2; cases h2; exact .inl ⟨e, rfl⟩
    · rw [if_neg e] at h2; exact .inr ⟨e, h2⟩
  have hok : SenOk { S with st := upd S.st i (sent1 now (S.st i)) } := by
    have hoi := h.ok.outs i o ho
    have := h.ok.upd1 i (sent1 now (S.st i)) S.counter ⟨Int.le_refl _, h.ok.counter.2⟩ (h.ok.wanted i) (h.ok.held i) (fun o' h2 => by rw [hso] at h2; cases h2; exact ⟨hoi.1, hoi.2.1, hoi.2.2.1, hoi.2.2.2.1, hnow⟩) (fun m hm => h.ok.acked i m hm) (fun o' h2 j o'' hj h3 e => by
      rw [hso] at h2
      cases h2
      exact hj (h.ok.apart j i o'' o h3 ho e.symm))
    exact this
  refine ⟨hok, fun k hk => by simp; exact h.lt k hk, h.own, ?_, fun j hj h2 => ?_, fun j o' hj h2 => ?_, h.inj⟩
  · refine (h.cells.kept (hfar b (Ne.symm hgb))).congr fun x hx => ?_
    match x, hx with
    | 0, _ => rfl
    | 1, _ => rfl
    | 2, _ => rfl
    | 3, _ => rfl
    | x + 4, hx =>
      show stoV (S.st (x / 13)) (P (x / 13)) (x % 13) = stoV (upd S.st i (sent1 now (S.st i)) (x / 13)) (P (x / 13)) (x % 13)
      rw [hst]
      by_cases e : x / 13 = i
      · rw [if_pos e, e]
        have hc : x % 13 < 13 := by omega
        obtain ⟨c, hce⟩ : ∃ c, x % 13 = c := ⟨_, rfl⟩
        rw [hce] at hc ⊢
        match c, hc with
        | 0, _ => rfl
        | 1, _ => rfl
        | 2, _ => rfl
        | 3, _ => rfl
        | 4, _ => rfl
        | 5, _ => rfl
        | 6, _ => rfl
        | 7, _ => rfl
        | 8, _ => rfl
        | 9, _ => rfl
        | 10, _ => rfl
        | 11, _ => rfl
        | 12, _ => rfl
      · rw [if_neg e]
  · have : (S.st j).out = none := by
      simp only [hst] at h2
      by_cases e : j = i
      · rw [if_pos e, hso] at h2; cases h2
      · rwa [if_neg e] at h2
    exact h.nout j hj this
  · rcases hout j o' h2 with ⟨rfl, rfl⟩ | ⟨h3, h4⟩
    · exact ⟨g, hg, hTg, hgb, hat⟩
    · obtain ⟨g2, h5, h6, h7, h8⟩ := h.sout j o' hj h4
      refine ⟨g2, h5, h6, h7, ?_⟩
      rw [hfar g2 (fun e => h3 (h.inj j i g hj hi (by rw [h5, e]) hg))]
      exact h8
theorem sends_zero (S : Sen) (now : Int) (l : List Nat) : S.sends now (l.take 0) = S := by
  unfold Sen.sends; simp
theorem sends_succ {S : Sen} {now : Int} {l : List Nat} (hn : l.Nodup) {k : Nat} (hk : k < l.length) : S.sends now (l.take (k + 1)) = { S.sends now (l.take k) with st := upd (S.sends now (l.take k)).st l[k] (sent1 now ((S.sends now (l.take k)).st l[k])) } := by
  have hni : l[k] ∉ l.take k := fun hm => by
    obtain ⟨j, hj, e⟩ := List.getElem_of_mem hm
    rw [List.getElem_take] at e
    rw [List.length_take] at hj
    exact (List.pairwise_iff_getElem.1 hn j k (by omega) hk (by omega)) e
  have hm : ∀ i, (i ∈ l.take (k + 1)) = (i ∈ l.take k ∨ i = l[k]) := fun i => by rw [List.take_succ_eq_append_getElem hk, List.mem_append, List.mem_singleton]
  unfold Sen.sends
  simp only [Sen.mk.injEq, true_and, hm]
  funext i
  unfold upd
  by_cases e : i = l[k]
  · subst e
    rw [if_pos (Or.inr rfl), if_pos rfl, if_neg hni]
  · rw [if_neg e]
    by_cases h2 : i ∈ l.take k
    · rw [if_pos (Or.inl h2)]; exact (if_pos h2).symm
    · rw [if_neg (fun h => h.elim h2 e)]; exact (if_neg h2).symm
theorem sends_at {S : Sen} {now : Int} {l : List Nat} (hn : l.Nodup) {k : Nat} (hk : k < l.length) : (S.sends now (l.take k)).st l[k] = S.st l[k] := by
  have hni : l[k] ∉ l.take k := fun hm => by
    obtain ⟨j, hj, e⟩ := List.getElem_of_mem hm
    rw [List.getElem_take] at e
    rw [List.length_take] at hj
    exact (List.pairwise_iff_getElem.1 hn j k (by omega) hk (by omega)) e
  unfold Sen.sends
  simp only
  rw [if_neg hni]
/-- the sender behind a tick: the list is apart from its blocks -/
def TickEnd (a0 a1 : Addr) (w0 : World) (T : Nat → Prop) (w : World) (b : Nat) (L : List Msg) (S' : Sen) (e : Ending) (w' : World) : Prop := ∃ (v : Value) (base : Nat) (T' : Nat → Prop) (P' : Nat → Option Nat), e = .returned v ∧ w'.ownsRow base 33 7 v L.length (L.flatMap msgC) ∧ w.heap.size ≤ base ∧ (∀ k, T' k → k < base) ∧ Snd a0 a1 w0 T' w' b S' P' ∧ But T w.heap.size w w' ∧ ∀ k, T' k → T k ∨ w.heap.size ≤ k

set_option maxRecDepth 100000 in
set_option maxHeartbeats 8000000 in
theorem tick_any {a0 a1 : Addr} {w0 : World} {T : Nat → Prop} {w : World} {b : Nat} {S : Sen} {P : Nat → Option Nat} (h : Snd a0 a1 w0 T w b S P) (now : Int) (hnow : -9223372036854775808 ≤ now ∧ now ≤ 9223372036854775807) :
    Calls Tryd.prog 18 #[.pointer (some ⟨b, 0, none⟩), .int .i64 now] w (TickEnd a0 a1 w0 T w b (S.tick now).1 (S.tick now).2) := by
  obtain ⟨i0, hi, hz0, hz1, hz2⟩ := info_parts infoMsg
  rw [tick_eq]
  obtain ⟨S1, hS1⟩ : ∃ S1, S.plan now = S1 := ⟨_, rfl⟩
  have hbl := h.at_.blt
  obtain ⟨w1, hw1⟩ : ∃ w1, w.alloc (.cells #[.int .i64 now] 3) = w1 := ⟨_, rfl⟩
  have hb1 : Below w.heap.size w w1 := by rw [← hw1]; exact (Below.refl _ w).alloc (Nat.le_refl _) _
  have hn1 : w1.heap[w.heap.size]? = some (.cells #[.int .i64 now] 3 (0, 0)) := by rw [← hw1]; exact heap_alloc_new w _
  have n0 : w1.cell? ⟨w.heap.size, 0, none⟩ = some (.int .i64 now) := by rw [Lib.cell_of_heap hn1]; rfl
  have HN1 := Lib.hid hn1
  have HTN : Hid (¬ T w.heap.size) := Lib.hid (fun e => by have := h.at_.lt _ e; omega)
  have HS1 : Hid (Snd a0 a1 w0 T w1 b S P) := Lib.hid (h.below hb1)
  have HB1 := Lib.hid hb1
  have CP := Lib.hid (plan_any HS1.out now hnow)
  rw [hS1] at CP ⊢
  have hs1 : w.heap.size < w1.heap.size := (Array.getElem?_eq_some_iff.1 hn1).1
  clear h hb1 hn1 hS1
  go_enter Tryd.func18, Tryd.ntmps18
  go_upto_region 1 with fail
  try rw [hw1]
  clear hw1
  go_upto_region 4 with (first
    | (go_at_call 25; refine (made_any HS1.out.at_).mono ?_; rintro e wm ⟨rfl, rfl⟩)
    | (go_at_call 27; refine CP.out.mono ?_; rintro e w2 ⟨rfl, T1, P1, hs2, hb2, ht2⟩)
    | fail)
  have HS2 := Lib.hid hs2
  have HT2 : Hid (∀ k, T1 k → T k ∨ w.heap.size ≤ k) := Lib.hid (fun k hk => (ht2 k hk).elim .inl fun h => .inr (by omega))
  have HB2 : Hid (But T w.heap.size w w2) := Lib.hid ((But.of_below HB1.out).trans (hb2.mono (by omega)))
  have HNN : Hid (w2.heap[w.heap.size]? = some (.cells #[.int .i64 now] 3 (0, 0)) ∧ ¬ T1 w.heap.size) := Lib.hid ⟨(hb2.block _ hs1 HTN.out).trans HN1.out, fun e => (ht2 _ e).elim HTN.out fun h => by omega⟩
  have hs12 := hb2.size
  have HSL := Lib.hid (selAll2 hs2.at_)
  rw [sel_len] at HSL
  have hol := outs_le S1
  obtain ⟨no, hno⟩ : ∃ x, S1.outs = x := ⟨_, rfl⟩
  rw [hno] at HSL hol
  have HNO := Lib.hid hno
  obtain ⟨N, hN⟩ : ∃ N, w.heap.size = N := ⟨_, rfl⟩
  have HN := Lib.hid hN
  rw [hN] at HNN n0 hs1 hbl ⊢
  clear hs2 hb2 ht2 CP HB1 HN1 n0 hno hN
  by_cases h0 : no = 0
  · have htk : tickOf S1 now = audits S1 4 := by unfold tickOf; rw [if_pos (by rw [HNO.out]; exact h0)]
    rw [htk]
    subst h0
    go_wp2_with (first
      | (go_at_call 30; refine HSL.out.mono ?_; rintro e w3 ⟨v, rfl, hrow, hb3⟩; obtain ⟨va, vc, rfl⟩ := row_form hrow)
      | (go_at_call 32; refine (audited_any (HS2.out.below hb3).at_).mono ?_; rintro e w4 ⟨v, rfl, ho4, hs4, hb4⟩)
      | fail)
    have h3 := HS2.out.below hb3
    have hsz3 := hb3.size
    have hw4 : But T1 w3.heap.size w3 w4 := hb4.weaken (fun k _ e => by rw [e]; exact h3.at_.own)
    have hN4 := HN.out
    have HFIN : Hid (TickEnd a0 a1 w0 T w b (tickOf S1 now).1 (tickOf S1 now).2 (.returned v) w4) := Lib.hid (by
      rw [htk]
      refine ⟨v, w3.heap.size, T1, P1, rfl, ho4, by omega, h3.at_.lt, h3.of hs4 hw4 (fun k hk => .inl hk), ?_, HT2.out⟩
      refine HB2.out.trans ((But.of_below (hb3.mono HB2.out.size)).trans ?_)
      refine ⟨hw4.os, hw4.tape, hw4.output, hw4.size, fun k hk hn => hw4.block k (by have := HB2.out.size; omega) fun e => ?_⟩
      exact (HT2.out k e).elim hn fun h => by omega)
    go_ret
    exact HFIN.out
  · have htk : tickOf S1 now = (S1.msgs (S1.sel (due now)), S1.sends now (S1.sel (due now))) := by unfold tickOf; rw [if_neg (by rw [HNO.out]; exact h0)]
    have h0b : ((no : Int) == 0) = false := by rw [beq_eq_false_iff_ne]; omega
    have HTK := Lib.hid htk
    clear htk
    go_wp2_with (first
      | (go_at_call 30; with_reducible (refine HSL.out.mono ?_); rintro e w3 ⟨v, rfl, hrow, hb3⟩; obtain ⟨va, vc, rfl⟩ := row_form hrow)
      | fail)
    have h3 := HS2.out.below hb3
    have hN3b := (hb3.block N (Array.getElem?_eq_some_iff.1 HNN.out.1).1).trans HNN.out.1
    have hN3 : w3.cell? ⟨N, 0, none⟩ = some (.int .i64 now) := by rw [Lib.cell_of_heap hN3b]; rfl
    refine (selDue h3.at_ N now hN3 hnow).mono ?_
    rintro e w4 ⟨v4, rfl, hrow4, hb4⟩
    have hnd := sel_nodup S1 (due now)
    have hmem : ∀ i, i ∈ S1.sel (due now) → i < 64 ∧ ∃ o, (S1.st i).out = some o := fun i hi => by
      unfold Sen.sel at hi
      rw [List.mem_mergeSort, List.mem_filter, List.mem_range] at hi
      refine ⟨hi.1, ?_⟩
      cases ho : (S1.st i).out with
      | none => have := hi.2; rw [ho] at this; cases this
      | some o => exact ⟨o, rfl⟩
    have hln : (S1.sel (due now)).length ≤ 64 := Nat.le_trans (sel_outs S1 _) (outs_le S1)
    have hms := msgs_map S1 (S1.sel (due now)) (fun i hi => (hmem i hi).2)
    obtain ⟨l, hl⟩ : ∃ l, S1.sel (due now) = l := ⟨_, rfl⟩
    rw [hl] at HTK hrow4 hnd hmem hln hms
    obtain ⟨va4, vc4, rfl⟩ := row_form hrow4
    have h4 := h3.below hb4
    have HR4 := Lib.hid hrow4; have HND := Lib.hid hnd; have HMEM := Lib.hid hmem; have HMS := Lib.hid hms
    have H4 := Lib.hid h4
    have HLT : Hid (∀ k, T1 k → k < w3.heap.size) := Lib.hid h3.at_.lt
    have HB34 := Lib.hid hb4
    have HB4 : Hid (But T w.heap.size w w4) := Lib.hid (HB2.out.trans (But.of_below ((hb3.trans (hb4.mono hb3.size)).mono HB2.out.size)))
    have hsz4 : N ≤ w4.heap.size := by have := HN.out; have := HB4.out.size; omega
    have hN4b := (hb4.block N (Array.getElem?_eq_some_iff.1 hN3b).1).trans hN3b
    have HN4 := Lib.hid hN4b
    clear hl hrow hrow4 hnd hmem hms h3 h4 hN3 hN3b hN4b hb3 hb4
    go_wp2_with fail
    go_loopw [6, 26] (fun u i wr => ∃ k : Nat, i = .int .i64 k ∧ k ≤ l.length ∧ Hid (wr.ownsRow w4.heap.size 33 7 u k (((l.take k).map (outMsg S1)).flatMap msgC)) ∧ Hid (SenAt T1 wr b (S1.sends now (l.take k)) P1 ∧ But T1 w4.heap.size w4 wr)) (fun _ i _ => l.length - (intOf i).toNat)
    case atStart => exact ⟨0, rfl, by omega, Lib.hid ⟨rfl, .inl ⟨rfl, rfl⟩⟩, Lib.hid ⟨by rw [sends_zero]; exact H4.out.at_, But.refl _ _ _⟩⟩
    case round =>
      obtain ⟨k, rfl, hk, HO, HSS⟩ := hrel
      by_cases hlt : k < l.length
      · have hki : (k : Int) < l.length := by omega
        obtain ⟨hi64, o, ho⟩ := HMEM.out _ (List.getElem_mem hlt)
        have hsa := sends_at (S := S1) (now := now) HND.out hlt
        have hsu := Lib.hid (sends_succ (S := S1) (now := now) HND.out hlt)
        have hom : outMsg S1 l[k] = o.msg := by unfold outMsg; rw [ho]
        have HTK1 : Hid (((l.take (k + 1)).map (outMsg S1)).flatMap msgC = ((l.take k).map (outMsg S1)).flatMap msgC ++ msgC o.msg) := Lib.hid (by
          rw [List.take_succ_eq_append_getElem hlt, List.map_append, List.flatMap_append, List.map_cons, List.map_nil, hom]
          simp)
        have ho2 : ((S1.sends now (l.take k)).st l[k]).out = some o := by rw [hsa]; exact ho
        obtain ⟨g, hp, hTg, hgb, hg⟩ := HSS.out.1.sout _ o hi64 ho2
        have hptr : wr.ownsRow w3.heap.size 75 1 (.slice va4 l.length vc4) l.length (l.map fun i => ptrV (P1 i)) := row_keep HR4.out fun j hj hj2 => HSS.out.2.block j hj2 fun e => by have := HLT.out j e; omega
        have hpc : ∃ r, va4 = some ⟨r, 0, none⟩ ∧ wr.cell? ⟨r, k, none⟩ = some (.pointer (some ⟨g, 0, none⟩)) := by
          rcases hptr.2 with ⟨h1, h2⟩ | ⟨r, cap, cur, h1, -⟩
          · omega
          · cases h1
            refine ⟨r, rfl, ?_⟩
            have h5 := hptr.cells rfl k (ptrV (P1 l[k])) (by rw [List.getElem?_map, List.getElem?_eq_getElem hlt]; rfl)
            have h6 : (⟨r, 0, none⟩ : Addr).add k = ⟨r, k, none⟩ := by unfold Addr.add; by_cases h0 : k = 0 <;> simp [h0]
            rw [h6, hp] at h5
            exact h5
        obtain ⟨r, rfl, hpr⟩ := hpc
        have HPUT := Lib.hid (HSS.out.1.putSent hi64 ho2 hp now hnow)
        have g9 : wr.cell? ⟨g, 9, none⟩ = some (.bool o.sent) := by rw [Lib.cell_of_heap hg]; rfl
        have g10 : wr.cell? ⟨g, 10, none⟩ = some (.int .i64 o.tm) := by rw [Lib.cell_of_heap hg]; rfl
        have k9 := Lib.frozen_of_heap hg 9
        have k10 := Lib.frozen_of_heap hg 10
        have hNr := (HSS.out.2.block N (Array.getElem?_eq_some_iff.1 HN4.out).1 (HNN.out.2)).trans HN4.out
        have n0 : wr.cell? ⟨N, 0, none⟩ = some (.int .i64 now) := by rw [Lib.cell_of_heap hNr]; rfl
        have HG := Lib.hid hg; have HTG := Lib.hid hTg
        have HGN : Hid (g ≠ N) := Lib.hid (fun e => HNN.out.2 (by rw [← e]; exact hTg))
        have hgN := HGN.out
        clear hsa hom ho ho2 hp hTg hgb hg hptr hNr
        go_upto_region 11 with fail
        go_region
        obtain ⟨w5, hw5⟩ : ∃ w5, ((wr.setCell ⟨g, 9, none⟩ (.bool true)).setCell ⟨g, 10, none⟩ (.int .i64 now)).drew = w5 := ⟨_, rfl⟩
        have HS5 : Hid (SenAt T1 w5 b (S1.sends now (l.take (k + 1))) P1) := Lib.hid (by rw [← hw5, hsu.out]; exact HPUT.out.below (Below.refl _ _).drew)
        have HB5 : Hid (But T1 w4.heap.size w4 w5) := Lib.hid (by rw [← hw5]; exact ((HSS.out.2.setCell HTG.out _).setCell HTG.out _).drew1)
        have HG5 : Hid (w5.heap[g]? = some (.cells (outC { o with sent := true, tm := now }) 85 (0, 0))) := Lib.hid (by
          rw [← hw5]
          show ((wr.setCell ⟨g, 9, none⟩ (.bool true)).setCell ⟨g, 10, none⟩ (.int .i64 now)).heap[g]? = _
          simp [World.setCell, Array.getElem?_modify, HG.out, outC])
        have HO5 : Hid (w5.ownsRow w4.heap.size 33 7 u6 k (((l.take k).map (outMsg S1)).flatMap msgC)) := Lib.hid (row_keep HO.out fun j hj _ => by
          have hjg : j ≠ g := fun e => by have := H4.out.at_.lt g HTG.out; omega
          rw [← hw5]
          exact (Below.heap_setCell _ ⟨g, _, none⟩ _ j hjg).trans (Below.heap_setCell _ ⟨g, _, none⟩ _ j hjg))
        rw [hw5]
        clear hw5 HPUT hsu HO HSS g9 g10 k9 k10 n0 hpr HG hgN
        obtain ⟨om, hom⟩ : ∃ m, o.msg = m := ⟨_, rfl⟩
        rw [hom] at HTK1
        have g0 : w5.cell? ⟨g, 0, none⟩ = some (.int .i64 om.kind) := by rw [Lib.cell_of_heap HG5.out, ← hom]; rfl
        have g1 : w5.cell? ⟨g, 1, none⟩ = some (.int .i64 om.partner) := by rw [Lib.cell_of_heap HG5.out, ← hom]; rfl
        have g2 : w5.cell? ⟨g, 2, none⟩ = some (.int .i64 om.seq) := by rw [Lib.cell_of_heap HG5.out, ← hom]; rfl
        have g3 : w5.cell? ⟨g, 3, none⟩ = some (.int .i64 om.story) := by rw [Lib.cell_of_heap HG5.out, ← hom]; rfl
        have g4 : w5.cell? ⟨g, 4, none⟩ = some (.int .i64 om.base) := by rw [Lib.cell_of_heap HG5.out, ← hom]; rfl
        have g5 : w5.cell? ⟨g, 5, none⟩ = some (.int .i64 om.version) := by rw [Lib.cell_of_heap HG5.out, ← hom]; rfl
        have g6 : w5.cell? ⟨g, 6, none⟩ = some (.string ⟨om.data.toArray⟩) := by rw [Lib.cell_of_heap HG5.out, ← hom]; rfl
        have hs5 := HB5.out.size
        clear hom
        go_wp2_with (at_builtin; refine wpList_append_own _ rfl _ _ 28 rfl w4.heap.size 33 i0 _ 7 64 Tryd.underlying28 hi hz0 hz1 hz2 rfl (by decide) _ _ _ rfl (HO5.out.alloc _) ⟨w5.heap.size, 0, none⟩ 1 1 [.int .i64 om.kind, .int .i64 om.partner, .int .i64 om.seq, .int .i64 om.story, .int .i64 om.base, .int .i64 om.version, .string ⟨om.data.toArray⟩] rfl rfl ?c1 ?c2 ?c3 ?c4 ?c5 ?_)
        case c1 => exact World.news_of_block (cs := (msgC om).toArray) (t := 33) (fr := (0, 0)) (heap_alloc_new w5 _)
        case c2 => simp [Value.oneCell']
        case c3 => unfold maxLen; omega
        case c4 => omega
        case c5 => first | omega | (simp; omega)
        intro v' w6 ho6 hg6 _
        have hold : ∀ j, j < w4.heap.size → w6.heap[j]? = w5.heap[j]? := fun j hj => by
          rw [hg6.block j (by simp; omega) (fun e => by have := (HO5.out.lt j e.symm).1; omega)]
          exact heap_alloc_old w5 _ (by omega)
        have hs6 : w5.heap.size ≤ w6.heap.size := by have := hg6.size; simp at this; omega
        have HO6 : Hid (w6.ownsRow w4.heap.size 33 7 v' (k + 1) (((l.take (k + 1)).map (outMsg S1)).flatMap msgC)) := Lib.hid (by
          rw [HTK1.out]
          simpa [msgC] using ho6)
        have HSS6 : Hid (SenAt T1 w6 b (S1.sends now (l.take (k + 1))) P1 ∧ But T1 w4.heap.size w4 w6) := Lib.hid ⟨HS5.out.kept hs6 fun j hj => hold j (H4.out.at_.lt j hj), HB5.out.trans ⟨hg6.os, hg6.tape, hg6.output, hs6, fun j hj _ => hold j hj⟩⟩
        clear ho6 hg6 hold g0 g1 g2 g3 g4 g5 g6
        go_wp2_with fail
        go_roundw
        case rel => exact ⟨k + 1, by go_num, by omega, HO6, HSS6⟩
        case measure => simp [intOf]; omega
      · obtain rfl : k = l.length := by omega
        have HFIN : Hid (TickEnd a0 a1 w0 T w b (tickOf S1 now).1 (tickOf S1 now).2 (.returned u6) wr) := Lib.hid (by
          rw [HTK.out, HMS.out]
          have h5 := HO.out
          have h6 := HSS.out
          rw [List.take_length] at h5 h6
          refine ⟨u6, w4.heap.size, T1, P1, rfl, by rw [List.length_map]; exact h5, by have := HN.out; omega, H4.out.at_.lt, H4.out.of h6.1 h6.2 (fun k hk => .inl hk), ?_, HT2.out⟩
          refine HB4.out.trans ⟨h6.2.os, h6.2.tape, h6.2.output, h6.2.size, fun k hk hn => h6.2.block k (by have := HN.out; omega) fun e => ?_⟩
          exact (HT2.out k e).elim hn fun h => by omega)
        go_wp2_with fail
        go_ret
        exact HFIN.out
end Go.Proofs.YtefloieanpgnmaaDoor
/- The law's calls: perform. -/
namespace Go.Proofs.YtefloieanpgnmaaDoor
open Go.RowKit

/-- a call, as the law hands it on; vi: its items -/
def callV (c : Cal) (vi : Value) : Value := match c with
  | .none => .agg #[.int .i64 0, .int .i64 0, .slice none 0 0, .int .i64 0, .int .i64 0, .int .i64 0, .int .i64 0, .int .i64 0, .int .i64 0, .int .i64 0, .string ⟨#[]⟩]
  | .want now _ => .agg #[.int .i64 1, .int .i64 now, vi, .int .i64 0, .int .i64 0, .int .i64 0, .int .i64 0, .int .i64 0, .int .i64 0, .int .i64 0, .string ⟨#[]⟩]
  | .lease u => .agg #[.int .i64 2, .int .i64 0, .slice none 0 0, .int .i64 u, .int .i64 0, .int .i64 0, .int .i64 0, .int .i64 0, .int .i64 0, .int .i64 0, .string ⟨#[]⟩]
  | .recv now m => .agg #[.int .i64 3, .int .i64 now, .slice none 0 0, .int .i64 0, .int .i64 m.kind, .int .i64 m.partner, .int .i64 m.seq, .int .i64 m.story, .int .i64 m.base, .int .i64 m.version, .string ⟨m.data.toArray⟩]
  | .tick now => .agg #[.int .i64 4, .int .i64 now, .slice none 0 0, .int .i64 0, .int .i64 0, .int .i64 0, .int .i64 0, .int .i64 0, .int .i64 0, .int .i64 0, .string ⟨#[]⟩]
/-- what a call must be -/
def CalOk (T : Nat → Prop) (w : World) (vi : Value) : Cal → Prop
  | .none => True
  | .want now l => (-9223372036854775808 ≤ now ∧ now ≤ 9223372036854775807) ∧ ItOk l ∧ ItL w vi l ∧ ∀ bb off n c, vi = .slice (some ⟨bb, off, none⟩) n c → ¬ T bb
  | .lease u => -9223372036854775808 ≤ u ∧ u ≤ 9223372036854775807
  | .recv now m => (-9223372036854775808 ≤ now ∧ now ≤ 9223372036854775807) ∧ m.data.length ≤ 9223372036854775000
  | .tick now => -9223372036854775808 ≤ now ∧ now ≤ 9223372036854775807
theorem TickEnd.nil {a0 a1 : Addr} {w0 : World} {T : Nat → Prop} {w w1 w' : World} {b : Nat} {S' : Sen} (hb : Below w.heap.size w w1) (h : SEnd a0 a1 w0 T w1 b S' w') : TickEnd a0 a1 w0 T w b [] S' (.returned (.slice none 0 0)) w' := by
  obtain ⟨T', P', h1, h2, h3⟩ := h
  have hs := hb.size
  exact ⟨_, w'.heap.size, T', P', rfl, ⟨rfl, .inl ⟨rfl, rfl⟩⟩, Nat.le_trans hs h2.size, h1.at_.lt, h1, (But.of_below hb).trans (h2.mono hs), fun k hk => (h3 k hk).elim .inl fun h => .inr (by omega)⟩
theorem TickEnd.from {a0 a1 : Addr} {w0 : World} {T : Nat → Prop} {w w1 w' : World} {b : Nat} {L : List Msg} {S' : Sen} {e : Ending} (hb : Below w.heap.size w w1) (h : TickEnd a0 a1 w0 T w1 b L S' e w') : TickEnd a0 a1 w0 T w b L S' e w' := by
  obtain ⟨v, base, T', P', h1, h2, h3, h4, h5, h6, h7⟩ := h
  have hs := hb.size
  exact ⟨v, base, T', P', h1, h2, Nat.le_trans hs h3, h4, h5, (But.of_below hb).trans (h6.mono hs), fun k hk => (h7 k hk).elim .inl fun h => .inr (by omega)⟩

set_option maxRecDepth 100000 in
set_option maxHeartbeats 4000000 in
theorem perform_any {a0 a1 : Addr} {w0 : World} {T : Nat → Prop} {w : World} {b : Nat} {S : Sen} {P : Nat → Option Nat} (h : Snd a0 a1 w0 T w b S P) (c : Cal) (vi : Value) (hc : CalOk T w vi c) :
    Calls Tryd.prog 10 #[callV c vi, .pointer (some ⟨b, 0, none⟩)] w (TickEnd a0 a1 w0 T w b (c.perform S).1 (c.perform S).2) := by
  have HB : Hid (∀ o, Below w.heap.size w (w.alloc o)) := Lib.hid (fun o => (Below.refl _ w).alloc (Nat.le_refl _) o)
  have HS : Hid (∀ o, Snd a0 a1 w0 T (w.alloc o) b S P) := Lib.hid (fun o => h.below (HB.out o))
  have HSE : Hid (∀ o, SEnd a0 a1 w0 T (w.alloc o) b S (w.alloc o)) := Lib.hid (fun o => ⟨T, P, HS.out o, But.refl _ _ _, fun k hk => .inl hk⟩)
  clear h
  cases c with
  | none =>
    have HE : Hid (∀ o, TickEnd a0 a1 w0 T w b (Cal.perform .none S).1 (Cal.perform .none S).2 (.returned (.slice none 0 0)) (w.alloc o)) := Lib.hid (fun o => TickEnd.nil (HB.out o) (HSE.out o))
    unfold callV
    go_enter Tryd.func10, Tryd.ntmps10
    go_wp2_with fail
    go_ret
    exact HE.out _
  | want now l =>
    obtain ⟨hnow, hl, hv, hT⟩ := hc
    have HC : Hid (∀ o, Calls Tryd.prog 17 #[.pointer (some ⟨b, 0, none⟩), .int .i64 now, vi] (w.alloc o) fun e w' => e = .returned (.int .i64 0) ∧ SEnd a0 a1 w0 T (w.alloc o) b (S.want now l) w') := Lib.hid (fun o => want_any (HS.out o) now hnow l hl vi (by
      obtain ⟨a, c, h1, h2, h3, h4⟩ := hv
      refine ⟨a, c, h1, h2, h3, fun k hk => ?_⟩
      obtain ⟨b', off, h5, h6, h7, h8⟩ := h4 k hk
      exact ⟨b', off, h5, Nat.lt_of_lt_of_le h6 (HB.out o).size, ((HB.out o).cell h6).trans h7, ((HB.out o).cell h6).trans h8⟩) hT)
    have HE : Hid (∀ o w', SEnd a0 a1 w0 T (w.alloc o) b (S.want now l) w' → TickEnd a0 a1 w0 T w b (Cal.perform (.want now l) S).1 (Cal.perform (.want now l) S).2 (.returned (.slice none 0 0)) w') := Lib.hid (fun o w' hw => TickEnd.nil (HB.out o) hw)
    clear hl hv hT
    unfold callV
    go_enter Tryd.func10, Tryd.ntmps10
    go_wp2_with (first | (go_at_call 17; refine (HC.out _).mono ?_; rintro e w2 ⟨rfl, hw2⟩; have HE2 := Lib.hid (HE.out _ _ hw2); clear hw2) | fail)
    go_wp2_with fail
    go_ret
    exact HE2.out
  | lease u =>
    have HC : Hid (∀ o, Calls Tryd.prog 22 #[.pointer (some ⟨b, 0, none⟩), .int .i64 u] (w.alloc o) fun e w' => e = .returned (.tuple #[]) ∧ SEnd a0 a1 w0 T (w.alloc o) b { S with lease := u } w') := Lib.hid (fun o => (lease_any (HS.out o).at_ u hc).mono (by
      rintro e w' ⟨rfl, h1, h2⟩
      have hb : But T (w.alloc o).heap.size (w.alloc o) w' := h2.weaken (fun k _ e => by rw [e]; exact (HS.out o).at_.own)
      exact ⟨rfl, T, P, (HS.out o).of h1 hb (fun k hk => .inl hk), hb, fun k hk => .inl hk⟩))
    have HE : Hid (∀ o w', SEnd a0 a1 w0 T (w.alloc o) b { S with lease := u } w' → TickEnd a0 a1 w0 T w b (Cal.perform (.lease u) S).1 (Cal.perform (.lease u) S).2 (.returned (.slice none 0 0)) w') := Lib.hid (fun o w' hw => TickEnd.nil (HB.out o) hw)
    clear hc
    unfold callV
    go_enter Tryd.func10, Tryd.ntmps10
    go_wp2_with (first | (go_at_call 22; refine (HC.out _).mono ?_; rintro e w2 ⟨rfl, hw2⟩; have HE2 := Lib.hid (HE.out _ _ hw2); clear hw2) | fail)
    go_wp2_with fail
    go_ret
    exact HE2.out
  | recv now m =>
    obtain ⟨hnow, hd⟩ := hc
    have HC : Hid (∀ o, Calls Tryd.prog 15 #[.pointer (some ⟨b, 0, none⟩), .int .i64 now, .agg #[.int .i64 m.kind, .int .i64 m.partner, .int .i64 m.seq, .int .i64 m.story, .int .i64 m.base, .int .i64 m.version, .string ⟨m.data.toArray⟩]] (w.alloc o) fun e w' => e = .returned (.tuple #[]) ∧ SEnd a0 a1 w0 T (w.alloc o) b (S.recv now m) w') := Lib.hid (fun o => receive_any (HS.out o) now hnow m hd)
    have HE : Hid (∀ o w', SEnd a0 a1 w0 T (w.alloc o) b (S.recv now m) w' → TickEnd a0 a1 w0 T w b (Cal.perform (.recv now m) S).1 (Cal.perform (.recv now m) S).2 (.returned (.slice none 0 0)) w') := Lib.hid (fun o w' hw => TickEnd.nil (HB.out o) hw)
    unfold callV
    clear hd
    go_enter Tryd.func10, Tryd.ntmps10
    go_wp2_with (first | (go_at_call 15; refine (HC.out _).mono ?_; rintro e w2 ⟨rfl, hw2⟩; have HE2 := Lib.hid (HE.out _ _ hw2); clear hw2) | fail)
    go_wp2_with fail
    go_ret
    exact HE2.out
  | tick now =>
    have HC : Hid (∀ o, Calls Tryd.prog 18 #[.pointer (some ⟨b, 0, none⟩), .int .i64 now] (w.alloc o) (TickEnd a0 a1 w0 T w b (Cal.perform (.tick now) S).1 (Cal.perform (.tick now) S).2)) := Lib.hid (fun o => (tick_any (HS.out o) now hc).mono fun e w' h => TickEnd.from (HB.out o) h)
    clear hc
    unfold callV
    go_enter Tryd.func10, Tryd.ntmps10
    go_wp2_with (first | (go_at_call 18; refine (HC.out _).mono ?_; intro e w2 hw2; have HE2 := Lib.hid hw2; obtain ⟨v, base, T', P', rfl, -⟩ := hw2) | fail)
    go_wp2_with fail
    go_ret
    exact HE2.out
end Go.Proofs.YtefloieanpgnmaaDoor

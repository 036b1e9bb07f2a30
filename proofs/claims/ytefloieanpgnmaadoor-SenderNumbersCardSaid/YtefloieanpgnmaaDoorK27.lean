/- Facts and contracts for the laws of the sender, part 27. Conditions: those that each theorem names. -/
import Derived.Test.YtefloieanpgnmaaDoorK26
import Derived.Test.YtefloieanpgnmaaDoorK24
import Derived.Test.YtefloieanpgnmaaDoorK25
import Derived.Test.YtefloieanpgnmaaDoorK16
import Derived.Test.YtefloieanpgnmaaDoorK03
/- Plain: a tick's messages have the numbers that the law asks for. -/
namespace Go.Proofs.YtefloieanpgnmaaDoor

attribute [local irreducible] Sen.plan Sen.recv
theorem audits_len : ∀ (k : Nat) (S : Sen), (audits S k).1.length ≤ k
  | 0, _ => Nat.le_refl _
  | k + 1, S => by
    have ih := audits_len k { S with audit := (S.audit + 1) % 64 }
    have he : (audits S (k + 1)).1 = (match (S.st S.audit).acked with | some m => [m] | none => []) ++ (audits { S with audit := (S.audit + 1) % 64 } k).1 := rfl
    rw [he, List.length_append]
    cases (S.st S.audit).acked with
    | none => simp; omega
    | some m => simp; omega
theorem before {L : List Msg} {k : Nat} {m : Msg} (h : L[k]? = some m) (hp : L.Pairwise fun a b => a.seq < b.seq) : ∀ a ∈ L.take k, a.seq < m.seq := fun a ha => by
  obtain ⟨hk, he⟩ := List.getElem?_eq_some_iff.1 h
  have h1 : L.take k ++ L.drop k = L := List.take_append_drop k L
  rw [← h1, List.pairwise_append] at hp
  refine hp.2.2 a ha m ?_
  rw [List.drop_eq_getElem_cons hk, he]
  exact List.mem_cons_self
theorem NS.tick {Q : Nat → List UInt8 → Prop} {B : Int} {p : Peer} {S : Sen} {s : Seen} {acked : List Int} (h : NS S s acked) (hS : SP Q B p S) (now : Int) (hok : SenOk (S.tick now).2) :
    ∃ audit, NumOk now acked s audit (S.tick now).1 ∧ NotesR now (S.tick now).1 s ((S.tick now).1.foldl (noteD now) s) ∧ (∀ x ∈ s, ∀ m ∈ (S.tick now).1, x.1.seq = m.seq → x.1 = m) ∧ NS (S.tick now).2 ((S.tick now).1.foldl (noteD now) s) acked := by
  rw [tick_eq] at hok ⊢
  have h1 := h.plan now
  have hS1 := hS.plan now
  obtain ⟨S1, hS1e⟩ : ∃ S1, S.plan now = S1 := ⟨_, rfl⟩
  rw [hS1e] at h1 hS1 hok ⊢
  clear h hS
  by_cases h0 : S1.outs = 0
  · have he : tickOf S1 now = audits S1 4 := by unfold tickOf; rw [if_pos h0]
    rw [he]
    have hz : ∀ i, i < 64 → (S1.st i).out = none := fun i hi => by
      have h := h0
      unfold Sen.outs at h
      rw [List.countP_eq_zero] at h
      simpa using h i (List.mem_range.2 hi)
    obtain ⟨h2, h3, h4, h5, h6⟩ := audits_snd 4 S1
    obtain ⟨L, hL⟩ : ∃ L, (audits S1 4).1 = L := ⟨_, rfl⟩
    have hin : ∀ m ∈ L, ∃ j, j < 64 ∧ (S1.st j).acked = some m := fun m hm => by
      rw [← hL] at hm
      obtain ⟨j, -, hj⟩ := (mem_audits 4 S1 hS1.aud).1 hm
      exact ⟨_, by omega, hj⟩
    have hs : ∀ m ∈ L, ∃ t, (m, t) ∈ s := fun m hm => by
      obtain ⟨j, hj, ha⟩ := hin m hm
      exact (h1.ackd j m hj ha).2
    have hsame : ∀ m ∈ L, ∀ x ∈ s, x.1.seq = m.seq → x.1 = m := fun m hm x hx e => by
      obtain ⟨t, ht⟩ := hs m hm
      rw [h1.uniq.eq x hx _ ht e]
    have hLL : ∀ a ∈ L, ∀ b ∈ L, a.seq = b.seq → a = b := fun a ha b hb e => by
      obtain ⟨t, ht⟩ := hs a ha
      exact hsame b hb _ ht e
    have hlen := audits_len 4 S1
    rw [hL] at hlen ⊢
    have hnr := notes now L h1.uniq hsame hLL
    refine ⟨true, ⟨by omega, fun _ => hlen, fun m hm => ⟨fun _ => rfl, fun _ => ?_⟩, (fun h => by cases h), fun k m hk => ?_⟩, hnr, fun x hx m hm => hsame m hm x hx, ?_⟩
    · obtain ⟨j, hj, ha⟩ := hin m hm
      exact (h1.ackd j m hj ha).1
    · have hm : m ∈ L := List.mem_of_getElem? hk
      have hnk := notes now (L.take k) h1.uniq (fun a ha => hsame a (List.mem_of_mem_take ha)) (fun a ha b hb => hLL a (List.mem_of_mem_take ha) b (List.mem_of_mem_take hb))
      refine ⟨fun x hx e => ⟨?_, fun h => by cases h⟩, ?_, fun hn => ?_⟩
      · rcases hnk.back x hx with ⟨h7, -⟩ | h7
        · exact hsame m hm x h7 e
        · obtain ⟨m', h8, rfl⟩ := List.mem_map.1 h7
          exact hLL m' (List.mem_of_mem_take h8) m hm e
      · obtain ⟨j, hj, ha⟩ := hin m hm
        exact (hS1.si.acked j m hj ha).1
      · obtain ⟨t, ht⟩ := hs m hm
        by_cases hb : ∃ b ∈ L.take k, b.seq = m.seq
        · obtain ⟨b, hb, e⟩ := hb
          exact absurd e (hn _ (hnk.at_ b hb))
        · exact absurd rfl (hn _ (hnk.far _ ht fun b hb' e => hb ⟨b, hb', e.symm⟩))
    · refine ⟨hnr.uniq, fun x hx => ?_, by rw [h4]; exact h1.ack, fun i o hi ho => ?_, fun i o hi ho => ?_, fun i o hi ho => ?_, fun i m hi hm => ?_⟩
      · rw [h4]
        rcases hnr.back x hx with ⟨h7, -⟩ | h7
        · exact h1.le x h7
        · obtain ⟨m', h8, rfl⟩ := List.mem_map.1 h7
          obtain ⟨j, hj, ha⟩ := hin m' h8
          exact (hS1.si.acked j m' hj ha).2.1
      · rw [h5, hz i hi] at ho; cases ho
      · rw [h5, hz i hi] at ho; cases ho
      · rw [h5, hz i hi] at ho; cases ho
      · rw [h5] at hm
        obtain ⟨h7, t, ht⟩ := h1.ackd i m hi hm
        refine ⟨h7, ?_⟩
        by_cases hb : ∃ b ∈ L, m.seq = b.seq
        · obtain ⟨b, hb, e⟩ := hb
          have := hsame b hb _ ht e
          simp only at this
          rw [this]
          exact ⟨now, hnr.at_ b hb⟩
        · exact ⟨t, hnr.far _ ht fun b hb' e => hb ⟨b, hb', e⟩⟩
  · have he : tickOf S1 now = (S1.msgs (S1.sel (due now)), S1.sends now (S1.sel (due now))) := by unfold tickOf; rw [if_neg h0]
    rw [he] at hok ⊢
    have hnd := sel_nodup S1 (due now)
    have hle16 := Nat.le_trans (sel_outs S1 (due now)) hS1.si.out16
    have hsrt : (S1.sel (due now)).Pairwise fun i j => S1.seqAt i ≤ S1.seqAt j := by
      unfold Sen.sel
      refine (List.pairwise_mergeSort (fun a b c h k => ?_) (fun a b => ?_) _).imp fun {a b} h6 => by simpa using h6
      · simp only [decide_eq_true_eq] at *; omega
      · simp only [Bool.or_eq_true, decide_eq_true_eq]; omega
    have hmem : ∀ i, i ∈ S1.sel (due now) ↔ i < 64 ∧ ∃ o, (S1.st i).out = some o ∧ due now o = true := fun i => mem_sel
    obtain ⟨l, hl⟩ : ∃ l, S1.sel (due now) = l := ⟨_, rfl⟩
    rw [hl] at hok hnd hle16 hsrt hmem ⊢
    simp only at hok ⊢
    have hal := alike_sends S1 now l
    have hmap := msgs_map S1 l (fun i hi => by obtain ⟨-, o, ho, -⟩ := (hmem i).1 hi; exact ⟨o, ho⟩)
    have houtm : ∀ i o, (S1.st i).out = some o → outMsg S1 i = o.msg ∧ S1.seqAt i = o.msg.seq := fun i o ho => by
      unfold outMsg Sen.seqAt; rw [ho]; exact ⟨rfl, rfl⟩
    have hapart : ∀ i j o o', (S1.st i).out = some o → (S1.st j).out = some o' → o.msg.seq = o'.msg.seq → i = j := fun i j o o' h2 h3 e => by
      obtain ⟨u, h4, h5, -⟩ := hal.outS h2
      obtain ⟨v, h6, h7, -⟩ := hal.outS h3
      exact hok.apart i j u v h4 h6 (by rw [h5, h7]; exact e)
    rw [hmap]
    obtain ⟨L, hL⟩ : ∃ L, l.map (outMsg S1) = L := ⟨_, rfl⟩
    have hasc : L.Pairwise fun a b => a.seq < b.seq := by
      rw [← hL, List.pairwise_map]
      refine List.Pairwise.imp_of_mem (fun {a b} ha hb hab => ?_) (hsrt.and hnd)
      obtain ⟨-, o, ho, -⟩ := (hmem a).1 ha
      obtain ⟨-, o', ho', -⟩ := (hmem b).1 hb
      obtain ⟨h2, h3⟩ := houtm a o ho
      obtain ⟨h4, h5⟩ := houtm b o' ho'
      rw [h2, h4]
      have h6 := hab.1
      rw [h3, h5] at h6
      have h7 : o.msg.seq ≠ o'.msg.seq := fun e => hab.2 (hapart a b o o' ho ho' e)
      omega
    have hin : ∀ m ∈ L, ∃ i o, i ∈ l ∧ i < 64 ∧ (S1.st i).out = some o ∧ o.msg = m ∧ due now o = true := fun m hm => by
      rw [← hL] at hm
      obtain ⟨i, hi, e⟩ := List.mem_map.1 hm
      obtain ⟨h2, o, ho, hd⟩ := (hmem i).1 hi
      rw [(houtm i o ho).1] at e
      exact ⟨i, o, hi, h2, ho, e, hd⟩
    have hsame : ∀ m ∈ L, ∀ x ∈ s, x.1.seq = m.seq → x.1 = m := fun m hm x hx e => by
      obtain ⟨i, o, -, hi, ho, rfl, -⟩ := hin m hm
      cases hso : o.sent with
      | false => exact absurd e (h1.outF i o hi ho hso x hx).1
      | true => rw [h1.uniq.eq x hx _ (h1.outT i o hi ho hso) e]
    have hLL : ∀ a ∈ L, ∀ b ∈ L, a.seq = b.seq → a = b := fun a ha b hb e => by
      obtain ⟨i, o, -, hi, ho, rfl, -⟩ := hin a ha
      obtain ⟨j, o', -, hj, ho', rfl, -⟩ := hin b hb
      have := hapart i j o o' ho ho' e
      subst this
      rw [ho] at ho'
      cases ho'
      rfl
    have hlen : L.length ≤ 16 := by rw [← hL, List.length_map]; exact hle16
    rw [hL]
    have hnr := notes now L h1.uniq hsame hLL
    refine ⟨false, ⟨hlen, (fun h => by cases h), fun m hm => ⟨fun h2 => ?_, fun h => by cases h⟩, fun _ => hasc, fun k m hk => ?_⟩, hnr, fun x hx m hm => hsame m hm x hx, ?_⟩
    · obtain ⟨i, o, -, hi, ho, rfl, -⟩ := hin m hm
      exact absurd h2 (h1.outA i o hi ho)
    · have hm : m ∈ L := List.mem_of_getElem? hk
      have hbf := before hk hasc
      have hnk := notes now (L.take k) h1.uniq (fun a ha => hsame a (List.mem_of_mem_take ha)) (fun a ha b hb => hLL a (List.mem_of_mem_take ha) b (List.mem_of_mem_take hb))
      obtain ⟨i, o, -, hi, ho, rfl, hd⟩ := hin m hm
      obtain ⟨hbr, hsq, -⟩ := hS1.si.outs i o hi ho
      refine ⟨fun x hx e => ?_, hsq, fun hn x hx hst => ?_⟩
      · rcases hnk.back x hx with ⟨h7, -⟩ | h7
        · refine ⟨hsame _ hm x h7 e, fun _ hh => ?_⟩
          cases hso : o.sent with
          | false => exact absurd e (h1.outF i o hi ho hso x h7).1
          | true =>
            have h8 := h1.uniq.eq x h7 _ (h1.outT i o hi ho hso) e
            unfold due at hd
            rw [hso] at hd
            rw [h8] at hh
            simp at hd hh
            omega
        · obtain ⟨m', h8, rfl⟩ := List.mem_map.1 h7
          have := hbf m' h8
          simp only at e
          omega
      · rcases hnk.back x hx with ⟨h7, -⟩ | h7
        · cases hso : o.sent with
          | false => exact (h1.outF i o hi ho hso x h7).2 (hst.trans hbr.2.1)
          | true =>
            have h8 := hnk.far _ (h1.outT i o hi ho hso) fun b hb e => by have := hbf b hb; simp only at e; omega
            exact absurd rfl (hn _ h8)
        · obtain ⟨m', h8, rfl⟩ := List.mem_map.1 h7
          exact hbf m' h8
    · have hst := sends_st S1 now l
      refine ⟨hnr.uniq, fun x hx => ?_, h1.ack, fun i o hi ho hs => ?_, fun i o hi ho hs => ?_, fun i o hi ho => ?_, fun i m hi hm => ?_⟩
      · rcases hnr.back x hx with ⟨h7, -⟩ | h7
        · exact h1.le x h7
        · obtain ⟨m', h8, rfl⟩ := List.mem_map.1 h7
          obtain ⟨j, o, -, hj, ho, rfl, -⟩ := hin m' h8
          exact (hS1.si.outs j o hj ho).2.2
      · rw [(hst i).2.2.2, Option.map_eq_some_iff] at ho
        obtain ⟨o', h2, h3⟩ := ho
        by_cases hil : i ∈ l
        · rw [if_pos hil] at h3
          subst h3
          simp only
          refine hnr.at_ _ ?_
          rw [← hL]
          exact List.mem_map.2 ⟨i, hil, (houtm i o' h2).1⟩
        · rw [if_neg hil] at h3
          subst h3
          refine hnr.far _ (h1.outT i o' hi h2 hs) fun b hb e => hil ?_
          obtain ⟨j, o2, hjl, hj, ho2, rfl, -⟩ := hin b hb
          have := hapart i j o' o2 h2 ho2 e
          rw [this]; exact hjl
      · rw [(hst i).2.2.2, Option.map_eq_some_iff] at ho
        obtain ⟨o', h2, h3⟩ := ho
        by_cases hil : i ∈ l
        · rw [if_pos hil] at h3
          subst h3
          cases hs
        · rw [if_neg hil] at h3
          subst h3
          exact absurd ((hmem i).2 ⟨hi, o', h2, by unfold due; rw [hs]; rfl⟩) hil
      · obtain ⟨o', h2, h3, -⟩ := hal.back ho
        rw [← h3]
        exact h1.outA i o' hi h2
      · rw [(hst i).2.2.1] at hm
        obtain ⟨h7, t, ht⟩ := h1.ackd i m hi hm
        refine ⟨h7, ?_⟩
        by_cases hb : ∃ b ∈ L, m.seq = b.seq
        · obtain ⟨b, hb, e⟩ := hb
          have := hsame b hb _ ht e
          simp only at this
          rw [this]
          exact ⟨now, hnr.at_ b hb⟩
        · exact ⟨t, hnr.far _ ht fun b hb' e => hb ⟨b, hb', e⟩⟩

/-! ### a step of the law -/
def ackS (acked : List Int) (c : Cal) : List Int := match c with
  | .recv _ m => ackL acked m
  | _ => acked
theorem num_none (now : Int) (acked : List Int) (s : Seen) : NumOk now acked s false [] :=
  ⟨Nat.zero_le _, (fun h => by cases h), (fun m hm => by cases hm), (fun _ => List.Pairwise.nil), (fun k m hk => by simp at hk)⟩
theorem NW.less {W W' : Wld} {s : Seen} (h : NW W s) (hf : ∀ m ∈ W'.flight, m ∈ W.flight) (hp : W'.p = W.p) (ha : ∀ a ∈ W'.answers, a ∈ W.answers) : NW { W' with flight := W'.flight ++ [] } s :=
  ⟨fun m hm => h.flight m (hf m (by simpa using hm)), by show ∀ i, i < 64 → W'.p.seq (i + 1) = 0 ∨ _; rw [hp]; exact h.peer, fun a hx => h.ans a (ha a hx)⟩
attribute [local irreducible] Sen.tick
theorem num_step {B : Int} (hB : B + 16 < 4611686018427387903) {W : Wld} {S : Sen} {s : Seen} {acked : List Int} (hw : WI QT B W S) (hn : NS S s acked) (hf : NW W s) {c : Cal} {W' : Wld} (hc : NextR W c W') (hok : SenOk (c.perform S).2) :
    ∃ audit, NumOk W'.now (ackS acked c) s audit (c.perform S).1 ∧ NS (c.perform S).2 ((c.perform S).1.foldl (noteD W'.now) s) (ackS acked c) ∧ NW { W' with flight := W'.flight ++ (c.perform S).1 } ((c.perform S).1.foldl (noteD W'.now) s) := by
  cases hc with
  | want st n hst =>
    refine ⟨false, num_none _ _ _, ?_, hf.less (fun m h => h) rfl (fun a h => h)⟩
    show NS (Sen.plan { S with st := fun i => { S.st i with wanted := wantAt { W with wanted := updF W.wanted st n }.items i } } W.now) s acked
    exact NS.plan (hn.like (S' := { S with st := fun i => { S.st i with wanted := wantAt { W with wanted := updF W.wanted st n }.items i } }) rfl (fun _ => rfl) (fun _ => rfl)) W.now
  | lease u hu => exact ⟨false, num_none _ _ _, hn.like rfl (fun _ => rfl) (fun _ => rfl), hf.less (fun m h => h) rfl (fun a h => h)⟩
  | lose fl hfl hl => exact ⟨false, num_none _ _ _, hn, hf.less (W' := { W with flight := fl }) hfl rfl (fun a h => h)⟩
  | recv m an hm ha hl =>
    obtain ⟨i, hi⟩ := hw.answers m hm
    exact ⟨false, num_none _ _ _, hn.recv hw.sp hi (hf.ans m hm) W.now, hf.less (W' := { W with answers := an }) (fun m h => h) rfl ha⟩
  | give m fl hm hfl hl =>
    refine ⟨false, num_none _ _ _, hn, ⟨fun x hx => hf.flight x (hfl x (by rcases List.mem_append.1 hx with h | h; exact h; cases h)), ?_, ?_⟩⟩
    · intro i hi
      obtain ⟨j, k, h1, h2, h3, h4⟩ := hw.flight m hm
      have hA := answer_rel QT_ok (by omega) hw.pi h1 h2 h3 h4
      obtain ⟨t, ht⟩ := hf.flight m hm
      simp only
      by_cases e : i = j
      · subst e
        rcases hA.way with ⟨-, -, -, h5, -⟩ | ⟨h5, -⟩ | ⟨h5, -⟩ | ⟨h5, -⟩
        · exact .inr ⟨_, ht, h5.symm, h2.2.1⟩
        · rw [h5]; exact hf.peer i hi
        · rw [h5]; exact hf.peer i hi
        · rw [h5]; exact hf.peer i hi
      · rw [(hA.far i e hi).1]; exact hf.peer i hi
    · intro a ha
      simp only at ha
      rcases List.mem_append.1 ha with ha | ha
      · exact hf.ans a ha
      · rw [List.mem_singleton] at ha
        subst ha
        obtain ⟨j, k, h1, h2, h3, h4⟩ := hw.flight m hm
        have hA := answer_rel QT_ok (by omega) hw.pi h1 h2 h3 h4
        obtain ⟨t, ht⟩ := hf.flight m hm
        have hst := hA.aok.story
        rcases hA.way with ⟨-, h5, -⟩ | ⟨-, -, -, -, h5⟩ | ⟨-, -, -, h5, -⟩ | ⟨-, h6, -, h5⟩
        · exact ⟨_, ht, h5.symm, by rw [hst]; exact h2.2.1⟩
        · exact ⟨_, ht, h5.symm, by rw [hst]; exact h2.2.1⟩
        · exact ⟨_, ht, h5.symm, by rw [hst]; exact h2.2.1⟩
        · rcases hf.peer j h1 with h7 | ⟨x, h7, h8, h9⟩
          · omega
          · exact ⟨x, h7, by rw [h8, h5], by rw [h9, hst]⟩
  | tick u hu =>
    obtain ⟨audit, h1, h2, h3, h4⟩ := hn.tick hw.sp u hok
    have key : ∀ x ∈ s, ∃ t, (x.1, t) ∈ ((S.tick u).1.foldl (noteD u) s) := fun x hx => by
      by_cases hb : ∃ b ∈ (S.tick u).1, x.1.seq = b.seq
      · obtain ⟨b, hb, e⟩ := hb
        rw [h3 x hx b hb e]
        exact ⟨u, h2.at_ b hb⟩
      · exact ⟨x.2, h2.far x hx fun b hb' e => hb ⟨b, hb', e⟩⟩
    refine ⟨audit, h1, h4, ⟨fun m hm => ?_, fun i hi => ?_, fun a ha => ?_⟩⟩
    · rcases List.mem_append.1 hm with hm | hm
      · obtain ⟨t, ht⟩ := hf.flight m hm
        exact key _ ht
      · exact ⟨u, h2.at_ m hm⟩
    · rcases hf.peer i hi with h5 | ⟨x, h5, h6, h7⟩
      · exact .inl h5
      · obtain ⟨t, ht⟩ := key x h5
        exact .inr ⟨_, ht, h6, h7⟩
    · obtain ⟨x, h5, h6⟩ := hf.ans a ha
      obtain ⟨t, ht⟩ := key x h5
      exact ⟨_, ht, h6⟩
theorem start_ns : NS startS [] [] := ⟨List.Pairwise.nil, (fun x hx => by cases hx), (fun q hq => by cases hq), (fun i o _ h => by cases h), (fun i o _ h => by cases h), (fun i o _ h => by cases h), (fun i m _ h => by cases h)⟩
theorem start_nw : NW wld0 [] := ⟨(fun m hm => by cases hm), (fun i _ => .inl rfl), (fun a ha => by cases ha)⟩
end Go.Proofs.YtefloieanpgnmaaDoor
/- Plain: what holds after k steps of the law's world. -/
namespace Go.Proofs.YtefloieanpgnmaaDoor

attribute [local irreducible] Sen.plan Sen.recv
theorem tick_len {Q : Nat → List UInt8 → Prop} {B : Int} {p : Peer} {S : Sen} (h : SP Q B p S) (now : Int) : (S.tick now).1.length ≤ 16 := by
  rw [tick_eq]
  have hP := h.plan now
  unfold tickOf
  split
  · exact Nat.le_trans (audits_len 4 _) (by omega)
  · simp only
    have h1 : ((S.plan now).msgs ((S.plan now).sel (due now))).length ≤ ((S.plan now).sel (due now)).length := List.length_filterMap_le _ _
    have h2 := sel_outs (S.plan now) (due now)
    have h3 := hP.si.out16
    omega
theorem perform_len {Q : Nat → List UInt8 → Prop} {B : Int} {p : Peer} {S : Sen} (h : SP Q B p S) (c : Cal) : (c.perform S).1.length ≤ 16 := by
  cases c with
  | tick now => exact tick_len h now
  | none | want | lease | recv => exact Nat.zero_le _
def PT (p : Peer) : Prop := ∀ j, (p.text j).length ≤ 8192
theorem PT.answer {p : Peer} (h : PT p) (m : Msg) : PT (p.answer m).2 := by
  have key : ∀ i q b t, t.length ≤ 8192 → PT (p.take i q b t) := fun i q b t ht j => by
    unfold Peer.take updF
    simp only
    split
    · exact ht
    · exact h j
  unfold Peer.answer
  split
  · exact h
  · split
    · exact h
    · split
      · cases hm : p.made m with
        | none => exact h
        | some t =>
          refine key _ _ _ _ ?_
          unfold Peer.made at hm
          cases hap : applyD (if m.base = 0 then [] else p.text m.story.toNat) m.data with
          | error e => rw [hap] at hm; cases hm
          | ok t' =>
            rw [hap] at hm
            simp only at hm
            by_cases hc : ((crcOf (if m.base = 0 then [] else p.text m.story.toNat) : Int) = m.base ∧ (crcOf t' : Int) = m.version)
            · rw [if_pos hc] at hm; injection hm with hm; rw [← hm]; exact applyD_len hap
            · rw [if_neg hc] at hm; cases hm
      · exact key _ _ _ _ (Nat.zero_le _)
structure RI (k : Nat) (W : Wld) (S : Sen) : Prop where
  wi : WI QT (16 * (k : Int)) W S
  syn : Syn W S
  w100 : W100 W
  now : -1000 - 29 * (k : Int) ≤ W.now ∧ W.now ≤ 1000 + 29 * (k : Int)
  lease : -3000 - 100 * (k : Int) ≤ W.lease ∧ W.lease ≤ 3000 + 100 * (k : Int)
  txt : PT W.p
  flen : W.flight.length ≤ 200 + 16 * k
  alen : W.answers.length ≤ k
theorem RI.start : RI 0 wld0 startS :=
  ⟨by simpa using start_wi QT, start_syn, fun _ => Nat.zero_le _, by decide, by decide, fun _ => Nat.zero_le _, Nat.zero_le _, Nat.le_refl _⟩
theorem sixteen (k : Nat) : 16 * (k : Int) + 16 = 16 * ((k + 1 : Nat) : Int) := by push_cast; omega
theorem trim_len (l : List Msg) : (trimF l).length ≤ l.length := by
  unfold trimF; split
  · rw [List.length_drop]; omega
  · exact Nat.le_refl _
theorem RI.step {k : Nat} {W : Wld} {S : Sen} (h : RI k W S) (hk : k ≤ 100000) (t : Bool) (o : Op3) : RI (k + 1) (step1 t (W, S) o).1 (step1 t (W, S) o).2 := by
  have hn := next_rel W o
  have hw1 := h.w100.next hn
  obtain ⟨h1, h2⟩ := h.wi.step1 QT_ok (by omega) h.syn t o hw1.wq
  have hpl := perform_len h.wi.sp (W.next o).1
  have hfl : (step1 t (W, S) o).1.flight.length ≤ (W.next o).2.flight.length + ((W.next o).1.perform S).1.length := by
    unfold Proofs.YtefloieanpgnmaaDoor.step1
    simp only
    rw [← List.length_append]
    split
    · exact trim_len _
    · exact Nat.le_refl _
  have e1 : (step1 t (W, S) o).1.now = (W.next o).2.now := rfl
  have e2 : (step1 t (W, S) o).1.lease = (W.next o).2.lease := rfl
  have e3 : (step1 t (W, S) o).1.answers = (W.next o).2.answers := rfl
  have e4 : (step1 t (W, S) o).1.p = (W.next o).2.p := rfl
  have e5 : (step1 t (W, S) o).1.wanted = (W.next o).2.wanted := rfl
  have hh1 := h.now; have hh2 := h.lease; have hh3 := h.flen; have hh4 := h.alen; have hh5 := h.txt
  rw [sixteen] at h1
  obtain ⟨c, hc⟩ : ∃ c, (W.next o).1 = c := ⟨_, rfl⟩
  obtain ⟨W', hW'⟩ : ∃ W', (W.next o).2 = W' := ⟨_, rfl⟩
  rw [hW'] at hfl e1 e2 e3 e4 e5 hw1
  rw [hc] at hpl hfl
  rw [hc, hW'] at hn
  have hw2 : W100 (step1 t (W, S) o).1 := fun i => by rw [e5]; exact hw1 i
  cases hn with
  | want st n hst => exact ⟨h1, h2, hw2, by rw [e1]; simp only; push_cast; omega, by rw [e2]; simp only; push_cast; omega, by rw [e4]; exact hh5, by simp only at hfl; omega, by rw [e3]; simp only; omega⟩
  | lease u hu => exact ⟨h1, h2, hw2, by rw [e1]; simp only; push_cast; omega, by rw [e2]; simp only; push_cast; omega, by rw [e4]; exact hh5, by simp only at hfl; omega, by rw [e3]; simp only; omega⟩
  | tick u hu => exact ⟨h1, h2, hw2, by rw [e1]; simp only; push_cast; omega, by rw [e2]; simp only; push_cast; omega, by rw [e4]; exact hh5, by simp only at hfl; omega, by rw [e3]; simp only; omega⟩
  | give m fl hm hf hl => exact ⟨h1, h2, hw2, by rw [e1]; simp only; push_cast; omega, by rw [e2]; simp only; push_cast; omega, by rw [e4]; exact hh5.answer m, by simp only at hfl; omega, by rw [e3]; simp only [List.length_append, List.length_singleton]; omega⟩
  | lose fl hf hl => exact ⟨h1, h2, hw2, by rw [e1]; simp only; push_cast; omega, by rw [e2]; simp only; push_cast; omega, by rw [e4]; exact hh5, by simp only at hfl; omega, by rw [e3]; simp only; omega⟩
  | recv m an hm ha hl => exact ⟨h1, h2, hw2, by rw [e1]; simp only; push_cast; omega, by rw [e2]; simp only; push_cast; omega, by rw [e4]; exact hh5, by simp only at hfl; omega, by rw [e3]; simp only; omega⟩
theorem brings_data {i : Nat} {m : Msg} {k : Kn} (h : Brings QT i m k) : 1 ≤ m.story ∧ m.data.length ≤ 900000 := by
  obtain ⟨-, h2, h3⟩ := h
  refine ⟨by omega, ?_⟩
  rcases h3 with ⟨-, -, -, -, h4⟩ | ⟨x, -, hx, -, -, h4⟩
  · rw [h4]; exact Nat.zero_le _
  · have hx' := QT_ok.len i x hx
    rcases h4 with ⟨-, h4⟩ | ⟨y, -, -, -, h4⟩
    · rw [h4]; have := diffD_len [] x; omega
    · rw [h4]; have := diffD_len y x; omega
theorem RI.ok {k : Nat} {W : Wld} {S : Sen} (h : RI k W S) (hk : k ≤ 1000) : NextOk W := by
  have h1 := h.now; have h2 := h.flen; have h3 := h.alen
  refine ⟨by omega, h.w100, fun j => by have := h.txt j; omega, fun m hm => ?_, by omega, by omega⟩
  obtain ⟨i, k, hi, hb, -⟩ := h.wi.flight m hm
  have h4 := brings_data hb
  have h5 := hb.2.1
  omega
theorem items_ok (W : Wld) : ItOk W.items := by
  refine ⟨fun x hx => ?_, ?_⟩
  · unfold Wld.items at hx
    obtain ⟨i, hi, h⟩ := List.mem_filterMap.1 hx
    rw [List.mem_range] at hi
    split at h
    · cases h
    · injection h with h
      rw [← h]
      refine ⟨?_, ?_, ?_⟩
      · simp only; omega
      · simp only; omega
      · simp only; rw [txt_len]; omega
  · unfold Wld.items
    rw [List.pairwise_filterMap]
    refine List.pairwise_lt_range.imp ?_
    intro a b hab x hx y hy
    split at hx
    · cases hx
    · split at hy
      · cases hy
      · injection hx with hx
        injection hy with hy
        rw [← hx, ← hy]
        simp only
        omega
theorem answers_data {k : Nat} {W : Wld} {S : Sen} (h : RI k W S) : ∀ m ∈ W.answers, m.data = [] := fun m hm => by
  obtain ⟨i, ha⟩ := h.wi.answers m hm
  have hv := ha.valid
  unfold Msg.valid at hv
  rw [decide_eq_true_iff] at hv
  obtain ⟨-, -, -, -, -, -, -, -, -, -, hv⟩ := hv
  rcases ha.kind with e | e <;> rcases hv with ⟨h, -⟩ | ⟨-, -, -, h⟩ | ⟨-, -, h⟩ | ⟨-, -, h⟩ <;> first | exact h | omega
theorem RI.cal {k : Nat} {W : Wld} {S : Sen} (h : RI k W S) (hk : k ≤ 1000) (o : Op3) {T : Nat → Prop} {w : World} {vi : Value}
    (hi : ∀ now l, (W.next o).1 = .want now l → ItL w vi l ∧ ∀ bb off n cc, vi = .slice (some ⟨bb, off, none⟩) n cc → ¬ T bb) : CalOk T w vi (W.next o).1 := by
  have hn := next_rel W o
  obtain ⟨c, hc⟩ : ∃ c, (W.next o).1 = c := ⟨_, rfl⟩
  obtain ⟨W', hW'⟩ : ∃ W', (W.next o).2 = W' := ⟨_, rfl⟩
  rw [hc, hW'] at hn
  rw [hc] at hi ⊢
  have h1 := h.now
  cases hn with
  | want st n hst =>
    obtain ⟨h2, h3⟩ := hi _ _ rfl
    exact ⟨by omega, items_ok _, h2, h3⟩
  | lease u hu => exact ⟨by omega, by omega⟩
  | tick u hu => exact ⟨by omega, by omega⟩
  | give m fl hm hf hl => trivial
  | lose fl hf hl => trivial
  | recv m an hm ha hl => exact ⟨by omega, by rw [answers_data h m hm]; exact Nat.zero_le _⟩
end Go.Proofs.YtefloieanpgnmaaDoor
/- The law's memory by colours: which block belongs to whom. -/
namespace Go.Proofs.YtefloieanpgnmaaDoor
open Go.RowKit

/-- what was not there is nobody's -/
def Cl (col : Nat → Nat) (w : World) : Prop := ∀ k, w.heap.size ≤ k → col k = 0
theorem Cl.below {col : Nat → Nat} {w w' : World} (h : Cl col w) (hb : w.heap.size ≤ w'.heap.size) : Cl col w' := fun k hk => h k (by omega)
theorem Cl.lt {col : Nat → Nat} {w : World} (h : Cl col w) {c : Nat} (hc : c ≠ 0) : ∀ k, col k = c → k < w.heap.size := fun k hk => Nat.lt_of_not_le fun e => hc (by rw [← hk, h k e])
/-- a step that writes what has colour c, and makes new blocks -/
structure Fr (w0 : World) (c : Nat) (col col' : Nat → Nat) (w w' : World) : Prop where
  but : But (fun k => col k = c) w.heap.size w w'
  same : ∀ k, k < w.heap.size → col' k = col k
  new : ∀ k, w.heap.size ≤ k → col' k = c ∨ col' k = 0
  bel : Below w0.heap.size w w'
  cl : Cl col' w'
theorem Fr.loc {w0 : World} {c : Nat} {col col' : Nat → Nat} {w w' : World} (h : Fr w0 c col col' w w') (hc : c ≠ 0) {g : Nat} (hg : col g = 0) (hlt : g < w.heap.size) : w'.heap[g]? = w.heap[g]? ∧ col' g = 0 :=
  ⟨h.but.block g hlt (by rw [hg]; exact fun e => hc e.symm), (h.same g hlt).trans hg⟩
theorem Fr.of_below {w0 : World} {c : Nat} {col : Nat → Nat} {w w' : World} (hcl : Cl col w) (h0 : w0.heap.size ≤ w.heap.size) (h : Below w.heap.size w w') : Fr w0 c col col w w' :=
  ⟨But.of_below h, fun _ _ => rfl, fun k hk => .inr (hcl k hk), h.mono h0, hcl.below h.size⟩
theorem Fr.trans {w0 : World} {c : Nat} {col col' col'' : Nat → Nat} {w w' w'' : World} (h : Fr w0 c col col' w w') (k : Fr w0 c col' col'' w' w'') : Fr w0 c col col'' w w'' := by
  have hs := h.but.size
  refine ⟨⟨k.but.os.trans h.but.os, k.but.tape.trans h.but.tape, k.but.output.trans h.but.output, Nat.le_trans hs k.but.size, fun j hj hn => (k.but.block j (by omega) (by rw [h.same j hj]; exact hn)).trans (h.but.block j hj hn)⟩, fun j hj => (k.same j (by omega)).trans (h.same j hj), fun j hj => ?_, h.bel.trans k.bel, k.cl⟩
  by_cases e : j < w'.heap.size
  · rw [k.same j e]; exact h.new j hj
  · exact k.new j (by omega)
theorem SenAt.more {T T' : Nat → Prop} {w : World} {b : Nat} {S : Sen} {P : Nat → Option Nat} (h : SenAt T w b S P) (hT : ∀ k, T k → T' k) (hl : ∀ k, T' k → k < w.heap.size) : SenAt T' w b S P :=
  ⟨h.ok, hl, hT b h.own, h.cells, h.nout, fun i o hi ho => by
    obtain ⟨g, h1, h2, h3⟩ := h.sout i o hi ho
    exact ⟨g, h1, hT g h2, h3⟩, h.inj⟩

/-- a sender of colour c -/
def Sn (a0 a1 : Addr) (w0 : World) (col : Nat → Nat) (c : Nat) (w : World) (b : Nat) (S : Sen) : Prop := ∃ P, Snd a0 a1 w0 (fun k => col k = c) w b S P
/-- a world of colour c -/
def Wo (w0 : World) (col : Nat → Nat) (c : Nat) (w : World) (q : Nat) (W : Wld) : Prop := ∃ vf va, WAt (fun k => col k = c) w q W vf va ∧ ∀ k, col k = c → w0.heap.size ≤ k
theorem col_set {w0 : World} {c c2 : Nat} {col col' : Nat → Nat} {w w' : World} (f : Fr w0 c col col' w w') (hcl : Cl col w) (h2 : c2 ≠ c) (h0 : c2 ≠ 0) : (fun k => col' k = c2) = (fun k => col k = c2) := by
  funext k
  by_cases hk : k < w.heap.size
  · rw [f.same k hk]
  · have h3 := hcl k (by omega)
    rcases f.new k (by omega) with h4 | h4
    · rw [h3, h4]; exact propext ⟨fun e => absurd e.symm h2, fun e => absurd e.symm h0⟩
    · rw [h3, h4]
theorem Sn.fr {a0 a1 : Addr} {w0 : World} {c c2 : Nat} {col col' : Nat → Nat} {w w' : World} {b : Nat} {S : Sen} (h : Sn a0 a1 w0 col c2 w b S) (f : Fr w0 c col col' w w') (hcl : Cl col w) (h2 : c2 ≠ c) (h0 : c2 ≠ 0) : Sn a0 a1 w0 col' c2 w' b S := by
  obtain ⟨P, h1, h3, h4⟩ := h
  refine ⟨P, ?_⟩
  rw [col_set f hcl h2 h0]
  exact ⟨h1.kept f.but.size fun k hk => f.but.block k (h1.lt k hk) fun e => h2 (hk.symm.trans e), h3, h4.S, h4.H, h4.bel.trans f.bel⟩
theorem Wo.fr {w0 : World} {c c2 : Nat} {col col' : Nat → Nat} {w w' : World} {q : Nat} {W : Wld} (h : Wo w0 col c2 w q W) (f : Fr w0 c col col' w w') (hcl : Cl col w) (h2 : c2 ≠ c) (h0 : c2 ≠ 0) : Wo w0 col' c2 w' q W := by
  obtain ⟨vf, va, h1, h3⟩ := h
  refine ⟨vf, va, ?_⟩
  have e := col_set f hcl h2 h0
  refine ⟨?_, fun k hk => h3 k (by have := congrFun e k; rwa [← this])⟩
  rw [e]
  exact h1.kept f.but.size fun k hk => f.but.block k (h1.lt k hk) fun e => h2 (hk.symm.trans e)
theorem Sn.below {a0 a1 : Addr} {w0 : World} {c : Nat} {col : Nat → Nat} {w w' : World} {b : Nat} {S : Sen} (h : Sn a0 a1 w0 col c w b S) (hb : Below w.heap.size w w') : Sn a0 a1 w0 col c w' b S := h.elim fun P hP => ⟨P, hP.below hb⟩
theorem Wo.below {w0 : World} {c : Nat} {col : Nat → Nat} {w w' : World} {q : Nat} {W : Wld} (h : Wo w0 col c w q W) (hb : Below w.heap.size w w') : Wo w0 col c w' q W := by
  obtain ⟨vf, va, h1, h3⟩ := h
  exact ⟨vf, va, h1.below hb, h3⟩
theorem Sn.lw {a0 a1 : Addr} {w0 : World} {c : Nat} {col : Nat → Nat} {w : World} {b : Nat} {S : Sen} (h : Sn a0 a1 w0 col c w b S) : LW a0 a1 w0 w := h.elim fun _ hP => hP.lw
theorem Sn.ok {a0 a1 : Addr} {w0 : World} {c : Nat} {col : Nat → Nat} {w : World} {b : Nat} {S : Sen} (h : Sn a0 a1 w0 col c w b S) : SenOk S := h.elim fun _ hP => hP.at_.ok
theorem Wo.lt {w0 : World} {c : Nat} {col : Nat → Nat} {w : World} {q : Nat} {W : Wld} (h : Wo w0 col c w q W) : q < w.heap.size ∧ w0.heap.size ≤ q ∧ col q = c := by
  obtain ⟨vf, va, h1, h3⟩ := h
  exact ⟨h1.lt q h1.own, h3 q h1.own, h1.own⟩
theorem Wo.cell {w0 : World} {c : Nat} {col : Nat → Nat} {w : World} {q : Nat} {W : Wld} (h : Wo w0 col c w q W) : ∃ vf va, SenF 264 w q (wldV W vf va) := by
  obtain ⟨vf, va, h1, h3⟩ := h
  exact ⟨vf, va, h1.cells⟩

/-- the colours after a step of what has colour c, which then owns U' -/
noncomputable def colN (col : Nat → Nat) (n c : Nat) (U' : Nat → Prop) : Nat → Nat := fun k => open Classical in if k < n then col k else if U' k then c else 0
theorem colN_low {col : Nat → Nat} {n c : Nat} {U' : Nat → Prop} {k : Nat} (h : k < n) : colN col n c U' k = col k := by unfold colN; rw [if_pos h]
theorem colN_new {col : Nat → Nat} {n c : Nat} {U' : Nat → Prop} {k : Nat} (h : n ≤ k) : (colN col n c U' k = c ∧ U' k) ∨ (colN col n c U' k = 0 ∧ ¬ U' k) := by
  unfold colN
  rw [if_neg (by omega)]
  by_cases hu : U' k
  · exact .inl ⟨if_pos hu, hu⟩
  · exact .inr ⟨if_neg hu, hu⟩
theorem colN_fr {w0 : World} {c : Nat} {col : Nat → Nat} {U' : Nat → Prop} {w w' : World} (_h0 : c ≠ 0) (hlow : ∀ k, col k = c → w0.heap.size ≤ k) (hw : w0.heap.size ≤ w.heap.size) (hb : But (fun k => col k = c) w.heap.size w w') (hl : ∀ k, U' k → k < w'.heap.size) :
    Fr w0 c col (colN col w.heap.size c U') w w' := by
  have hs := hb.size
  refine ⟨hb, fun k hk => colN_low hk, fun k hk => (colN_new hk).elim (fun h => .inl h.1) fun h => .inr h.1, hb.below hw hlow, fun k hk => ?_⟩
  rcases colN_new (col := col) (n := w.heap.size) (c := c) (U' := U') (k := k) (by omega) with ⟨-, h⟩ | ⟨h, -⟩
  · have := hl k h; omega
  · exact h
theorem colN_of {c : Nat} {col : Nat → Nat} {U' : Nat → Prop} {n : Nat} (hU : ∀ k, U' k → col k = c ∨ n ≤ k) : ∀ k, U' k → colN col n c U' k = c := fun k hk => by
  by_cases h : k < n
  · rw [colN_low h]
    rcases hU k hk with e | e
    · exact e
    · omega
  · rcases colN_new (col := col) (n := n) (c := c) (U' := U') (k := k) (by omega) with ⟨h1, -⟩ | ⟨-, h1⟩
    · exact h1
    · exact absurd hk h1
theorem colN_lt {c : Nat} {col : Nat → Nat} {U' : Nat → Prop} {w w' : World} (h0 : c ≠ 0) (hs : w.heap.size ≤ w'.heap.size) (hl : ∀ k, U' k → k < w'.heap.size) : ∀ k, colN col w.heap.size c U' k = c → k < w'.heap.size := fun k hk => by
  by_cases h : k < w.heap.size
  · omega
  · rcases colN_new (col := col) (n := w.heap.size) (c := c) (U' := U') (k := k) (by omega) with ⟨-, h1⟩ | ⟨h1, -⟩
    · exact hl k h1
    · exact absurd (hk.symm.trans h1) h0
theorem colN_low0 {w0 : World} {c : Nat} {col : Nat → Nat} {U' : Nat → Prop} {w : World} (_h0 : c ≠ 0) (hlow : ∀ k, col k = c → w0.heap.size ≤ k) (hw : w0.heap.size ≤ w.heap.size) : ∀ k, colN col w.heap.size c U' k = c → w0.heap.size ≤ k := fun k hk => by
  by_cases h : k < w.heap.size
  · rw [colN_low h] at hk; exact hlow k hk
  · omega
/-- a world after a step of its own -/
theorem Wo.of {w0 : World} {c : Nat} {col : Nat → Nat} {U' : Nat → Prop} {w w' : World} {q : Nat} {W : Wld} {vf va : Value} (h0 : c ≠ 0) (hlow : ∀ k, col k = c → w0.heap.size ≤ k) (hw : w0.heap.size ≤ w.heap.size) (hs : w.heap.size ≤ w'.heap.size) (h : WAt U' w' q W vf va) (hU : ∀ k, U' k → col k = c ∨ w.heap.size ≤ k) :
    Wo w0 (colN col w.heap.size c U') c w' q W :=
  ⟨vf, va, h.more (colN_of hU) (colN_lt h0 hs h.lt), colN_low0 h0 hlow hw⟩
theorem Sn.of {a0 a1 : Addr} {w0 : World} {c : Nat} {col : Nat → Nat} {T' : Nat → Prop} {w w' : World} {b : Nat} {S : Sen} {P : Nat → Option Nat} (h0 : c ≠ 0) (hlow : ∀ k, col k = c → w0.heap.size ≤ k) (hw : w0.heap.size ≤ w.heap.size) (hs : w.heap.size ≤ w'.heap.size) (h : Snd a0 a1 w0 T' w' b S P) (hU : ∀ k, T' k → col k = c ∨ w.heap.size ≤ k) :
    Sn a0 a1 w0 (colN col w.heap.size c T') c w' b S :=
  ⟨P, h.at_.more (colN_of hU) (colN_lt h0 hs h.at_.lt), colN_low0 h0 hlow hw, h.lw⟩

/-- a list of messages that is nobody's -/
theorem MsgsL.fr {w0 : World} {c : Nat} {col col' : Nat → Nat} {w w' : World} {v : Value} {l : List Msg} (h : MsgsL w v l) (f : Fr w0 c col col' w w') (h0 : c ≠ 0) (hv : ∀ j, v.ownBlock = some j → col j = 0) : MsgsL w' v l ∧ ((∀ j, v.ownBlock = some j → j < w.heap.size) → ∀ j, v.ownBlock = some j → col' j = 0) := by
  obtain ⟨a, cc, h1, h2, h3, h4⟩ := h
  refine ⟨⟨a, cc, h1, h2, h3, fun hn => ?_⟩, fun hlt j hj => (f.same j (hlt j hj)).trans (hv j hj)⟩
  obtain ⟨b, off, h5, h6⟩ := h4 hn
  refine ⟨b, off, h5, fun j u hj => ?_⟩
  have h7 := h6 j u hj
  have hb := World.block_lt_of_cell? w _ h7
  exact cell_same (f.loc h0 (hv b (by rw [h1, h5]; rfl)) hb).1 h7
theorem OpsL.below {w0 w : World} {v : Value} {l : List Op3} (h : OpsL w0 v l) (hb : Below w0.heap.size w0 w) : OpsL w v l := by
  obtain ⟨a, c, h1, h2, h3, h4⟩ := h
  refine ⟨a, c, h1, h2, h3, fun k hk => ?_⟩
  obtain ⟨b, off, h5, h6, h7, h8⟩ := h4 k hk
  have hc : ∀ {p : Addr} {x : Value}, w0.cell? p = some x → w.cell? p = some x := fun h => (hb.cell (World.block_lt_of_cell? w0 _ h)).trans h
  exact ⟨b, off, h5, hc h6, hc h7, hc h8⟩
theorem row_msgs {w : World} {base : Nat} {v : Value} {l : List Msg} (h : w.ownsRow base 33 7 v l.length (l.flatMap msgC)) : MsgsL w v l :=
  (RowO.of_own (U := fun _ => True) (q := w.heap.size) h fun j hj => ⟨trivial, by have := (h.lt j hj).2; omega⟩).read

/-- a sender's end: what it sends is nobody's -/
def SEndC (a0 a1 : Addr) (w0 : World) (col : Nat → Nat) (c : Nat) (w : World) (b : Nat) (L : List Msg) (S' : Sen) (e : Ending) (w' : World) : Prop :=
  ∃ v col', e = .returned v ∧ MsgsL w' v L ∧ (∀ j, v.ownBlock = some j → col' j = 0 ∧ w.heap.size ≤ j ∧ j < w'.heap.size) ∧ Sn a0 a1 w0 col' c w' b S' ∧ Fr w0 c col col' w w'
theorem TickEnd.col {a0 a1 : Addr} {w0 : World} {col : Nat → Nat} {c : Nat} {w : World} {b : Nat} {L : List Msg} {S' : Sen} {e : Ending} {w' : World} (h0 : c ≠ 0) (hlow : ∀ k, col k = c → w0.heap.size ≤ k) (hw : w0.heap.size ≤ w.heap.size) (h : TickEnd a0 a1 w0 (fun k => col k = c) w b L S' e w') : SEndC a0 a1 w0 col c w b L S' e w' := by
  obtain ⟨v, base, T', P', h1, h2, h3, h4, h5, h6, h7⟩ := h
  refine ⟨v, colN col w.heap.size c T', h1, row_msgs h2, fun j hj => ?_, Sn.of h0 hlow hw h6.size h5 h7, colN_fr h0 hlow hw h6 h5.at_.lt⟩
  have h8 := h2.lt j hj
  refine ⟨?_, by omega, h8.2⟩
  rcases colN_new (col := col) (n := w.heap.size) (c := c) (U' := T') (k := j) (by omega) with ⟨-, h9⟩ | ⟨h9, -⟩
  · have := h4 j h9; omega
  · exact h9
theorem SEnd.col {a0 a1 : Addr} {w0 : World} {col : Nat → Nat} {c : Nat} {w : World} {b : Nat} {S' : Sen} {w' : World} (h0 : c ≠ 0) (hlow : ∀ k, col k = c → w0.heap.size ≤ k) (hw : w0.heap.size ≤ w.heap.size) (h : SEnd a0 a1 w0 (fun k => col k = c) w b S' w') : ∃ col', Sn a0 a1 w0 col' c w' b S' ∧ Fr w0 c col col' w w' := by
  obtain ⟨T', P', h5, h6, h7⟩ := h
  exact ⟨_, Sn.of h0 hlow hw h6.size h5 h7, colN_fr h0 hlow hw h6 h5.at_.lt⟩
theorem Sn.low {a0 a1 : Addr} {w0 : World} {c : Nat} {col : Nat → Nat} {w : World} {b : Nat} {S : Sen} (h : Sn a0 a1 w0 col c w b S) : (∀ k, col k = c → w0.heap.size ≤ k) ∧ w0.heap.size ≤ w.heap.size := h.elim fun _ hP => ⟨hP.low, hP.lw.bel.size⟩
theorem perform_c {a0 a1 : Addr} {w0 : World} {c : Nat} {col : Nat → Nat} {w : World} {b : Nat} {S : Sen} (h : Sn a0 a1 w0 col c w b S) (h0 : c ≠ 0) (cal : Cal) (vi : Value) (hc : CalOk (fun k => col k = c) w vi cal) :
    Calls Tryd.prog 10 #[callV cal vi, .pointer (some ⟨b, 0, none⟩)] w (SEndC a0 a1 w0 col c w b (cal.perform S).1 (cal.perform S).2) := by
  obtain ⟨h1, h2⟩ := h.low
  obtain ⟨P, hP⟩ := h
  exact (perform_any hP cal vi hc).mono fun e w' h => TickEnd.col h0 h1 h2 h
theorem receive_c {a0 a1 : Addr} {w0 : World} {c : Nat} {col : Nat → Nat} {w : World} {b : Nat} {S : Sen} (h : Sn a0 a1 w0 col c w b S) (h0 : c ≠ 0) (now : Int) (hnow : -9223372036854775808 ≤ now ∧ now ≤ 9223372036854775807) (m : Msg) (hd : m.data.length ≤ 9223372036854775000) :
    Calls Tryd.prog 15 #[.pointer (some ⟨b, 0, none⟩), .int .i64 now, m.enc] w fun e w' => e = .returned (.tuple #[]) ∧ ∃ col', Sn a0 a1 w0 col' c w' b (S.recv now m) ∧ Fr w0 c col col' w w' := by
  obtain ⟨h1, h2⟩ := h.low
  obtain ⟨P, hP⟩ := h
  exact (receive_any hP now hnow m hd).mono fun e w' h => ⟨h.1, SEnd.col h0 h1 h2 h.2⟩
theorem tick_c {a0 a1 : Addr} {w0 : World} {c : Nat} {col : Nat → Nat} {w : World} {b : Nat} {S : Sen} (h : Sn a0 a1 w0 col c w b S) (h0 : c ≠ 0) (now : Int) (hnow : -9223372036854775808 ≤ now ∧ now ≤ 9223372036854775807) :
    Calls Tryd.prog 18 #[.pointer (some ⟨b, 0, none⟩), .int .i64 now] w (SEndC a0 a1 w0 col c w b (S.tick now).1 (S.tick now).2) := by
  obtain ⟨h1, h2⟩ := h.low
  obtain ⟨P, hP⟩ := h
  exact (tick_any hP now hnow).mono fun e w' h => TickEnd.col h0 h1 h2 h
theorem want_c {a0 a1 : Addr} {w0 : World} {c : Nat} {col : Nat → Nat} {w : World} {b : Nat} {S : Sen} (h : Sn a0 a1 w0 col c w b S) (h0 : c ≠ 0) (now : Int) (hnow : -9223372036854775808 ≤ now ∧ now ≤ 9223372036854775807) (l : List (Int × List UInt8)) (hl : ItOk l) (v : Value) (hv : ItL w v l) (hT : ∀ bb off n cc, v = .slice (some ⟨bb, off, none⟩) n cc → col bb = 0) :
    Calls Tryd.prog 17 #[.pointer (some ⟨b, 0, none⟩), .int .i64 now, v] w fun e w' => e = .returned (.int .i64 0) ∧ ∃ col', Sn a0 a1 w0 col' c w' b (S.want now l) ∧ Fr w0 c col col' w w' := by
  obtain ⟨h1, h2⟩ := h.low
  obtain ⟨P, hP⟩ := h
  exact (want_any hP now hnow l hl v hv fun bb off n cc e e2 => h0 (by rw [← e2]; exact hT bb off n cc e)).mono fun e w' h => ⟨h.1, SEnd.col h0 h1 h2 h.2⟩
theorem lease_c {a0 a1 : Addr} {w0 : World} {c : Nat} {col : Nat → Nat} {w : World} {b : Nat} {S : Sen} (h : Sn a0 a1 w0 col c w b S) (h0 : c ≠ 0) (u : Int) (hu : -9223372036854775808 ≤ u ∧ u ≤ 9223372036854775807) :
    Calls Tryd.prog 22 #[.pointer (some ⟨b, 0, none⟩), .int .i64 u] w fun e w' => e = .returned (.tuple #[]) ∧ ∃ col', Sn a0 a1 w0 col' c w' b { S with lease := u } ∧ Fr w0 c col col' w w' := by
  obtain ⟨h1, h2⟩ := h.low
  obtain ⟨P, hP⟩ := h
  refine (lease_any hP.at_ u hu).mono fun e w' h => ⟨h.1, ?_⟩
  obtain ⟨-, h3, h4⟩ := h
  have hb : But (fun k => col k = c) w.heap.size w w' := h4.weaken (fun k _ e => by rw [e]; exact hP.at_.own)
  exact SEnd.col h0 h1 h2 ⟨_, P, hP.of h3 hb (fun k hk => .inl hk), hb, fun k hk => .inl hk⟩
end Go.Proofs.YtefloieanpgnmaaDoor

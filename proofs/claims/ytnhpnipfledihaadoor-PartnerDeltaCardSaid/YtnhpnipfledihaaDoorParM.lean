/- What a partner keeps and answers: plain definitions, no program in sight. -/
import Derived.Test.YtnhpnipfledihaaDoorMsg
namespace Go.Proofs.YtnhpnipfledihaaDoor

structure Ent where
  story : Int
  seq : Int
  has : Bool
  text : List UInt8

def entOf : List Ent → Int → Ent
  | [], s => ⟨s, 0, false, []⟩
  | e :: l, s => if e.story = s then e else entOf l s

def keepGo (x : Ent) : Bool → List Ent → List Ent
  | done, [] => if done then [] else [x]
  | done, e :: l =>
    (if done = false ∧ x.story ≤ e.story then [x] else []) ++ (if e.story = x.story then [] else [e]) ++ keepGo x (done || decide (x.story ≤ e.story)) l

def ackOf (id seq story version : Int) : Msg := ⟨3, id, seq, story, 0, version, []⟩
def rejOf (id seq story base : Int) : Msg := ⟨4, id, seq, story, base, 0, []⟩

def applied (m : Msg) (old : List UInt8) : Option (List UInt8) :=
  let base := if m.base = 0 then [] else old
  if (crcOf base : Int) = m.base then
    match applyD base m.data with
    | .ok t => if (crcOf t : Int) = m.version then some t else none
    | .error _ => none
  else none

def recv (id : Int) (L : List Ent) (m : Msg) : List Msg × List Ent :=
  if m.valid = true ∧ m.partner = id ∧ (m.kind = 1 ∨ m.kind = 2) then
    let x := entOf L m.story
    if m.seq < x.seq then ([rejOf id x.seq m.story (crcOf x.text)], L)
    else if m.seq = x.seq then ([ackOf id m.seq m.story (crcOf x.text)], L)
    else if m.kind = 2 then ([ackOf id m.seq m.story 0], keepGo ⟨m.story, m.seq, false, []⟩ false L)
    else match applied m x.text with
      | some t => ([ackOf id m.seq m.story m.version], keepGo ⟨m.story, m.seq, true, t⟩ false L)
      | none => ([rejOf id m.seq m.story (crcOf x.text)], L)
  else ([], L)

/-- what is kept is well formed: stories ascend within 1 .. 64, what has no copy has no text, and the texts are short -/
structure Kept (L : List Ent) : Prop where
  asc : L.Pairwise (fun a b => a.story < b.story)
  lo : ∀ e ∈ L, 1 ≤ e.story ∧ e.story ≤ 64
  seq : ∀ e ∈ L, 1 ≤ e.seq ∧ e.seq ≤ 4611686018427387903
  none : ∀ e ∈ L, e.has = false → e.text = []
  short : ∀ e ∈ L, e.text.length ≤ 8192

theorem entOf_story (L : List Ent) (s : Int) : (entOf L s).story = s := by
  induction L with
  | nil => rfl
  | cons e l ih => unfold entOf; split <;> assumption

theorem entOf_cases (L : List Ent) (s : Int) : entOf L s = ⟨s, 0, false, []⟩ ∨ entOf L s ∈ L := by
  induction L with
  | nil => exact .inl rfl
  | cons e l ih =>
    unfold entOf
    split
    · exact .inr (by simp)
    · rcases ih with h | h
      · exact .inl h
      · exact .inr (by simp [h])

theorem entOf_keepGo_done (x : Ent) : ∀ (L : List Ent) (s : Int), s ≠ x.story → entOf (keepGo x true L) s = entOf L s
  | [], s, h => rfl
  | e :: l, s, h => by
    have ih := entOf_keepGo_done x l s h
    simp only [keepGo, Bool.true_or]
    by_cases h1 : e.story = x.story
    · simp [h1, ih, entOf, show ¬ x.story = s from fun h2 => h h2.symm]
    · simp [h1, ih, entOf]

theorem entOf_keep_other (x : Ent) : ∀ (L : List Ent) (s : Int), s ≠ x.story → entOf (keepGo x false L) s = entOf L s
  | [], s, h => by simp [keepGo, entOf, show ¬ x.story = s from fun h2 => h h2.symm]
  | e :: l, s, h => by
    have hx : ¬ x.story = s := fun h2 => h h2.symm
    have ih := entOf_keep_other x l s h
    have ihd := entOf_keepGo_done x l s h
    by_cases h0 : x.story ≤ e.story
    · by_cases h1 : e.story = x.story
      · simp [keepGo, h1, ihd, entOf, hx]
      · simp [keepGo, h0, h1, ihd, entOf, hx]
    · have h1 : ¬ e.story = x.story := by omega
      simp [keepGo, h0, h1, ih, entOf]

theorem entOf_keep_same (x : Ent) : ∀ (L : List Ent), entOf (keepGo x false L) x.story = x
  | [] => by simp [keepGo, entOf]
  | e :: l => by
    have ih := entOf_keep_same x l
    by_cases h0 : x.story ≤ e.story
    · simp [keepGo, h0, entOf]
    · have h1 : ¬ e.story = x.story := by omega
      simp [keepGo, h0, h1, ih, entOf]

theorem mem_keepGo {x y : Ent} : ∀ {L : List Ent} {d : Bool}, y ∈ keepGo x d L → y = x ∨ y ∈ L
  | [], true, h => by simp [keepGo] at h
  | [], false, h => by simp [keepGo] at h; exact .inl h
  | e :: l, d, h => by
    simp only [keepGo, List.mem_append] at h
    rcases h with (h | h) | h
    · split at h <;> simp at h; exact .inl h
    · split at h <;> simp at h; exact .inr (by simp [h])
    · rcases mem_keepGo h with h | h
      · exact .inl h
      · exact .inr (by simp [h])

theorem keepGo_done_mem {x y : Ent} : ∀ {L : List Ent}, y ∈ keepGo x true L → y ∈ L
  | [], h => by simp [keepGo] at h
  | e :: l, h => by
    simp only [keepGo, Bool.true_or, List.mem_append] at h
    rcases h with (h | h) | h
    · simp at h
    · split at h <;> simp at h; simp [h]
    · simp [keepGo_done_mem h]

theorem keepGo_done_asc (x : Ent) : ∀ (L : List Ent), L.Pairwise (fun a b => a.story < b.story) → (∀ e ∈ L, x.story ≤ e.story) → (keepGo x true L).Pairwise (fun a b => a.story < b.story) ∧ ∀ e ∈ keepGo x true L, x.story < e.story
  | [], _, _ => by simp [keepGo]
  | e :: l, h, hx => by
    have hp := List.pairwise_cons.1 h
    have ih := keepGo_done_asc x l hp.2 (fun y hy => hx y (by simp [hy]))
    have hx0 := hx e (by simp)
    by_cases h1 : e.story = x.story
    · simp only [keepGo, Bool.true_or, h1]; simpa using ih
    · simp only [keepGo, Bool.true_or, h1, if_false]
      refine ⟨?_, ?_⟩
      · simp only [Bool.true_eq_false, false_and, if_false, List.nil_append, List.singleton_append, List.pairwise_cons]
        exact ⟨fun y hy => hp.1 y (keepGo_done_mem hy), ih.1⟩
      · intro y hy
        simp at hy
        rcases hy with rfl | hy
        · omega
        · exact ih.2 y hy

theorem keepGo_asc (x : Ent) : ∀ (L : List Ent), L.Pairwise (fun a b => a.story < b.story) → (keepGo x false L).Pairwise (fun a b => a.story < b.story)
  | [], _ => by simp [keepGo]
  | e :: l, h => by
    have hp := List.pairwise_cons.1 h
    by_cases h0 : x.story ≤ e.story
    · have hd := keepGo_done_asc x (e :: l) h (fun y hy => by
        rcases List.mem_cons.1 hy with rfl | hy
        · exact h0
        · have := hp.1 y hy; omega)
      have e1 : keepGo x false (e :: l) = x :: keepGo x true (e :: l) := by simp [keepGo, h0]
      rw [e1]
      exact List.pairwise_cons.2 ⟨hd.2, hd.1⟩
    · have h1 : ¬ e.story = x.story := by omega
      have e1 : keepGo x false (e :: l) = e :: keepGo x false l := by simp [keepGo, h0, h1]
      rw [e1]
      refine List.pairwise_cons.2 ⟨fun y hy => ?_, keepGo_asc x l hp.2⟩
      rcases mem_keepGo hy with rfl | hy
      · omega
      · exact hp.1 y hy

theorem Kept.keep {L : List Ent} (h : Kept L) {x : Ent} (h1 : 1 ≤ x.story ∧ x.story ≤ 64) (h2 : 1 ≤ x.seq ∧ x.seq ≤ 4611686018427387903) (h3 : x.has = false → x.text = []) (h4 : x.text.length ≤ 8192) : Kept (keepGo x false L) where
  asc := keepGo_asc x L h.asc
  lo e he := (mem_keepGo he).elim (fun q => q ▸ h1) (h.lo e)
  seq e he := (mem_keepGo he).elim (fun q => q ▸ h2) (h.seq e)
  none e he := (mem_keepGo he).elim (fun q => q ▸ h3) (h.none e)
  short e he := (mem_keepGo he).elim (fun q => q ▸ h4) (h.short e)

theorem kept_nil : Kept [] := ⟨List.Pairwise.nil, by simp, by simp, by simp, by simp⟩

theorem Kept.ent {L : List Ent} (h : Kept L) (s : Int) : 0 ≤ (entOf L s).seq ∧ (entOf L s).seq ≤ 4611686018427387903 ∧ ((entOf L s).has = false → (entOf L s).text = []) ∧ (entOf L s).text.length ≤ 8192 := by
  rcases entOf_cases L s with he | he
  · rw [he]; simp
  · have := h.seq _ he
    exact ⟨by omega, this.2, h.none _ he, h.short _ he⟩

theorem applyGo_short {old d : List UInt8} : ∀ {f a : Nat} {out t : List UInt8}, out.length ≤ 8192 → applyGo f old d a out = .ok t → t.length ≤ 8192
  | 0, a, out, t, ho, h => by rw [applyGo] at h; cases h; exact ho
  | f + 1, a, out, t, ho, h => by
    rw [applyGo] at h
    split at h
    · cases h; exact ho
    · cases hop : opAt old d a with
      | error e => rw [hop] at h; cases h
      | ok q =>
        obtain ⟨x, k⟩ := q
        rw [hop] at h
        simp only [] at h
        split at h
        · exact applyGo_short (by simp; omega) h
        · cases h

theorem applyD_short {old d t : List UInt8} (h : applyD old d = .ok t) : t.length ≤ 8192 := by
  unfold applyD at h
  split at h
  · cases h
  · cases hi : intAt d 0 with
    | none => rw [hi] at h; cases h
    | some p =>
      obtain ⟨s, a⟩ := p
      rw [hi] at h
      simp only [] at h
      split at h
      · cases hi2 : intAt d a with
        | none => rw [hi2] at h; cases h
        | some q =>
          obtain ⟨w, a2⟩ := q
          rw [hi2] at h
          simp only [] at h
          cases hg : applyGo (d.length + 1) old d a2 [] with
          | error e => rw [hg] at h; cases h
          | ok out =>
            rw [hg] at h
            simp only [] at h
            split at h
            · cases h; exact applyGo_short (by simp) hg
            · cases h
      · cases h

theorem applied_some {m : Msg} {old t : List UInt8} (h : applied m old = some t) : (crcOf (if m.base = 0 then [] else old) : Int) = m.base ∧ applyD (if m.base = 0 then [] else old) m.data = .ok t ∧ (crcOf t : Int) = m.version := by
  unfold applied at h
  simp only [] at h
  generalize (if m.base = 0 then [] else old) = b at *
  by_cases h1 : (crcOf b : Int) = m.base
  · rw [if_pos h1] at h
    cases ha : applyD b m.data with
    | error e => rw [ha] at h; cases h
    | ok x =>
      rw [ha] at h
      simp only [] at h
      by_cases h2 : (crcOf x : Int) = m.version
      · rw [if_pos h2] at h; cases h; exact ⟨h1, rfl, h2⟩
      · rw [if_neg h2] at h; cases h
  · rw [if_neg h1] at h; cases h

theorem applied_short {m : Msg} {old t : List UInt8} (h : applied m old = some t) : t.length ≤ 8192 := applyD_short (applied_some h).2.1

theorem Msg.valid_iff (m : Msg) : m.valid = true ↔ (1 ≤ m.partner ∧ m.partner ≤ 8 ∧ 1 ≤ m.seq ∧ m.seq ≤ 4611686018427387903 ∧ 1 ≤ m.story ∧ m.story ≤ 64 ∧ 0 ≤ m.base ∧ m.base ≤ 4294967295 ∧ 0 ≤ m.version ∧ m.version ≤ 4294967295 ∧
    ((m.kind = 1 ∧ m.data.length ≤ 16384) ∨ (m.kind = 2 ∧ m.base = 0 ∧ m.version = 0 ∧ m.data = []) ∨ (m.kind = 3 ∧ m.base = 0 ∧ m.data = []) ∨ (m.kind = 4 ∧ m.version = 0 ∧ m.data = []))) := by
  unfold Msg.valid; rw [decide_eq_true_iff]

theorem recv_kept {id : Int} {L : List Ent} (h : Kept L) (m : Msg) : Kept (recv id L m).2 := by
  unfold recv
  split
  · rename_i hv
    have hv' := (Msg.valid_iff m).1 hv.1
    simp only []
    split
    · exact h
    · split
      · exact h
      · split
        · exact h.keep (x := ⟨m.story, m.seq, false, []⟩) ⟨hv'.2.2.2.2.1, hv'.2.2.2.2.2.1⟩ ⟨hv'.2.2.1, hv'.2.2.2.1⟩ (fun _ => rfl) (by simp)
        · split
          · rename_i t ht
            exact h.keep (x := ⟨m.story, m.seq, true, t⟩) ⟨hv'.2.2.2.2.1, hv'.2.2.2.2.2.1⟩ ⟨hv'.2.2.1, hv'.2.2.2.1⟩ (fun h => by cases h) (applied_short ht)
          · exact h
  · exact h

/-- what the maps hold -/
def seqF (L : List Ent) (s : Int) : Int := (entOf L s).seq
def copyF (L : List Ent) (s : Int) : Option (List UInt8) := if (entOf L s).has then some (entOf L s).text else none

theorem seqF_keep (x : Ent) (L : List Ent) : seqF (keepGo x false L) = fun j => if j = x.story then x.seq else seqF L j := by
  funext j
  unfold seqF
  by_cases h : j = x.story
  · subst h; rw [entOf_keep_same, if_pos rfl]
  · rw [entOf_keep_other x L j h, if_neg h]
theorem copyF_keep (x : Ent) (L : List Ent) : copyF (keepGo x false L) = fun j => if j = x.story then (if x.has then some x.text else none) else copyF L j := by
  funext j
  unfold copyF
  by_cases h : j = x.story
  · subst h; rw [entOf_keep_same, if_pos rfl]
  · rw [entOf_keep_other x L j h, if_neg h]
theorem copyF_get {L : List Ent} (h : Kept L) (s : Int) : (copyF L s).getD [] = (entOf L s).text := by
  unfold copyF
  by_cases hh : (entOf L s).has = true
  · simp [hh]
  · simp only [hh]
    exact ((h.ent s).2.2.1 (by simpa using hh)).symm

/-- the copies, by ascending stories -/
def itemsL (L : List Ent) : List (Int × List UInt8) := L.filterMap fun e => if e.has then some (e.story, e.text) else none
def itemsF (g : Int → Option (List UInt8)) (n : Nat) : List (Int × List UInt8) := (List.range n).filterMap fun (i : Nat) => (g ((i : Int) + 1)).map fun t => ((i : Int) + 1, t)

theorem itemsF_succ (g : Int → Option (List UInt8)) (n : Nat) : itemsF g (n + 1) = itemsF g n ++ (match g ((n : Int) + 1) with | some t => [((n : Int) + 1, t)] | none => []) := by
  unfold itemsF
  rw [List.range_succ, List.filterMap_append]
  congr 1
  cases h : g ((n : Int) + 1) <;> simp [h]

theorem entOf_out {L : List Ent} {s : Int} (h : ∀ e ∈ L, e.story ≠ s) : entOf L s = ⟨s, 0, false, []⟩ := by
  rcases entOf_cases L s with h1 | h1
  · exact h1
  · exact absurd (entOf_story L s) (h _ h1)

theorem entOf_append_out {L M : List Ent} {s : Int} (h : ∀ e ∈ L, e.story ≠ s) : entOf (L ++ M) s = entOf M s := by
  induction L with
  | nil => rfl
  | cons e l ih =>
    rw [List.cons_append, entOf, if_neg (h e (by simp))]
    exact ih (fun x hx => h x (by simp [hx]))

theorem entOf_append_in {L M : List Ent} {s : Int} (h : ∀ e ∈ M, e.story ≠ s) : entOf (L ++ M) s = entOf L s := by
  induction L with
  | nil => exact entOf_out h
  | cons e l ih =>
    rw [List.cons_append, entOf, entOf, ih]

/-- Items of the maps is Items of the list -/
theorem items_upto {L : List Ent} (h : L.Pairwise (fun a b => a.story < b.story)) (h1 : ∀ e ∈ L, 1 ≤ e.story) : ∀ n : Nat, itemsF (copyF L) n = itemsL (L.filter fun e => e.story ≤ (n : Int))
  | 0 => by
    have : L.filter (fun e => e.story ≤ ((0 : Nat) : Int)) = [] := by
      rw [List.filter_eq_nil_iff]
      intro e he
      have := h1 e he
      simp; omega
    rw [this]; rfl
  | n + 1 => by
    rw [itemsF_succ, items_upto h h1 n]
    clear items_upto
    induction L with
    | nil => simp [itemsL, copyF, entOf]
    | cons e l ih =>
      have hp := List.pairwise_cons.1 h
      have ih := ih hp.2 (fun x hx => h1 x (by simp [hx]))
      by_cases he : e.story ≤ (n : Int)
      · have hne : ¬ e.story = (n : Int) + 1 := by omega
        have hc : copyF (e :: l) ((n : Int) + 1) = copyF l ((n : Int) + 1) := by unfold copyF; rw [entOf, if_neg hne]
        rw [hc, List.filter_cons, if_pos (by simpa using he), List.filter_cons, if_pos (by simp; omega)]
        have hcons : ∀ X, itemsL (e :: X) = itemsL [e] ++ itemsL X := fun X => by unfold itemsL; rw [← List.filterMap_append]; rfl
        rw [hcons, hcons (List.filter _ l), List.append_assoc, ih]
      · have hl : ∀ x ∈ l, (n : Int) + 1 < x.story := fun x hx => by have := hp.1 x hx; omega
        have hf : l.filter (fun x => decide (x.story ≤ (n : Int))) = [] := by
          rw [List.filter_eq_nil_iff]; intro x hx; have := hl x hx; simp; omega
        have hf' : l.filter (fun x => decide (x.story ≤ ((n + 1 : Nat) : Int))) = [] := by
          rw [List.filter_eq_nil_iff]; intro x hx; have := hl x hx; simp; omega
        rw [List.filter_cons, if_neg (by simpa using he), hf, List.filter_cons, hf']
        by_cases heq : e.story = (n : Int) + 1
        · rw [if_pos (by simp; omega)]
          have hc : copyF (e :: l) ((n : Int) + 1) = if e.has then some e.text else none := by unfold copyF; rw [entOf, if_pos heq]
          rw [hc]
          cases hh : e.has <;> simp [itemsL, hh, heq]
        · rw [if_neg (by simp; omega)]
          have hc : copyF (e :: l) ((n : Int) + 1) = none := by
            unfold copyF
            rw [entOf, if_neg heq, entOf_out (fun x hx => by have := hl x hx; omega)]
            rfl
          rw [hc]; rfl

theorem Kept.items {L : List Ent} (h : Kept L) : itemsF (copyF L) 64 = itemsL L := by
  rw [items_upto h.asc (fun e he => (h.lo e he).1) 64]
  congr 1
  rw [List.filter_eq_self]
  intro e he
  have := h.lo e he
  simp; omega
end Go.Proofs.YtnhpnipfledihaaDoor

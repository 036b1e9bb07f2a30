/- Facts and contracts for the laws of the sender, part 2. Conditions: those that each theorem names. -/
import Derived.Test.YtogjgibaolppfaaGreatDoorK01
/- Plain: queries: the program's way of parsing them and the reference's are one. -/
namespace Go.Proofs.YtogjgibaolppfaaGreatDoor

structure Prt where
  kind : Nat
  neg : Bool
  words : List Wd

/-- a query word, in whatever letters -/
def isWd (s : List UInt8) : Bool := s.all isPart && (decide (1 ≤ s.length) && decide (s.length ≤ 30))
def lowW (s : List UInt8) : Wd := s.map low
def trimB (s : List UInt8) : List UInt8 := s.dropWhile (· == 32)
def fieldsGo : List UInt8 → List UInt8 → List (List UInt8)
  | cur, [] => if cur = [] then [] else [cur]
  | cur, c :: r => if c = 32 then (if cur = [] then [] else [cur]) ++ fieldsGo [] r else fieldsGo (cur ++ [c]) r
def fieldsB (s : List UInt8) : List (List UInt8) := fieldsGo [] s
/-- what stands before the next quotation mark, and what behind it -/
def cutQ : List UInt8 → Option (List UInt8 × List UInt8)
  | [] => none
  | c :: r => if c = 34 then some ([], r) else (cutQ r).map fun x => (c :: x.1, x.2)
def okPhr (ws : List (List UInt8)) : Bool := ws.all isWd && (decide (1 ≤ ws.length) && decide (ws.length ≤ 8))

/-- the part with which s begins (behind the minus sign), and what follows it: the program -/
def part1 (neg : Bool) (s : List UInt8) : Option (Prt × List UInt8) :=
  if s.head? = some 34 then
    match cutQ s.tail with
    | none => none
    | some x => if okPhr (fieldsB x.1) then some (⟨2, neg, (fieldsB x.1).map lowW⟩, x.2) else none
  else if isWd (s.takeWhile isPart) then
    (if (s.dropWhile isPart).head? = some 42 then some (⟨3, neg, [lowW (s.takeWhile isPart)]⟩, (s.dropWhile isPart).tail)
      else some (⟨1, neg, [lowW (s.takeWhile isPart)]⟩, s.dropWhile isPart))
  else none
def partP (s : List UInt8) : Option (Prt × List UInt8) := if s.head? = some 45 then part1 true s.tail else part1 false s
/-- at the end, or at a blank -/
def atB (a : List UInt8) : Prop := a = [] ∨ a.head? = some 32
instance (a : List UInt8) : Decidable (atB a) := by unfold atB; infer_instance
def parseGo : Nat → List UInt8 → List Prt → Option (List Prt)
  | 0, _, _ => none
  | n + 1, s, l => if s = [] then some l else
    match partP s with
    | none => none
    | some x => if l.length = 8 ∨ ¬ atB x.2 then none else parseGo n (trimB x.2) (l ++ [x.1])
def parseP (q : List UInt8) : Option (List Prt) :=
  if 300 < q.length then none else (parseGo (q.length + 1) (trimB q) []).bind fun l => if l.length = 0 then none else some l

def nextQ (c : UInt8) (q : Bool) : Bool := if c = 34 then !q else q
def piecesGo : List UInt8 → Bool → List UInt8 → List (List UInt8)
  | cur, _, [] => if cur = [] then [] else [cur]
  | cur, q, c :: r => if c ≠ 32 ∨ nextQ c q = true then piecesGo (cur ++ [c]) (nextQ c q) r else (if cur = [] then [] else [cur]) ++ piecesGo [] (nextQ c q) r
def piecesR (s : List UInt8) : List (List UInt8) := piecesGo [] false s
def part2 (neg : Bool) (s : List UInt8) : Option Prt :=
  if 2 ≤ s.length ∧ s.head? = some 34 ∧ s.getLast? = some 34 then
    (if 34 ∈ s.tail.dropLast then none else if okPhr (piecesR s.tail.dropLast) then some ⟨2, neg, (piecesR s.tail.dropLast).map lowW⟩ else none)
  else if s.getLast? = some 42 then (if isWd s.dropLast then some ⟨3, neg, [lowW s.dropLast]⟩ else none)
  else if isWd s then some ⟨1, neg, [lowW s]⟩ else none
def partR (s : List UInt8) : Option Prt := if s.head? = some 45 then part2 true s.tail else part2 false s
def allParts : List (List UInt8) → Option (List Prt)
  | [] => some []
  | x :: r => (partR x).bind fun p => (allParts r).map (p :: ·)
def parseR (q : List UInt8) : Option (List Prt) :=
  if 300 < q.length ∨ (piecesR q).length < 1 ∨ 8 < (piecesR q).length then none else allParts (piecesR q)

/-! the first piece -/
def spanQ : Bool → List UInt8 → List UInt8 × List UInt8
  | _, [] => ([], [])
  | q, c :: r => if c ≠ 32 ∨ nextQ c q = true then (c :: (spanQ (nextQ c q) r).1, (spanQ (nextQ c q) r).2) else ([], c :: r)
theorem pieces_span : ∀ (s cur : List UInt8) (q : Bool), piecesGo cur q s = (if cur ++ (spanQ q s).1 = [] then [] else [cur ++ (spanQ q s).1]) ++ piecesR (spanQ q s).2
  | [], cur, q => by simp [piecesGo, spanQ, piecesR]
  | c :: r, cur, q => by
    by_cases h : c ≠ 32 ∨ nextQ c q = true
    · rw [piecesGo, if_pos h, pieces_span r, spanQ, if_pos h]
      simp
    · have hc : c = 32 := Classical.byContradiction fun e => h (.inl e)
      have hq : nextQ c q = false := by cases e : nextQ c q <;> simp_all
      have hf : nextQ c false = false := by rw [hc]; rfl
      rw [piecesGo, if_neg h, spanQ, if_neg h, hq]
      have e : piecesR (c :: r) = piecesGo [] false r := by
        rw [piecesR, piecesGo, hf, if_neg (by simp [hc])]
        simp
      rw [e, List.append_nil]
theorem trim_cons {c : UInt8} {r : List UInt8} (h : c ≠ 32) : trimB (c :: r) = c :: r := by simp [trimB, h]
theorem trim_blank (r : List UInt8) : trimB (32 :: r) = trimB r := by simp [trimB]
theorem pieces_blank (r : List UInt8) : piecesR (32 :: r) = piecesR r := by
  rw [piecesR, piecesGo]
  have hf : nextQ 32 false = false := rfl
  rw [hf, if_neg (by simp)]; simp [piecesR]
theorem pieces_trim : ∀ (s : List UInt8), piecesR (trimB s) = piecesR s
  | [] => rfl
  | c :: r => by
    by_cases h : c = 32
    · subst h; rw [trim_blank, pieces_trim r, pieces_blank]
    · rw [trim_cons h]
theorem trim_head : ∀ (s : List UInt8), (trimB s).head? ≠ some 32
  | [] => by simp [trimB]
  | c :: r => by
    by_cases h : c = 32
    · subst h; rw [trim_blank]; exact trim_head r
    · rw [trim_cons h]; simp [h]
theorem trim_len : ∀ (s : List UInt8), (trimB s).length ≤ s.length
  | [] => by simp [trimB]
  | c :: r => by
    by_cases h : c = 32
    · subst h; rw [trim_blank]; have := trim_len r; simp; omega
    · rw [trim_cons h]; exact Nat.le_refl _
theorem span_false_blank {a : List UInt8} (h : atB a) : spanQ false a = ([], a) := by
  rcases h with rfl | h
  · rfl
  · cases a with
    | nil => simp at h
    | cons c r =>
      simp at h; subst h
      have hf : nextQ 32 false = false := rfl
      rw [spanQ, hf, if_neg (by simp)]
theorem span_false_head {a : List UInt8} (h : ¬ atB a) : ∃ c r z, a = c :: r ∧ (spanQ false a).1 = c :: z := by
  cases a with
  | nil => exact absurd (.inl rfl) h
  | cons c r =>
    have hc : c ≠ 32 := fun e => h (.inr (by simp [e]))
    exact ⟨c, r, _, rfl, by rw [spanQ, if_pos (.inl hc)]⟩
theorem cutQ_some : ∀ {q i a : List UInt8}, cutQ q = some (i, a) → q = i ++ 34 :: a ∧ 34 ∉ i
  | [], i, a, h => by cases h
  | c :: r, i, a, h => by
    rw [cutQ] at h
    by_cases hc : c = 34
    · rw [if_pos hc] at h; cases h; simp [hc]
    · rw [if_neg hc] at h
      cases hr : cutQ r with
      | none => rw [hr] at h; cases h
      | some x =>
        rw [hr] at h; simp at h
        obtain ⟨rfl, rfl⟩ := h
        obtain ⟨h1, h2⟩ := cutQ_some (q := r) (i := x.1) (a := x.2) hr
        exact ⟨by rw [List.cons_append, ← h1], by simp [h2, Ne.symm hc]⟩
theorem cutQ_none : ∀ {q : List UInt8}, cutQ q = none → 34 ∉ q
  | [], _ => by simp
  | c :: r, h => by
    rw [cutQ] at h
    by_cases hc : c = 34
    · rw [if_pos hc] at h; cases h
    · rw [if_neg hc] at h
      have hr : cutQ r = none := by cases e : cutQ r <;> simp_all
      simp [cutQ_none hr, Ne.symm hc]
theorem span_true_none : ∀ {q : List UInt8}, 34 ∉ q → spanQ true q = (q, [])
  | [], _ => rfl
  | c :: r, h => by
    have hc : c ≠ 34 := fun e => h (by simp [e])
    have hn : nextQ c true = true := by simp [nextQ, hc]
    rw [spanQ, hn, if_pos (.inr rfl), span_true_none (fun e => h (by simp [e]))]
theorem span_true_some (a : List UInt8) : ∀ {i : List UInt8}, 34 ∉ i → spanQ true (i ++ 34 :: a) = (i ++ 34 :: (spanQ false a).1, (spanQ false a).2)
  | [], _ => by
    have hn : nextQ 34 true = false := rfl
    rw [List.nil_append, spanQ, hn, if_pos (.inl (by decide))]; rfl
  | c :: r, h => by
    have hc : c ≠ 34 := fun e => h (by simp [e])
    have hn : nextQ c true = true := by simp [nextQ, hc]
    rw [List.cons_append, spanQ, hn, if_pos (.inr rfl), span_true_some a (fun e => h (by simp [e]))]
    rfl
theorem part_ne {c : UInt8} (h : isPart c = true) : c ≠ 32 ∧ c ≠ 34 ∧ c ≠ 42 ∧ c ≠ 45 := by
  refine ⟨?_, ?_, ?_, ?_⟩ <;> (intro e; subst e; revert h; decide +kernel)
theorem span_parts (d : List UInt8) : ∀ {w : List UInt8}, w.all isPart = true → spanQ false (w ++ d) = (w ++ (spanQ false d).1, (spanQ false d).2)
  | [], _ => rfl
  | c :: r, h => by
    simp only [List.all_cons, Bool.and_eq_true] at h
    have hc := part_ne h.1
    have hn : nextQ c false = false := by simp [nextQ, hc.2.1]
    rw [List.cons_append, spanQ, hn, if_pos (.inl hc.1), span_parts d h.2]
    rfl
theorem pieces_fields : ∀ {i cur : List UInt8}, 34 ∉ i → piecesGo cur false i = fieldsGo cur i
  | [], cur, _ => rfl
  | c :: r, cur, h => by
    have hc : c ≠ 34 := fun e => h (by simp [e])
    have hn : nextQ c false = false := by simp [nextQ, hc]
    have hr : 34 ∉ r := fun e => h (by simp [e])
    rw [piecesGo, fieldsGo, hn]
    by_cases h2 : c = 32
    · rw [if_neg (by simp [h2]), if_pos h2, pieces_fields hr]
    · rw [if_pos (.inl h2), if_neg h2, pieces_fields hr]
theorem isWd_mem {s : List UInt8} (h : isWd s = true) : (∀ c ∈ s, isPart c = true) ∧ 1 ≤ s.length ∧ s.length ≤ 30 := by
  simp only [isWd, Bool.and_eq_true, List.all_eq_true, decide_eq_true_eq] at h
  exact ⟨h.1, h.2.1, h.2.2⟩
theorem isWd_of {s : List UInt8} (h : ∀ c ∈ s, isPart c = true) (h1 : 1 ≤ s.length) (h2 : s.length ≤ 30) : isWd s = true := by
  simp only [isWd, Bool.and_eq_true, List.all_eq_true, decide_eq_true_eq]
  exact ⟨h, h1, h2⟩
theorem isWd_no {s : List UInt8} {c : UInt8} (hm : c ∈ s) (hc : isPart c = false) : isWd s = false := by
  cases h : isWd s with
  | false => rfl
  | true => rw [(isWd_mem h).1 c hm] at hc; cases hc
theorem isWd_long {s : List UInt8} (h : 30 < s.length) : isWd s = false := by
  cases e : isWd s with
  | false => rfl
  | true => have := (isWd_mem e).2.2; omega
theorem isWd_nil : isWd [] = false := rfl

theorem part2_phrase {neg : Bool} {i : List UInt8} (h : 34 ∉ i) : part2 neg (34 :: (i ++ [34])) = if okPhr (fieldsB i) then some ⟨2, neg, (fieldsB i).map lowW⟩ else none := by
  have e : (34 :: (i ++ [34])).tail.dropLast = i := by simp
  have hp : piecesR i = fieldsB i := pieces_fields h
  rw [part2, if_pos ⟨by simp, rfl, by rw [List.getLast?_cons]; simp⟩, e, if_neg h, hp]
theorem part2_quote {neg : Bool} {s : List UInt8} (h1 : s.head? = some 34) (h2 : ¬ (2 ≤ s.length ∧ s.head? = some 34 ∧ s.getLast? = some 34) ∨ 34 ∈ s.tail.dropLast) : part2 neg s = none := by
  obtain ⟨r, rfl⟩ : ∃ r, s = 34 :: r := by
    cases s with
    | nil => simp at h1
    | cons c r => simp at h1; exact ⟨r, by rw [h1]⟩
  rw [part2]
  by_cases hq : 2 ≤ (34 :: r).length ∧ (34 :: r : List UInt8).head? = some 34 ∧ (34 :: r : List UInt8).getLast? = some 34
  · rw [if_pos hq, if_pos (h2.resolve_left fun k => k hq)]
  · rw [if_neg hq]
    have h34 : isPart 34 = false := by decide +kernel
    split
    · rw [if_neg]
      cases r with
      | nil => decide +kernel
      | cons c r => rw [isWd_no (c := 34) (by simp [List.dropLast]) h34]; simp
    · rw [if_neg (by rw [isWd_no (c := 34) (by simp) h34]; simp)]

theorem getLast_parts {w : List UInt8} (h : ∀ c ∈ w, isPart c = true) : w.getLast? ≠ some 42 := fun e => by
  have hm := List.mem_of_getLast? e
  exact (part_ne (h _ hm)).2.2.1 rfl
theorem head_parts {w : List UInt8} (h : ∀ c ∈ w, isPart c = true) (hw : w ≠ []) (z : List UInt8) : (w ++ z).head? ≠ some 34 := fun e => by
  cases w with
  | nil => exact hw rfl
  | cons c r => simp at e; exact (part_ne (h c (by simp))).2.1 e
/-- a piece that holds a byte that no word has, not as a star at its end -/
theorem part2_bad {neg : Bool} {s : List UInt8} (h1 : s.head? ≠ some 34) (h2 : isWd s = false) (h3 : s.getLast? = some 42 → isWd s.dropLast = false) : part2 neg s = none := by
  rw [part2, if_neg (fun h => h1 h.2.1)]
  split
  · rename_i h; rw [if_neg (by rw [h3 h]; simp)]
  · rw [if_neg (by rw [h2]; simp)]
theorem last_two {w z : List UInt8} {c : UInt8} (hc : isPart c = false) (hl : (w ++ c :: z).getLast? = some 42) (hz : z = [] → c ≠ 42) : isWd (w ++ c :: z).dropLast = false := by
  cases z with
  | nil =>
    rw [List.getLast?_append] at hl; simp at hl
    exact absurd hl (hz rfl)
  | cons d z => exact isWd_no (c := c) (by simp [List.dropLast_append_of_ne_nil]) hc

theorem first_part (neg : Bool) (s : List UInt8) :
    (∃ p, part1 neg s = some (p, (spanQ false s).2) ∧ atB (spanQ false s).2 ∧ part2 neg (spanQ false s).1 = some p) ∨
    ((∀ x, part1 neg s = some x → ¬ atB x.2) ∧ part2 neg (spanQ false s).1 = none) := by
  by_cases hq : s.head? = some 34
  · obtain ⟨q, rfl⟩ : ∃ q, s = 34 :: q := by
      cases s with
      | nil => simp at hq
      | cons c r => simp at hq; exact ⟨r, by rw [hq]⟩
    have hs : spanQ false (34 :: q) = (34 :: (spanQ true q).1, (spanQ true q).2) := by
      have hn : nextQ 34 false = true := rfl
      rw [spanQ, hn, if_pos (.inr rfl)]
    have h1 : part1 neg (34 :: q) = match cutQ q with
      | none => none
      | some x => if okPhr (fieldsB x.1) then some (⟨2, neg, (fieldsB x.1).map lowW⟩, x.2) else none := by rw [part1, if_pos hq]; rfl
    cases hc : cutQ q with
    | none =>
      have hn := cutQ_none hc
      rw [hc] at h1
      refine .inr ⟨fun x hx => (by rw [h1] at hx; cases hx), ?_⟩
      rw [hs, span_true_none hn]
      refine part2_quote rfl (.inl fun h => ?_)
      have hl := List.mem_of_getLast? h.2.2
      rcases List.mem_cons.1 hl with _ | hm
      · cases q with
        | nil => simp at h
        | cons c r =>
          have := h.2.2
          rw [List.getLast?_cons_cons] at this
          exact hn (List.mem_of_getLast? this)
      · exact hn hm
    | some x =>
      obtain ⟨i, a⟩ := x
      rw [hc] at h1
      simp only at h1
      obtain ⟨rfl, hi⟩ := cutQ_some hc
      rw [hs, span_true_some a hi]
      by_cases hb : atB a
      · rw [span_false_blank hb]
        simp only
        rw [part2_phrase hi]
        by_cases hk : okPhr (fieldsB i) = true
        · rw [if_pos hk] at h1 ⊢
          exact .inl ⟨_, h1, hb, rfl⟩
        · rw [if_neg hk] at h1 ⊢
          exact .inr ⟨fun x hx => (by rw [h1] at hx; cases hx), rfl⟩
      · refine .inr ⟨fun x hx => ?_, ?_⟩
        · rw [h1] at hx
          split at hx
          · cases hx; exact hb
          · cases hx
        · obtain ⟨c, r, z, rfl, hz⟩ := span_false_head hb
          rw [hz]
          refine part2_quote rfl (.inr ?_)
          simp [List.dropLast_append_of_ne_nil]
  · have hw := List.takeWhile_append_dropWhile (p := isPart) (l := s)
    have hall : (s.takeWhile isPart).all isPart = true := List.all_takeWhile
    have hd : ∀ c r, s.dropWhile isPart = c :: r → isPart c = false := fun c r h => by
      have := List.head?_dropWhile_not isPart s
      rw [h] at this; simpa using this
    have h1 : part1 neg s = if isWd (s.takeWhile isPart) then
      (if (s.dropWhile isPart).head? = some 42 then some (⟨3, neg, [lowW (s.takeWhile isPart)]⟩, (s.dropWhile isPart).tail)
        else some (⟨1, neg, [lowW (s.takeWhile isPart)]⟩, s.dropWhile isPart)) else none := by rw [part1, if_neg hq]
    have hh : s.takeWhile isPart = [] → (s.dropWhile isPart).head? ≠ some 34 := fun e h => by
      rw [← hw, e, List.nil_append] at hq; exact hq h
    obtain ⟨w, ew⟩ : ∃ w, s.takeWhile isPart = w := ⟨_, rfl⟩
    obtain ⟨d, ed⟩ : ∃ d, s.dropWhile isPart = d := ⟨_, rfl⟩
    rw [ew] at hall hw h1 hh
    rw [ed] at hw h1 hd hh
    have hsp := span_parts d hall
    rw [hw] at hsp
    rw [hsp]
    simp only
    have hp : ∀ c ∈ w, isPart c = true := List.all_eq_true.1 hall
    by_cases hk : isWd w = true
    · rw [if_pos hk] at h1
      have hne : w ≠ [] := by rintro rfl; rw [isWd_nil] at hk; cases hk
      by_cases h42 : d.head? = some 42
      · obtain ⟨a, rfl⟩ : ∃ a, d = 42 :: a := by
          cases d with
          | nil => simp at h42
          | cons c r => simp at h42; exact ⟨r, by rw [h42]⟩
        rw [if_pos h42] at h1
        simp only [List.tail_cons] at h1
        have hs : spanQ false (42 :: a) = (42 :: (spanQ false a).1, (spanQ false a).2) := by
          have hn : nextQ 42 false = false := rfl
          rw [spanQ, hn, if_pos (.inl (by decide))]
        rw [hs]
        by_cases hb : atB a
        · rw [span_false_blank hb]
          refine .inl ⟨_, h1, hb, ?_⟩
          rw [part2, if_neg (fun h => head_parts hp hne _ h.2.1), if_pos (by simp), List.dropLast_concat, if_pos hk]
        · refine .inr ⟨fun x hx => (by rw [h1] at hx; cases hx; exact hb), ?_⟩
          obtain ⟨c, r, z, rfl, hz⟩ := span_false_head hb
          rw [hz]
          have h42 : isPart 42 = false := by decide +kernel
          exact part2_bad (head_parts hp hne _) (isWd_no (c := 42) (by simp) h42) fun hl => last_two h42 hl (fun e => by cases e)
      · rw [if_neg h42] at h1
        by_cases hb : atB d
        · rw [span_false_blank hb]
          refine .inl ⟨_, h1, hb, ?_⟩
          rw [List.append_nil, part2, if_neg (fun h => by have := head_parts hp hne []; rw [List.append_nil] at this; exact this h.2.1), if_neg (getLast_parts hp), if_pos hk]
        · refine .inr ⟨fun x hx => (by rw [h1] at hx; cases hx; exact hb), ?_⟩
          obtain ⟨c, r, z, rfl, hz⟩ := span_false_head hb
          rw [hz]
          have hc := hd c r rfl
          exact part2_bad (head_parts hp hne _) (isWd_no (c := c) (by simp) hc) fun hl => last_two hc hl (fun _ e => h42 (by simp [e]))
    · rw [if_neg hk] at h1
      refine .inr ⟨fun x hx => (by rw [h1] at hx; cases hx), ?_⟩
      by_cases hne : w = []
      · subst hne
        rw [List.nil_append]
        by_cases hb : atB d
        · rw [span_false_blank hb]; show part2 neg [] = none; cases neg <;> decide +kernel
        · obtain ⟨c, r, z, rfl, hz⟩ := span_false_head hb
          rw [hz]
          have hc := hd c r rfl
          have h34 := hh rfl
          refine part2_bad (by simpa using h34) (isWd_no (c := c) (by simp) hc) fun hl => ?_
          cases z with
          | nil => exact isWd_nil
          | cons e z => exact isWd_no (c := c) (by simp [List.dropLast]) hc
      · have hlen : 30 < w.length := by
          refine Classical.byContradiction fun h => hk (isWd_of hp ?_ (by omega))
          cases w with
          | nil => exact absurd rfl hne
          | cons c r => simp
        refine part2_bad (head_parts hp hne _) (isWd_long (by rw [List.length_append]; omega)) fun hl => isWd_long ?_
        rw [List.length_dropLast, List.length_append]
        cases hz : (spanQ false d).1 with
        | nil => rw [hz, List.append_nil] at hl; exact absurd hl (getLast_parts hp)
        | cons e z => simp; omega

theorem first_partP (s : List UInt8) (hne : s ≠ []) (hs : s.head? ≠ some 32) :
    (∃ p, partP s = some (p, (spanQ false s).2) ∧ atB (spanQ false s).2 ∧ partR (spanQ false s).1 = some p) ∨
    ((∀ x, partP s = some x → ¬ atB x.2) ∧ partR (spanQ false s).1 = none) := by
  obtain ⟨c, r, rfl⟩ : ∃ c r, s = c :: r := by
    cases s with
    | nil => exact absurd rfl hne
    | cons c r => exact ⟨c, r, rfl⟩
  by_cases h : c = 45
  · subst h
    have hsp : spanQ false (45 :: r) = (45 :: (spanQ false r).1, (spanQ false r).2) := by
      have hn : nextQ 45 false = false := rfl
      rw [spanQ, hn, if_pos (.inl (by decide))]
    have e1 : partP (45 :: r) = part1 true r := by rw [partP]; exact if_pos rfl
    have e2 : ∀ x, partR (45 :: x) = part2 true x := fun x => by rw [partR]; exact if_pos rfl
    rw [hsp, e1, e2]
    exact first_part true r
  · have hc : c ≠ 32 := fun e => hs (by simp [e])
    obtain ⟨z, hz⟩ : ∃ z, (spanQ false (c :: r)).1 = c :: z := ⟨_, by rw [spanQ, if_pos (.inl hc)]⟩
    have e1 : partP (c :: r) = part1 false (c :: r) := by rw [partP, if_neg (by simp [h])]
    have e2 : partR (spanQ false (c :: r)).1 = part2 false (spanQ false (c :: r)).1 := by rw [partR, if_neg (by rw [hz]; simp [h])]
    rw [e1, e2]
    exact first_part false (c :: r)

theorem span_len : ∀ (s : List UInt8) (q : Bool), (spanQ q s).1.length + (spanQ q s).2.length = s.length
  | [], _ => rfl
  | c :: r, q => by
    rw [spanQ]
    split
    · have := span_len r (nextQ c q); simp; omega
    · simp

theorem allParts_len : ∀ {l : List (List UInt8)} {ps : List Prt}, allParts l = some ps → ps.length = l.length
  | [], ps, h => by cases h; rfl
  | x :: r, ps, h => by
    rw [allParts] at h
    cases hp : partR x with
    | none => rw [hp] at h; cases h
    | some p =>
      cases hr : allParts r with
      | none => rw [hp, hr] at h; cases h
      | some qs => rw [hp, hr] at h; cases h; simp [allParts_len hr]

theorem parse_go : ∀ (n : Nat) (s : List UInt8) (l : List Prt), s.length < n → s.head? ≠ some 32 → l.length ≤ 8 →
    parseGo n s l = (allParts (piecesR s)).bind fun ps => if l.length + ps.length ≤ 8 then some (l ++ ps) else none
  | 0, s, l, h, _, _ => by omega
  | n + 1, s, l, h, hs, hl => by
    by_cases hne : s = []
    · subst hne
      rw [parseGo, if_pos rfl]
      simp [piecesR, piecesGo, allParts, hl]
    · have hcons : (spanQ false s).1 ≠ [] := by
        cases s with
        | nil => exact absurd rfl hne
        | cons c r =>
          have hc : c ≠ 32 := fun e => hs (by simp [e])
          rw [spanQ, if_pos (.inl hc)]; simp
      have hpc : piecesR s = (spanQ false s).1 :: piecesR (spanQ false s).2 := by
        have := pieces_span s [] false
        rw [List.nil_append, if_neg hcons] at this
        exact this
      have hsl := span_len s false
      have hpos : 0 < (spanQ false s).1.length := List.length_pos_iff.2 hcons
      rw [hpc, allParts, parseGo, if_neg hne]
      rcases first_partP s hne hs with ⟨p, h1, h2, h3⟩ | ⟨h1, h3⟩
      · rw [h1, h3]
        simp only [Option.bind_some]
        by_cases h8 : l.length = 8
        · rw [if_pos (.inl h8)]
          cases hr : allParts (piecesR (spanQ false s).2) with
          | none => rfl
          | some ps => simp; omega
        · rw [if_neg (fun h => h.elim h8 (fun h => h h2))]
          have htl := trim_len (spanQ false s).2
          rw [parse_go n (trimB (spanQ false s).2) (l ++ [p]) (by omega) (trim_head _) (by simp; omega), pieces_trim]
          cases hr : allParts (piecesR (spanQ false s).2) with
          | none => rfl
          | some ps =>
            simp only [Option.bind_some, Option.map_some]
            simp only [List.length_append, List.length_cons, List.length_nil, List.append_assoc, List.singleton_append]
            have e : (l.length + (0 + 1) + ps.length ≤ 8) = (l.length + (ps.length + 1) ≤ 8) := by apply propext; omega
            simp only [e]
      · rw [h3]
        simp only [Option.bind_none]
        cases hp : partP s with
        | none => rfl
        | some x => simp only; rw [if_pos (.inr (h1 x hp))]

/-- THE PROGRAM PARSES AS THE REFERENCE DOES -/
theorem parse_eq (q : List UInt8) : parseP q = parseR q := by
  rw [parseP, parseR]
  by_cases hq : 300 < q.length
  · rw [if_pos hq, if_pos (.inl hq)]
  · have htl := trim_len q
    rw [if_neg hq, parse_go _ _ _ (by omega) (trim_head q) (by simp), pieces_trim]
    cases hr : allParts (piecesR q) with
    | none => simp
    | some ps =>
      have hlen := allParts_len hr
      simp only [Option.bind_some, List.length_nil, Nat.zero_add, List.nil_append]
      by_cases h8 : ps.length ≤ 8
      · rw [if_pos h8]
        simp only [Option.bind_some]
        by_cases h0 : ps.length = 0
        · rw [if_pos h0, if_pos (.inr (.inl (by omega)))]
        · rw [if_neg h0, if_neg (by omega)]
      · rw [if_neg h8, if_pos (.inr (.inr (by omega)))]; rfl

end Go.Proofs.YtogjgibaolppfaaGreatDoor
/- Plain: the printed form of a list of parts, whatever its letters and blanks, is parsed as the list. -/
namespace Go.Proofs.YtogjgibaolppfaaGreatDoor

def form1 (p : Prt) : List UInt8 := (if p.neg = true then [45] else []) ++ (if p.kind = 2 then 34 :: (Lib.join p.words [32] ++ [34]) else if p.kind = 3 then Lib.join p.words [32] ++ [42] else Lib.join p.words [32])
def formL (l : List Prt) : List UInt8 := Lib.join (l.map form1) [32]
structure okPrt (p : Prt) : Prop where
  kind : p.kind = 1 ∨ p.kind = 2 ∨ p.kind = 3
  pos : 1 ≤ p.words.length
  few : p.words.length ≤ 8
  one : p.kind ≠ 2 → p.words.length = 1
  ok : ∀ w ∈ p.words, okWord w

/-- t is s with other letters and more blanks -/
inductive Deco : List UInt8 → List UInt8 → Prop
  | nil : Deco [] []
  | one {s t : List UInt8} : Deco s t → Deco (32 :: s) (32 :: t)
  | two {s t : List UInt8} : Deco s t → Deco (32 :: s) (32 :: 32 :: t)
  | char {s t : List UInt8} {c d : UInt8} : c ≠ 32 → isPart d = isPart c → low d = low c → (isPart c = false → d = c) → Deco s t → Deco (c :: s) (d :: t)
theorem Deco.refl : ∀ (s : List UInt8), Deco s s
  | [] => .nil
  | c :: s => by
    by_cases h : c = 32
    · subst h; exact .one (Deco.refl s)
    · exact .char h rfl rfl (fun _ => rfl) (Deco.refl s)
theorem Deco.append {a b c d : List UInt8} (h : Deco a c) (k : Deco b d) : Deco (a ++ b) (c ++ d) := by
  induction h with
  | nil => exact k
  | one _ ih => exact .one ih
  | two _ ih => exact .two ih
  | char h1 h2 h3 h4 _ ih => exact .char h1 h2 h3 h4 ih
theorem Deco.split : ∀ {a b t : List UInt8}, Deco (a ++ b) t → ∃ t1 t2, t = t1 ++ t2 ∧ Deco a t1 ∧ Deco b t2
  | [], b, t, h => ⟨[], t, rfl, .nil, h⟩
  | c :: a, b, t, h => by
    rw [List.cons_append] at h
    cases h with
    | one h => obtain ⟨t1, t2, rfl, h1, h2⟩ := h.split; exact ⟨32 :: t1, t2, rfl, .one h1, h2⟩
    | two h => obtain ⟨t1, t2, rfl, h1, h2⟩ := h.split; exact ⟨32 :: 32 :: t1, t2, rfl, .two h1, h2⟩
    | char k1 k2 k3 k4 h => obtain ⟨t1, t2, rfl, h1, h2⟩ := h.split; exact ⟨_ :: t1, t2, rfl, .char k1 k2 k3 k4 h1, h2⟩
theorem Deco.len {s t : List UInt8} (h : Deco s t) : s.length ≤ t.length ∧ t.length ≤ 2 * s.length := by
  induction h with
  | nil => simp
  | one _ ih => simp; omega
  | two _ ih => simp; omega
  | char _ _ _ _ _ ih => simp; omega
theorem Deco.blank {s t : List UInt8} (h : Deco (32 :: s) t) : ∃ t', (t = 32 :: t' ∨ t = 32 :: 32 :: t') ∧ Deco s t' := by
  cases h with
  | one h => exact ⟨_, .inl rfl, h⟩
  | two h => exact ⟨_, .inr rfl, h⟩
  | char h _ _ _ _ => exact absurd rfl h
theorem Deco.mark {c : UInt8} (hc : isPart c = false) (h3 : c ≠ 32) {s t : List UInt8} (h : Deco (c :: s) t) : ∃ t', t = c :: t' ∧ Deco s t' := by
  cases h with
  | one h => exact absurd rfl h3
  | two h => exact absurd rfl h3
  | char _ _ _ h4 h => exact ⟨_, by rw [h4 hc], h⟩
theorem Deco.eq_nil {t : List UInt8} (h : Deco [] t) : t = [] := by cases h; rfl
theorem Deco.word : ∀ {w t : List UInt8}, (∀ c ∈ w, isPart c = true ∧ low c = c) → Deco w t → (∀ c ∈ t, isPart c = true) ∧ lowW t = w ∧ t.length = w.length
  | [], t, _, h => by rw [h.eq_nil]; simp [lowW]
  | c :: w, t, hw, h => by
    have hc := hw c (by simp)
    have hw' := fun d hd => hw d (List.mem_cons_of_mem _ hd)
    cases h with
    | one h => exact absurd hc.1 (by decide +kernel)
    | two h => exact absurd hc.1 (by decide +kernel)
    | char _ h2 h3 _ h =>
      obtain ⟨k1, k2, k3⟩ := h.word hw'
      refine ⟨fun d hd => ?_, ?_, by simp [k3]⟩
      · rcases List.mem_cons.1 hd with rfl | hd
        · rw [h2]; exact hc.1
        · exact k1 d hd
      · simp only [lowW, List.map_cons]
        rw [h3, hc.2]
        exact congrArg (c :: ·) k2

theorem fieldsGo_parts (r : List UInt8) : ∀ {w : List UInt8} (cur : List UInt8), (∀ c ∈ w, isPart c = true) → fieldsGo cur (w ++ r) = fieldsGo (cur ++ w) r
  | [], cur, _ => by simp
  | c :: w, cur, h => by
    have hc := (part_ne (h c (by simp))).1
    rw [List.cons_append, fieldsGo, if_neg hc, fieldsGo_parts r (cur ++ [c]) (fun d hd => h d (by simp [hd]))]
    simp
theorem fields_blank (r : List UInt8) : fieldsGo [] (32 :: r) = fieldsGo [] r := by rw [fieldsGo, if_pos rfl]; simp
theorem deco_tail : ∀ (ws : List Wd) (cur t : List UInt8), cur ≠ [] → (∀ w ∈ ws, okWord w) → Deco (Lib.joinTail [32] ws) t →
    34 ∉ t ∧ ∃ ts, fieldsGo cur t = cur :: ts ∧ ts.map lowW = ws ∧ ts.all isWd = true
  | [], cur, t, hc, _, h => by
    rw [show Lib.joinTail [32] ([] : List Wd) = [] by simp [Lib.joinTail]] at h
    rw [h.eq_nil]
    exact ⟨by simp, [], by simp [fieldsGo, hc], rfl, rfl⟩
  | w :: ws, cur, t, hc, hok, h => by
    have e : Lib.joinTail [32] (w :: ws) = 32 :: (w ++ Lib.joinTail [32] ws) := by simp [Lib.joinTail]
    rw [e] at h
    obtain ⟨t', ht, h⟩ := h.blank
    obtain ⟨tw, tr, rfl, h1, h2⟩ := h.split
    have hw := hok w (by simp)
    obtain ⟨k1, k2, k3⟩ := h1.word hw.2.2
    have htw : tw ≠ [] := by rintro rfl; exact hw.1 (List.eq_nil_of_length_eq_zero k3.symm)
    obtain ⟨q, ts, f1, f2, f3⟩ := deco_tail ws tw tr htw (fun x hx => hok x (by simp [hx])) h2
    have hq : 34 ∉ tw := fun hm => (part_ne (k1 _ hm)).2.1 rfl
    have hwd : isWd tw = true := isWd_of k1 (by rw [k3]; exact List.length_pos_iff.2 hw.1) (by rw [k3]; exact hw.2.1)
    have hg : fieldsGo [] (tw ++ tr) = tw :: ts := by rw [fieldsGo_parts tr [] k1, List.nil_append, f1]
    refine ⟨?_, tw :: ts, ?_, by simp [k2, f2], by simp [hwd, f3]⟩
    · rcases ht with rfl | rfl <;> simp [hq, q]
    · rcases ht with rfl | rfl
      · rw [fieldsGo, if_pos rfl, if_neg hc, hg]; rfl
      · rw [fieldsGo, if_pos rfl, if_neg hc, fields_blank, hg]; rfl
theorem deco_fields {ws : List Wd} {t : List UInt8} (hne : ws ≠ []) (hok : ∀ w ∈ ws, okWord w) (h : Deco (Lib.join ws [32]) t) : 34 ∉ t ∧ (fieldsB t).map lowW = ws ∧ (fieldsB t).all isWd = true := by
  cases ws with
  | nil => exact absurd rfl hne
  | cons w ws =>
    rw [Lib.join_cons] at h
    obtain ⟨tw, tr, rfl, h1, h2⟩ := h.split
    have hw := hok w (by simp)
    obtain ⟨k1, k2, k3⟩ := h1.word hw.2.2
    have htw : tw ≠ [] := by rintro rfl; exact hw.1 (List.eq_nil_of_length_eq_zero k3.symm)
    obtain ⟨q, ts, f1, f2, f3⟩ := deco_tail ws tw tr htw (fun x hx => hok x (by simp [hx])) h2
    have hq : 34 ∉ tw := fun hm => (part_ne (k1 _ hm)).2.1 rfl
    have hwd : isWd tw = true := isWd_of k1 (by rw [k3]; exact List.length_pos_iff.2 hw.1) (by rw [k3]; exact hw.2.1)
    have hg : fieldsB (tw ++ tr) = tw :: ts := by rw [fieldsB, fieldsGo_parts tr [] k1, List.nil_append, f1]
    rw [hg]
    exact ⟨by simp [hq, q], by simp [k2, f2], by simp [hwd, f3]⟩
theorem cutQ_at (a : List UInt8) : ∀ {i : List UInt8}, 34 ∉ i → cutQ (i ++ 34 :: a) = some (i, a)
  | [], _ => by simp [cutQ]
  | c :: i, h => by
    have hc : c ≠ 34 := fun e => h (by simp [e])
    rw [List.cons_append, cutQ, if_neg hc, cutQ_at a (fun e => h (by simp [e]))]; rfl
theorem take_parts {w : List UInt8} (hw : ∀ c ∈ w, isPart c = true) {a : List UInt8} (ha : ∀ c, a.head? = some c → isPart c = false) : (w ++ a).takeWhile isPart = w ∧ (w ++ a).dropWhile isPart = a := by
  rw [List.takeWhile_append_of_pos hw, List.dropWhile_append_of_pos hw]
  cases a with
  | nil => simp
  | cons c r =>
    have := ha c rfl
    simp [this]
theorem atB_head {a : List UInt8} (h : atB a) : ∀ c, a.head? = some c → isPart c = false := by
  intro c hc
  rcases h with rfl | h
  · cases hc
  · rw [h] at hc; cases hc; decide +kernel
theorem join_one (w : Wd) : Lib.join [w] [32] = w := by rw [Lib.join_cons]; simp [Lib.joinTail]
theorem part1_deco {p : Prt} (hp : okPrt p) {t a : List UInt8} (ha : atB a)
    (h : Deco (if p.kind = 2 then 34 :: (Lib.join p.words [32] ++ [34]) else if p.kind = 3 then Lib.join p.words [32] ++ [42] else Lib.join p.words [32]) t) :
    part1 p.neg (t ++ a) = some (p, a) ∧ (∃ c r, t = c :: r ∧ c ≠ 32 ∧ c ≠ 45) := by
  obtain ⟨k, ng, ws⟩ := p
  by_cases h2 : k = 2
  · subst h2
    rw [if_pos rfl] at h
    obtain ⟨t', rfl, h8⟩ := h.mark (by decide +kernel) (by decide)
    obtain ⟨ti, te, rfl, h1, h3⟩ := h8.split
    obtain ⟨e', rfl, h4⟩ := h3.mark (by decide +kernel) (by decide)
    rw [h4.eq_nil]
    obtain ⟨q, f2, f3⟩ := deco_fields (by have := hp.pos; exact List.length_pos_iff.1 this) hp.ok h1
    have hlen : (fieldsB ti).length = ws.length := by have h := congrArg List.length f2; simpa using h
    refine ⟨?_, 34, _, rfl, by decide, by decide⟩
    have e : (34 :: (ti ++ [34]) ++ a).tail = ti ++ 34 :: a := by simp
    rw [part1, if_pos (by rfl), e, cutQ_at a q]
    simp only
    have hk : okPhr (fieldsB ti) = true := by
      have p1 := hp.pos; have p2 := hp.few
      simp only [okPhr, Bool.and_eq_true, decide_eq_true_eq]
      exact ⟨f3, by rw [hlen]; exact p1, by rw [hlen]; exact p2⟩
    rw [if_pos hk, f2]
  · have h1 := hp.one h2
    obtain ⟨w, rfl⟩ : ∃ w, ws = [w] := by
      cases ws with
      | nil => simp at h1
      | cons w r => cases r with
        | nil => exact ⟨w, rfl⟩
        | cons x r => simp at h1
    have hw := hp.ok w (by simp)
    simp only [join_one] at h
    rw [if_neg h2] at h
    by_cases h3 : k = 3
    · subst h3
      rw [if_pos rfl] at h
      obtain ⟨tw, te, rfl, h4, h5⟩ := h.split
      obtain ⟨e', rfl, h6⟩ := h5.mark (by decide +kernel) (by decide)
      rw [h6.eq_nil]
      obtain ⟨k1, k2, k3⟩ := h4.word hw.2.2
      have htw : tw ≠ [] := by rintro rfl; exact hw.1 (List.eq_nil_of_length_eq_zero k3.symm)
      have hwd : isWd tw = true := isWd_of k1 (by rw [k3]; exact List.length_pos_iff.2 hw.1) (by rw [k3]; exact hw.2.1)
      have e : tw ++ [42] ++ a = tw ++ 42 :: a := by simp
      have htk := take_parts k1 (a := 42 :: a) (fun c hc => by simp at hc; subst hc; decide +kernel)
      rw [e, part1, if_neg (head_parts k1 htw _), htk.1, htk.2, if_pos hwd, if_pos (by rfl), k2]
      refine ⟨rfl, ?_⟩
      cases tw with
      | nil => exact absurd rfl htw
      | cons c r => have := part_ne (k1 c (by simp)); exact ⟨c, _, rfl, this.1, this.2.2.2⟩
    · rw [if_neg h3] at h
      have hk : k = 1 := by rcases hp.kind with e | e | e <;> simp_all
      subst hk
      obtain ⟨k1, k2, k3⟩ := h.word hw.2.2
      have htw : t ≠ [] := by rintro rfl; exact hw.1 (List.eq_nil_of_length_eq_zero k3.symm)
      have hwd : isWd t = true := isWd_of k1 (by rw [k3]; exact List.length_pos_iff.2 hw.1) (by rw [k3]; exact hw.2.1)
      have htk := take_parts k1 (a := a) (atB_head ha)
      have h42 : ¬ a.head? = some 42 := by rcases ha with rfl | ha <;> simp_all
      rw [part1, if_neg (head_parts k1 htw _), htk.1, htk.2, if_pos hwd, if_neg h42, k2]
      refine ⟨rfl, ?_⟩
      cases t with
      | nil => exact absurd rfl htw
      | cons c r => have := part_ne (k1 c (by simp)); exact ⟨c, _, rfl, this.1, this.2.2.2⟩
theorem partP_deco {p : Prt} (hp : okPrt p) {t a : List UInt8} (ha : atB a) (h : Deco (form1 p) t) : partP (t ++ a) = some (p, a) ∧ (∃ c r, t = c :: r ∧ c ≠ 32) := by
  unfold form1 at h
  by_cases hn : p.neg = true
  · rw [if_pos hn] at h
    obtain ⟨t', rfl, h8⟩ := h.mark (by decide +kernel) (by decide)
    obtain ⟨k1, -⟩ := part1_deco hp ha h8
    refine ⟨?_, 45, _, rfl, by decide⟩
    rw [hn] at k1
    rw [partP]
    exact (if_pos rfl).trans k1
  · rw [if_neg hn, List.nil_append] at h
    obtain ⟨k1, c, r, rfl, k2, k3⟩ := part1_deco hp ha h
    refine ⟨?_, c, r, rfl, k2⟩
    have hn' : p.neg = false := by simpa using hn
    rw [hn'] at k1
    rw [partP, if_neg (by simp [k3])]
    exact k1
theorem trim_two {s : List UInt8} {c : UInt8} {r : List UInt8} (h : s = c :: r) (hc : c ≠ 32) : trimB s = s ∧ trimB (32 :: s) = s ∧ trimB (32 :: 32 :: s) = s := by
  subst h
  have h1 := trim_cons (r := r) hc
  exact ⟨h1, by rw [trim_blank, h1], by rw [trim_blank, trim_blank, h1]⟩
theorem parseGo_deco : ∀ (l : List Prt) (p : Prt) (acc : List Prt) (t : List UInt8) (n : Nat), okPrt p → (∀ p ∈ l, okPrt p) → acc.length + 1 + l.length ≤ 8 → Deco (form1 p ++ Lib.joinTail [32] (l.map form1)) t → t.length < n →
    parseGo n t acc = some (acc ++ p :: l) ∧ ∃ c r, t = c :: r ∧ c ≠ 32
  | [], p, acc, t, 0, _, _, _, _, hn => by omega
  | _ :: _, p, acc, t, 0, _, _, _, _, hn => by omega
  | [], p, acc, t, n + 1, hp, _, hl, h, hn => by
    rw [show Lib.joinTail [32] (([] : List Prt).map form1) = [] by simp [Lib.joinTail], List.append_nil] at h
    obtain ⟨h1, c, r, ht, hc⟩ := partP_deco hp (a := []) (.inl rfl) h
    rw [List.append_nil] at h1
    refine ⟨?_, c, r, ht, hc⟩
    have hne : t ≠ [] := by rw [ht]; simp
    have hb : atB [] := .inl rfl
    rw [parseGo, if_neg hne, h1]
    simp only [List.length_nil, Nat.add_zero] at hl
    simp only
    rw [if_neg (fun h => h.elim (fun h => by omega) (fun h => h hb))]
    have e : trimB [] = [] := rfl
    rw [e]
    cases n with
    | zero => rw [ht] at hn; simp at hn
    | succ n => rw [parseGo, if_pos rfl]
  | p2 :: l, p, acc, t, n + 1, hp, hok, hl, h, hn => by
    have e : Lib.joinTail [32] ((p2 :: l).map form1) = 32 :: (form1 p2 ++ Lib.joinTail [32] (l.map form1)) := by simp [Lib.joinTail]
    rw [e] at h
    obtain ⟨t1, t2, rfl, h1, h2⟩ := h.split
    obtain ⟨t', ht', h3⟩ := h2.blank
    have ha : atB t2 := by rcases ht' with rfl | rfl <;> exact .inr rfl
    obtain ⟨k1, c, r, ht, hc⟩ := partP_deco hp ha h1
    have hlen : t'.length < n := by
      rw [List.length_append, ht] at hn
      rcases ht' with rfl | rfl <;> simp at hn <;> omega
    obtain ⟨k2, c2, r2, ht2, hc2⟩ := parseGo_deco l p2 (acc ++ [p]) t' n (hok p2 (by simp)) (fun x hx => hok x (by simp [hx])) (by simp at hl ⊢; omega) h3 hlen
    have htr : trimB t2 = t' := by
      have := trim_two ht2 hc2
      rcases ht' with rfl | rfl
      · exact this.2.1
      · exact this.2.2
    refine ⟨?_, c, r ++ t2, by rw [ht]; rfl, hc⟩
    have hne : t1 ++ t2 ≠ [] := by rw [ht]; simp
    simp only [List.length_cons] at hl
    rw [parseGo, if_neg hne, k1]
    simp only
    rw [if_neg (fun h => h.elim (fun h => by omega) (fun h => h ha)), htr, k2]
    simp
/-- THE PRINTED FORM, IN WHATEVER LETTERS AND WITH WHATEVER BLANKS, IS PARSED AS THE LIST -/
theorem parse_deco {l : List Prt} (hok : ∀ p ∈ l, okPrt p) (h1 : 1 ≤ l.length) (h8 : l.length ≤ 8) {t : List UInt8} (h : Deco (formL l) t) (ht : t.length ≤ 300) : parseP t = some l := by
  cases l with
  | nil => simp at h1
  | cons p l =>
    unfold formL at h
    rw [List.map_cons, Lib.join_cons] at h
    obtain ⟨k, c, r, hc, hc2⟩ := parseGo_deco l p [] t (t.length + 1) (hok p (by simp)) (fun x hx => hok x (by simp [hx])) (by simp at h8 ⊢; omega) h (by omega)
    rw [parseP, if_neg (by omega), (trim_two hc hc2).1, k]
    simp
theorem parse_form {l : List Prt} (hok : ∀ p ∈ l, okPrt p) (h1 : 1 ≤ l.length) (h8 : l.length ≤ 8) (ht : (formL l).length ≤ 300) : parseP (formL l) = some l := parse_deco hok h1 h8 (Deco.refl _) ht
theorem joinTail_len (n : Nat) : ∀ (ws : List (List UInt8)), (∀ w ∈ ws, w.length ≤ n) → (Lib.joinTail [32] ws).length ≤ ws.length * (n + 1)
  | [], _ => by simp [Lib.joinTail]
  | w :: ws, h => by
    have e : Lib.joinTail [32] (w :: ws) = 32 :: (w ++ Lib.joinTail [32] ws) := by simp [Lib.joinTail]
    have h1 := h w (by simp)
    have h2 := joinTail_len n ws (fun x hx => h x (by simp [hx]))
    rw [e]
    simp only [List.length_cons, List.length_append, Nat.add_mul, Nat.one_mul] at *
    omega
theorem join_len (n : Nat) {ws : List (List UInt8)} (h : ∀ w ∈ ws, w.length ≤ n) : (Lib.join ws [32]).length ≤ ws.length * (n + 1) := by
  cases ws with
  | nil => simp [Lib.join_nil]
  | cons w ws =>
    have h1 := h w (by simp)
    have h2 := joinTail_len n ws (fun x hx => h x (by simp [hx]))
    rw [Lib.join_cons]
    simp only [List.length_cons, List.length_append, Nat.add_mul, Nat.one_mul] at *
    omega

end Go.Proofs.YtogjgibaolppfaaGreatDoor

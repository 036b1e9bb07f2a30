/- Facts and contracts for the laws of the sender, part 1. Conditions: those that each theorem names. -/
import Derived.Lib.Join
import Derived.Lib.Hide
/- Plain facts about words: no program in sight. -/
namespace Go.Proofs.YtogjgibaolppfaaGreatDoor

def isPart (c : UInt8) : Bool := decide ((97 ≤ c.toNat ∧ c.toNat ≤ 122) ∨ (65 ≤ c.toNat ∧ c.toNat ≤ 90) ∨ (48 ≤ c.toNat ∧ c.toNat ≤ 57))
def low (c : UInt8) : UInt8 := if 65 ≤ c.toNat ∧ c.toNat ≤ 90 then c + 32 else c

theorem isPart_iff (c : UInt8) : isPart c = true ↔ (97 ≤ c.toNat ∧ c.toNat ≤ 122) ∨ (65 ≤ c.toNat ∧ c.toNat ≤ 90) ∨ (48 ≤ c.toNat ∧ c.toNat ≤ 57) := by simp [isPart]
theorem isPart_of {c : UInt8} (h : (97 ≤ c.toNat ∧ c.toNat ≤ 122) ∨ (65 ≤ c.toNat ∧ c.toNat ≤ 90) ∨ (48 ≤ c.toNat ∧ c.toNat ≤ 57)) : isPart c = true := (isPart_iff c).2 h
theorem not_isPart_of {c : UInt8} (h : ¬ ((97 ≤ c.toNat ∧ c.toNat ≤ 122) ∨ (65 ≤ c.toNat ∧ c.toNat ≤ 90) ∨ (48 ≤ c.toNat ∧ c.toNat ≤ 57))) : isPart c = false := by
  cases e : isPart c with
  | false => rfl
  | true => exact absurd ((isPart_iff c).1 e) h
theorem low_big {c : UInt8} (h : 65 ≤ c.toNat ∧ c.toNat ≤ 90) : ((low c).toNat : Int) = c.toNat - 65 + 97 := by
  unfold low; rw [if_pos h, UInt8.toNat_add]; simp; omega
theorem low_small {c : UInt8} (h : ¬ (65 ≤ c.toNat ∧ c.toNat ≤ 90)) : low c = c := by
  unfold low; rw [if_neg h]

/-- What 'small' returns first. -/
def smallV (c : UInt8) : Int := if isPart c = true then ((low c).toNat : Int) else 0
theorem smallV_big {c : UInt8} (h : 65 ≤ c.toNat ∧ c.toNat ≤ 90) : smallV c = c.toNat - 65 + 97 := by
  unfold smallV; rw [if_pos (isPart_of (by omega)), low_big h]
theorem smallV_small {c : UInt8} (h : (97 ≤ c.toNat ∧ c.toNat ≤ 122) ∨ (48 ≤ c.toNat ∧ c.toNat ≤ 57)) : smallV c = c.toNat := by
  unfold smallV; rw [if_pos (isPart_of (by omega)), low_small (by omega)]
theorem smallV_none {c : UInt8} (h : isPart c = false) : smallV c = 0 := by
  unfold smallV; rw [if_neg (by rw [h]; simp)]

/-- The words of a list of bytes: 'cur' is the run so far (at most 30 bytes of it). -/
def wordsGo : List UInt8 → List UInt8 → List (List UInt8)
  | cur, [] => if cur = [] then [] else [cur]
  | cur, c :: r => if isPart c = true then wordsGo (if cur.length < 30 then cur ++ [low c] else cur) r
      else (if cur = [] then [] else [cur]) ++ wordsGo [] r
def wordsOf (l : List UInt8) : List (List UInt8) := wordsGo [] l

theorem wordsGo_part {cur r : List UInt8} {c : UInt8} (h : isPart c = true) (h2 : cur.length < 30) : wordsGo cur (c :: r) = wordsGo (cur ++ [low c]) r := by
  rw [wordsGo, if_pos h, if_pos h2]
theorem wordsGo_full {cur r : List UInt8} {c : UInt8} (h : isPart c = true) (h2 : ¬ cur.length < 30) : wordsGo cur (c :: r) = wordsGo cur r := by
  rw [wordsGo, if_pos h, if_neg h2]
/-- a word is over: at a byte that is no part, or at the end -/
theorem wordsGo_over {cur r : List UInt8} (h : ∀ c r', r = c :: r' → isPart c = false) (hc : cur ≠ []) : wordsGo cur r = cur :: wordsGo [] r := by
  cases r with
  | nil => simp [wordsGo, hc]
  | cons c r => simp [wordsGo, h c r rfl, hc]
/-- no word: a byte that is no part is passed over -/
theorem wordsGo_skip {r : List UInt8} (h : ∀ c r', r = c :: r' → isPart c = false) : wordsGo [] r = wordsGo [] (r.drop 1) := by
  cases r with
  | nil => rfl
  | cons c r => simp [wordsGo, h c r rfl]

/-- A word: 1 to 30 bytes, small letters and digits. -/
def okWord (x : List UInt8) : Prop := x ≠ [] ∧ x.length ≤ 30 ∧ ∀ c ∈ x, isPart c = true ∧ low c = c

theorem low_low (c : UInt8) : low (low c) = low c := by
  by_cases h : 65 ≤ c.toNat ∧ c.toNat ≤ 90
  · have := low_big h
    exact low_small (by omega)
  · rw [low_small h]; exact low_small h
theorem part_low {c : UInt8} (h : isPart c = true) : isPart (low c) = true := by
  by_cases hb : 65 ≤ c.toNat ∧ c.toNat ≤ 90
  · have := low_big hb
    exact isPart_of (by omega)
  · rw [low_small hb]; exact h

theorem wordsGo_ok : ∀ (l cur : List UInt8), (cur = [] ∨ okWord cur) → ∀ x ∈ wordsGo cur l, okWord x
  | [], cur, hc, x, hx => by
    unfold wordsGo at hx
    split at hx
    · simp at hx
    · rename_i hne
      simp at hx; subst hx
      exact hc.resolve_left hne
  | c :: r, cur, hc, x, hx => by
    unfold wordsGo at hx
    split at hx
    · rename_i hp
      refine wordsGo_ok r _ (.inr ?_) x hx
      split
      · rename_i hl
        refine ⟨by simp, by simp; omega, fun d hd => ?_⟩
        rcases List.mem_append.1 hd with hd | hd
        · rcases hc with rfl | hc
          · simp at hd
          · exact hc.2.2 d hd
        · simp at hd; subst hd; exact ⟨part_low hp, low_low c⟩
      · rename_i hl
        rcases hc with rfl | hc
        · simp at hl
        · exact hc
    · rcases List.mem_append.1 hx with hx | hx
      · split at hx
        · simp at hx
        · rename_i hne; simp at hx; subst hx; exact hc.resolve_left hne
      · exact wordsGo_ok r [] (.inl rfl) x hx
theorem words_ok (l : List UInt8) : ∀ x ∈ wordsOf l, okWord x := wordsGo_ok l [] (.inl rfl)

theorem lens_nil : Lib.lens [] = 0 := rfl
theorem wordsGo_lens : ∀ (l cur : List UInt8), Lib.lens (wordsGo cur l) + (wordsGo cur l).length ≤ 2 * l.length + cur.length + (if cur = [] then 0 else 1)
  | [], cur => by
    unfold wordsGo
    split <;> simp_all [Lib.lens]
  | c :: r, cur => by
    unfold wordsGo
    split
    · have := wordsGo_lens r (if cur.length < 30 then cur ++ [low c] else cur)
      split at this <;> split at this <;> split <;> simp_all <;> omega
    · have := wordsGo_lens r []
      split
      · rw [List.nil_append]; simp only [if_true, List.length_nil] at this; simp; omega
      · simp only [if_true, List.length_nil] at this
        have e : Lib.lens ([cur] ++ wordsGo [] r) = cur.length + Lib.lens (wordsGo [] r) := by simp [Lib.lens]
        rw [e]; simp; omega
theorem words_lens (l : List UInt8) : Lib.lens (wordsOf l) + (wordsOf l).length ≤ 2 * l.length := by
  have := wordsGo_lens l []; simpa [wordsOf] using this

def normOf (ws : List (List UInt8)) : List UInt8 := Lib.join ws [32]

theorem normOf_len (ws : List (List UInt8)) : (normOf ws).length ≤ Lib.lens ws + ws.length := by
  cases ws with
  | nil => simp [normOf, Lib.join_nil]
  | cons x r => rw [normOf, Lib.join_length]; simp; omega

end Go.Proofs.YtogjgibaolppfaaGreatDoor
namespace Go.Proofs.YtogjgibaolppfaaGreatDoor

theorem wordsGo_word : ∀ (x cur r : List UInt8), (∀ c ∈ x, isPart c = true ∧ low c = c) → cur.length + x.length ≤ 30 → wordsGo cur (x ++ r) = wordsGo (cur ++ x) r
  | [], cur, r, _, _ => by simp
  | c :: x, cur, r, h, hl => by
    have hc := h c (by simp)
    simp only [List.length_cons] at hl
    rw [List.cons_append, wordsGo_part hc.1 (by omega), hc.2, wordsGo_word x (cur ++ [c]) r (fun d hd => h d (by simp [hd])) (by simp; omega)]
    simp

theorem isPart_blank : isPart 32 = false := by decide +kernel

theorem wordsGo_tail : ∀ (ws : List (List UInt8)) (cur : List UInt8), cur ≠ [] → (∀ x ∈ ws, okWord x) → wordsGo cur (Lib.joinTail [32] ws) = cur :: ws
  | [], cur, hc, _ => by simp [Lib.joinTail, wordsGo, hc]
  | y :: r, cur, hc, h => by
    have hy := h y (by simp)
    have e : Lib.joinTail [32] (y :: r) = 32 :: (y ++ Lib.joinTail [32] r) := by simp [Lib.joinTail]
    have e2 : wordsGo cur (32 :: (y ++ Lib.joinTail [32] r)) = [cur] ++ wordsGo [] (y ++ Lib.joinTail [32] r) := by
      conv => lhs; rw [wordsGo]
      rw [if_neg (by rw [isPart_blank]; simp), if_neg hc]
    rw [e, e2, wordsGo_word y [] _ hy.2.2 (by have := hy.2.1; simp; omega), List.nil_append, wordsGo_tail r y hy.1 (fun x hx => h x (by simp [hx]))]
    rfl

theorem words_norm {ws : List (List UInt8)} (h : ∀ x ∈ ws, okWord x) : wordsOf (normOf ws) = ws := by
  cases ws with
  | nil => rfl
  | cons x r =>
    have hx := h x (by simp)
    unfold wordsOf normOf
    rw [Lib.join_cons, wordsGo_word x [] _ hx.2.2 (by have := hx.2.1; simp; omega), List.nil_append, wordsGo_tail r x hx.1 (fun y hy => h y (by simp [hy]))]

theorem words_again (l : List UInt8) : wordsOf (normOf (wordsOf l)) = wordsOf l := words_norm (words_ok l)

theorem norm_tells (a b : List UInt8) : (wordsOf a = wordsOf b) ↔ normOf (wordsOf a) = normOf (wordsOf b) :=
  ⟨fun h => by rw [h], fun h => by rw [← words_again a, h, words_again b]⟩

theorem wordsGo_joined {c : UInt8} (hc : isPart c = false) (b : List UInt8) : ∀ (a cur : List UInt8), wordsGo cur (a ++ c :: b) = wordsGo cur a ++ wordsGo [] b
  | [], cur => by
    rw [List.nil_append]
    conv => lhs; rw [wordsGo]
    conv => rhs; rw [wordsGo]
    rw [if_neg (by rw [hc]; simp)]
  | d :: a, cur => by
    rw [List.cons_append]
    conv => lhs; rw [wordsGo]
    conv => rhs; rw [wordsGo]
    split
    · exact wordsGo_joined hc b a _
    · rw [wordsGo_joined hc b a [], List.append_assoc]
theorem words_joined {c : UInt8} (hc : isPart c = false) (a b : List UInt8) : wordsOf (a ++ [c] ++ b) = wordsOf a ++ wordsOf b := by
  unfold wordsOf; rw [List.append_assoc, List.singleton_append]; exact wordsGo_joined hc b a []

/-- two bytes that words do not tell apart -/
def alike (c d : UInt8) : Prop := isPart c = isPart d ∧ low c = low d
theorem wordsGo_alike : ∀ (a b cur : List UInt8), a.length = b.length → (∀ i (h : i < a.length) (h' : i < b.length), alike a[i] b[i]) → wordsGo cur a = wordsGo cur b
  | [], [], _, _, _ => rfl
  | [], _ :: _, _, h, _ => by simp at h
  | _ :: _, [], _, h, _ => by simp at h
  | c :: a, d :: b, cur, h, hi => by
    have h0 := hi 0 (by simp) (by simp)
    simp only [List.getElem_cons_zero] at h0
    have hr : ∀ cur, wordsGo cur a = wordsGo cur b := fun cur => wordsGo_alike a b cur (by simpa using h) (fun i h1 h2 => by have := hi (i + 1) (by simpa using h1) (by simpa using h2); simpa using this)
    rw [wordsGo, wordsGo, h0.1, h0.2, hr, hr]

theorem alike_refl (c : UInt8) : alike c c := ⟨rfl, rfl⟩
theorem low_toNat (c : UInt8) : (low c).toNat = if 65 ≤ c.toNat ∧ c.toNat ≤ 90 then c.toNat + 32 else c.toNat := by
  split
  · rename_i h; have := low_big h; omega
  · rename_i h; rw [low_small h]
theorem alike_swap {c d : UInt8} (h : (65 ≤ c.toNat ∧ c.toNat ≤ 90 ∧ d.toNat = c.toNat + 32) ∨ (97 ≤ c.toNat ∧ c.toNat ≤ 122 ∧ d.toNat + 32 = c.toNat)) : alike c d := by
  refine ⟨?_, ?_⟩
  · rw [Bool.eq_iff_iff, isPart_iff, isPart_iff]; omega
  · apply UInt8.toNat_inj.1
    rw [low_toNat, low_toNat]
    split <;> split <;> omega

/-- how many elements of l are among the first k -/
def among (l : List (List UInt8)) (k : Nat) : Nat := l.countP (fun x => decide (x ∈ l.take k))
theorem among_zero (l : List (List UInt8)) : among l 0 = 0 := by simp [among]
theorem among_all (l : List (List UInt8)) : among l l.length = l.length := by
  unfold among; rw [List.take_length, List.countP_eq_length]; intro x hx; simpa using hx
theorem mem_take_succ' {α : Type} {l : List α} {k : Nat} (hk : k < l.length) (x : α) : x ∈ l.take (k + 1) ↔ x ∈ l.take k ∨ x = l[k] := by
  rw [List.take_succ_eq_append_getElem hk, List.mem_append, List.mem_singleton]
theorem among_old {l : List (List UInt8)} {k : Nat} (hk : k < l.length) (h : l[k] ∈ l.take k) : among l (k + 1) = among l k := by
  unfold among
  congr 1; funext x
  rw [Bool.eq_iff_iff]
  simp only [decide_eq_true_eq, mem_take_succ' hk]
  exact ⟨fun e => e.elim id (fun e => e ▸ h), .inl⟩
theorem countP_or_disj {α : Type} (p q : α → Bool) : ∀ (l : List α), (∀ x ∈ l, ¬ (p x = true ∧ q x = true)) → l.countP (fun x => p x || q x) = l.countP p + l.countP q
  | [], _ => rfl
  | x :: l, h => by
    have hx := h x (by simp)
    rw [List.countP_cons, List.countP_cons, List.countP_cons, countP_or_disj p q l (fun y hy => h y (by simp [hy]))]
    cases hp : p x <;> cases hq : q x <;> simp_all <;> omega
theorem among_new {l : List (List UInt8)} {k : Nat} (hk : k < l.length) (h : ¬ l[k] ∈ l.take k) : among l (k + 1) = among l k + l.count l[k] := by
  unfold among
  rw [List.count_eq_countP, ← countP_or_disj]
  · congr 1; funext x
    rw [Bool.eq_iff_iff]
    simp [mem_take_succ' hk]
  · rintro x hx ⟨h1, h2⟩
    have e : x = l[k] := by simpa using h2
    subst e
    exact h (by simpa using h1)
theorem among_le (l : List (List UInt8)) (k : Nat) : among l k ≤ l.length := List.countP_le_length

end Go.Proofs.YtogjgibaolppfaaGreatDoor
/- Plain: the search of a phrase in a text by the borders of the phrase. -/
namespace Go.Proofs.YtogjgibaolppfaaGreatDoor

abbrev Wd := List UInt8

/-- n is the length of the longest beginning of p at the end of t -/
structure IsL (p t : List Wd) (n : Nat) : Prop where
  le : n ≤ p.length
  suf : p.take n <:+ t
  max : ∀ m, m ≤ p.length → p.take m <:+ t → m ≤ n

theorem IsL.unique {p t : List Wd} {a b : Nat} (h : IsL p t a) (k : IsL p t b) : a = b :=
  Nat.le_antisymm (k.max a h.le h.suf) (h.max b k.le k.suf)
theorem IsL.nil (p : List Wd) : IsL p [] 0 := ⟨Nat.zero_le _, by simp, fun m hm h => by
  have := h.length_le
  rw [List.length_take, List.length_nil] at this; omega⟩
theorem IsL.len {p t : List Wd} {n : Nat} (h : IsL p t n) : n ≤ t.length := by
  have := h.suf.length_le
  rw [List.length_take] at this; have := h.le; omega

theorem suffix_of_shorter {a b t : List Wd} (ha : a <:+ t) (hb : b <:+ t) (h : a.length ≤ b.length) : a <:+ b := List.suffix_of_suffix_length_le ha hb h

/-- what falls back -/
structure Falls (p t : List Wd) (w : Wd) (n : Nat) : Prop where
  le : n ≤ p.length
  suf : p.take n <:+ t
  max : ∀ m, m < p.length → p.take m <:+ t → p[m]? = some w → m ≤ n

theorem Falls.start {p t : List Wd} {n : Nat} (h : IsL p t n) (w : Wd) : Falls p t w n := ⟨h.le, h.suf, fun m hm hs _ => h.max m (by omega) hs⟩

/-- n is no end: on to the border of the beginning of length n -/
theorem Falls.next {p t : List Wd} {w : Wd} {n b : Nat} (h : Falls p t w n) (hn : 0 < n) (hw : p[n]? ≠ some w) (hb : IsL p ((p.take n).drop 1) b) : Falls p t w b ∧ b < n := by
  have hl := hb.len
  have hbn : b < n := by
    rw [List.length_drop, List.length_take] at hl; omega
  refine ⟨⟨hb.le, (hb.suf.trans (List.drop_suffix _ _)).trans h.suf, fun m hm hs hmw => ?_⟩, hbn⟩
  have hmn := h.max m hm hs hmw
  have hne : m ≠ n := fun e => by subst e; exact hw hmw
  refine hb.max m (by omega) ?_
  have h1 : p.take m <:+ p.take n := suffix_of_shorter hs h.suf (by rw [List.length_take, List.length_take]; omega)
  refine suffix_of_shorter h1 (List.drop_suffix 1 _) ?_
  rw [List.length_take, List.length_drop, List.length_take]
  have := h.le
  omega

theorem take_succ_suffix {p t : List Wd} {m : Nat} {w : Wd} : (m < p.length ∧ p.take (m + 1) <:+ t ++ [w]) ↔ (p[m]? = some w ∧ p.take m <:+ t) := by
  constructor
  · rintro ⟨hm, hs⟩
    rw [List.take_succ_eq_append_getElem hm] at hs
    obtain ⟨u, hu⟩ := hs
    rw [← List.append_assoc] at hu
    have := List.append_inj' hu rfl
    refine ⟨?_, u, this.1⟩
    have h2 := this.2
    simp at h2
    rw [List.getElem?_eq_getElem hm, h2]
  · rintro ⟨hm, u, hu⟩
    obtain ⟨hlt, rfl⟩ := List.getElem?_eq_some_iff.1 hm
    refine ⟨hlt, u, ?_⟩
    rw [List.take_succ_eq_append_getElem hlt, ← List.append_assoc, hu]

theorem Falls.hit {p t : List Wd} {w : Wd} {n : Nat} (h : Falls p t w n) (hw : p[n]? = some w) : IsL p (t ++ [w]) (n + 1) := by
  obtain ⟨hlt, _⟩ := List.getElem?_eq_some_iff.1 hw
  refine ⟨hlt, (take_succ_suffix.2 ⟨hw, h.suf⟩).2, fun m hm hs => ?_⟩
  cases m with
  | zero => omega
  | succ m =>
    have := take_succ_suffix.1 ⟨by omega, hs⟩
    have := h.max m (by omega) this.2 this.1
    omega
theorem Falls.miss {p t : List Wd} {w : Wd} (h : Falls p t w 0) (hw : p[0]? ≠ some w) : IsL p (t ++ [w]) 0 := by
  refine ⟨Nat.zero_le _, by simp, fun m hm hs => ?_⟩
  cases m with
  | zero => omega
  | succ m =>
    have := take_succ_suffix.1 ⟨by omega, hs⟩
    have h0 := h.max m (by omega) this.2 this.1
    obtain rfl : m = 0 := by omega
    exact absurd this.1 hw

/-- the borders of a phrase -/
def Borders (p : List Wd) (l : List Nat) (k : Nat) : Prop := ∀ j, 1 ≤ j → j ≤ k → ∃ b, l[j - 1]? = some b ∧ IsL p ((p.take j).drop 1) b

theorem border_one (p : List Wd) : IsL p ((p.take 1).drop 1) 0 := by
  have : (p.take 1).drop 1 = [] := by cases p <;> simp
  rw [this]; exact IsL.nil p
theorem drop_one_take_succ {p : List Wd} {k : Nat} {w : Wd} (hk : 1 ≤ k) (hw : p[k]? = some w) : (p.take (k + 1)).drop 1 = (p.take k).drop 1 ++ [w] := by
  obtain ⟨hlt, rfl⟩ := List.getElem?_eq_some_iff.1 hw
  rw [List.take_succ_eq_append_getElem hlt, List.drop_append_of_le_length (by rw [List.length_take]; omega)]

/-- how often p stands in t, by the ends -/
def occE (t p : List Wd) (i : Nat) : Nat := (List.range i).countP fun j => p.isSuffixOf (t.take (j + 1))
/-- .. by the beginnings -/
def occS (t p : List Wd) (i : Nat) : Nat := (List.range i).countP fun k => p.isPrefixOf (t.drop k)
/-- how often p stands in t -/
def occ (t p : List Wd) : Nat := occS t p (t.length + 1 - p.length)

theorem occE_succ (t p : List Wd) (i : Nat) : occE t p (i + 1) = occE t p i + if p.isSuffixOf (t.take (i + 1)) then 1 else 0 := by
  unfold occE; rw [List.range_succ, List.countP_append]; simp [List.countP_cons]
theorem occS_succ (t p : List Wd) (i : Nat) : occS t p (i + 1) = occS t p i + if p.isPrefixOf (t.drop i) then 1 else 0 := by
  unfold occS; rw [List.range_succ, List.countP_append]; simp [List.countP_cons]

theorem IsL.full {p t : List Wd} {n : Nat} (h : IsL p t n) : n = p.length ↔ p <:+ t := by
  constructor
  · rintro rfl; simpa using h.suf
  · intro hs; exact Nat.le_antisymm h.le (h.max _ (Nat.le_refl _) (by simpa using hs))

theorem suffix_take_iff {p t : List Wd} {k : Nat} (hk : k + p.length ≤ t.length) : p <:+ t.take (k + p.length) ↔ p <+: t.drop k := by
  have hl : (t.take (k + p.length)).length = k + p.length := by rw [List.length_take]; omega
  have e : (t.take (k + p.length)).drop k = (t.drop k).take p.length := by rw [List.drop_take]; congr 1; omega
  rw [List.suffix_iff_eq_drop, hl, List.prefix_iff_eq_take]
  rw [show k + p.length - p.length = k by omega, e]

theorem occE_small {t p : List Wd} : ∀ i, i < p.length → occE t p i = 0 := by
  intro i hi
  unfold occE
  rw [List.countP_eq_zero]
  intro j hj
  have hj := List.mem_range.1 hj
  intro h
  have := (List.isSuffixOf_iff_suffix.1 h).length_le
  rw [List.length_take] at this
  omega

theorem occ_ends {t p : List Wd} (hp : p ≠ []) : occE t p t.length = occ t p := by
  have hpl : 0 < p.length := List.length_pos_iff.2 hp
  by_cases hlt : t.length < p.length
  · rw [occE_small _ hlt, occ, show t.length + 1 - p.length = 0 by omega]; rfl
  · have key : ∀ i, i + p.length ≤ t.length + 1 → occE t p (i + p.length - 1) = occS t p i := by
      intro i
      induction i with
      | zero => intro _; rw [Nat.zero_add, occE_small _ (by omega)]; rfl
      | succ i ih =>
        intro hi
        rw [show i + 1 + p.length - 1 = (i + p.length - 1) + 1 by omega, occE_succ, occS_succ, ih (by omega), show i + p.length - 1 + 1 = i + p.length by omega]
        have := suffix_take_iff (p := p) (t := t) (k := i) (by omega)
        congr 1
        by_cases h : p <+: t.drop i
        · rw [if_pos (List.isSuffixOf_iff_suffix.2 (this.2 h)), if_pos (List.isPrefixOf_iff_prefix.2 h)]
        · rw [if_neg (fun e => h (this.1 (List.isSuffixOf_iff_suffix.1 e))), if_neg (fun e => h (List.isPrefixOf_iff_prefix.1 e))]
    have := key (t.length + 1 - p.length) (by omega)
    rw [show t.length + 1 - p.length + p.length - 1 = t.length by omega] at this
    exact this

/-- a phrase of one word -/
theorem occ_one (t : List Wd) (w : Wd) : occ t [w] = t.count w := by
  unfold occ
  simp only [List.length_singleton, Nat.add_sub_cancel]
  induction t with
  | nil => rfl
  | cons x r ih =>
    unfold occS
    rw [List.length_cons, List.range_succ_eq_map, List.countP_cons, List.countP_map, List.count_cons, ← ih]
    unfold occS
    congr 1
    by_cases h : x = w
    · subst h; simp [List.isPrefixOf]
    · have h' : ¬ w = x := fun e => h e.symm
      simp [List.isPrefixOf, h, h']
end Go.Proofs.YtogjgibaolppfaaGreatDoor

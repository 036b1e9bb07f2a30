import Derived.Test.YtmfnhfkgkdibfaaGreatTokM
namespace Go.Proofs.YtmfnhfkgkdibfaaGreat

theorem wordsGo_word : ∀ (x cur r : List UInt8), (∀ c ∈ x, isPart c = true ∧ low c = c) → cur.length + x.length ≤ 30 → wordsGo cur (x ++ r) = wordsGo (cur ++ x) r
  | [], cur, r, _, _ => by simp
  | c :: x, cur, r, h, hl => by
    have hc := h c (by simp)
    simp only [List.length_cons] at hl
    rw [List.cons_append, wordsGo_part hc.1 (by omega), hc.2, wordsGo_word x (cur ++ [c]) r (fun d hd => h d (by simp [hd])) (by simp; omega)]
    simp

theorem isPart_blank : isPart 32 = false := by decide +kernel

theorem wordsGo_tail : ∀ (ws : List (List UInt8)) (cur : List UInt8), cur ≠ [] → (∀ x ∈ ws, okWord x) → wordsGo cur (Lib.joinTail [32] ws) = cur :: ws
  | [], cur, hc, _ => by simp [Lib.joinTail, wordsGo, hc]
  | y :: r, cur, hc, h => by
    have hy := h y (by simp)
    have e : Lib.joinTail [32] (y :: r) = 32 :: (y ++ Lib.joinTail [32] r) := by simp [Lib.joinTail]
    have e2 : wordsGo cur (32 :: (y ++ Lib.joinTail [32] r)) = [cur] ++ wordsGo [] (y ++ Lib.joinTail [32] r) := by
      conv => lhs; rw [wordsGo]
      rw [if_neg (by rw [isPart_blank]; simp), if_neg hc]
    rw [e, e2, wordsGo_word y [] _ hy.2.2 (by have := hy.2.1; simp; omega), List.nil_append, wordsGo_tail r y hy.1 (fun x hx => h x (by simp [hx]))]
    rfl

theorem words_norm {ws : List (List UInt8)} (h : ∀ x ∈ ws, okWord x) : wordsOf (normOf ws) = ws := by
  cases ws with
  | nil => rfl
  | cons x r =>
    have hx := h x (by simp)
    unfold wordsOf normOf
    rw [Lib.join_cons, wordsGo_word x [] _ hx.2.2 (by have := hx.2.1; simp; omega), List.nil_append, wordsGo_tail r x hx.1 (fun y hy => h y (by simp [hy]))]

theorem words_again (l : List UInt8) : wordsOf (normOf (wordsOf l)) = wordsOf l := words_norm (words_ok l)

theorem norm_tells (a b : List UInt8) : (wordsOf a = wordsOf b) ↔ normOf (wordsOf a) = normOf (wordsOf b) :=
  ⟨fun h => by rw [h], fun h => by rw [← words_again a, h, words_again b]⟩

theorem wordsGo_joined {c : UInt8} (hc : isPart c = false) (b : List UInt8) : ∀ (a cur : List UInt8), wordsGo cur (a ++ c :: b) = wordsGo cur a ++ wordsGo [] b
  | [], cur => by
    rw [List.nil_append]
    conv => lhs; rw [wordsGo]
    conv => rhs; rw [wordsGo]
    rw [if_neg (by rw [hc]; simp)]
  | d :: a, cur => by
    rw [List.cons_append]
    conv => lhs; rw [wordsGo]
    conv => rhs; rw [wordsGo]
    split
    · exact wordsGo_joined hc b a _
    · rw [wordsGo_joined hc b a [], List.append_assoc]
theorem words_joined {c : UInt8} (hc : isPart c = false) (a b : List UInt8) : wordsOf (a ++ [c] ++ b) = wordsOf a ++ wordsOf b := by
  unfold wordsOf; rw [List.append_assoc, List.singleton_append]; exact wordsGo_joined hc b a []

/-- two bytes that words do not tell apart -/
def alike (c d : UInt8) : Prop := isPart c = isPart d ∧ low c = low d
theorem wordsGo_alike : ∀ (a b cur : List UInt8), a.length = b.length → (∀ i (h : i < a.length) (h' : i < b.length), alike a[i] b[i]) → wordsGo cur a = wordsGo cur b
  | [], [], _, _, _ => rfl
  | [], _ :: _, _, h, _ => by simp at h
  | _ :: _, [], _, h, _ => by simp at h
  | c :: a, d :: b, cur, h, hi => by
    have h0 := hi 0 (by simp) (by simp)
    simp only [List.getElem_cons_zero] at h0
    have hr : ∀ cur, wordsGo cur a = wordsGo cur b := fun cur => wordsGo_alike a b cur (by simpa using h) (fun i h1 h2 => by have := hi (i + 1) (by simpa using h1) (by simpa using h2); simpa using this)
    rw [wordsGo, wordsGo, h0.1, h0.2, hr, hr]

theorem alike_refl (c : UInt8) : alike c c := ⟨rfl, rfl⟩
theorem low_toNat (c : UInt8) : (low c).toNat = if 65 ≤ c.toNat ∧ c.toNat ≤ 90 then c.toNat + 32 else c.toNat := by
  split
  · rename_i h; have := low_big h; omega
  · rename_i h; rw [low_small h]
theorem alike_swap {c d : UInt8} (h : (65 ≤ c.toNat ∧ c.toNat ≤ 90 ∧ d.toNat = c.toNat + 32) ∨ (97 ≤ c.toNat ∧ c.toNat ≤ 122 ∧ d.toNat + 32 = c.toNat)) : alike c d := by
  refine ⟨?_, ?_⟩
  · rw [Bool.eq_iff_iff, isPart_iff, isPart_iff]; omega
  · apply UInt8.toNat_inj.1
    rw [low_toNat, low_toNat]
    split <;> split <;> omega

/-- how many elements of l are among the first k -/
def among (l : List (List UInt8)) (k : Nat) : Nat := l.countP (fun x => decide (x ∈ l.take k))
theorem among_zero (l : List (List UInt8)) : among l 0 = 0 := by simp [among]
theorem among_all (l : List (List UInt8)) : among l l.length = l.length := by
  unfold among; rw [List.take_length, List.countP_eq_length]; intro x hx; simpa using hx
theorem mem_take_succ' {α : Type} {l : List α} {k : Nat} (hk : k < l.length) (x : α) : x ∈ l.take (k + 1) ↔ x ∈ l.take k ∨ x = l[k] := by
  rw [List.take_succ_eq_append_getElem hk, List.mem_append, List.mem_singleton]
theorem among_old {l : List (List UInt8)} {k : Nat} (hk : k < l.length) (h : l[k] ∈ l.take k) : among l (k + 1) = among l k := by
  unfold among
  congr 1; funext x
  rw [Bool.eq_iff_iff]
  simp only [decide_eq_true_eq, mem_take_succ' hk]
  exact ⟨fun e => e.elim id (fun e => e ▸ h), .inl⟩
theorem countP_or_disj {α : Type} (p q : α → Bool) : ∀ (l : List α), (∀ x ∈ l, ¬ (p x = true ∧ q x = true)) → l.countP (fun x => p x || q x) = l.countP p + l.countP q
  | [], _ => rfl
  | x :: l, h => by
    have hx := h x (by simp)
    rw [List.countP_cons, List.countP_cons, List.countP_cons, countP_or_disj p q l (fun y hy => h y (by simp [hy]))]
    cases hp : p x <;> cases hq : q x <;> simp_all <;> omega
theorem among_new {l : List (List UInt8)} {k : Nat} (hk : k < l.length) (h : ¬ l[k] ∈ l.take k) : among l (k + 1) = among l k + l.count l[k] := by
  unfold among
  rw [List.count_eq_countP, ← countP_or_disj]
  · congr 1; funext x
    rw [Bool.eq_iff_iff]
    simp [mem_take_succ' hk]
  · rintro x hx ⟨h1, h2⟩
    have e : x = l[k] := by simpa using h2
    subst e
    exact h (by simpa using h1)
theorem among_le (l : List (List UInt8)) (k : Nat) : among l k ≤ l.length := List.countP_le_length

end Go.Proofs.YtmfnhfkgkdibfaaGreat

/- Plain facts for the laws of chapter 19: how long a delta is, what a delta does that is written operation by operation. -/
import Derived.Test.YtfdholhfdceedaaDoorLng
import Derived.Test.YtfdholhfdceedaaDoorPfx
namespace Go.Proofs.YtfdholhfdceedaaDoor
open Go.RowKit

theorem groups_len : ∀ (f z k : Nat), 1 ≤ k → z < 128 ^ k → (groupsF f z).length ≤ k
  | 0, z, k, hk, _ => by simpa [groupsF] using hk
  | f + 1, z, k, hk, hz => by
    unfold groupsF
    split
    · simpa using hk
    · obtain ⟨j, rfl⟩ : ∃ j, k = j + 1 := ⟨k - 1, by omega⟩
      have hj : 1 ≤ j := by
        rcases Nat.lt_or_ge 0 j with h | h
        · exact h
        · obtain rfl : j = 0 := by omega
          omega
      have := groups_len f (z / 128) j hj (by rw [Nat.pow_succ] at hz; omega)
      simp; omega
theorem put_len {n k : Nat} (hk : 1 ≤ k) (h : 2 * n < 128 ^ k) : (putInt (n : Int)).length ≤ k := by
  unfold putInt
  refine groups_len 9 _ k hk ?_
  unfold zig; rw [if_neg (by omega)]
  have : (2 * (n : Int)).toNat = 2 * n := by omega
  rw [this]; exact h
theorem put_one {n : Nat} (h : n ≤ 63) : (putInt (n : Int)).length ≤ 1 := put_len (by omega) (by omega)
theorem put_two {n : Nat} (h : n ≤ 8191) : (putInt (n : Int)).length ≤ 2 := put_len (by omega) (by omega)
theorem put_three {n : Nat} (h : n ≤ 8192) : (putInt (n : Int)).length ≤ 3 := put_len (by omega) (by omega)
theorem put_five {n : Nat} (h : n ≤ 4294967295) : (putInt (n : Int)).length ≤ 5 := put_len (by omega) (by omega)

def nBytes (l : List DOp) : Nat := (l.flatMap DOp.bytes).length
theorem nBytes_app (a b : List DOp) : nBytes (a ++ b) = nBytes a + nBytes b := by unfold nBytes; rw [List.flatMap_append, List.length_append]
theorem nBytes_cons (x : DOp) (l : List DOp) : nBytes (x :: l) = x.bytes.length + nBytes l := by unfold nBytes; rw [List.flatMap_cons, List.length_append]
theorem ins_bytes {x : List UInt8} (hx : x.length ≤ 8191) : nBytes (insL x) ≤ x.length + 3 := by
  unfold insL
  split
  · simp [nBytes]
  · have h0 := put_one (n := 0) (by omega)
    have h1 := put_two hx
    simp [nBytes, DOp.bytes, putStr] at *; omega
theorem ins_bytes_all {x : List UInt8} (hx : x.length ≤ 8192) : nBytes (insL x) ≤ x.length + 4 := by
  unfold insL
  split
  · simp [nBytes]
  · have h0 := put_one (n := 0) (by omega)
    have h1 := put_three hx
    simp [nBytes, DOp.bytes, putStr] at *; omega
theorem ins_bytes_few {x : List UInt8} (hx : x.length ≤ 7) : nBytes (insL x) ≤ 9 := by
  unfold insL
  split
  · simp [nBytes]
  · have h0 := put_one (n := 0) (by omega)
    have h1 := put_one (n := x.length) (by omega)
    simp [nBytes, DOp.bytes, putStr] at *; omega
theorem copy_bytes {n off : Nat} (h0 : 8 ≤ n) (h : off + n ≤ 8192) : (⟨n, off, []⟩ : DOp).bytes.length ≤ 4 := by
  unfold DOp.bytes
  rw [if_pos (by show 0 < n; omega), List.length_append]
  simp only []
  have ho := put_two (n := off) (by omega)
  by_cases h1 : n ≤ 8191
  · have := put_two h1; omega
  · obtain rfl : n = 8192 := by omega
    obtain rfl : off = 0 := by omega
    have h3 := put_three (n := 8192) (by omega)
    have h2 := put_one (n := 0) (by omega)
    omega

theorem longD_fit (o s : List UInt8) : (longD o s).2 + (longD o s).1 ≤ o.length := (longAt_ok o s o.length (Nat.le_refl _)).2.1

theorem ops_bytes {o : List UInt8} (ho : o.length ≤ 8192) : ∀ (k : Nat) (rest fresh : List UInt8), rest.length ≤ k → fresh.length + rest.length ≤ 8191 → nBytes (opsR o rest fresh) ≤ fresh.length + rest.length + 3
  | _, [], fresh, _, hT => by rw [opsR_nil]; exact ins_bytes (by simpa using hT)
  | 0, _ :: _, _, hk, _ => by simp at hk
  | k + 1, c :: t, fresh, hk, hT => by
    by_cases h : 8 ≤ (longD o (c :: t)).1
    · rw [opsR_hit h, nBytes_app, nBytes_cons]
      have h1 := ins_bytes (x := fresh) (by omega)
      have hfit := longD_fit o (c :: t)
      have h2 := copy_bytes (off := (longD o (c :: t)).2) h (by omega)
      have hl := longD_le o (c :: t)
      have h3 := ops_bytes ho k ((c :: t).drop (longD o (c :: t)).1) [] (by simp at hk ⊢; omega) (by simp at hT ⊢; omega)
      simp only [List.length_nil, List.length_drop] at h3
      omega
    · rw [opsR_miss h]
      have := ops_bytes ho k t (fresh ++ [c]) (by simpa using hk) (by simp at hT ⊢; omega)
      simp at this ⊢; omega
theorem ops_bytes_all {o : List UInt8} (ho : o.length ≤ 8192) : ∀ (k : Nat) (rest fresh : List UInt8), rest.length ≤ k → fresh.length + rest.length ≤ 8192 → nBytes (opsR o rest fresh) ≤ fresh.length + rest.length + 4
  | _, [], fresh, _, hT => by rw [opsR_nil]; exact ins_bytes_all (by simpa using hT)
  | 0, _ :: _, _, hk, _ => by simp at hk
  | k + 1, c :: t, fresh, hk, hT => by
    by_cases h : 8 ≤ (longD o (c :: t)).1
    · rw [opsR_hit h, nBytes_app, nBytes_cons]
      have hl := longD_le o (c :: t)
      have h1 := ins_bytes (x := fresh) (by simp at hl hT; omega)
      have hfit := longD_fit o (c :: t)
      have h2 := copy_bytes (off := (longD o (c :: t)).2) h (by omega)
      have h3 := ops_bytes ho k ((c :: t).drop (longD o (c :: t)).1) [] (by simp at hk ⊢; omega) (by simp at hT ⊢; omega)
      simp only [List.length_nil, List.length_drop] at h3
      omega
    · rw [opsR_miss h]
      have := ops_bytes_all ho k t (fresh ++ [c]) (by simpa using hk) (by simp at hT ⊢; omega)
      simp at this ⊢; omega

theorem diff_bytes {o n : List UInt8} (ho : o.length ≤ 8192) (hn : n.length ≤ 8192) : (diffD o n).length ≤ 10 + nBytes (opsR o n []) := by
  rw [diffD_ops ho hn, List.length_append, List.length_append]
  have h1 := put_five (crcOf_le o)
  have h2 := put_five (crcOf_le n)
  unfold nBytes; omega
/-- law DeltaSize -/
theorem diff_size {o n : List UInt8} (ho : o.length ≤ 8192) (hn : n.length ≤ 8192) : (diffD o n).length ≤ n.length + 14 := by
  have h1 := diff_bytes ho hn
  have h2 := ops_bytes_all ho n.length n [] (Nat.le_refl _) (by simpa using hn)
  simp at h2; omega

/-! ### parts of the old text -/
def Occ (o x : List UInt8) : Prop := ∃ off, x <+: o.drop off
theorem Occ.suffix {o a b : List UInt8} (h : Occ o (a ++ b)) : Occ o b := by
  obtain ⟨off, r, hr⟩ := h
  refine ⟨off + a.length, r, ?_⟩
  rw [← List.drop_drop, ← hr, List.append_assoc, List.drop_left]
theorem longAt_ge (o s : List UInt8) : ∀ (k j : Nat), j < k → comm (o.drop j) s ≤ (longAt o s k).1
  | 0, _, h => by omega
  | k + 1, j, h => by
    have hs : longAt o s (k + 1) = lstep o s (longAt o s k) k := rfl
    rw [hs]
    unfold lstep
    by_cases e : j = k
    · subst e; split <;> (try simp only []) <;> omega
    · have := longAt_ge o s k j (by omega)
      split <;> (try simp only []) <;> omega
theorem comm_pre : ∀ (x a b : List UInt8), x.length ≤ comm (x ++ a) (x ++ b)
  | [], _, _ => Nat.zero_le _
  | c :: x, a, b => by
    simp only [List.cons_append, comm, if_pos]
    have := comm_pre x a b
    simpa using this
theorem longD_ge {o x r : List UInt8} (h : Occ o x) (h0 : x ≠ []) : x.length ≤ (longD o (x ++ r)).1 := by
  obtain ⟨off, q, hq⟩ := h
  have hlt : off < o.length := by
    rcases Nat.lt_or_ge off o.length with h | h
    · exact h
    · rw [List.drop_eq_nil_of_le h] at hq
      exact absurd (List.append_eq_nil_iff.1 hq).1 h0
  have h1 := longAt_ge o (x ++ r) o.length off hlt
  rw [← hq] at h1
  exact Nat.le_trans (comm_pre x q r) h1

/-- what is left behind a copy: the end of a part, and whole parts -/
theorem drop_parts {o : List UInt8} : ∀ (ps : List (List UInt8)) (n : Nat), (∀ p ∈ ps, 8 ≤ p.length ∧ Occ o p) → ∃ (rem : List UInt8) (ps' : List (List UInt8)), ps.flatten.drop n = rem ++ ps'.flatten ∧ (∀ p ∈ ps', 8 ≤ p.length ∧ Occ o p) ∧ (rem ≠ [] → Occ o rem) ∧ ps'.length + (if rem = [] then 0 else 1) ≤ ps.length
  | [], n, _ => ⟨[], [], by simp, by simp, by simp, by simp⟩
  | p :: ps, n, h => by
    rcases Nat.lt_or_ge n p.length with hn | hn
    · refine ⟨p.drop n, ps, ?_, fun q hq => h q (by simp [hq]), fun _ => ?_, ?_⟩
      · rw [List.flatten_cons, List.drop_append_of_le_length (by omega)]
      · have := (h p (by simp)).2
        rw [← List.take_append_drop n p] at this
        exact this.suffix
      · simp only [List.length_cons]; split <;> omega
    · obtain ⟨rem, ps', e, h1, h2, h3⟩ := drop_parts ps (n - p.length) fun q hq => h q (by simp [hq])
      refine ⟨rem, ps', ?_, h1, h2, ?_⟩
      · rw [List.flatten_cons, ← e, List.drop_append, List.drop_eq_nil_of_le hn, List.nil_append]
      · simp only [List.length_cons]; split at h3 <;> split <;> omega

theorem parts_bytes {o : List UInt8} (ho : o.length ≤ 8192) : ∀ (k : Nat) (fresh rem : List UInt8) (ps : List (List UInt8)), (rem ++ ps.flatten).length ≤ k → (∀ p ∈ ps, 8 ≤ p.length ∧ Occ o p) → (rem ≠ [] → Occ o rem) →
    (fresh ≠ [] → fresh.length + rem.length ≤ 7) → nBytes (opsR o (rem ++ ps.flatten) fresh) ≤ 13 * ps.length + (if fresh = [] ∧ rem = [] then 0 else 13) := by
  intro k
  induction k with
  | zero =>
    intro fresh rem ps hk _ _ hf
    have hnil : rem ++ ps.flatten = [] := List.eq_nil_of_length_eq_zero (by omega)
    rw [hnil, opsR_nil]
    by_cases h0 : fresh = []
    · subst h0; simp [insL, nBytes]
    · have := ins_bytes_few (x := fresh) (by have := hf h0; omega)
      rw [if_neg (fun h => h0 h.1)]; omega
  | succ k ih =>
    intro fresh rem ps hk hps hrem hf
    have hfl : nBytes (insL fresh) ≤ if fresh = [] then 0 else 9 := by
      by_cases h0 : fresh = []
      · subst h0; simp [insL, nBytes]
      · rw [if_neg h0]; exact ins_bytes_few (by have := hf h0; omega)
    cases hr : rem ++ ps.flatten with
    | nil =>
      rw [opsR_nil]
      by_cases h0 : fresh = []
      · subst h0; simp [insL, nBytes]
      · rw [if_neg (fun h => h0 h.1)]; rw [if_neg h0] at hfl; omega
    | cons c t =>
      by_cases h : 8 ≤ (longD o (c :: t)).1
      · rw [opsR_hit h, nBytes_app, nBytes_cons]
        have hfit := longD_fit o (c :: t)
        have hcp := copy_bytes (off := (longD o (c :: t)).2) h (by omega)
        have hll := longD_le o (c :: t)
        by_cases hrm : rem = []
        · subst hrm
          rw [List.nil_append] at hr
          cases ps with
          | nil => simp at hr
          | cons p ps =>
            have hp := hps p (by simp)
            have hge := longD_ge (r := ps.flatten) hp.2 (fun e => by rw [e] at hp; simp at hp)
            rw [← List.flatten_cons, hr] at hge
            have hge' := hge
            obtain ⟨rem', ps', e, h1, h2, h3⟩ := drop_parts ps ((longD o (c :: t)).1 - p.length) fun q hq => hps q (by simp [hq])
            have hd : (c :: t).drop (longD o (c :: t)).1 = rem' ++ ps'.flatten := by
              rw [← e]
              generalize (longD o (c :: t)).1 = z at hge ⊢
              rw [← hr, List.flatten_cons, List.drop_append, List.drop_eq_nil_of_le hge, List.nil_append]
            rw [hd]
            have hlen : (rem' ++ ps'.flatten).length ≤ k := by
              rw [← hd]; rw [List.nil_append, hr] at hk
              simp at hk ⊢; omega
            have := ih [] rem' ps' hlen h1 h2 (fun h => absurd rfl h)
            simp only [true_and] at this
            simp only [List.length_cons]
            by_cases hq : rem' = []
            · rw [if_pos hq] at this h3
              by_cases h0 : fresh = []
              · rw [if_pos h0] at hfl; rw [if_pos ⟨h0, trivial⟩]; omega
              · rw [if_neg h0] at hfl; rw [if_neg (fun h => h0 h.1)]; omega
            · rw [if_neg hq] at this h3
              by_cases h0 : fresh = []
              · rw [if_pos h0] at hfl; rw [if_pos ⟨h0, trivial⟩]; omega
              · rw [if_neg h0] at hfl; rw [if_neg (fun h => h0 h.1)]; omega
        · rw [if_neg (fun h => hrm h.2)]
          have hge : rem.length ≤ (longD o (c :: t)).1 := by
            have := longD_ge (r := ps.flatten) (hrem hrm) hrm
            rwa [hr] at this
          obtain ⟨rem', ps', e, h1, h2, h3⟩ := drop_parts ps ((longD o (c :: t)).1 - rem.length) hps
          have hd : (c :: t).drop (longD o (c :: t)).1 = rem' ++ ps'.flatten := by
            rw [← e]
            generalize (longD o (c :: t)).1 = z at hge ⊢
            rw [← hr, List.drop_append, List.drop_eq_nil_of_le hge, List.nil_append]
          rw [hd]
          have hlen : (rem' ++ ps'.flatten).length ≤ k := by
            rw [← hd]; rw [hr] at hk
            simp at hk ⊢; omega
          have := ih [] rem' ps' hlen h1 h2 (fun h => absurd rfl h)
          simp only [true_and] at this
          by_cases hq : rem' = []
          · rw [if_pos hq] at this h3
            by_cases h0 : fresh = []
            · rw [if_pos h0] at hfl; omega
            · rw [if_neg h0] at hfl; omega
          · rw [if_neg hq] at this h3
            by_cases h0 : fresh = []
            · rw [if_pos h0] at hfl; omega
            · rw [if_neg h0] at hfl; omega
      · rw [opsR_miss h]
        have hrm : rem ≠ [] := by
          rintro rfl
          rw [List.nil_append] at hr
          cases ps with
          | nil => simp at hr
          | cons p ps =>
            have hp := hps p (by simp)
            have hge := longD_ge (r := ps.flatten) hp.2 (fun e => by rw [e] at hp; simp at hp)
            rw [← List.flatten_cons, hr] at hge
            omega
        obtain ⟨d, rem', rfl⟩ := List.exists_cons_of_ne_nil hrm
        rw [List.cons_append] at hr
        obtain ⟨rfl, rfl⟩ := List.cons.inj hr
        have hge := longD_ge (r := ps.flatten) (hrem hrm) hrm
        rw [List.cons_append] at hge
        simp only [List.length_cons] at hge
        have := ih (fresh ++ [d]) rem' ps (by simp at hk ⊢; omega) hps (fun _ => (show Occ o ([d] ++ rem') from hrem hrm).suffix) (fun _ => by
          by_cases h0 : fresh = []
          · subst h0; simp; omega
          · have := hf h0; simp at this ⊢; omega)
        rw [if_neg (by simp)] at this
        rw [if_neg (by simp)]
        exact this
/-- law DeltaParts -/
theorem diff_parts {o : List UInt8} {ps : List (List UInt8)} (ho : o.length ≤ 8192) (hn : ps.flatten.length ≤ 8192) (hps : ∀ p ∈ ps, 8 ≤ p.length ∧ Occ o p) : (diffD o ps.flatten).length ≤ 16 * ps.length + 14 := by
  have h1 := diff_bytes ho hn
  have h2 := parts_bytes ho ps.flatten.length [] [] ps (by simp) hps (fun h => absurd rfl h) (fun h => absurd rfl h)
  simp at h2; omega
end Go.Proofs.YtfdholhfdceedaaDoor

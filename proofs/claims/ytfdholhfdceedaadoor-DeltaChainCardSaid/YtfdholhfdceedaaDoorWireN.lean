/- The encoding of integers: plain facts, no program in sight. -/
namespace Go.Proofs.YtfdholhfdceedaaDoor

def unzig (z : Nat) : Int := if z % 2 = 1 then -((z / 2 : Nat) : Int) - 1 else ((z / 2 : Nat) : Int)
def zig (n : Int) : Nat := if n < 0 then (2 * (-n) - 1).toNat else (2 * n).toNat
/-- the groups of z, the least significant first -/
def groupsF : Nat → Nat → List UInt8
  | 0, z => [UInt8.ofNat z]
  | f + 1, z => if z < 128 then [UInt8.ofNat z] else UInt8.ofNat (z % 128 + 128) :: groupsF f (z / 128)
def putInt (n : Int) : List UInt8 := groupsF 9 (zig n)
def groupVal : List UInt8 → Nat
  | [] => 0
  | b :: r => b.toNat % 128 + 128 * groupVal r
/-- how many bytes at the head of l go on -/
def lead : List UInt8 → Nat
  | [] => 0
  | b :: r => if 128 ≤ b.toNat then lead r + 1 else 0
def intRest (l : List UInt8) : Option (Int × Nat) :=
  if h : lead l < 9 ∧ lead l < l.length then
    if (l[lead l].toNat = 0 ∧ 0 < lead l) ∨ unzig (groupVal (l.take (lead l + 1))) < -4611686018427387903 then none
    else some (unzig (groupVal (l.take (lead l + 1))), lead l + 1)
  else none
def intAt (l : List UInt8) (i : Nat) : Option (Int × Nat) := (intRest (l.drop i)).map fun p => (p.1, i + p.2)

theorem unzig_zig (n : Int) : unzig (zig n) = n := by unfold unzig zig; split <;> split <;> omega
theorem zig_unzig (z : Nat) : zig (unzig z) = z := by unfold unzig zig; split <;> split <;> omega
theorem zig_lt {n : Int} (h1 : -4611686018427387903 ≤ n) (h2 : n ≤ 4611686018427387903) : zig n < 9223372036854775807 := by unfold zig; split <;> omega

theorem lead_le : ∀ l : List UInt8, lead l ≤ l.length
  | [] => by simp [lead]
  | b :: r => by unfold lead; have := lead_le r; split <;> simp <;> omega
theorem lead_ge : ∀ {l : List UInt8} {i : Nat}, i ≤ l.length → (∀ j (_h : j < i) (hl : j < l.length), 128 ≤ l[j].toNat) → i ≤ lead l
  | [], i, h, _ => by simp at h; omega
  | b :: r, 0, _, _ => Nat.zero_le _
  | b :: r, i + 1, h, hj => by
    have h0 := hj 0 (by omega) (by simp)
    simp only [List.getElem_cons_zero] at h0
    rw [lead, if_pos h0]
    exact Nat.succ_le_succ (lead_ge (by simpa using h) (fun j h1 h2 => by have := hj (j + 1) (by omega) (by simpa using h2); simpa using this))
theorem lead_eq : ∀ {l : List UInt8} {i : Nat} (_hi : i < l.length), (∀ j (_h : j < i) (hl : j < l.length), 128 ≤ l[j].toNat) → l[i].toNat < 128 → lead l = i
  | [], i, h, _, _ => by simp at h
  | b :: r, 0, _, _, h => by simp only [List.getElem_cons_zero] at h; rw [lead, if_neg (by omega)]
  | b :: r, i + 1, h, hj, hb => by
    have h0 := hj 0 (by omega) (by simp)
    simp only [List.getElem_cons_zero] at h0
    rw [lead, if_pos h0, lead_eq (by simpa using h) (fun j h1 h2 => by have := hj (j + 1) (by omega) (by simpa using h2); simpa using this) (by simpa using hb)]
theorem lead_all {l : List UInt8} {j : Nat} (h : j < lead l) (hl : j < l.length) : 128 ≤ l[j].toNat := by
  induction l generalizing j with
  | nil => simp at hl
  | cons b r ih =>
    rw [lead] at h
    split at h
    · rename_i hb
      cases j with
      | zero => simpa using hb
      | succ j => simpa using ih (by omega) (by simpa using hl)
    · omega
theorem lead_stop {l : List UInt8} (h : lead l < l.length) : l[lead l].toNat < 128 := by
  induction l with
  | nil => simp at h
  | cons b r ih =>
    by_cases hb : 128 ≤ b.toNat
    · have e : lead (b :: r) = lead r + 1 := by rw [lead, if_pos hb]
      have hr : lead r < r.length := by rw [e] at h; simpa using h
      have := ih hr
      simp only [e, List.getElem_cons_succ]; exact this
    · have e : lead (b :: r) = 0 := by rw [lead, if_neg hb]
      simp only [e, List.getElem_cons_zero]; omega

theorem groupVal_lt : ∀ l : List UInt8, groupVal l < 128 ^ l.length
  | [] => by simp [groupVal]
  | b :: r => by
    have := groupVal_lt r
    rw [groupVal, List.length_cons, Nat.pow_succ]
    have hb : b.toNat % 128 < 128 := Nat.mod_lt _ (by omega)
    omega
theorem groupVal_snoc : ∀ (l : List UInt8) (b : UInt8), groupVal (l ++ [b]) = groupVal l + (b.toNat % 128) * 128 ^ l.length
  | [], b => by simp [groupVal]
  | c :: r, b => by
    rw [List.cons_append, groupVal, groupVal_snoc r b, groupVal, List.length_cons, Nat.pow_succ, Nat.mul_add, Nat.add_assoc, ← Nat.mul_assoc, Nat.mul_comm 128, Nat.mul_assoc, Nat.mul_comm 128, Nat.mul_assoc]

theorem ofNat_toNat {n : Nat} (h : n < 256) : (UInt8.ofNat n).toNat = n := by rw [UInt8.toNat_ofNat']; exact Nat.mod_eq_of_lt (by simpa using h)
theorem byte_eq {b : UInt8} {n : Nat} (h : b.toNat = n) : b = UInt8.ofNat n := by apply UInt8.toNat_inj.1; rw [ofNat_toNat (by have := b.toNat_lt; omega), h]

/-- groups that are written canonically are the groups of their value -/
theorem groups_of_val : ∀ (bs : List UInt8) (b : UInt8) (f : Nat), (∀ c ∈ bs, 128 ≤ c.toNat) → b.toNat < 128 → (bs = [] ∨ b.toNat ≠ 0) → bs.length ≤ f → groupsF f (groupVal (bs ++ [b])) = bs ++ [b]
  | [], b, f, _, hb, _, _ => by
    have e : groupVal ([] ++ [b]) = b.toNat := by simp [groupVal]; omega
    rw [e, List.nil_append]
    have hb' : UInt8.ofNat b.toNat = b := (byte_eq rfl).symm
    cases f with
    | zero => rw [groupsF, hb']
    | succ f => rw [groupsF, if_pos hb, hb']
  | c :: bs, b, 0, _, _, _, hf => by simp at hf
  | c :: bs, b, f + 1, hc, hb, hn, hf => by
    have hn' : b.toNat ≠ 0 := by rcases hn with h | h; simp at h; exact h
    have hpos : ∀ l : List UInt8, 0 < groupVal (l ++ [b]) := by
      intro l
      rw [groupVal_snoc]
      have : 0 < b.toNat % 128 * 128 ^ l.length := Nat.mul_pos (by omega) (Nat.pow_pos (by omega))
      omega
    have h0 := hpos bs
    have e : groupVal (c :: bs ++ [b]) = c.toNat % 128 + 128 * groupVal (bs ++ [b]) := rfl
    have hc0 := hc c (by simp)
    have hc1 := c.toNat_lt
    have hv : c.toNat % 128 + 128 * groupVal (bs ++ [b]) = groupVal (bs ++ [b]) * 128 + c.toNat % 128 := by omega
    rw [e, groupsF, if_neg (by omega), show (c.toNat % 128 + 128 * groupVal (bs ++ [b])) / 128 = groupVal (bs ++ [b]) by omega,
      show (c.toNat % 128 + 128 * groupVal (bs ++ [b])) % 128 + 128 = c.toNat by omega, (byte_eq rfl : c = UInt8.ofNat c.toNat).symm,
      groups_of_val bs b f (fun d hd => hc d (by simp [hd])) hb (.inr hn') (by simpa using hf)]
    rfl

/-- the groups of z: bytes that go on, then one that does not; their value is z; the last is 0 for z = 0 alone -/
theorem groups_form : ∀ (f z : Nat), z < 128 ^ (f + 1) → ∃ bs b, groupsF f z = bs ++ [b] ∧ (∀ c ∈ bs, 128 ≤ c.toNat) ∧ b.toNat < 128 ∧ (bs = [] ∨ b.toNat ≠ 0) ∧ bs.length ≤ f ∧ groupVal (bs ++ [b]) = z
  | 0, z, h => ⟨[], UInt8.ofNat z, rfl, by simp, by rw [ofNat_toNat (by omega)]; omega, .inl rfl, by simp, by simp [groupVal]; omega⟩
  | f + 1, z, h => by
    by_cases hz : z < 128
    · exact ⟨[], UInt8.ofNat z, by rw [groupsF, if_pos hz]; rfl, by simp, by rw [ofNat_toNat (by omega)]; exact hz, .inl rfl, by simp, by simp [groupVal]; omega⟩
    · obtain ⟨bs, b, h1, h2, h3, h4, h5, h6⟩ := groups_form f (z / 128) (by rw [Nat.pow_succ] at h; omega)
      have hm : z % 128 + 128 < 256 := by omega
      refine ⟨UInt8.ofNat (z % 128 + 128) :: bs, b, by rw [groupsF, if_neg hz, h1]; rfl, ?_, h3, .inr ?_, by simp; omega, ?_⟩
      · intro c hc
        rcases List.mem_cons.1 hc with rfl | hc
        · rw [ofNat_toNat hm]; omega
        · exact h2 c hc
      · rcases h4 with rfl | h4
        · intro h0
          have e : groupVal ([] ++ [b]) = b.toNat % 128 := by simp [groupVal]
          rw [e] at h6; omega
        · exact h4
      · show (UInt8.ofNat (z % 128 + 128)).toNat % 128 + 128 * groupVal (bs ++ [b]) = z
        rw [ofNat_toNat hm, h6]; omega

theorem lead_append {bs : List UInt8} {b : UInt8} {r : List UInt8} (hc : ∀ c ∈ bs, 128 ≤ c.toNat) (hb : b.toNat < 128) : lead (bs ++ b :: r) = bs.length := by
  induction bs with
  | nil => simp only [List.nil_append, lead, List.length_nil]; rw [if_neg (by omega)]
  | cons c bs ih => rw [List.cons_append, lead, if_pos (hc c (by simp)), ih (fun d hd => hc d (by simp [hd]))]; rfl

/-- (T1) what is written is read -/
theorem int_put {n : Int} (h1 : -4611686018427387903 ≤ n) (h2 : n ≤ 4611686018427387903) (r : List UInt8) : intRest (putInt n ++ r) = some (n, (putInt n).length) := by
  have hz := zig_lt h1 h2
  obtain ⟨bs, b, e, hc, hb, hn, hl, hv⟩ := groups_form 9 (zig n) (Nat.lt_trans hz (by decide))
  have hlt : bs.length < 9 := by
    rcases Nat.lt_or_ge bs.length 9 with h | h
    · exact h
    · have h9 : bs.length = 9 := by omega
      have hb1 : 1 ≤ b.toNat := by rcases hn with rfl | hn; simp at h9; omega
      have : 128 ^ 9 ≤ groupVal (bs ++ [b]) := by
        rw [groupVal_snoc, h9]
        have : 1 * 128 ^ 9 ≤ b.toNat % 128 * 128 ^ 9 := Nat.mul_le_mul_right _ (by omega)
        omega
      rw [hv] at this
      have h63 : (128 : Nat) ^ 9 = 9223372036854775808 := by decide
      omega
  have hld : lead (putInt n ++ r) = bs.length := by rw [putInt, e, List.append_assoc]; exact lead_append hc hb
  have hpl : (putInt n).length = bs.length + 1 := by rw [putInt, e]; simp
  have htk : (putInt n ++ r).take (bs.length + 1) = bs ++ [b] := by rw [← hpl, List.take_left, putInt, e]
  have hgl : (putInt n ++ r).length = bs.length + 1 + r.length := by rw [List.length_append, hpl]
  have hget : ∀ h : bs.length < (putInt n ++ r).length, (putInt n ++ r)[bs.length] = b := by
    intro h
    have : (putInt n ++ r)[bs.length]? = some b := by rw [putInt, e, List.append_assoc]; simp
    exact (List.getElem?_eq_some_iff.1 this).2
  unfold intRest
  simp only [hld]
  rw [dif_pos ⟨hlt, by omega⟩, htk, hv, unzig_zig, hget, if_neg, hpl]
  rintro (⟨h0, hp⟩ | h0)
  · rcases hn with rfl | hn
    · simp at hp
    · exact hn h0
  · omega

/-- (T2) what is read was written so -/
theorem put_int {l : List UInt8} {n : Int} {k : Nat} (h : intRest l = some (n, k)) : l.take k = putInt n ∧ -4611686018427387903 ≤ n ∧ n ≤ 4611686018427387903 ∧ k ≤ l.length ∧ 0 < k := by
  unfold intRest at h
  split at h
  · rename_i hl
    split at h
    · cases h
    · rename_i hn
      have hn1 := not_or.1 hn
      cases h
      have hst := lead_stop hl.2
      have htk : l.take (lead l + 1) = l.take (lead l) ++ [l[lead l]] := List.take_succ_eq_append_getElem hl.2
      have hlen : (l.take (lead l)).length = lead l := by simp; omega
      have hall : ∀ c ∈ l.take (lead l), 128 ≤ c.toNat := by
        intro c hc
        obtain ⟨j, hj, rfl⟩ := List.getElem_of_mem hc
        rw [List.getElem_take]
        rw [hlen] at hj
        exact lead_all hj (by omega)
      have hg := groups_of_val (l.take (lead l)) l[lead l] 9 hall hst (by
        by_cases h0 : lead l = 0
        · left; rw [h0]; rfl
        · right; intro h; exact hn1.1 ⟨h, by omega⟩) (by omega)
      have hz : groupVal (l.take (lead l + 1)) < 9223372036854775808 := by
        have h1 := groupVal_lt (l.take (lead l + 1))
        have h2 : (l.take (lead l + 1)).length ≤ 9 := by simp; omega
        have h3 : (128 : Nat) ^ (l.take (lead l + 1)).length ≤ 128 ^ 9 := Nat.pow_le_pow_right (by omega) h2
        have h63 : (128 : Nat) ^ 9 = 9223372036854775808 := by decide
        omega
      refine ⟨?_, by omega, ?_, by omega, by omega⟩
      · rw [putInt, zig_unzig, htk, hg]
      · unfold unzig; split <;> omega
  · cases h

end Go.Proofs.YtfdholhfdceedaaDoor

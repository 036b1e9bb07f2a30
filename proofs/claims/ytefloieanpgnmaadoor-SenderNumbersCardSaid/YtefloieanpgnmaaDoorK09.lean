/- Facts and contracts for the laws of the sender, part 9. Conditions: those that each theorem names. -/
import Derived.Test.YtefloieanpgnmaaDoorK06
import Derived.Test.YtefloieanpgnmaaDoorK03
import Derived.Test.YtefloieanpgnmaaDoorK07
import Derived.Test.YtefloieanpgnmaaDoorK08
/- Plain facts for the laws of chapter 19: how long a delta is, what a delta does that is written operation by operation. -/
namespace Go.Proofs.YtefloieanpgnmaaDoor
open Go.RowKit

theorem groups_len : ∀ (f z k : Nat), 1 ≤ k → z < 128 ^ k → (groupsF f z).length ≤ k
  | 0, z, k, hk, _ => by simpa [groupsF] using hk
  | f + 1, z, k, hk, hz => by
    unfold groupsF
    split
    · simpa using hk
    · obtain ⟨j, rfl⟩ : ∃ j, k = j + 1 := ⟨k - 1, by omega⟩
      have hj : 1 ≤ j := by
        rcases Nat.lt_or_ge 0 j with h | h
        · exact h
        · obtain rfl : j = 0 := by omega
          omega
      have := groups_len f (z / 128) j hj (by rw [Nat.pow_succ] at hz; omega)
      simp; omega
theorem put_len {n k : Nat} (hk : 1 ≤ k) (h : 2 * n < 128 ^ k) : (putInt (n : Int)).length ≤ k := by
  unfold putInt
  refine groups_len 9 _ k hk ?_
  unfold zig; rw [if_neg (by omega)]
  have : (2 * (n : Int)).toNat = 2 * n := by omega
  rw [this]; exact h
theorem put_one {n : Nat} (h : n ≤ 63) : (putInt (n : Int)).length ≤ 1 := put_len (by omega) (by omega)
theorem put_two {n : Nat} (h : n ≤ 8191) : (putInt (n : Int)).length ≤ 2 := put_len (by omega) (by omega)
theorem put_three {n : Nat} (h : n ≤ 8192) : (putInt (n : Int)).length ≤ 3 := put_len (by omega) (by omega)
theorem put_five {n : Nat} (h : n ≤ 4294967295) : (putInt (n : Int)).length ≤ 5 := put_len (by omega) (by omega)

def nBytes (l : List DOp) : Nat := (l.flatMap DOp.bytes).length
theorem nBytes_app (a b : List DOp) : nBytes (a ++ b) = nBytes a + nBytes b := by unfold nBytes; rw [List.flatMap_append, List.length_append]
theorem nBytes_cons (x : DOp) (l : List DOp) : nBytes (x :: l) = x.bytes.length + nBytes l := by unfold nBytes; rw [List.flatMap_cons, List.length_append]
theorem ins_bytes {x : List UInt8} (hx : x.length ≤ 8191) : nBytes (insL x) ≤ x.length + 3 := by
  unfold insL
  split
  · simp [nBytes]
  · have h0 := put_one (n := 0) (by omega)
    have h1 := put_two hx
    simp [nBytes, DOp.bytes, putStr] at *; omega
theorem ins_bytes_all {x : List UInt8} (hx : x.length ≤ 8192) : nBytes (insL x) ≤ x.length + 4 := by
  unfold insL
  split
  · simp [nBytes]
  · have h0 := put_one (n := 0) (by omega)
    have h1 := put_three hx
    simp [nBytes, DOp.bytes, putStr] at *; omega
theorem ins_bytes_few {x : List UInt8} (hx : x.length ≤ 7) : nBytes (insL x) ≤ 9 := by
  unfold insL
  split
  · simp [nBytes]
  · have h0 := put_one (n := 0) (by omega)
    have h1 := put_one (n := x.length) (by omega)
    simp [nBytes, DOp.bytes, putStr] at *; omega
theorem copy_bytes {n off : Nat} (h0 : 8 ≤ n) (h : off + n ≤ 8192) : (⟨n, off, []⟩ : DOp).bytes.length ≤ 4 := by
  unfold DOp.bytes
  rw [if_pos (by show 0 < n; omega), List.length_append]
  simp only []
  have ho := put_two (n := off) (by omega)
  by_cases h1 : n ≤ 8191
  · have := put_two h1; omega
  · obtain rfl : n = 8192 := by omega
    obtain rfl : off = 0 := by omega
    have h3 := put_three (n := 8192) (by omega)
    have h2 := put_one (n := 0) (by omega)
    omega

theorem longD_fit (o s : List UInt8) : (longD o s).2 + (longD o s).1 ≤ o.length := (longAt_ok o s o.length (Nat.le_refl _)).2.1

theorem ops_bytes {o : List UInt8} (ho : o.length ≤ 8192) : ∀ (k : Nat) (rest fresh : List UInt8), rest.length ≤ k → fresh.length + rest.length ≤ 8191 → nBytes (opsR o rest fresh) ≤ fresh.length + rest.length + 3
  | _, [], fresh, _, hT => by rw [opsR_nil]; exact ins_bytes (by simpa using hT)
  | 0, _ :: _, _, hk, _ => by simp at hk
  | k + 1, c :: t, fresh, hk, hT => by
    by_cases h : 8 ≤ (longD o (c :: t)).1
    · rw [opsR_hit h, nBytes_app, nBytes_cons]
      have h1 := ins_bytes (x := fresh) (by omega)
      have hfit := longD_fit o (c :: t)
      have h2 := copy_bytes (off := (longD o (c :: t)).2) h (by omega)
      have hl := longD_le o (c :: t)
      have h3 := ops_bytes ho k ((c :: t).drop (longD o (c :: t)).1) [] (by simp at hk ⊢; omega) (by simp at hT ⊢; omega)
      simp only [List.length_nil, List.length_drop] at h3
      omega
    · rw [opsR_miss h]
      have := ops_bytes ho k t (fresh ++ [c]) (by simpa using hk) (by simp at hT ⊢; omega)
      simp at this ⊢; omega
theorem ops_bytes_all {o : List UInt8} (ho : o.length ≤ 8192) : ∀ (k : Nat) (rest fresh : List UInt8), rest.length ≤ k → fresh.length + rest.length ≤ 8192 → nBytes (opsR o rest fresh) ≤ fresh.length + rest.length + 4
  | _, [], fresh, _, hT => by rw [opsR_nil]; exact ins_bytes_all (by simpa using hT)
  | 0, _ :: _, _, hk, _ => by simp at hk
  | k + 1, c :: t, fresh, hk, hT => by
    by_cases h : 8 ≤ (longD o (c :: t)).1
    · rw [opsR_hit h, nBytes_app, nBytes_cons]
      have hl := longD_le o (c :: t)
      have h1 := ins_bytes (x := fresh) (by simp at hl hT; omega)
      have hfit := longD_fit o (c :: t)
      have h2 := copy_bytes (off := (longD o (c :: t)).2) h (by omega)
      have h3 := ops_bytes ho k ((c :: t).drop (longD o (c :: t)).1) [] (by simp at hk ⊢; omega) (by simp at hT ⊢; omega)
      simp only [List.length_nil, List.length_drop] at h3
      omega
    · rw [opsR_miss h]
      have := ops_bytes_all ho k t (fresh ++ [c]) (by simpa using hk) (by simp at hT ⊢; omega)
      simp at this ⊢; omega

theorem diff_bytes {o n : List UInt8} (ho : o.length ≤ 8192) (hn : n.length ≤ 8192) : (diffD o n).length ≤ 10 + nBytes (opsR o n []) := by
  rw [diffD_ops ho hn, List.length_append, List.length_append]
  have h1 := put_five (crcOf_le o)
  have h2 := put_five (crcOf_le n)
  unfold nBytes; omega
/-- law DeltaSize -/
theorem diff_size {o n : List UInt8} (ho : o.length ≤ 8192) (hn : n.length ≤ 8192) : (diffD o n).length ≤ n.length + 14 := by
  have h1 := diff_bytes ho hn
  have h2 := ops_bytes_all ho n.length n [] (Nat.le_refl _) (by simpa using hn)
  simp at h2; omega

/-! ### parts of the old text -/
def Occ (o x : List UInt8) : Prop := ∃ off, x <+: o.drop off
theorem Occ.suffix {o a b : List UInt8} (h : Occ o (a ++ b)) : Occ o b := by
  obtain ⟨off, r, hr⟩ := h
  refine ⟨off + a.length, r, ?_⟩
  rw [← List.drop_drop, ← hr, List.append_assoc, List.drop_left]
theorem longAt_ge (o s : List UInt8) : ∀ (k j : Nat), j < k → comm (o.drop j) s ≤ (longAt o s k).1
  | 0, _, h => by omega
  | k + 1, j, h => by
    have hs : longAt o s (k + 1) = lstep o s (longAt o s k) k := rfl
    rw [hs]
    unfold lstep
    by_cases e : j = k
    · subst e; split <;> (try simp only []) <;> omega
    · have := longAt_ge o s k j (by omega)
      split <;> (try simp only []) <;> omega
theorem comm_pre : ∀ (x a b : List UInt8), x.length ≤ comm (x ++ a) (x ++ b)
  | [], _, _ => Nat.zero_le _
  | c :: x, a, b => by
    simp only [List.cons_append, comm, if_pos]
    have := comm_pre x a b
    simpa using this
theorem longD_ge {o x r : List UInt8} (h : Occ o x) (h0 : x ≠ []) : x.length ≤ (longD o (x ++ r)).1 := by
  obtain ⟨off, q, hq⟩ := h
  have hlt : off < o.length := by
    rcases Nat.lt_or_ge off o.length with h | h
    · exact h
    · rw [List.drop_eq_nil_of_le h] at hq
      exact absurd (List.append_eq_nil_iff.1 hq).1 h0
  have h1 := longAt_ge o (x ++ r) o.length off hlt
  rw [← hq] at h1
  exact Nat.le_trans (comm_pre x q r) h1

/-- what is left behind a copy: the end of a part, and whole parts -/
theorem drop_parts {o : List UInt8} : ∀ (ps : List (List UInt8)) (n : Nat), (∀ p ∈ ps, 8 ≤ p.length ∧ Occ o p) → ∃ (rem : List UInt8) (ps' : List (List UInt8)), ps.flatten.drop n = rem ++ ps'.flatten ∧ (∀ p ∈ ps', 8 ≤ p.length ∧ Occ o p) ∧ (rem ≠ [] → Occ o rem) ∧ ps'.length + (if rem = [] then 0 else 1) ≤ ps.length
  | [], n, _ => ⟨[], [], by simp, by simp, by simp, by simp⟩
  | p :: ps, n, h => by
    rcases Nat.lt_or_ge n p.length with hn | hn
    · refine ⟨p.drop n, ps, ?_, fun q hq => h q (by simp [hq]), fun _ => ?_, ?_⟩
      · rw [List.flatten_cons, List.drop_append_of_le_length (by omega)]
      · have := (h p (by simp)).2
        rw [← List.take_append_drop n p] at this
        exact this.suffix
      · simp only [List.length_cons]; split <;> omega
    · obtain ⟨rem, ps', e, h1, h2, h3⟩ := drop_parts ps (n - p.length) fun q hq => h q (by simp [hq])
      refine ⟨rem, ps', ?_, h1, h2, ?_⟩
      · rw [List.flatten_cons, ← e, List.drop_append, List.drop_eq_nil_of_le hn, List.nil_append]
      · simp only [List.length_cons]; split at h3 <;> split <;> omega

theorem parts_bytes {o : List UInt8} (ho : o.length ≤ 8192) : ∀ (k : Nat) (fresh rem : List UInt8) (ps : List (List UInt8)), (rem ++ ps.flatten).length ≤ k → (∀ p ∈ ps, 8 ≤ p.length ∧ Occ o p) → (rem ≠ [] → Occ o rem) →
    (fresh ≠ [] → fresh.length + rem.length ≤ 7) → nBytes (opsR o (rem ++ ps.flatten) fresh) ≤ 13 * ps.length + (if fresh = [] ∧ rem = [] then 0 else 13) := by
  intro k
  induction k with
  | zero =>
    intro fresh rem ps hk _ _ hf
    have hnil : rem ++ ps.flatten = [] := List.eq_nil_of_length_eq_zero (by omega)
    rw [hnil, opsR_nil]
    by_cases h0 : fresh = []
    · subst h0; simp [insL, nBytes]
    · have := ins_bytes_few (x := fresh) (by have := hf h0; omega)
      rw [if_neg (fun h => h0 h.1)]; omega
  | succ k ih =>
    intro fresh rem ps hk hps hrem hf
    have hfl : nBytes (insL fresh) ≤ if fresh = [] then 0 else 9 := by
      by_cases h0 : fresh = []
      · subst h0; simp [insL, nBytes]
      · rw [if_neg h0]; exact ins_bytes_few (by have := hf h0; omega)
    cases hr : rem ++ ps.flatten with
    | nil =>
      rw [opsR_nil]
      by_cases h0 : fresh = []
      · subst h0; simp [insL, nBytes]
      · rw [if_neg (fun h => h0 h.1)]; rw [if_neg h0] at hfl; omega
    | cons c t =>
      by_cases h : 8 ≤ (longD o (c :: t)).1
      · rw [opsR_hit h, nBytes_app, nBytes_cons]
        have hfit := longD_fit o (c :: t)
        have hcp := copy_bytes (off := (longD o (c :: t)).2) h (by omega)
        have hll := longD_le o (c :: t)
        by_cases hrm : rem = []
        · subst hrm
          rw [List.nil_append] at hr
          cases ps with
          | nil => simp at hr
          | cons p ps =>
            have hp := hps p (by simp)
            have hge := longD_ge (r := ps.flatten) hp.2 (fun e => by rw [e] at hp; simp at hp)
            rw [← List.flatten_cons, hr] at hge
            have hge' := hge
            obtain ⟨rem', ps', e, h1, h2, h3⟩ := drop_parts ps ((longD o (c :: t)).1 - p.length) fun q hq => hps q (by simp [hq])
            have hd : (c :: t).drop (longD o (c :: t)).1 = rem' ++ ps'.flatten := by
              rw [← e]
              generalize (longD o (c :: t)).1 = z at hge ⊢
              rw [← hr, List.flatten_cons, List.drop_append, List.drop_eq_nil_of_le hge, List.nil_append]
            rw [hd]
            have hlen : (rem' ++ ps'.flatten).length ≤ k := by
              rw [← hd]; rw [List.nil_append, hr] at hk
              simp at hk ⊢; omega
            have := ih [] rem' ps' hlen h1 h2 (fun h => absurd rfl h)
            simp only [true_and] at this
            simp only [List.length_cons]
            by_cases hq : rem' = []
            · rw [if_pos hq] at this h3
              by_cases h0 : fresh = []
              · rw [if_pos h0] at hfl; rw [if_pos ⟨h0, trivial⟩]; omega
              · rw [if_neg h0] at hfl; rw [if_neg (fun h => h0 h.1)]; omega
            · rw [if_neg hq] at this h3
              by_cases h0 : fresh = []
              · rw [if_pos h0] at hfl; rw [if_pos ⟨h0, trivial⟩]; omega
              · rw [if_neg h0] at hfl; rw [if_neg (fun h => h0 h.1)]; omega
        · rw [if_neg (fun h => hrm h.2)]
          have hge : rem.length ≤ (longD o (c :: t)).1 := by
            have := longD_ge (r := ps.flatten) (hrem hrm) hrm
            rwa [hr] at this
          obtain ⟨rem', ps', e, h1, h2, h3⟩ := drop_parts ps ((longD o (c :: t)).1 - rem.length) hps
          have hd : (c :: t).drop (longD o (c :: t)).1 = rem' ++ ps'.flatten := by
            rw [← e]
            generalize (longD o (c :: t)).1 = z at hge ⊢
            rw [← hr, List.drop_append, List.drop_eq_nil_of_le hge, List.nil_append]
          rw [hd]
          have hlen : (rem' ++ ps'.flatten).length ≤ k := by
            rw [← hd]; rw [hr] at hk
            simp at hk ⊢; omega
          have := ih [] rem' ps' hlen h1 h2 (fun h => absurd rfl h)
          simp only [true_and] at this
          by_cases hq : rem' = []
          · rw [if_pos hq] at this h3
            by_cases h0 : fresh = []
            · rw [if_pos h0] at hfl; omega
            · rw [if_neg h0] at hfl; omega
          · rw [if_neg hq] at this h3
            by_cases h0 : fresh = []
            · rw [if_pos h0] at hfl; omega
            · rw [if_neg h0] at hfl; omega
      · rw [opsR_miss h]
        have hrm : rem ≠ [] := by
          rintro rfl
          rw [List.nil_append] at hr
          cases ps with
          | nil => simp at hr
          | cons p ps =>
            have hp := hps p (by simp)
            have hge := longD_ge (r := ps.flatten) hp.2 (fun e => by rw [e] at hp; simp at hp)
            rw [← List.flatten_cons, hr] at hge
            omega
        obtain ⟨d, rem', rfl⟩ := List.exists_cons_of_ne_nil hrm
        rw [List.cons_append] at hr
        obtain ⟨rfl, rfl⟩ := List.cons.inj hr
        have hge := longD_ge (r := ps.flatten) (hrem hrm) hrm
        rw [List.cons_append] at hge
        simp only [List.length_cons] at hge
        have := ih (fresh ++ [d]) rem' ps (by simp at hk ⊢; omega) hps (fun _ => (show Occ o ([d] ++ rem') from hrem hrm).suffix) (fun _ => by
          by_cases h0 : fresh = []
          · subst h0; simp; omega
          · have := hf h0; simp at this ⊢; omega)
        rw [if_neg (by simp)] at this
        rw [if_neg (by simp)]
        exact this
/-- law DeltaParts -/
theorem diff_parts {o : List UInt8} {ps : List (List UInt8)} (ho : o.length ≤ 8192) (hn : ps.flatten.length ≤ 8192) (hps : ∀ p ∈ ps, 8 ≤ p.length ∧ Occ o p) : (diffD o ps.flatten).length ≤ 16 * ps.length + 14 := by
  have h1 := diff_bytes ho hn
  have h2 := parts_bytes ho ps.flatten.length [] [] ps (by simp) hps (fun h => absurd rfl h) (fun h => absurd rfl h)
  simp at h2; omega
end Go.Proofs.YtefloieanpgnmaaDoor
/- delta's writer: number, operation. -/
namespace Go.Proofs.YtefloieanpgnmaaDoor
open Go.RowKit

theorem isB_below {B b : Nat} {bs : List Value} {wx wy : World} (h : IsB B b bs wx) (hb : Below wx.heap.size wx wy) : IsB B b bs wy := by
  have key : ∀ p, Lib.BuilderAt 115 5 B b p bs wx → Lib.BuilderAt 115 5 B b p bs wy := by
    rintro p ⟨hB, v, hv, hown, hne⟩
    exact ⟨hB, v, (hb.block _ (some_lt hv)).trans hv, hown.kept (row := none) ⟨hb.os, hb.tape, hb.output, hb.size, fun k hk _ => hb.block k hk⟩ (by cases v.ownBlock <;> simp), hne⟩
  exact h.imp (key _) (key _)

/-- what a method of the writer leaves -/
def WEnd (b : Nat) (l : List UInt8) (w : World) (e : Ending) (w' : World) : Prop := e = .returned (.tuple #[]) ∧ IsB b b (Lib.byteCells l) w' ∧ Below b w w' ∧ KStab w w'

set_option maxHeartbeats 400000 in
theorem wnum_any (b : Nat) (l : List UInt8) (i : Int) (w : World) (h : IsB b b (Lib.byteCells l) w) (hl : l.length ≤ 2000000000000) (h1 : -4611686018427387903 ≤ i) (h2 : i ≤ 4611686018427387903) (hbw : b ≤ w.heap.size) :
    Calls Tryd.prog 62 #[.pointer (some ⟨b, 0, none⟩), .int .i64 i] w (WEnd b (l ++ putInt i) w) := by
  have HB := Lib.hid h; clear h
  have hp := putInt_len h1 h2
  go_enter Tryd.func62, Tryd.ntmps62
  go_wp2_with fail
  refine (putInt_any i _ h1 h2).mono ?_
  unfold putTup
  rintro e w1 ⟨rfl, hb1⟩
  have HB1 := Lib.hid (isB_below HB.out hb1); have HL1 := Lib.hid hb1
  have hz := hb1.size
  clear hb1
  go_wp2_with fail
  refine (bld_writeK b b (Lib.byteCells l) ⟨(putInt i).toArray⟩ _ HB1.out (by rw [mk_size, Lib.byteCells_length]; omega) (by omega)).mono ?_
  rintro e w2 ⟨rfl, ha, hb2, hk2⟩
  have HA : Hid (IsB b b (Lib.byteCells (l ++ putInt i)) w2) := Lib.hid (by rw [Lib.byteCells_append]; exact .inr ha)
  have H2 := Lib.hid hb2; have HK := Lib.hid hk2
  clear ha hb2 hk2
  go_wp2
  go_end0
  exact ⟨rfl, HA.out, (HL1.out.mono hbw).trans H2.out, (KStab.below HL1.out).trans HK.out⟩

def DOp.enc (y : DOp) : Value := .agg #[.int .i64 (y.n : Int), .int .i64 (y.off : Int), .string ⟨y.text.toArray⟩]

theorem dop_bytes_len {y : DOp} (hn : y.n ≤ 100000) (hoff : y.off ≤ 100000) (ht : y.text.length ≤ 65536) : y.bytes.length ≤ 65600 := by
  unfold DOp.bytes
  have h0 := putInt_len (n := 0) (by decide) (by decide)
  have h1 := putInt_len (n := (y.n : Int)) (by omega) (by omega)
  have h2 := putInt_len (n := (y.off : Int)) (by omega) (by omega)
  have h3 := putInt_len (n := (y.text.length : Int)) (by omega) (by omega)
  unfold putStr
  split <;> simp only [List.length_append] <;> omega

set_option maxRecDepth 100000 in
set_option maxHeartbeats 1000000 in
theorem wop_any (b : Nat) (l : List UInt8) (y : DOp) (w : World) (h : IsB b b (Lib.byteCells l) w) (hl : l.length ≤ 1000000000000) (hn : y.n ≤ 100000) (hoff : y.off ≤ 100000) (ht : y.text.length ≤ 65536) (hbw : b ≤ w.heap.size) :
    Calls Tryd.prog 64 #[.pointer (some ⟨b, 0, none⟩), y.enc] w (WEnd b (l ++ y.bytes) w) := by
  obtain ⟨n, off, x⟩ := y
  simp only [] at hn hoff ht
  obtain ⟨w1, hw1⟩ : ∃ w1, w.alloc (.cells #[.int .i64 (n : Int), .int .i64 (off : Int), .string ⟨x.toArray⟩] 134) = w1 := ⟨_, rfl⟩
  have hb1 : Below w.heap.size w w1 := by rw [← hw1]; exact (Below.refl _ _).alloc (Nat.le_refl _) _
  have hX : w1.heap[w.heap.size]? = some (.cells #[.int .i64 (n : Int), .int .i64 (off : Int), .string ⟨x.toArray⟩] 134 (0, 0)) := by rw [← hw1]; exact heap_alloc_new _ _
  have HXF : ∀ wy, KStab w1 wy → Hid (wy.cell? ⟨w.heap.size, 0, none⟩ = some (.int .i64 (n : Int)) ∧ wy.cell? ⟨w.heap.size, 1, none⟩ = some (.int .i64 (off : Int)) ∧ wy.cell? ⟨w.heap.size, 2, none⟩ = some (.string ⟨x.toArray⟩)) := fun wy hk => Lib.hid (by
    have hxy := hk.same _ _ hX (by intro cs t fr e; cases e; exact ⟨by decide, by decide⟩)
    refine ⟨?_, ?_, ?_⟩ <;> (rw [Lib.cell_of_heap hxy]; rfl))
  obtain ⟨c0, c1, c2⟩ := (HXF w1 (KStab.refl _)).out
  have HB1 := Lib.hid (isB_below h hb1)
  have HFIN : ∀ l' wz, IsB b b (Lib.byteCells l') wz → Below b w1 wz → KStab w1 wz → Hid (WEnd b l' w (.returned (.tuple #[])) wz) := fun l' wz hA hB hK => Lib.hid ⟨rfl, hA, (hb1.mono hbw).trans hB, (KStab.below hb1).trans hK⟩
  have hz1 := hb1.size
  have hp0 := putInt_len (n := (n : Int)) (by omega) (by omega)
  have hz : b ≤ w1.heap.size := by omega
  clear h hX hb1
  unfold DOp.enc
  go_enter Tryd.func64, Tryd.ntmps64
  go_wp2_with fail
  clear hw1
  refine (wnum_any b l n _ HB1.out (by omega) (by omega) (by omega) hz).mono ?_
  rintro e w2 ⟨rfl, hB2, hb2, hk2⟩
  have HB2 := Lib.hid hB2; have HL2 := Lib.hid hb2; have HK2 := Lib.hid hk2
  have hz2 : b ≤ w2.heap.size := by have := hb2.size; omega
  clear hB2 hb2 hk2 c0 c1 c2
  obtain ⟨c0, c1, c2⟩ := (HXF w2 HK2.out).out
  by_cases h0 : 0 < n
  · have HF : Hid (∀ wz, WEnd b (l ++ putInt (n : Int) ++ putInt (off : Int)) w (.returned (.tuple #[])) wz → WEnd b (l ++ DOp.bytes ⟨n, off, x⟩) w (.returned (.tuple #[])) wz) := Lib.hid (fun wz hz => by
      unfold DOp.bytes; rw [if_pos h0, ← List.append_assoc]; exact hz)
    have hgt : decide ((0 : Int) < (n : Int)) = true := by rw [decide_eq_true_eq]; omega
    go_wp2_with fail
    refine (wnum_any b (l ++ putInt (n : Int)) off _ HB2.out (by simp; omega) (by omega) (by omega) hz2).mono ?_
    rintro e w3 ⟨rfl, hB3, hb3, hk3⟩
    have HW := HFIN _ _ hB3 (HL2.out.trans hb3) (HK2.out.trans hk3)
    clear hB3 hb3 hk3
    go_wp2
    first
      | go_end0
      | refine bodyPost_ret (v := .tuple #[]) (by simp [results, Tryd.results64, go_sem]) rfl ?_
    exact HF.out _ HW.out
  · obtain rfl : n = 0 := by omega
    have HF : Hid (∀ wz, WEnd b (l ++ putInt 0 ++ putStr x) w (.returned (.tuple #[])) wz → WEnd b (l ++ DOp.bytes ⟨0, off, x⟩) w (.returned (.tuple #[])) wz) := Lib.hid (fun wz hz => by
      unfold DOp.bytes; rw [if_neg h0, ← List.append_assoc]; exact hz)
    have hps : (putStr x).length ≤ 65600 := by
      have h3 := putInt_len (n := (x.length : Int)) (by omega) (by omega)
      unfold putStr; rw [List.length_append]; omega
    go_wp2_with fail
    refine (putString_any x _ ht).mono ?_
    unfold putTup
    rintro e w3 ⟨rfl, hb3⟩
    have HB3 := Lib.hid (isB_below HB2.out hb3); have HL3 := Lib.hid (HL2.out.trans (hb3.mono hz2)); have HK3 := Lib.hid (HK2.out.trans (KStab.below hb3))
    have hz3 : b ≤ w3.heap.size := by have := hb3.size; omega
    clear hb3
    go_wp2_with fail
    refine (bld_writeK b b (Lib.byteCells (l ++ putInt ((0 : Nat) : Int))) ⟨(putStr x).toArray⟩ _ HB3.out (by rw [mk_size, Lib.byteCells_length, List.length_append]; omega) hz3).mono ?_
    rintro e w4 ⟨rfl, hA4, hb4, hk4⟩
    have HW := HFIN (l ++ putInt 0 ++ putStr x) _ (by rw [Lib.byteCells_append]; exact .inr hA4) (HL3.out.trans hb4) (HK3.out.trans hk4)
    clear hA4 hb4 hk4
    go_wp2
    first
      | go_end0
      | refine bodyPost_ret (v := .tuple #[]) (by simp [results, Tryd.results64, go_sem]) rfl ?_
    exact HF.out _ HW.out
end Go.Proofs.YtefloieanpgnmaaDoor

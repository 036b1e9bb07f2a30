/- Facts and contracts for the laws of the sender, part 2. Conditions: those that each theorem names. -/
import Derived.Test.YtefloieanpgnmaaDoorK01
import Derived.Laws.IdiomStrings
import Derived.Lib.Strings
import Derived.Maps.AppendAt
import Derived.RangeFuncBox
import Derived.Deep.QuietTactic
import Derived.BigQuiet
import Derived.Test.YtefloieanpgnmaaDoorProg
import Derived.Lib.Hide
import Derived.WalkKit
namespace Go.Proofs.YtefloieanpgnmaaDoor
open Go.RowKit

theorem mk_size (x : List UInt8) : (⟨x.toArray⟩ : ByteArray).size = x.length := by simp [ByteArray.size]
theorem mk_data (x : List UInt8) : (⟨x.toArray⟩ : ByteArray).data.toList = x := by simp
theorem str_add (x y : List UInt8) : (⟨x.toArray⟩ : ByteArray) ++ ⟨y.toArray⟩ = ⟨(x ++ y).toArray⟩ := by
  apply ByteArray.ext; simp
theorem ret_str {a b : ByteArray} (h : a = b) : Ending.returned (.string a) = .returned (.string b) := by rw [h]

theorem tupS3 {a d : ByteArray} {b c e f : Int} (h1 : a = d) (h2 : b = e) (h3 : c = f) : Ending.returned (.tuple #[.string a, .int .i64 b, .int .i64 c]) = .returned (.tuple #[.string d, .int .i64 e, .int .i64 f]) := by rw [h1, h2, h3]
def strAt (l : List UInt8) (a : Nat) : Option (List UInt8 × Nat) :=
  match intAt l a with
  | some (n, k) => if 0 ≤ n ∧ n ≤ 65536 ∧ (k : Int) + n ≤ l.length then some ((l.drop k).take n.toNat, k + n.toNat) else none
  | none => none
def strTup : Option (List UInt8 × Nat) → Value
  | some (x, k) => .tuple #[.string ⟨x.toArray⟩, .int .i64 (k : Int), .int .i64 0]
  | none => .tuple #[.string ⟨#[]⟩, .int .i64 0, .int .i64 10]

theorem intAt_le {l : List UInt8} {a k : Nat} {n : Int} (ha : a ≤ l.length) (h : intAt l a = some (n, k)) : a < k ∧ k ≤ l.length ∧ -4611686018427387903 ≤ n ∧ n ≤ 4611686018427387903 := by
  unfold intAt at h
  cases hr : intRest (l.drop a) with
  | none => rw [hr] at h; simp at h
  | some p =>
    rw [hr] at h
    obtain ⟨m, j⟩ := p
    simp at h
    obtain ⟨rfl, rfl⟩ := h
    have := put_int hr
    have h2 := this.2.2.2.1
    simp at h2
    omega

theorem extract_mk (s : ByteArray) (a b : Nat) : s.extract a b = ⟨((s.data.toList.drop a).take (b - a)).toArray⟩ := by
  apply ByteArray.ext; apply Array.toList_inj.1
  rw [Lib.extract_data]

set_option maxHeartbeats 1000000 in
theorem string_any (s : ByteArray) (a : Nat) (w : World) (hs : s.size ≤ 9223372036854775000) (ha : a ≤ s.size) :
    Calls Tryd.prog 75 #[.string s, .int .i64 a] w fun e w' => e = .returned (strTup (strAt s.data.toList a)) ∧ w = w' := by
  obtain ⟨R, hR⟩ : ∃ R, strTup (strAt s.data.toList a) = R := ⟨_, rfl⟩
  rw [hR]
  have HR := Lib.hid hR; clear hR
  go_enter Tryd.func75, Tryd.ntmps75
  go_wp2_with fail
  refine (int_any s a _ hs ha).mono ?_
  cases hi : intAt s.data.toList a with
  | none =>
    have hfin : R = .tuple #[.string ⟨#[]⟩, .int .i64 0, .int .i64 10] := by rw [← HR.out, strAt, hi]; rfl
    have HF := Lib.hid hfin; clear hfin hi
    unfold intTup
    rintro e w' ⟨rfl, rfl⟩
    go_wp2
    go_ret3
    exact ⟨by rw [HF.out]; rfl, rfl⟩
  | some p =>
    obtain ⟨n, k⟩ := p
    have hk := intAt_le (by simpa using ha) hi
    rw [Array.length_toList, show s.data.size = s.size from rfl] at hk
    have HI := Lib.hid hi; clear hi
    unfold intTup
    obtain ⟨h1, h2, h3, h4⟩ := hk
    by_cases hn : 0 ≤ n ∧ n ≤ 65536 ∧ (k : Int) + n ≤ s.size
    · obtain ⟨m, rfl⟩ := Int.eq_ofNat_of_zero_le hn.1
      obtain ⟨_, hn2, hn3⟩ := hn
      have hfin : R = .tuple #[.string (s.extract k (k + m)), .int .i64 ((k + m : Nat) : Int), .int .i64 0] := by
        rw [← HR.out, strAt, HI.out, extract_mk]
        simp only []
        rw [if_pos ⟨by omega, hn2, by simp; omega⟩]
        simp [strTup]
      have HF := Lib.hid hfin; clear hfin
      rintro e w' ⟨rfl, rfl⟩
      go_wp2
      go_ret3
      exact ⟨by rw [HF.out]; exact tupS3 rfl (by omega) rfl, rfl⟩
    · have hfin : R = .tuple #[.string ⟨#[]⟩, .int .i64 0, .int .i64 10] := by
        rw [← HR.out, strAt, HI.out]
        simp only []
        rw [if_neg (by simpa using hn)]; rfl
      have HF := Lib.hid hfin; clear hfin
      rintro e w' ⟨rfl, rfl⟩
      go_wp2
      all_goals go_ret3
      all_goals exact ⟨by rw [HF.out]; rfl, rfl⟩

theorem infoU8 : (Tryd.prog.info? 5).map (fun i => (i.zero, i.size, i.bytes)) = some (some (.int .u8 0), 1, 1) := by kernel_rfl

def intCells (bs : List UInt8) : List Value := bs.map fun b => .int .u8 (b.toNat : Int)
theorem one_bytes (bs : List UInt8) : ∀ u ∈ intCells bs, u.oneCell' = true := by
  intro u hu; obtain ⟨x, _, rfl⟩ := List.mem_map.1 hu; rfl

theorem addr_add (b j : Nat) : (⟨b, 0, none⟩ : Addr).add j = ⟨b, j, none⟩ := by unfold Addr.add; split <;> simp_all
theorem conv_owned {w : World} {base g cap : Nat} {bs : List UInt8} (h : w.ownsRow base 5 1 (.slice (some ⟨g, 0, none⟩) bs.length cap) bs.length (intCells bs)) :
    (convert 71 9 (.slice (some ⟨g, 0, none⟩) bs.length cap)).run Tryd.prog w = .ok (.string ⟨bs.toArray⟩) w :=
  run_convert_bytes_back _ 71 9 5 ⟨g, 0, none⟩ cap bs Tryd.underlying71 Tryd.underlying5 Tryd.underlying9 (fun j hj => by
    refine h.cells (g := g) rfl j _ ?_
    simp [intCells, List.getElem?_eq_getElem hj])

end Go.Proofs.YtefloieanpgnmaaDoor
/- What a delta is: plain definitions, no program in sight. -/
namespace Go.Proofs.YtefloieanpgnmaaDoor
open Go.RowKit

def opAt (old d : List UInt8) (a : Nat) : Except Int (List UInt8 × Nat) :=
  match intAt d a with
  | none => .error 10
  | some (n, k) =>
    if n < 0 then .error 190
    else if n = 0 then
      match strAt d k with
      | none => .error 10
      | some (x, k2) => if x = [] then .error 190 else .ok (x, k2)
    else
      match intAt d k with
      | none => .error 10
      | some (off, k2) => if 0 ≤ off ∧ off + n ≤ old.length then .ok ((old.drop off.toNat).take n.toNat, k2) else .error 190

def applyGo : Nat → List UInt8 → List UInt8 → Nat → List UInt8 → Except Int (List UInt8)
  | 0, _, _, _, out => .ok out
  | f + 1, old, d, a, out =>
    if d.length ≤ a then .ok out
    else match opAt old d a with
      | .error e => .error e
      | .ok (x, k) => if out.length + x.length ≤ 8192 then applyGo f old d k (out ++ x) else .error 190

def applyD (old d : List UInt8) : Except Int (List UInt8) :=
  if 8192 < old.length then .error 190
  else match intAt d 0 with
    | none => .error 10
    | some (sum, a) =>
      if sum = crcOf old then
        match intAt d a with
        | none => .error 10
        | some (want, a2) =>
          match applyGo (d.length + 1) old d a2 [] with
          | .error e => .error e
          | .ok out => if (crcOf out : Int) = want then .ok out else .error 190
      else .error 190

def exTup : Except Int (List UInt8) → Value
  | .ok x => .tuple #[.string ⟨x.toArray⟩, .int .i64 0]
  | .error e => .tuple #[.string ⟨#[]⟩, .int .i64 e]
def opTup : Except Int (List UInt8 × Nat) → Value
  | .ok (x, k) => .tuple #[.string ⟨x.toArray⟩, .int .i64 (k : Int), .int .i64 0]
  | .error e => .tuple #[.string ⟨#[]⟩, .int .i64 0, .int .i64 e]

theorem strAt_le {l : List UInt8} {a k : Nat} {x : List UInt8} (ha : a ≤ l.length) (h : strAt l a = some (x, k)) : a < k ∧ k ≤ l.length ∧ x.length ≤ 65536 := by
  unfold strAt at h
  cases hi : intAt l a with
  | none => rw [hi] at h; cases h
  | some p =>
    obtain ⟨n, j⟩ := p
    rw [hi] at h
    simp only [] at h
    have := intAt_le ha hi
    split at h
    · rename_i hn
      cases h
      simp; omega
    · cases h

/-- what an operation gives: it goes forward, and what it adds is no longer than what it reads from -/
theorem opAt_le {old d x : List UInt8} {a k : Nat} (ha : a ≤ d.length) (h : opAt old d a = .ok (x, k)) : a < k ∧ k ≤ d.length ∧ x ≠ [] ∧ (x.length ≤ 65536 ∨ x.length ≤ old.length) := by
  unfold opAt at h
  cases hi : intAt d a with
  | none => rw [hi] at h; cases h
  | some p =>
    obtain ⟨n, j⟩ := p
    have h1 := intAt_le ha hi
    rw [hi] at h
    simp only [] at h
    split at h
    · cases h
    · split at h
      · cases hs : strAt d j with
        | none => rw [hs] at h; cases h
        | some q =>
          obtain ⟨y, j2⟩ := q
          have h2 := strAt_le h1.2.1 hs
          rw [hs] at h
          simp only [] at h
          split at h
          · cases h
          · cases h
            exact ⟨by omega, h2.2.1, by assumption, .inl h2.2.2⟩
      · cases hs : intAt d j with
        | none => rw [hs] at h; cases h
        | some q =>
          obtain ⟨off, j2⟩ := q
          have h2 := intAt_le h1.2.1 hs
          rw [hs] at h
          simp only [] at h
          split at h
          · rename_i h5 h6 h7
            cases h
            refine ⟨by omega, h2.2.1, ?_, .inr (by simp; omega)⟩
            intro he
            have := congrArg List.length he
            simp at this; omega
          · cases h
theorem opAt_err {old d : List UInt8} {a : Nat} {e : Int} (h : opAt old d a = .error e) : e = 10 ∨ e = 190 := by
  unfold opAt at h
  cases hi : intAt d a with
  | none => rw [hi] at h; cases h; exact .inl rfl
  | some p =>
    obtain ⟨n, j⟩ := p
    rw [hi] at h
    simp only [] at h
    by_cases h1 : n < 0
    · rw [if_pos h1] at h; cases h; exact .inr rfl
    · rw [if_neg h1] at h
      by_cases h2 : n = 0
      · rw [if_pos h2] at h
        cases hs : strAt d j with
        | none => rw [hs] at h; cases h; exact .inl rfl
        | some q =>
          obtain ⟨y, j2⟩ := q
          rw [hs] at h
          simp only [] at h
          by_cases h3 : y = []
          · rw [if_pos h3] at h; cases h; exact .inr rfl
          · rw [if_neg h3] at h; cases h
      · rw [if_neg h2] at h
        cases hs : intAt d j with
        | none => rw [hs] at h; cases h; exact .inl rfl
        | some q =>
          obtain ⟨off, j2⟩ := q
          rw [hs] at h
          simp only [] at h
          by_cases h3 : 0 ≤ off ∧ off + n ≤ old.length
          · rw [if_pos h3] at h; cases h
          · rw [if_neg h3] at h; cases h; exact .inr rfl
end Go.Proofs.YtefloieanpgnmaaDoor
namespace Go.Proofs.YtefloieanpgnmaaDoor
open Go.RowKit

def putTup (x : List UInt8) : Value := .tuple #[.string ⟨x.toArray⟩, .int .i64 0]

theorem byte_wrap (z : Nat) (hz : z < 256) : IntKind.u8.wrap (z : Int) = z := by
  rw [show IntKind.u8.wrap (z : Int) = (z : Int) % 256 by simp [IntKind.wrap, IntKind.bits, IntKind.signed]]; omega

theorem conv_last {w : World} {base g cap : Nat} {bs : List UInt8} {c : UInt8} {n : Int} (hc : (c.toNat : Int) = n) (h : w.ownsRow base 5 1 (.slice (some ⟨g, 0, none⟩) (bs.length + 1) cap) (bs.length + 1) (intCells bs ++ [.int .u8 n])) :
    (convert 71 9 (.slice (some ⟨g, 0, none⟩) (bs.length + 1) cap)).run Tryd.prog w = .ok (.string ⟨(bs ++ [c]).toArray⟩) w := by
  have e : (bs ++ [c]).length = bs.length + 1 := by simp
  have hh := conv_owned (w := w) (base := base) (g := g) (cap := cap) (bs := bs ++ [c]) (by rw [e, intCells, List.map_append]; simpa [intCells, hc] using h)
  rw [e] at hh
  exact hh

end Go.Proofs.YtefloieanpgnmaaDoor
namespace Go.Proofs.YtefloieanpgnmaaDoor
open Go.RowKit

theorem canon_iff {l : List UInt8} {i : Nat} (h : GoOn l i) (hi : i < l.length) (hi9 : i < 9) (hb : l[i].toNat < 128) :
    putInt (unzig (groupVal (l.take (i + 1)))) = l.take (i + 1) ↔ ¬ (l[i].toNat = 0 ∧ 0 < i) := by
  have htk : l.take (i + 1) = l.take i ++ [l[i]] := List.take_succ_eq_append_getElem hi
  have hlen : (l.take i).length = i := by simp; omega
  have hall : ∀ c ∈ l.take i, 128 ≤ c.toNat := by
    intro c hc
    obtain ⟨j, hj, rfl⟩ := List.getElem_of_mem hc
    rw [List.getElem_take]
    rw [hlen] at hj
    exact h.2 j hj (by omega)
  have hz : groupVal (l.take (i + 1)) < 9223372036854775808 := groupVal_take_lt l (i + 1) (by omega)
  unfold putInt
  rw [zig_unzig]
  constructor
  · rintro he ⟨h0, hp⟩
    obtain ⟨bs, b, e, _, _, hn, _, _⟩ := groups_form 9 (groupVal (l.take (i + 1))) (Nat.lt_trans hz (by decide))
    rw [e, htk] at he
    have h1 := congrArg List.length he
    have h2 : b = l[i] := by
      have := List.append_inj_right' he rfl
      simpa using this
    rw [List.length_append, List.length_append, hlen] at h1
    rcases hn with rfl | hn
    · simp at h1; omega
    · rw [h2] at hn; exact hn h0
  · intro hn
    rw [htk]
    exact groups_of_val (l.take i) l[i] 9 hall hb (by
      by_cases h0 : i = 0
      · left; rw [h0]; rfl
      · right; intro h'; exact hn ⟨h', by omega⟩) (by omega)

theorem add_group {l : List UInt8} {i : Nat} (h : i < l.length) (hi : i < 9) {b : UInt8} (hb : b = l[i]) :
    (groupVal (l.take i) : Int) + IntKind.u64.wrap ((b.toNat : Int) % 128 * 2 ^ (7 * i)) = (groupVal (l.take (i + 1)) : Int) := by
  subst hb
  have hp8 : (128 : Nat) ^ i ≤ 128 ^ 8 := Nat.pow_le_pow_right (by omega) (by omega)
  have h8 : (128 : Nat) ^ 8 = 72057594037927936 := by decide
  have hm : l[i].toNat % 128 * 128 ^ i ≤ 127 * 72057594037927936 := Nat.mul_le_mul (by omega) (by omega)
  have hl : (l.take i).length = i := by simp; omega
  have e : ((l[i].toNat : Int) % 128 * 2 ^ (7 * i)) = ((l[i].toNat % 128 * 128 ^ i : Nat) : Int) := by
    rw [← pow_seven]; push_cast; rfl
  have ew : IntKind.u64.wrap ((l[i].toNat % 128 * 128 ^ i : Nat) : Int) = ((l[i].toNat % 128 * 128 ^ i : Nat) : Int) := by
    rw [show IntKind.u64.wrap ((l[i].toNat % 128 * 128 ^ i : Nat) : Int) = ((l[i].toNat % 128 * 128 ^ i : Nat) : Int) % 18446744073709551616 by simp [IntKind.wrap, IntKind.bits, IntKind.signed]]
    omega
  rw [e, ew, List.take_succ_eq_append_getElem h, groupVal_snoc, hl]; omega

theorem unzig_range {Z : Nat} (h : Z < 9223372036854775808) : unzig Z ≤ 4611686018427387903 := by unfold unzig; split <;> omega

end Go.Proofs.YtefloieanpgnmaaDoor
namespace Go.Proofs.YtefloieanpgnmaaDoor
open Go.RowKit

def putStr (x : List UInt8) : List UInt8 := putInt x.length ++ x

theorem putInt_len {n : Int} (h1 : -4611686018427387903 ≤ n) (h2 : n ≤ 4611686018427387903) : 0 < (putInt n).length ∧ (putInt n).length ≤ 9 := by
  have hz := zig_lt h1 h2
  obtain ⟨bs, b, e, hc, hb, hn, hl, hv⟩ := groups_form 8 (zig n) (Nat.lt_trans hz (by decide))
  have e9 : groupsF 9 (zig n) = groupsF 8 (zig n) := by
    have := groups_of_val bs b 9 hc hb hn (by omega)
    rw [hv] at this; rw [this, e]
  rw [putInt, e9, e]; simp; omega

end Go.Proofs.YtefloieanpgnmaaDoor
/- What Diff writes: plain definitions, no program in sight. -/
namespace Go.Proofs.YtefloieanpgnmaaDoor
open Go.RowKit

def comm : List UInt8 → List UInt8 → Nat
  | a :: l, b :: r => if a = b then comm l r + 1 else 0
  | _, _ => 0

theorem comm_le : ∀ (x y : List UInt8), comm x y ≤ x.length ∧ comm x y ≤ y.length
  | [], _ => by simp [comm]
  | _ :: _, [] => by simp [comm]
  | a :: l, b :: r => by
    unfold comm
    have := comm_le l r
    split <;> simp <;> omega

theorem comm_take : ∀ (x y : List UInt8), x.take (comm x y) = y.take (comm x y)
  | [], _ => by simp [comm]
  | _ :: _, [] => by simp [comm]
  | a :: l, b :: r => by
    unfold comm
    have := comm_take l r
    split
    · rename_i h; subst h; simp [this]
    · simp

theorem comm_more : ∀ (x y : List UInt8) (n : Nat) (h1 : n < x.length) (h2 : n < y.length), n ≤ comm x y → x[n] = y[n] → n + 1 ≤ comm x y
  | [], _, _, h1, _, _, _ => by simp at h1
  | _ :: _, [], _, _, h2, _, _ => by simp at h2
  | a :: l, b :: r, 0, _, _, _, he => by
    simp at he; subst he; simp [comm]
  | a :: l, b :: r, n + 1, h1, h2, hn, he => by
    unfold comm at hn ⊢
    split at hn
    · rename_i hab
      rw [if_pos hab]
      have := comm_more l r n (by simpa using h1) (by simpa using h2) (by omega) (by simpa using he)
      omega
    · omega

theorem comm_eq : ∀ (x y : List UInt8) (n : Nat) (h1 : n < x.length) (h2 : n < y.length), n < comm x y → x[n] = y[n]
  | [], _, _, h1, _, _ => by simp at h1
  | _ :: _, [], _, _, h2, _ => by simp at h2
  | a :: l, b :: r, 0, _, _, hn => by
    unfold comm at hn
    split at hn
    · simpa
    · omega
  | a :: l, b :: r, n + 1, h1, h2, hn => by
    unfold comm at hn
    split at hn
    · have := comm_eq l r n (by simpa using h1) (by simpa using h2) (by omega)
      simpa using this
    · omega

/-- the best of the offsets 0 .. k - 1 -/
def longAt (o s : List UInt8) : Nat → Nat × Nat
  | 0 => (0, 0)
  | k + 1 => if (longAt o s k).1 < comm (o.drop k) s then (comm (o.drop k) s, k) else longAt o s k

def longD (o s : List UInt8) : Nat × Nat := longAt o s o.length

theorem longAt_ok (o s : List UInt8) (k : Nat) (hk : k ≤ o.length) : (longAt o s k).1 ≤ s.length ∧ (longAt o s k).2 + (longAt o s k).1 ≤ o.length ∧ (o.drop (longAt o s k).2).take (longAt o s k).1 = s.take (longAt o s k).1 := by
  induction k with
  | zero => simp [longAt]
  | succ k ih =>
    unfold longAt
    split
    · have h1 := comm_le (o.drop k) s
      have h2 := comm_take (o.drop k) s
      simp only [List.length_drop] at h1
      exact ⟨h1.2, by simp only []; omega, h2⟩
    · exact ih (by omega)

def insD (x : List UInt8) : List UInt8 := if x = [] then [] else putInt 0 ++ putStr x

/-- the operations from a rest on, with an insertion under way -/
def opsD (o : List UInt8) : Nat → List UInt8 → List UInt8 → List UInt8
  | 0, _, _ => []
  | f + 1, rest, fresh =>
    match rest with
    | [] => insD fresh
    | c :: t =>
      if 8 ≤ (longD o (c :: t)).1 then insD fresh ++ putInt (longD o (c :: t)).1 ++ putInt (longD o (c :: t)).2 ++ opsD o f ((c :: t).drop (longD o (c :: t)).1) []
      else opsD o f t (fresh ++ [c])

def diffD (o n : List UInt8) : List UInt8 :=
  if 8192 < o.length ∨ 8192 < n.length then [] else putInt (crcOf o) ++ putInt (crcOf n) ++ opsD o (n.length + 1) n []
end Go.Proofs.YtefloieanpgnmaaDoor
/- ref19's longest and insertion. -/
namespace Go.Proofs.YtefloieanpgnmaaDoor
open Go.RowKit

theorem wrap_small (x : Int) (h1 : -9223372036854775808 ≤ x) (h2 : x ≤ 9223372036854775807) : IntKind.i64.wrap x = x := by
  unfold IntKind.wrap
  simp [IntKind.bits, IntKind.signed]
  omega

end Go.Proofs.YtefloieanpgnmaaDoor
namespace Go.Proofs.YtefloieanpgnmaaDoor
open Go.RowKit

theorem intTup_some {n : Int} {k : Nat} : intTup (some (n, k)) = .tuple #[.int .i64 n, .int .i64 (k : Int), .int .i64 0] := rfl
theorem intTup_none : intTup none = .tuple #[.int .i64 0, .int .i64 0, .int .i64 10] := rfl


end Go.Proofs.YtefloieanpgnmaaDoor
namespace Go.Proofs.YtefloieanpgnmaaDoor
open Go.RowKit

/-- after the two checksums: what the loop comes to -/
def applyEnd (want : Int) : Except Int (List UInt8) → Except Int (List UInt8)
  | .error e => .error e
  | .ok out => if (crcOf out : Int) = want then .ok out else .error 190

end Go.Proofs.YtefloieanpgnmaaDoor
/- ref19's Diff. -/
namespace Go.Proofs.YtefloieanpgnmaaDoor
open Go.RowKit

theorem insD_len {x : List UInt8} (hx : x.length ≤ 65536) : (insD x).length ≤ 18 + x.length := by
  unfold insD
  split
  · simp
  · have h1 := putInt_len (n := 0) (by decide) (by decide)
    have h2 := putInt_len (n := (x.length : Int)) (by omega) (by omega)
    unfold putStr
    simp only [List.length_append]
    omega

theorem longD_ok (o s : List UInt8) : (longD o s).1 ≤ s.length ∧ (longD o s).2 + (longD o s).1 ≤ o.length ∧ (o.drop (longD o s).2).take (longD o s).1 = s.take (longD o s).1 := longAt_ok o s o.length (Nat.le_refl _)

theorem crcOf_int (x : List UInt8) : -4611686018427387903 ≤ (crcOf x : Int) ∧ (crcOf x : Int) ≤ 4611686018427387903 := by
  have := crcOf_le x
  omega

end Go.Proofs.YtefloieanpgnmaaDoor
/- Messages: Valid of the program and of the reference. -/
namespace Go.Proofs.YtefloieanpgnmaaDoor
open Go.RowKit

structure Msg where
  kind : Int
  partner : Int
  seq : Int
  story : Int
  base : Int
  version : Int
  data : List UInt8

def Msg.enc (m : Msg) : Value := .agg #[.int .i64 m.kind, .int .i64 m.partner, .int .i64 m.seq, .int .i64 m.story, .int .i64 m.base, .int .i64 m.version, .string ⟨m.data.toArray⟩]

def Msg.valid (m : Msg) : Bool :=
  decide (1 ≤ m.partner ∧ m.partner ≤ 8 ∧ 1 ≤ m.seq ∧ m.seq ≤ 4611686018427387903 ∧ 1 ≤ m.story ∧ m.story ≤ 64 ∧ 0 ≤ m.base ∧ m.base ≤ 4294967295 ∧ 0 ≤ m.version ∧ m.version ≤ 4294967295 ∧
    ((m.kind = 1 ∧ m.data.length ≤ 16384) ∨ (m.kind = 2 ∧ m.base = 0 ∧ m.version = 0 ∧ m.data = []) ∨ (m.kind = 3 ∧ m.base = 0 ∧ m.data = []) ∨ (m.kind = 4 ∧ m.version = 0 ∧ m.data = [])))

theorem ret_bool {a b : Bool} (h : a = b) : Ending.returned (.bool a) = .returned (.bool b) := by rw [h]

theorem isSum_any (n : Int) (w : World) :
    Calls Tryd.prog 36 #[.int .i64 n] w fun e w' => e = .returned (.bool (decide (0 ≤ n ∧ n ≤ 4294967295))) ∧ w = w' := by
  obtain ⟨R, hR⟩ : ∃ R, decide (0 ≤ n ∧ n ≤ 4294967295) = R := ⟨_, rfl⟩
  rw [hR]
  have HR := Lib.hid hR; clear hR
  go_enter Tryd.func36, Tryd.ntmps36
  go_wp2
  all_goals (
    go_ret
    refine ⟨ret_bool ?_, rfl⟩
    rw [← HR.out, Bool.eq_iff_iff]
    simp
    omega)

end Go.Proofs.YtefloieanpgnmaaDoor
/- What a sender keeps and does: plain definitions, no program in sight. -/
namespace Go.Proofs.YtefloieanpgnmaaDoor

/-- unknown, no text, a text -/
inductive Kn where
  | unk : Kn
  | abs : Kn
  | pres (t : List UInt8) : Kn
def Kn.is : Kn → Kn → Bool
  | .abs, .abs => true
  | .pres a, .pres b => decide (a = b)
  | _, _ => false
theorem Kn.is_iff {a b : Kn} : a.is b = true ↔ a = b ∧ a ≠ .unk := by
  cases a <;> cases b <;> simp [Kn.is]
/-- a message that is out -/
structure Out where
  msg : Msg
  text : Kn
  sent : Bool
  tm : Int
structure Sto where
  wanted : Kn
  held : Kn
  out : Option Out
  acked : Option Msg
structure Sen where
  partner : Int
  lease : Int
  counter : Int
  audit : Nat
  st : Nat → Sto

def upd (f : Nat → Sto) (i : Nat) (x : Sto) : Nat → Sto := fun j => if j = i then x else f j
theorem upd_same (f : Nat → Sto) (i : Nat) (x : Sto) : upd f i x i = x := by simp [upd]
theorem upd_ne {f : Nat → Sto} {i j : Nat} {x : Sto} (h : j ≠ i) : upd f i x j = f j := by simp [upd, h]
def sto0 : Sto := ⟨.abs, .unk, none, none⟩
def newS (partner lease : Int) : Sen := ⟨partner, lease, 0, 0, fun _ => sto0⟩

def Sen.tgt (S : Sen) (i : Nat) (now : Int) : Kn := if S.lease < now then .abs else (S.st i).wanted
/-- a message that does not suit the target is dropped -/
def drop1 (t : Kn) (x : Sto) : Sto := match x.out with
  | none => x
  | some o => if o.text.is t = true then x else { x with held := if o.sent then .unk else x.held, out := none }
def Sen.drops (S : Sen) (now : Int) (k : Nat) : Sen := { S with st := fun i => if i < k then drop1 (S.tgt i now) (S.st i) else S.st i }
/-- how many messages are out -/
def Sen.outs (S : Sen) : Nat := (List.range 64).countP fun i => (S.st i).out.isSome
def maxI : Int := 4611686018427387903
/-- the copy that a delivery is made against -/
def baseOf : Kn → Option (List UInt8)
  | .pres h => if crcOf h = 0 then none else some h
  | _ => none
def nextMsg (S : Sen) (i : Nat) (t : Kn) : Msg := match t with
  | .pres x => match baseOf (S.st i).held with
    | some h => ⟨1, S.partner, S.counter + 1, (i : Int) + 1, crcOf h, crcOf x, diffD h x⟩
    | none => ⟨1, S.partner, S.counter + 1, (i : Int) + 1, 0, crcOf x, diffD [] x⟩
  | _ => ⟨2, S.partner, S.counter + 1, (i : Int) + 1, 0, 0, []⟩
/-- which stories get a message: first the revoked ones, then the wanted ones, then the others -/
def cls : Nat → Kn → Kn → Bool
  | 0, .pres _, .abs => true
  | 0, _, _ => false
  | 1, _, .pres _ => true
  | 1, _, _ => false
  | _, _, _ => true
def skips (now : Int) (c : Nat) (X : Sen × Nat) (i : Nat) : Bool :=
  (X.1.st i).out.isSome || (X.1.st i).held.is (X.1.tgt i now) || !cls c (X.1.st i).held (X.1.tgt i now) || decide (16 ≤ X.2) || decide (maxI ≤ X.1.counter)
def outNew (S : Sen) (now : Int) (i : Nat) : Sen := { S with counter := S.counter + 1, st := upd S.st i { S.st i with out := some ⟨nextMsg S i (S.tgt i now), S.tgt i now, false, 0⟩ } }
def fill1 (now : Int) (c : Nat) (X : Sen × Nat) (i : Nat) : Sen × Nat := if skips now c X i = true then X else (outNew X.1 now i, X.2 + 1)
def fillC (now : Int) (c : Nat) (X : Sen × Nat) (k : Nat) : Sen × Nat := (List.range k).foldl (fill1 now c) X
theorem fillC_succ (now : Int) (c : Nat) (X : Sen × Nat) (k : Nat) : fillC now c X (k + 1) = fill1 now c (fillC now c X k) k := by
  unfold fillC; rw [List.range_succ, List.foldl_append, List.foldl_cons, List.foldl_nil]
def fillK (now : Int) (X : Sen × Nat) (c : Nat) : Sen × Nat := (List.range c).foldl (fun X c => fillC now c X 64) X
theorem fillK_succ (now : Int) (X : Sen × Nat) (c : Nat) : fillK now X (c + 1) = fillC now c (fillK now X c) 64 := by
  unfold fillK; rw [List.range_succ, List.foldl_append, List.foldl_cons, List.foldl_nil]
def Sen.plan (S : Sen) (now : Int) : Sen := (fillK now (S.drops now 64, (S.drops now 64).outs) 3).1

def Sen.seqAt (S : Sen) (i : Nat) : Int := match (S.st i).out with
  | some o => o.msg.seq
  | none => match (S.st i).acked with
    | some m => m.seq
    | none => 0
/-- an answer that is processed: what becomes of its story, before the plan; none: the answer is ignored -/
def Sen.recv1 (S : Sen) (m : Msg) (i : Nat) : Option Sen :=
  match (S.st i).out with
  | some o =>
    if m.seq = o.msg.seq ∧ m.kind = 3 ∧ m.version = o.msg.version then some { S with st := upd S.st i { S.st i with held := o.text, out := none, acked := some o.msg } }
    else if m.seq = o.msg.seq then some { S with st := upd S.st i { S.st i with held := .unk, out := none } }
    else if m.kind = 4 ∧ o.msg.seq < m.seq then some { S with counter := max S.counter m.seq, st := upd S.st i { S.st i with held := .unk, out := none } }
    else none
  | none =>
    if m.kind = 4 ∧ S.seqAt i < m.seq then some { S with counter := max S.counter m.seq, st := upd S.st i { S.st i with held := .unk, out := none } }
    else none
def Sen.recv (S : Sen) (now : Int) (m : Msg) : Sen :=
  if m.valid = true ∧ m.partner = S.partner ∧ (m.kind = 3 ∨ m.kind = 4) then
    match S.recv1 m (m.story - 1).toNat with
    | some S' => S'.plan now
    | none => S
  else S

/-- the messages that are out and chosen, by ascending numbers: their stories -/
def Sen.sel (S : Sen) (p : Out → Bool) : List Nat := ((List.range 64).filter fun i => match (S.st i).out with | some o => p o | none => false).mergeSort fun i j => decide (S.seqAt i ≤ S.seqAt j)
def due (now : Int) (o : Out) : Bool := !o.sent || decide (now < o.tm) || decide (8 ≤ now - o.tm)
def sent1 (now : Int) (x : Sto) : Sto := { x with out := x.out.map fun o => { o with sent := true, tm := now } }
def Sen.sends (S : Sen) (now : Int) (l : List Nat) : Sen := { S with st := fun i => if i ∈ l then sent1 now (S.st i) else S.st i }
def Sen.msgs (S : Sen) (l : List Nat) : List Msg := l.filterMap fun i => (S.st i).out.map (·.msg)
/-- four audits -/
def audits : Sen → Nat → List Msg × Sen
  | S, 0 => ([], S)
  | S, k + 1 => ((match (S.st S.audit).acked with | some m => [m] | none => []) ++ (audits { S with audit := (S.audit + 1) % 64 } k).1, (audits { S with audit := (S.audit + 1) % 64 } k).2)
def Sen.tick (S : Sen) (now : Int) : List Msg × Sen :=
  let S1 := S.plan now
  if S1.outs = 0 then audits S1 4 else (S1.msgs (S1.sel (due now)), S1.sends now (S1.sel (due now)))

def wantAt (l : List (Int × List UInt8)) (i : Nat) : Kn := match l.find? fun x => decide (x.1 = (i : Int) + 1) with
  | some x => .pres x.2
  | none => .abs
def Sen.want (S : Sen) (now : Int) (l : List (Int × List UInt8)) : Sen := Sen.plan { S with st := fun i => { S.st i with wanted := wantAt l i } } now
def Sen.heldL (S : Sen) : List (Int × List UInt8) := (List.range 64).filterMap fun i => match (S.st i).held with | .pres t => some ((i : Int) + 1, t) | _ => none
def Sen.settled (S : Sen) (now : Int) : Bool := (List.range 64).all fun i => (S.st i).out.isNone && (S.st i).held.is (S.tgt i now)
end Go.Proofs.YtefloieanpgnmaaDoor
/- A sender in memory. -/
namespace Go.Proofs.YtefloieanpgnmaaDoor
open Go.RowKit

/-- all but the blocks of S lies as it lay, of the blocks below n -/
structure But (S : Nat → Prop) (n : Nat) (w w' : World) : Prop where
  os : w'.os = w.os
  tape : w'.tape = w.tape
  output : w'.output = w.output
  size : w.heap.size ≤ w'.heap.size
  block : ∀ k, k < n → ¬ S k → w'.heap[k]? = w.heap[k]?
theorem But.of_below {S : Nat → Prop} {n : Nat} {w w' : World} (h : Below n w w') : But S n w w' := ⟨h.os, h.tape, h.output, h.size, fun k hk _ => h.block k hk⟩
theorem But.refl (S : Nat → Prop) (n : Nat) (w : World) : But S n w w := But.of_below (Below.refl n w)
theorem But.trans {S : Nat → Prop} {n : Nat} {a b c : World} (h : But S n a b) (k : But S n b c) : But S n a c :=
  ⟨k.os.trans h.os, k.tape.trans h.tape, k.output.trans h.output, Nat.le_trans h.size k.size, fun i hi hs => (k.block i hi hs).trans (h.block i hi hs)⟩
theorem But.mono {S : Nat → Prop} {n m : Nat} {w w' : World} (h : But S n w w') (hm : m ≤ n) : But S m w w' := ⟨h.os, h.tape, h.output, h.size, fun k hk => h.block k (by omega)⟩
theorem But.weaken {S T : Nat → Prop} {n : Nat} {w w' : World} (h : But S n w w') (hm : ∀ k, k < n → S k → T k) : But T n w w' := ⟨h.os, h.tape, h.output, h.size, fun k hk ht => h.block k hk fun hs => ht (hm k hk hs)⟩
theorem But.below {S : Nat → Prop} {n m : Nat} {w w' : World} (h : But S n w w') (hm : m ≤ n) (hs : ∀ k, S k → m ≤ k) : Below m w w' := ⟨h.os, h.tape, h.output, h.size, fun k hk => h.block k (by omega) fun e => by have := hs k e; omega⟩
theorem But.setCell {S : Nat → Prop} {n : Nat} {w w' : World} (h : But S n w w') {b o : Nat} (hb : S b) (v : Value) : But S n w (w'.setCell ⟨b, o, none⟩ v) :=
  ⟨h.os, h.tape, h.output, by simp [h.size], fun k hk hs => (Below.heap_setCell w' ⟨b, o, none⟩ v k (fun e => hs (by rw [e]; exact hb))).trans (h.block k hk hs)⟩
theorem But.drewN {S : Nat → Prop} {n : Nat} {w w' : World} (h : But S n w w') (q : Nat) : But S n w (w'.drewN q) := h.trans (But.of_below ((Below.refl n w').drewN q))
theorem But.drew1 {S : Nat → Prop} {n : Nat} {w w' : World} (h : But S n w w') : But S n w w'.drew := h.trans (But.of_below ((Below.refl n w').drew))
theorem cell_same {w w' : World} {b o : Nat} {v : Value} (h : w'.heap[b]? = w.heap[b]?) (k : w.cell? ⟨b, o, none⟩ = some v) : w'.cell? ⟨b, o, none⟩ = some v := by
  rw [← k]; exact World.cell?_of_block (a := ⟨b, o, none⟩) h
theorem frozen_same {w w' : World} {b o : Nat} {v : Bool} (h : w'.heap[b]? = w.heap[b]?) (k : w.frozen? ⟨b, o, none⟩ = v) : w'.frozen? ⟨b, o, none⟩ = v := by
  rw [← k]; exact World.frozen?_of_block (a := ⟨b, o, none⟩) h

/-- n cells of block b, as f says -/
def SenF (n : Nat) (w : World) (b : Nat) (f : Nat → Value) : Prop := ∀ o, o < n → w.cell? ⟨b, o, none⟩ = some (f o) ∧ w.frozen? ⟨b, o, none⟩ = false
def updV (f : Nat → Value) (k : Nat) (v : Value) : Nat → Value := fun o => if o = k then v else f o
theorem SenF.kept {n : Nat} {w w' : World} {b : Nat} {f : Nat → Value} (h : SenF n w b f) (hk : w'.heap[b]? = w.heap[b]?) : SenF n w' b f := fun o ho => ⟨cell_same hk (h o ho).1, frozen_same hk (h o ho).2⟩
theorem SenF.set {n : Nat} {w : World} {b : Nat} {f : Nat → Value} (h : SenF n w b f) {k : Nat} (hk : k < n) (v : Value) : SenF n (w.setCell ⟨b, k, none⟩ v) b (updV f k v) := fun o ho => by
  rw [World.frozen?_setCell]
  refine ⟨?_, (h o ho).2⟩
  unfold updV
  by_cases e : o = k
  · subst e
    rw [if_pos rfl, World.cell?_setCell_same' _ _ _ (by rw [(h o ho).1]; rfl)]
  · rw [if_neg e, World.cell?_setCell_other w ⟨b, k, none⟩ ⟨b, o, none⟩ _ (fun e' => e (by injection e' with _ e1; exact e1.symm)), (h o ho).1]
theorem SenF.congr {n : Nat} {w : World} {b : Nat} {f g : Nat → Value} (h : SenF n w b f) (he : ∀ o, o < n → f o = g o) : SenF n w b g := fun o ho => by rw [← he o ho]; exact h o ho

def Kn.num : Kn → Int
  | .unk => 0
  | .abs => 1
  | .pres _ => 2
def Kn.txt : Kn → List UInt8
  | .pres t => t
  | _ => []
def Kn.enc (k : Kn) : Value := .agg #[.int .i64 k.num, .string ⟨k.txt.toArray⟩]
theorem Kn.ext {a b : Kn} (h : a.num = b.num) (k : a.txt = b.txt) : a = b := by
  cases a <;> cases b <;> simp_all [Kn.num, Kn.txt]
def msg0 : Msg := ⟨0, 0, 0, 0, 0, 0, []⟩
def ackN : Option Msg → Int
  | none => 1
  | some _ => 2
def ackM : Option Msg → Msg
  | none => msg0
  | some m => m
def ptrV (p : Option Nat) : Value := .pointer (p.map fun g => ⟨g, 0, none⟩)
/-- the thirteen cells of a story -/
def stoV (x : Sto) (p : Option Nat) : Nat → Value
  | 0 => .int .i64 x.wanted.num
  | 1 => .string ⟨x.wanted.txt.toArray⟩
  | 2 => .int .i64 x.held.num
  | 3 => .string ⟨x.held.txt.toArray⟩
  | 4 => ptrV p
  | 5 => .int .i64 (ackN x.acked)
  | 6 => .int .i64 (ackM x.acked).kind
  | 7 => .int .i64 (ackM x.acked).partner
  | 8 => .int .i64 (ackM x.acked).seq
  | 9 => .int .i64 (ackM x.acked).story
  | 10 => .int .i64 (ackM x.acked).base
  | 11 => .int .i64 (ackM x.acked).version
  | _ => .string ⟨(ackM x.acked).data.toArray⟩
def senV (S : Sen) (P : Nat → Option Nat) : Nat → Value
  | 0 => .int .i64 S.partner
  | 1 => .int .i64 S.lease
  | 2 => .int .i64 S.counter
  | 3 => .int .i64 S.audit
  | o + 4 => stoV (S.st (o / 13)) (P (o / 13)) (o % 13)
theorem senV_at (S : Sen) (P : Nat → Option Nat) (i c : Nat) (hc : c < 13) : senV S P (4 + i * 13 + c) = stoV (S.st i) (P i) c := by
  rw [show 4 + i * 13 + c = (i * 13 + c) + 4 by omega]
  show stoV (S.st ((i * 13 + c) / 13)) (P ((i * 13 + c) / 13)) ((i * 13 + c) % 13) = _
  rw [show (i * 13 + c) / 13 = i by omega, show (i * 13 + c) % 13 = c by omega]
/-- all cells: the header's, and each story's -/
theorem all_cells {p : Nat → Prop} (h0 : p 0) (h1 : p 1) (h2 : p 2) (h3 : p 3) (h : ∀ i c, i < 64 → c < 13 → p (4 + i * 13 + c)) : ∀ o, o < 836 → p o := fun o ho => by
  rcases Nat.lt_or_ge o 4 with h4 | h4
  · match o, h4 with
    | 0, _ => exact h0
    | 1, _ => exact h1
    | 2, _ => exact h2
    | 3, _ => exact h3
  · have := h ((o - 4) / 13) ((o - 4) % 13) (by omega) (by omega)
    rwa [show 4 + (o - 4) / 13 * 13 + (o - 4) % 13 = o by omega] at this

/-- the cells of a message that is out -/
def outC (o : Out) : Array Value := #[.int .i64 o.msg.kind, .int .i64 o.msg.partner, .int .i64 o.msg.seq, .int .i64 o.msg.story, .int .i64 o.msg.base, .int .i64 o.msg.version, .string ⟨o.msg.data.toArray⟩, .int .i64 o.text.num, .string ⟨o.text.txt.toArray⟩, .bool o.sent, .int .i64 o.tm]

/-- what a sender keeps, and is true of it whenever -/
structure SenOk (S : Sen) : Prop where
  partner : 1 ≤ S.partner ∧ S.partner ≤ 8
  lease : -9223372036854775808 ≤ S.lease ∧ S.lease ≤ 9223372036854775807
  counter : 0 ≤ S.counter ∧ S.counter ≤ 4611686018427387903
  audit : S.audit < 64
  wanted : ∀ i, (S.st i).wanted.txt.length ≤ 8192 ∧ (S.st i).wanted ≠ .unk
  held : ∀ i, (S.st i).held.txt.length ≤ 8192
  outs : ∀ i o, (S.st i).out = some o → 1 ≤ o.msg.seq ∧ o.msg.seq ≤ S.counter ∧ o.text.txt.length ≤ 8192 ∧ o.msg.data.length ≤ 1000000 ∧ (-9223372036854775808 ≤ o.tm ∧ o.tm ≤ 9223372036854775807)
  acked : ∀ i m, (S.st i).acked = some m → m.data.length ≤ 1000000
  apart : ∀ i j o o', (S.st i).out = some o → (S.st j).out = some o' → o.msg.seq = o'.msg.seq → i = j

/-- b points to a sender S, whose messages that are out lie in the blocks P; T: the blocks that it owns -/
structure SenAt (T : Nat → Prop) (w : World) (b : Nat) (S : Sen) (P : Nat → Option Nat) : Prop where
  ok : SenOk S
  lt : ∀ k, T k → k < w.heap.size
  own : T b
  cells : SenF 836 w b (senV S P)
  nout : ∀ i, i < 64 → (S.st i).out = none → P i = none
  sout : ∀ i o, i < 64 → (S.st i).out = some o → ∃ g, P i = some g ∧ T g ∧ g ≠ b ∧ w.heap[g]? = some (.cells (outC o) 85 (0, 0))
  inj : ∀ i j g, i < 64 → j < 64 → P i = some g → P j = some g → i = j
theorem SenAt.kept {T : Nat → Prop} {w w' : World} {b : Nat} {S : Sen} {P : Nat → Option Nat} (h : SenAt T w b S P) (hs : w.heap.size ≤ w'.heap.size) (hk : ∀ k, T k → w'.heap[k]? = w.heap[k]?) : SenAt T w' b S P :=
  ⟨h.ok, fun k hT => Nat.lt_of_lt_of_le (h.lt k hT) hs, h.own, h.cells.kept (hk b h.own), h.nout, fun i o hi ho => by
    obtain ⟨g, h1, h2, h3, h4⟩ := h.sout i o hi ho
    exact ⟨g, h1, h2, h3, (hk g h2).trans h4⟩, h.inj⟩
theorem SenAt.below {T : Nat → Prop} {w w' : World} {b : Nat} {S : Sen} {P : Nat → Option Nat} (h : SenAt T w b S P) (hb : Below w.heap.size w w') : SenAt T w' b S P := h.kept hb.size fun k hT => hb.block k (h.lt k hT)
theorem SenAt.blt {T : Nat → Prop} {w : World} {b : Nat} {S : Sen} {P : Nat → Option Nat} (h : SenAt T w b S P) : b < w.heap.size := h.lt b h.own

/-- a story's thirteen cells -/
theorem SenAt.story {T : Nat → Prop} {w : World} {b : Nat} {S : Sen} {P : Nat → Option Nat} (h : SenAt T w b S P) {i : Nat} (hi : i < 64) (c : Nat) (hc : c < 13) : w.cell? ⟨b, 4 + i * 13 + c, none⟩ = some (stoV (S.st i) (P i) c) ∧ w.frozen? ⟨b, 4 + i * 13 + c, none⟩ = false := by
  have := h.cells (4 + i * 13 + c) (by omega)
  rwa [senV_at S P i c hc] at this

/-- a message in a block -/
def Msg.cells (m : Msg) : Array Value := #[.int .i64 m.kind, .int .i64 m.partner, .int .i64 m.seq, .int .i64 m.story, .int .i64 m.base, .int .i64 m.version, .string ⟨m.data.toArray⟩]
def MAt (K : Nat) (m : Msg) (w : World) : Prop := w.heap[K]? = some (.cells m.cells 33 (0, 0))
theorem MAt.lt {K : Nat} {m : Msg} {w : World} (h : MAt K m w) : K < w.heap.size := (Array.getElem?_eq_some_iff.1 h).1
theorem MAt.below {K : Nat} {m : Msg} {w w' : World} (h : MAt K m w) (hb : Below w.heap.size w w') : MAt K m w' := (hb.block K h.lt).trans h
theorem MAt.c {K : Nat} {m : Msg} {w : World} (h : MAt K m w) : w.cell? ⟨K, 0, none⟩ = some (.int .i64 m.kind) ∧ w.cell? ⟨K, 1, none⟩ = some (.int .i64 m.partner) ∧ w.cell? ⟨K, 2, none⟩ = some (.int .i64 m.seq) ∧ w.cell? ⟨K, 3, none⟩ = some (.int .i64 m.story) ∧ w.cell? ⟨K, 4, none⟩ = some (.int .i64 m.base) ∧ w.cell? ⟨K, 5, none⟩ = some (.int .i64 m.version) ∧ w.cell? ⟨K, 6, none⟩ = some (.string ⟨m.data.toArray⟩) := by
  refine ⟨?_, ?_, ?_, ?_, ?_, ?_, ?_⟩ <;> (rw [Lib.cell_of_heap h]; rfl)
theorem MAt.frozen {K : Nat} {m : Msg} {w : World} (h : MAt K m w) (o : Nat) : w.frozen? ⟨K, o, none⟩ = false := Lib.frozen_of_heap h o
theorem MAt.put0 {K : Nat} {m : Msg} {w : World} (h : MAt K m w) (v : Int) : MAt K { m with kind := v } (w.setCell ⟨K, 0, none⟩ (.int .i64 v)) := by unfold MAt at *; simp [World.setCell, Array.getElem?_modify, h, Msg.cells]
theorem MAt.put4 {K : Nat} {m : Msg} {w : World} (h : MAt K m w) (v : Int) : MAt K { m with base := v } (w.setCell ⟨K, 4, none⟩ (.int .i64 v)) := by unfold MAt at *; simp [World.setCell, Array.getElem?_modify, h, Msg.cells]
theorem MAt.put5 {K : Nat} {m : Msg} {w : World} (h : MAt K m w) (v : Int) : MAt K { m with version := v } (w.setCell ⟨K, 5, none⟩ (.int .i64 v)) := by unfold MAt at *; simp [World.setCell, Array.getElem?_modify, h, Msg.cells]
theorem MAt.put6 {K : Nat} {m : Msg} {w : World} (h : MAt K m w) (v : List UInt8) : MAt K { m with data := v } (w.setCell ⟨K, 6, none⟩ (.string ⟨v.toArray⟩)) := by unfold MAt at *; simp [World.setCell, Array.getElem?_modify, h, Msg.cells]
end Go.Proofs.YtefloieanpgnmaaDoor

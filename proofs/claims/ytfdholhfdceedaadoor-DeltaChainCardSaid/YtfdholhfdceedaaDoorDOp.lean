/- Plain facts for the law DeltaOperations: a delta that is written operation by operation. -/
import Derived.Test.YtfdholhfdceedaaDoorDPl
namespace Go.Proofs.YtfdholhfdceedaaDoor
open Go.RowKit

structure Stp where
  n : Int
  off : Int
  s : List UInt8

def Stp.copy (x : Stp) : Bool := decide (0 < x.n ∧ x.n < 100000 ∧ -100000 < x.off ∧ x.off < 100000)
def Stp.text (x : Stp) : List UInt8 := x.s.take 400
def Stp.enc (x : Stp) : List UInt8 := if x.copy = true then putInt x.n ++ putInt x.off else putInt 0 ++ putStr x.text
def Stp.good (o : List UInt8) (x : Stp) : Bool := if x.copy = true then decide (0 ≤ x.off ∧ x.off + x.n ≤ o.length) else decide (x.text ≠ [])
def Stp.add (o : List UInt8) (x : Stp) : List UInt8 := if x.copy = true then (if 0 ≤ x.off ∧ x.off + x.n ≤ o.length then (o.drop x.off.toNat).take x.n.toNat else []) else x.text

theorem opAt_cp {o : List UInt8} {n off : Int} (h0 : 0 < n) (h1 : n < 100000) (h2 : -100000 < off) (h3 : off < 100000) (pre r : List UInt8) :
    opAt o (pre ++ (putInt n ++ (putInt off ++ r))) pre.length = if 0 ≤ off ∧ off + n ≤ o.length then .ok ((o.drop off.toNat).take n.toNat, pre.length + (putInt n).length + (putInt off).length) else .error 190 := by
  unfold opAt
  rw [intAt_put (by omega) (by omega)]
  simp only []
  have := intAt_put (n := off) (by omega) (by omega) (pre ++ putInt n) r
  rw [List.append_assoc, List.length_append] at this
  rw [if_neg (by omega), if_neg (by omega), this]
theorem opAt_in {o x : List UInt8} (hx : x.length ≤ 65536) (pre r : List UInt8) :
    opAt o (pre ++ (putInt 0 ++ (putStr x ++ r))) pre.length = if x = [] then .error 190 else .ok (x, pre.length + (putInt 0).length + (putStr x).length) := by
  unfold opAt
  rw [intAt_put (by decide) (by decide)]
  simp only []
  have := strAt_put hx (pre ++ putInt 0) r
  rw [List.append_assoc, List.length_append] at this
  rw [if_neg (by omega), if_pos trivial, this]

theorem Stp.text_len (x : Stp) : x.text.length ≤ 400 := by unfold Stp.text; simp; omega
theorem opAt_stp (o : List UInt8) (x : Stp) (pre r : List UInt8) : opAt o (pre ++ (x.enc ++ r)) pre.length = if x.good o = true then .ok (x.add o, pre.length + x.enc.length) else .error 190 := by
  unfold Stp.enc Stp.good Stp.add
  by_cases hc : x.copy = true
  · rw [if_pos hc, if_pos hc, if_pos hc, List.append_assoc]
    have hc' := of_decide_eq_true hc
    rw [opAt_cp hc'.1 hc'.2.1 hc'.2.2.1 hc'.2.2.2]
    by_cases h : 0 ≤ x.off ∧ x.off + x.n ≤ o.length
    · rw [if_pos h, if_pos (decide_eq_true h), if_pos h, List.length_append, Nat.add_assoc]
    · rw [if_neg h, if_neg (by rw [decide_eq_true_iff]; exact h)]
  · rw [if_neg hc, if_neg hc, if_neg hc, List.append_assoc, opAt_in (by have := x.text_len; omega)]
    by_cases h : x.text = []
    · rw [if_pos h, if_neg (by simp [h])]
    · rw [if_neg h, if_pos (decide_eq_true h), List.length_append, Nat.add_assoc]
theorem Stp.enc_pos (x : Stp) : 0 < x.enc.length := by
  unfold Stp.enc
  split
  · rename_i hc
    have hc' := of_decide_eq_true hc
    have := putInt_len (n := x.n) (by omega) (by omega)
    rw [List.length_append]; omega
  · have := putInt_len (n := 0) (by decide) (by decide)
    rw [List.length_append]; omega
theorem Stp.enc_len (x : Stp) : x.enc.length ≤ 500 := by
  unfold Stp.enc
  split
  · rename_i hc
    have hc' := of_decide_eq_true hc
    have := putInt_len (n := x.n) (by omega) (by omega)
    have := putInt_len (n := x.off) (by omega) (by omega)
    rw [List.length_append]; omega
  · have := putInt_len (n := 0) (by decide) (by decide)
    have h1 := x.text_len
    have := putInt_len (n := (x.text.length : Int)) (by omega) (by omega)
    unfold putStr
    rw [List.length_append, List.length_append]; omega
theorem Stp.add_len (o : List UInt8) (x : Stp) : (x.add o).length ≤ o.length + 400 := by
  unfold Stp.add
  have h1 := x.text_len
  split
  · split
    · simp; omega
    · simp
  · omega

theorem apply_steps (o : List UInt8) : ∀ (l : List Stp) (pre out : List UInt8) (g : Nat), (l.flatMap Stp.enc).length < g → out.length ≤ 8192 →
    applyGo g o (pre ++ l.flatMap Stp.enc) pre.length out = if l.all (Stp.good o) = true ∧ out.length + (l.flatMap (Stp.add o)).length ≤ 8192 then .ok (out ++ l.flatMap (Stp.add o)) else .error 190
  | [], pre, out, g, hg, ho => by
    obtain ⟨g, rfl⟩ : ∃ k, g = k + 1 := ⟨g - 1, by simp at hg; omega⟩
    rw [applyGo_end (by simp)]
    simp [ho]
  | x :: l, pre, out, g, hg, ho => by
    have hp := x.enc_pos
    rw [List.flatMap_cons] at hg ⊢
    rw [List.length_append] at hg
    obtain ⟨g, rfl⟩ : ∃ k, g = k + 1 := ⟨g - 1, by omega⟩
    have ha : ¬ (pre ++ (x.enc ++ l.flatMap Stp.enc)).length ≤ pre.length := by simp only [List.length_append]; omega
    rw [applyGo, if_neg ha, opAt_stp]
    by_cases hgd : x.good o = true
    · rw [if_pos hgd]
      simp only []
      by_cases hl : out.length + (x.add o).length ≤ 8192
      · rw [if_pos hl, ← List.append_assoc, ← List.length_append, apply_steps o l (pre ++ x.enc) (out ++ x.add o) g (by omega) (by simpa using hl)]
        simp only [List.all_cons, hgd, Bool.true_and, List.flatMap_cons, List.length_append, List.append_assoc, Nat.add_assoc]
      · rw [if_neg hl, if_neg]
        rintro ⟨_, h⟩
        rw [List.flatMap_cons, List.length_append] at h
        omega
    · rw [if_neg hgd]
      simp only []
      rw [if_neg]
      rintro ⟨h, _⟩
      rw [List.all_cons, Bool.and_eq_true] at h
      exact hgd h.1

/-- law DeltaOperations -/
theorem apply_written {o : List UInt8} (ho : o.length ≤ 8192) (l : List Stp) {sum : Int} (h0 : 0 ≤ sum) (h1 : sum ≤ 4294967296) :
    applyD o (putInt (crcOf o) ++ putInt sum ++ l.flatMap Stp.enc) = if l.all (Stp.good o) = true ∧ (l.flatMap (Stp.add o)).length ≤ 8192 ∧ sum = crcOf (l.flatMap (Stp.add o)) then .ok (l.flatMap (Stp.add o)) else .error 190 := by
  have c1 := crcOf_le o
  unfold applyD
  rw [if_neg (by omega), List.append_assoc]
  have e1 := intAt_put (n := (crcOf o : Int)) (by omega) (by omega) [] (putInt sum ++ l.flatMap Stp.enc)
  simp only [List.nil_append, List.length_nil, Nat.zero_add] at e1
  rw [e1]
  simp only []
  rw [if_pos trivial]
  have e2 := intAt_put (n := sum) (by omega) (by omega) (putInt (crcOf o : Int)) (l.flatMap Stp.enc)
  rw [e2]
  simp only []
  have e3 := apply_steps o l (putInt (crcOf o : Int) ++ putInt sum) [] ((putInt (crcOf o : Int) ++ (putInt sum ++ l.flatMap Stp.enc)).length + 1) (by simp; omega) (by simp)
  have el : (putInt (crcOf o : Int) ++ putInt sum).length = (putInt (crcOf o : Int)).length + (putInt sum).length := List.length_append
  rw [List.append_assoc, el] at e3
  rw [e3]
  by_cases h : l.all (Stp.good o) = true ∧ ([] : List UInt8).length + (l.flatMap (Stp.add o)).length ≤ 8192
  · rw [if_pos h]
    simp only [List.nil_append, List.length_nil, Nat.zero_add] at h ⊢
    by_cases hs : sum = crcOf (l.flatMap (Stp.add o))
    · rw [if_pos hs.symm, if_pos ⟨h.1, h.2, hs⟩]
    · rw [if_neg (fun e => hs e.symm), if_neg (fun e => hs e.2.2)]
  · rw [if_neg h]
    simp only [List.length_nil, Nat.zero_add] at h ⊢
    rw [if_neg (fun e => h ⟨e.1, e.2.1⟩)]

/-- law DeltaOtherBase -/
theorem apply_other {b o n : List UInt8} (hb : b.length ≤ 8192) (ho : o.length ≤ 8192) (hn : n.length ≤ 8192) (h : crcOf b ≠ crcOf o) : applyD b (diffD o n) = .error 190 := by
  have c1 := crcOf_le o
  unfold applyD diffD
  rw [if_neg (by omega), if_neg (by omega), List.append_assoc]
  have h1 := intAt_put (n := (crcOf o : Int)) (by omega) (by omega) [] (putInt (crcOf n : Int) ++ opsD o (n.length + 1) n [])
  simp only [List.nil_append, List.length_nil, Nat.zero_add] at h1
  rw [h1]
  simp only []
  rw [if_neg (by omega)]
theorem apply_sums {b o n t : List UInt8} (ho : o.length ≤ 8192) (hn : n.length ≤ 8192) (h : applyD b (diffD o n) = .ok t) : crcOf t = crcOf n := by
  have := apply_cut (j := (diffD o n).length) ho hn (by rwa [List.take_length])
  exact this.2.1
/-- law DeltaRoundTrip -/
theorem diff_long {o n : List UInt8} (h : 8192 < o.length ∨ 8192 < n.length) : diffD o n = [] := by unfold diffD; rw [if_pos h]
theorem apply_empty (o : List UInt8) : ∃ e : Int, applyD o [] = .error e ∧ (e = 10 ∨ e = 190) := by
  unfold applyD
  by_cases h : 8192 < o.length
  · rw [if_pos h]; exact ⟨190, rfl, .inr rfl⟩
  · rw [if_neg h]
    have : intAt [] 0 = none := rfl
    rw [this]; exact ⟨10, rfl, .inl rfl⟩
theorem diff_pos {o n : List UInt8} (ho : o.length ≤ 8192) (hn : n.length ≤ 8192) : diffD o n ≠ [] := by
  intro h
  have c1 := crcOf_le o
  have := putInt_len (n := (crcOf o : Int)) (by omega) (by omega)
  unfold diffD at h
  rw [if_neg (by omega)] at h
  have h2 := congrArg List.length h
  simp only [List.length_append, List.length_nil] at h2; omega
end Go.Proofs.YtfdholhfdceedaaDoor

/- Facts and contracts for the laws of the sender, part 22. Conditions: those that each theorem names. -/
import Derived.Test.YtogjgibaolppfaaGreatDoorK18
import Derived.Test.YtogjgibaolppfaaGreatDoorK21
import Derived.Test.YtogjgibaolppfaaGreatDoorK11
import Derived.Test.YtogjgibaolppfaaGreatDoorK03
import Derived.Test.YtogjgibaolppfaaGreatDoorK19
import Derived.Test.YtogjgibaolppfaaGreatDoorK04
import Derived.Test.YtogjgibaolppfaaGreatDoorK13
import Derived.Test.YtogjgibaolppfaaGreatDoorK10
import Derived.Test.YtogjgibaolppfaaGreatDoorK14
import Derived.Test.YtogjgibaolppfaaGreatDoorK12
import Derived.Test.YtogjgibaolppfaaGreatDoorK07
import Derived.Test.YtogjgibaolppfaaGreatDoorK15
import Derived.IntWalk
import Derived.Laws.AppendOwn
import Derived.OwnWalk
import Derived.Deep.DeepCutAuto
import Derived.Deep.CutBlock
/- the law's small functions: Odd, Part. -/
namespace Go.Proofs.YtogjgibaolppfaaGreatDoor
open Go.RowKit Go.Lib Go.Proofs

/-- v is a slice of integers, however long -/
def IntsL (W : World) (v : Value) (l : List Int) : Prop :=
  ∃ a c, v = .slice a l.length c ∧ l.length ≤ c ∧ c ≤ 9223372036854775807 ∧ ∀ j (h : j < l.length), ∃ b off, a = some ⟨b, off, none⟩ ∧ W.cell? ⟨b, off + j, none⟩ = some (.int .i64 l[j]) ∧ I64 l[j]
theorem IntsL.below {W W' : World} {v : Value} {l : List Int} (h : IntsL W v l) (hb : Below W.heap.size W W') : IntsL W' v l := by
  obtain ⟨a, c, hv, hle, hm, hc⟩ := h
  refine ⟨a, c, hv, hle, hm, fun j hj => ?_⟩
  obtain ⟨b, off, ha, h1, h2⟩ := hc j hj
  exact ⟨b, off, ha, (hb.cell (World.block_lt_of_cell? W _ h1)).trans h1, h2⟩
def oddL : List (List UInt8) := [[97], [82, 97, 105, 110], [50, 110, 100], [32], [32], [45], [34], [34], [42], [32, 32], [99, 105, 116, 121, 32, 99, 111, 117, 110, 99, 105, 108], [195, 169], [9], [97, 98, 99, 100, 101, 102, 103, 104, 105, 106, 107, 108, 109, 110, 111, 112, 113, 114, 115, 116, 117, 118, 119, 120, 121, 122, 97, 98, 99, 100], [101]]
theorem odd_le : ∀ x ∈ oddL, x.length ≤ 30 := by decide
set_option maxRecDepth 100000 in
set_option maxHeartbeats 4000000 in
theorem odd_any (v : Value) (l : List Int) (w : World) (hv : IntsL w v l) :
    Calls Tryz.prog 13 #[v] w fun e w' => ∃ t : List UInt8, e = .returned (.string ⟨t.toArray⟩) ∧ t.length ≤ 480 ∧ Below w.heap.size w w' := by
  obtain ⟨a, c, rfl, hle, hcm, hcel⟩ := hv
  have HCEL := Lib.hid hcel
  have hb : Below w.heap.size w (w.alloc (.cells (oddL.map encW).toArray 9)) := (Below.refl _ w).alloc (Nat.le_refl _) _
  obtain ⟨a2, c2, e1, -, -, hx⟩ := strsAt_new w oddL (by decide)
  have hmk : ∀ j (h : j < 15), ∃ x : List UInt8, x.length ≤ 30 ∧ (w.alloc (.cells (oddL.map encW).toArray 9)).cell? ⟨w.heap.size, j, none⟩ = some (.string ⟨x.toArray⟩) := fun j h => by
    obtain ⟨b, off, e2, ck⟩ := hx j h
    injection e1 with e3 _ _
    rw [e2] at e3
    injection e3 with e3
    injection e3 with e4 e5
    subst e4; subst e5
    rw [Nat.zero_add] at ck
    exact ⟨oddL[j], odd_le _ (List.getElem_mem _), ck⟩
  obtain ⟨w1, hw1⟩ : ∃ w1, w.alloc (.cells (oddL.map encW).toArray 9) = w1 := ⟨_, rfl⟩
  have hw1' : w.alloc (.cells #[.string ⟨#[97]⟩, .string ⟨#[82, 97, 105, 110]⟩, .string ⟨#[50, 110, 100]⟩, .string ⟨#[32]⟩, .string ⟨#[32]⟩, .string ⟨#[45]⟩, .string ⟨#[34]⟩, .string ⟨#[34]⟩, .string ⟨#[42]⟩, .string ⟨#[32, 32]⟩, .string ⟨#[99, 105, 116, 121, 32, 99, 111, 117, 110, 99, 105, 108]⟩, .string ⟨#[195, 169]⟩, .string ⟨#[9]⟩, .string ⟨#[97, 98, 99, 100, 101, 102, 103, 104, 105, 106, 107, 108, 109, 110, 111, 112, 113, 114, 115, 116, 117, 118, 119, 120, 121, 122, 97, 98, 99, 100]⟩, .string ⟨#[101]⟩] 9) = w1 := hw1
  rw [hw1] at hb hmk
  have HMK := Lib.hid hmk
  have HB0 := Lib.hid hb
  obtain ⟨B, hB⟩ : ∃ B, w.heap.size = B := ⟨_, rfl⟩
  rw [hB] at HMK
  have HCEL1 : Hid (∀ j (h : j < l.length), ∃ b off, a = some ⟨b, off, none⟩ ∧ w1.cell? ⟨b, off + j, none⟩ = some (.int .i64 l[j]) ∧ I64 l[j]) := Lib.hid (fun j h => by
    obtain ⟨b, off, h1, h2, h3⟩ := HCEL.out j h
    exact ⟨b, off, h1, (hb.cell (World.block_lt_of_cell? w _ h2)).trans h2, h3⟩)
  clear hw1 hmk hb hx e1 HCEL hcel
  go_enter Tryz.func13, Tryz.ntmps13
  go_upto_region 4 with fail
  clear hw1' hB
  go_loop [4, 5] (fun v4 v5 => ∃ (k : Nat) (s : List UInt8), v5 = .int .i64 k ∧ v4 = .string ⟨s.toArray⟩ ∧ k ≤ l.length ∧ k ≤ 16 ∧ s.length ≤ 30 * k) (fun _ v5 => l.length - (intOf v5).toNat)
  case atStart => exact ⟨0, [], rfl, rfl, Nat.zero_le _, by omega, by simp⟩
  case round =>
    obtain ⟨k, s, rfl, rfl, hk, hk16, hsl⟩ := hrel
    by_cases hgo : k < l.length ∧ k < 16
    · have g1 : decide ((k : Int) < (l.length : Int)) = true := decide_eq_true (by omega)
      have g1' : decide (k < l.length) = true := decide_eq_true hgo.1
      have g2 : decide ((k : Int) < 16) = true := decide_eq_true (by omega)
      have g2' : decide (k < 16) = true := decide_eq_true hgo.2
      have hki : (k : Int) < (l.length : Int) := by omega
      obtain ⟨b, off, rfl, ck, hi64⟩ := HCEL1.out k hgo.1
      have hp : ∀ W, Calls Tryz.prog 31 #[.int .i64 l[k], .int .i64 15] W fun e w' => e = .returned (.int .i64 ((pickN l[k] 15 : Nat) : Int)) ∧ W = w' := fun W => pick_any l[k] hi64 15 (by decide) (by decide) W
      have hj15 := pickN_lt (c := l[k]) (n := 15) (by decide)
      obtain ⟨j, hj⟩ : ∃ j, pickN l[k] 15 = j := ⟨_, rfl⟩
      obtain ⟨x9, hx9⟩ : ∃ x, l[k] = x := ⟨_, rfl⟩
      rw [hj] at hp hj15
      rw [hx9] at hp ck
      obtain ⟨x, hxl, cx⟩ := HMK.out j hj15
      have hc1 := run_cat s x (by omega)
      have hj0 : (0 : Int) ≤ (j : Int) := by omega
      have hj1 : (j : Int) < 15 := by omega
      have hl2 : (s ++ x).length ≤ 30 * (k + 1) := by rw [List.length_append]; omega
      have hgo1 := hgo.1
      have hgo2 := hgo.2
      have hadd := str_cat s x
      have hsx : s.length + x.length ≤ 1000 := by omega
      clear hj hx9 hi64 hgo
      go_wp2_with (first
        | (go_at_call 31; (with_reducible (refine (hp _).mono ?_)); rintro e wx ⟨rfl, rfl⟩)
        | fail)
      go_round
      case rel => exact ⟨k + 1, s ++ x, by go_num, by first | rfl | (rw [hadd]), by omega, by omega, hl2⟩
      case measure => simp [intOf]; omega
    · have hsl2 : s.length ≤ 480 := by omega
      by_cases h1 : k < l.length
      · have g1 : decide ((k : Int) < (l.length : Int)) = true := decide_eq_true (by omega)
        have g1' : decide (k < l.length) = true := decide_eq_true h1
        have g2 : decide ((k : Int) < 16) = false := decide_eq_false (by omega)
        have g2' : decide (k < 16) = false := decide_eq_false (by omega)
        clear hgo h1
        go_wp2_with fail
        go_ret
        exact ⟨s, rfl, hsl2, HB0.out⟩
      · have g1 : decide ((k : Int) < (l.length : Int)) = false := decide_eq_false (by omega)
        have g1' : decide (k < l.length) = false := decide_eq_false h1
        clear hgo h1
        go_wp2_with fail
        go_ret
        exact ⟨s, rfl, hsl2, HB0.out⟩
end Go.Proofs.YtogjgibaolppfaaGreatDoor
/- The index and the reference's index side by side; made. -/
namespace Go.Proofs.YtogjgibaolppfaaGreatDoor
open Go.RowKit Go.Sort Go.Proofs Go.Maps Go.Lib

/-- both indexes; all their blocks are from B on -/
structure Both (B : Nat) (S T : Nat → Prop) (N : Nat) (w : World) (p y : Nat) (D E : List Dc) : Prop where
  idx : IdxAt S (fun k => k = y) N w p D
  ref : RefAt T w y E
  apart : ∀ k, S k → ¬ T k
  lowS : ∀ k, S k → B ≤ k
  lowT : ∀ k, T k → B ≤ k
  lowY : B ≤ y
/-- what became of the world since w0 -/
def St (B : Nat) (w0 : World) (p y : Nat) (D E : List Dc) (N : Nat) (W : World) : Prop := ∃ S T : Nat → Prop, Both B S T N W p y D E ∧ Below B w0 W

theorem St.below {B : Nat} {w0 : World} {p y : Nat} {D E : List Dc} {N : Nat} {W W' : World} (h : St B w0 p y D E N W) (hb : Below W.heap.size W W') (hB : B ≤ W.heap.size) : St B w0 p y D E N W' := by
  obtain ⟨S, T, h1, h2⟩ := h
  exact ⟨S, T, ⟨h1.idx.below hb, h1.ref.below hb, h1.apart, h1.lowS, h1.lowT, h1.lowY⟩, h2.trans (hb.mono hB)⟩
theorem St.size {B : Nat} {w0 : World} {p y : Nat} {D E : List Dc} {N : Nat} {W : World} (h : St B w0 p y D E N W) : B ≤ W.heap.size := by
  obtain ⟨S, T, h1, h2⟩ := h
  have := h1.ref.ylt
  have := h1.lowY
  omega
theorem St.xstep {B : Nat} {w0 : World} {p y : Nat} {D E D' : List Dc} {N N' : Nat} {W W' : World} {S T : Nat → Prop} (h : Both B S T N W p y D E) (h2 : Below B w0 W) {S' : Nat → Prop} (hI : IdxAt S' (fun k => k = y) N' W' p D') (hb : But S W.heap.size W W') (hs : ∀ k, S' k → S k ∨ W.heap.size ≤ k) : St B w0 p y D' E N' W' := by
  have hBW : B ≤ W.heap.size := by have := h.ref.ylt; have := h.lowY; omega
  refine ⟨S', T, ⟨hI, h.ref.kept hb.size fun k hk => hb.block k ?_ ?_, fun k hk ht => ?_, fun k hk => ?_, h.lowT, h.lowY⟩, h2.trans (hb.below hBW h.lowS)⟩
  · rcases hk with hk | rfl
    · exact h.ref.lt k hk
    · exact h.ref.ylt
  · intro hs
    rcases hk with hk | rfl
    · exact h.apart k hs hk
    · exact h.idx.out k hs rfl
  · rcases hs k hk with h1 | h1
    · exact h.apart k h1 ht
    · have := h.ref.lt k ht; omega
  · rcases hs k hk with h1 | h1
    · exact h.lowS k h1
    · omega
theorem St.ystep {B : Nat} {w0 : World} {p y : Nat} {D E E' : List Dc} {N : Nat} {W W' : World} {S T : Nat → Prop} (h : Both B S T N W p y D E) (h2 : Below B w0 W) {T' : Nat → Prop} (hR : RefAt T' W' y E') (hb : But (fun k => k = y) W.heap.size W W') (ht : ∀ k, T' k → T k ∨ W.heap.size ≤ k) : St B w0 p y D E' N W' := by
  have hBW : B ≤ W.heap.size := by have := h.ref.ylt; have := h.lowY; omega
  refine ⟨S, T', ⟨h.idx.kept hb fun k hk => hk, hR, fun k hk hk2 => ?_, h.lowS, fun k hk => ?_, h.lowY⟩, h2.trans (hb.below hBW fun k hk => by rw [hk]; exact h.lowY)⟩
  · rcases ht k hk2 with h1 | h1
    · exact h.apart k hk h1
    · have := h.idx.lt k hk; omega
  · rcases ht k hk with h1 | h1
    · exact h.lowT k h1
    · omega
theorem St.start {w0 w w' : World} {p : Nat} {S : Nat → Prop} (h : IdxAt S (fun _ => False) 0 w p []) (hS : ∀ k, S k → w0.heap.size ≤ k) (hb : Below w0.heap.size w0 w) (hw : w.alloc (.cells #[.slice none 0 0] 79) = w') : St w0.heap.size w0 p w.heap.size [] [] 0 w' := by
  have hb2 : Below w.heap.size w w' := by rw [← hw]; exact (Below.refl _ w).alloc (Nat.le_refl _) _
  have hsz : w.heap.size < w'.heap.size := by rw [← hw]; simp
  have hI := h.below hb2
  obtain ⟨b1, b2, v, tx, g, h1, h2, h3, h4, h5⟩ := hI.parts
  refine ⟨S, fun _ => False, ⟨⟨.nil, (fun d hd => by cases hd), (fun d hd => by cases hd), (fun d hd => by cases hd), hI.lt, fun k hk e => ?_, hI.own, b1, b2, v, tx, g, h1, h2, ⟨h3.map, h3.own, h3.none, fun id l hl => by simp [wordsAt] at hl⟩, h4, h5⟩,
    ⟨by simp, (fun d hd => by cases hd), fun k hk => hk.elim, hsz, fun h => h, .slice none 0 0, [], rfl, by rw [← hw]; exact heap_alloc_new _ _, ⟨none, 0, rfl, by simp, by omega, fun j hj => by simp at hj⟩, (fun p hp => by cases hp)⟩, fun k _ hk => hk, hS, fun k hk => hk.elim, hb.size⟩, hb.trans (hb2.mono hb.size)⟩
  subst e
  exact Nat.lt_irrefl _ (h.lt _ hk)


theorem words_le (s : List UInt8) : (wordsOf s).length ≤ s.length := by
  have h1 := wordsGo_count s []
  have h2 : ∀ l : List (List UInt8), (∀ x ∈ l, x ≠ []) → l.length ≤ Lib.lens l := fun l h => by
    induction l with
    | nil => simp
    | cons x l ih =>
      have h3 := ih fun y hy => h y (List.mem_cons_of_mem _ hy)
      have h4 := List.length_pos_iff.2 (h x (by simp))
      simp only [Lib.lens, List.length_cons] at h3 ⊢
      simp at h3 ⊢
      omega
  have h3 := h2 (wordsOf s) (fun x hx => (words_ok s x hx).1)
  have h4 : s.countP isPart ≤ s.length := List.countP_le_length
  unfold wordsOf at h3 ⊢
  simp only [List.length_nil] at h1
  omega
/-- the documents of made -/
def mD (x : List Int) : Nat → List Dc
  | 0 => []
  | k + 1 => putD (mD x k) ((k : Int) + 1) (wordsOf (textF (x.getD k 0)))
theorem mD_asc (x : List Int) : ∀ k, Asc (mD x k)
  | 0 => .nil
  | k + 1 => (mD_asc x k).put _ _
theorem mD_ids (x : List Int) : ∀ k, k ≤ 256 → Ids (mD x k)
  | 0, _ => fun d hd => by cases hd
  | k + 1, h => (mD_ids x k (by omega)).put (by omega) (by omega) _
theorem mD_mem (x : List Int) : ∀ k (d : Dc), d ∈ mD x k ↔ ∃ i, i < k ∧ d = ((i : Int) + 1, wordsOf (textF (x.getD i 0)))
  | 0, d => ⟨fun h => (by cases h), fun ⟨i, h, _⟩ => by omega⟩
  | k + 1, d => by
    rw [mD, mem_put, mD_mem x k]
    constructor
    · rintro (rfl | ⟨⟨i, h, rfl⟩, hne⟩)
      · exact ⟨k, by omega, rfl⟩
      · exact ⟨i, by omega, rfl⟩
    · rintro ⟨i, h, rfl⟩
      by_cases e : i = k
      · subst e; exact .inl rfl
      · exact .inr ⟨⟨i, by omega, rfl⟩, by simp; omega⟩
end Go.Proofs.YtogjgibaolppfaaGreatDoor
/- search: Suggest. -/
namespace Go.Proofs.YtogjgibaolppfaaGreatDoor
open Go.RowKit Go.Lib Go.Proofs Go.Sort Go.Maps

/-- what Suggest answers -/
def sugD (D : List Dc) (q : List UInt8) (n : Int) : List (List UInt8) :=
  if stemF q = [] ∨ 30 < (stemF q).length then [] else (termsQ D (stemF q) n).map fun t => headF q ++ t.1
/-- a row of strings of the call's own -/
def StrsR (base : Nat) (W : World) (v : Value) (l : List (List UInt8)) : Prop := W.ownsRow base 9 1 v l.length (l.map encW)
theorem head_take (q : List UInt8) : q.take (q.length - (stemF q).length) = headF q ∧ q.drop (q.length - (stemF q).length) = stemF q := by
  have h := head_stem q
  have hl : (headF q).length + (stemF q).length = q.length := by rw [← List.length_append, h]
  have e : q.length - (stemF q).length = (headF q).length := by omega
  rw [e]
  have h1 : (headF q ++ stemF q).take (headF q).length = headF q := by simp
  have h2 : (headF q ++ stemF q).drop (headF q).length = stemF q := by simp
  rw [h] at h1 h2
  exact ⟨h1, h2⟩
theorem stem_le (q : List UInt8) : (stemF q).length ≤ q.length := by
  have h := congrArg List.length (head_stem q)
  rw [List.length_append] at h; omega
/-- the loop from the end -/
theorem stem_at {q : List UInt8} {k : Nat} (hk : q.length - (stemF q).length ≤ k) (hkl : k ≤ q.length) (h0 : 0 < k) : (isPart (q[k - 1]'(by omega)) = true ↔ q.length - (stemF q).length ≤ k - 1) := by
  have h := head_stem q
  have hl : (headF q).length + (stemF q).length = q.length := by rw [← List.length_append, h]
  constructor
  · intro hp
    apply Classical.byContradiction
    intro hn
    have hke : k = (headF q).length := by omega
    have hne : headF q ≠ [] := by intro e; rw [e] at hke; simp at hke; omega
    have hlast : (headF q).getLast? = some (q[k - 1]'(by omega)) := by
      rw [List.getLast?_eq_getElem?, ← hke]
      have : q[k - 1]? = (headF q)[k - 1]? := by
        have h3 : (headF q ++ stemF q)[k - 1]? = (headF q)[k - 1]? := List.getElem?_append_left (by omega)
        rw [h] at h3; exact h3
      rw [← this, List.getElem?_eq_getElem (by omega)]
    have hd : (q.reverse.dropWhile isPart).head? = some (q[k - 1]'(by omega)) := by
      rw [← hlast]; unfold headF; rw [List.getLast?_reverse]
    have := List.head?_dropWhile_not isPart q.reverse
    rw [hd] at this
    simp at this
    rw [hp] at this
    cases this
  · intro hp
    refine stem_parts q _ ?_
    have : q[k - 1]? = (stemF q)[k - 1 - (headF q).length]? := by
      have h3 : (headF q ++ stemF q)[k - 1]? = (stemF q)[k - 1 - (headF q).length]? := List.getElem?_append_right (by omega)
      rw [h] at h3; exact h3
    rw [List.getElem?_eq_getElem (by omega)] at this
    exact List.mem_of_getElem? this.symm
end Go.Proofs.YtogjgibaolppfaaGreatDoor
/- Plain: what sane asks. -/
namespace Go.Proofs.YtogjgibaolppfaaGreatDoor

def sT1 : List UInt8 := [84, 104, 101, 32, 99, 105, 116, 121, 32, 99, 111, 117, 110, 99, 105, 108]
def sT2 : List UInt8 := [82, 97, 105, 110, 32, 105, 110, 32, 116, 104, 101, 32, 99, 105, 116, 121, 46, 32, 82, 97, 105, 110, 33]
def kThe : Wd := [116, 104, 101]
def kCity : Wd := [99, 105, 116, 121]
def kCoun : Wd := [99, 111, 117, 110, 99, 105, 108]
def kRain : Wd := [114, 97, 105, 110]
def kIn : Wd := [105, 110]
def sD : List Dc := [(1, [kThe, kCity, kCoun]), (2, [kRain, kIn, kThe, kCity, kRain])]
theorem sD_eq : putD (putD [] 1 (wordsOf sT1)) 2 (wordsOf sT2) = sD := by decide +kernel
theorem sD_asc : Asc sD := by unfold Asc sD; simp
def p1 : List Prt := [⟨1, false, [kCity]⟩]
def p2 : List Prt := [⟨1, false, [kThe]⟩, ⟨3, false, [kRain]⟩]
def p3 : List Prt := [⟨1, false, [kThe]⟩, ⟨2, true, [kCity, kCoun]⟩]
def p4 : List Prt := [⟨1, true, [kRain]⟩]
theorem f1 : foundD sD p1 = [(1, 1), (2, 1)] := by decide +kernel
theorem f2 : foundD sD p2 = [(2, 3)] := by decide +kernel
theorem f3 : foundD sD p3 = [(2, 1)] := by decide +kernel
theorem f4 : foundD sD p4 = [(1, 0)] := by decide +kernel
theorem r1 : resD sD p1 = [(1, 1), (2, 1)] := (res_eq sD_asc (by rw [f1]) (by simp [HLt])).symm
theorem r2 : resD sD p2 = [(2, 3)] := (res_eq sD_asc (by rw [f2]) (by simp)).symm
theorem r3 : resD sD p3 = [(2, 1)] := (res_eq sD_asc (by rw [f3]) (by simp)).symm
theorem r4 : resD sD p4 = [(1, 0)] := (res_eq sD_asc (by rw [f4]) (by simp)).symm
deriving instance DecidableEq for Prt
theorem q1 : parseP [99, 105, 116, 121] = some p1 := by decide +kernel
theorem q2 : parseP [116, 104, 101, 32, 114, 97, 105, 110, 42] = some p2 := by decide +kernel
theorem q3 : parseP [116, 104, 101, 32, 45, 34, 99, 105, 116, 121, 32, 99, 111, 117, 110, 99, 105, 108, 34] = some p3 := by decide +kernel
theorem q4 : parseP [45, 114, 97, 105, 110] = some p4 := by decide +kernel
def p5 : List Prt := [⟨1, false, [[97]]⟩, ⟨3, true, [[98]]⟩]
theorem q5 : parseP [97, 32, 32, 45, 66, 42] = some p5 := by decide +kernel
theorem q6 : parseP [45, 45, 97] = none := by decide +kernel
theorem q7 : formL p5 = [97, 32, 45, 98, 42] := by decide +kernel
theorem t1 : termsD sD [99] = [(kCity, 2), (kCoun, 1)] := by rw [← termsR_eq]; decide +kernel
theorem g1 : stemF [116, 104, 101, 32, 67] = [67] ∧ headF [116, 104, 101, 32, 67] = [116, 104, 101, 32] := by decide +kernel
theorem g2 : prefW [67] = some [99] := by decide +kernel
theorem g3 : sugD sD [116, 104, 101, 32, 67] 5 = [[116, 104, 101, 32, 99, 105, 116, 121], [116, 104, 101, 32, 99, 111, 117, 110, 99, 105, 108]] := by
  unfold sugD
  rw [g1.1, g1.2, if_neg (by decide), termsQ, g2]
  show ((termsD sD [99]).take 5).map _ = _
  rw [t1]
  rfl
end Go.Proofs.YtogjgibaolppfaaGreatDoor
/- Plain: what Parse accepts; what the index's queries answer for words. -/
namespace Go.Proofs.YtogjgibaolppfaaGreatDoor

theorem part1_ok {neg : Bool} {s a : List UInt8} {p : Prt} (h : part1 neg s = some (p, a)) : okPrt p := by
  rw [part1] at h
  by_cases hq : s.head? = some 34
  · rw [if_pos hq] at h
    cases hc : cutQ s.tail with
    | none => rw [hc] at h; cases h
    | some x =>
      rw [hc] at h
      simp only at h
      split at h
      · rename_i hk
        cases h
        have h1 : okPhr (fieldsB x.1) = true := hk
        unfold okPhr at h1
        rw [Bool.and_eq_true, Bool.and_eq_true, decide_eq_true_eq, decide_eq_true_eq] at h1
        exact ⟨.inr (.inl rfl), by simp [h1.2.1], by simp [h1.2.2], fun h => absurd rfl h, fun w hw => by
          obtain ⟨t, ht, rfl⟩ := List.mem_map.1 hw
          exact low_okWord (List.all_eq_true.1 h1.1 t ht)⟩
      · cases h
  · rw [if_neg hq] at h
    split at h
    · rename_i hk
      split at h
      · cases h; exact ⟨.inr (.inr rfl), by simp, by simp, fun _ => rfl, fun w hw => by rw [List.mem_singleton.1 hw]; exact low_okWord hk⟩
      · cases h; exact ⟨.inl rfl, by simp, by simp, fun _ => rfl, fun w hw => by rw [List.mem_singleton.1 hw]; exact low_okWord hk⟩
    · cases h
theorem partP_ok {s a : List UInt8} {p : Prt} (h : partP s = some (p, a)) : okPrt p := by
  rw [partP] at h
  split at h <;> exact part1_ok h
theorem parseGo_ok : ∀ (n : Nat) (s : List UInt8) (acc l : List Prt), (∀ p ∈ acc, okPrt p) → acc.length ≤ 8 → parseGo n s acc = some l → (∀ p ∈ l, okPrt p) ∧ l.length ≤ 8
  | 0, _, _, _, _, _, h => by cases h
  | n + 1, s, acc, l, hk, hl, h => by
    rw [parseGo] at h
    split at h
    · cases h; exact ⟨hk, hl⟩
    · cases hp : partP s with
      | none => rw [hp] at h; cases h
      | some x =>
        rw [hp] at h
        simp only at h
        split at h
        · cases h
        · rename_i h8
          have h8' : acc.length ≠ 8 := fun e => h8 (.inl e)
          refine parseGo_ok n _ _ l (fun p hp' => ?_) (by rw [List.length_append]; simp; omega) h
          rcases List.mem_append.1 hp' with hp' | hp'
          · exact hk p hp'
          · rw [List.mem_singleton.1 hp']; exact partP_ok (a := x.2) hp
theorem parse_ok {q : List UInt8} {l : List Prt} (h : parseP q = some l) : (∀ p ∈ l, okPrt p) ∧ 1 ≤ l.length ∧ l.length ≤ 8 := by
  rw [parseP] at h
  split at h
  · cases h
  · cases hg : parseGo (q.length + 1) (trimB q) [] with
    | none => rw [hg] at h; cases h
    | some m =>
      rw [hg] at h
      simp only [Option.bind_some] at h
      split at h
      · cases h
      · injection h with h
        have := parseGo_ok _ _ [] m (fun p hp => by cases hp) (by simp) hg
        rw [h] at this
        rename_i h0
        exact ⟨this.1, by rw [← h]; omega, this.2⟩

theorem wordOf_ok {x : Wd} (h : okWord x) : wordOf x = some x := by
  rw [wordOf_some, words_isWd (isWd_ok h), low_word h]
theorem wordsQ_ok : ∀ (l : List Wd), (∀ x ∈ l, okWord x) → wordsQ l = some l
  | [], _ => rfl
  | x :: l, h => by rw [wordsQ, wordOf_ok (h x (by simp))]; simp [wordsQ_ok l fun y hy => h y (List.mem_cons_of_mem _ hy)]
/-- the hits of a part -/
def hitsP (D : List Dc) (p : Prt) : List (Int × Nat) := hitsF (cD D p)
theorem hits_docs1 (D : List Dc) {p : Prt} (hp : okPrt p) (h1 : p.kind = 1) {x : Wd} (hx : p.words = [x]) : docsQ D x = hitsP D p := by
  have hw : okWord x := hp.ok x (by rw [hx]; simp)
  have hc : cL p = fun l => l.count x := by
    funext l
    unfold cL
    rw [if_neg (by omega), if_neg (by omega), hx]
    rfl
  have hq : docsQ D x = phraseD D [x] := by rw [docsQ, wordOf_ok hw]
  rw [hq, phraseD_one]
  unfold hitsP cntD cD
  rw [hc]
theorem hits_pref (D : List Dc) {p : Prt} (hp : okPrt p) (h1 : p.kind = 3) {x : Wd} (hx : p.words = [x]) : prefQ D x = hitsP D p := by
  have hw : okWord x := hp.ok x (by rw [hx]; simp)
  have hc : cL p = fun l => l.countP x.isPrefixOf := by
    funext l
    unfold cL
    rw [if_neg (by omega), if_pos h1, hx]
    rfl
  have hq : prefQ D x = prefD D x := by rw [prefQ, wordOf_ok hw]
  rw [hq]
  unfold prefD hitsP cD
  rw [hc]
theorem hits_phr (D : List Dc) {p : Prt} (hp : okPrt p) (h1 : p.kind = 2) : phraseQ D p.words = hitsP D p := by
  have hc : cL p = fun l => occ l p.words := by
    funext l
    unfold cL
    rw [if_pos h1]
  have hq : phraseQ D p.words = phraseD D p.words := by rw [phraseQ, if_neg (by have := hp.pos; intro e; rw [e] at this; simp at this), wordsQ_ok _ hp.ok]
  rw [hq]
  unfold phraseD hitsP cD
  rw [hc]
end Go.Proofs.YtogjgibaolppfaaGreatDoor
/- search: hits. -/
namespace Go.Proofs.YtogjgibaolppfaaGreatDoor
open Go.RowKit Go.Sort Go.Proofs Go.Maps Go.ChangeMaps Go.WideMaps

theorem func_some {P : Program} (w : World) (d : Nat) (t : TypeId) (f : Fn) (x y : Array Value) {p r : Array TypeId} {v : Bool} (h : P.underlying t = some (.func p r v)) : (Op.equalIn (d + 1) t (.func f x y) .nilFunc).run P w = .ok false w := by
  simp [Op.equalIn, run_underlying h]
theorem func_none {P : Program} (w : World) (d : Nat) (t : TypeId) {p r : Array TypeId} {v : Bool} (h : P.underlying t = some (.func p r v)) : (Op.equalIn (d + 1) t .nilFunc .nilFunc).run P w = .ok true w := by
  simp [Op.equalIn, run_underlying h]
theorem neq_func (f : Fn) (x y : Array Value) (W : World) : (binOp .neq 122 (.func f x y) .nilFunc).run Tryz.prog W = .ok (.bool true) W := by
  have h : (Op.equal 122 (.func f x y) .nilFunc).run Tryz.prog W = .ok false W := func_some W 9999 _ f x y Tryz.underlying122
  simp only [binOp]
  simp [h]
theorem neq_nilf (W : World) : (binOp .neq 122 .nilFunc .nilFunc).run Tryz.prog W = .ok (.bool false) W := by
  have h : (Op.equal 122 .nilFunc .nilFunc).run Tryz.prog W = .ok true W := func_none W 9999 _ Tryz.underlying122
  simp only [binOp]
  simp [h]
set_option maxRecDepth 100000 in
set_option maxHeartbeats 1000000 in
theorem hitsP_any {S Q : Nat → Prop} {N : Nat} {p : Nat} {D : List Dc} (w : World) (h : IdxAt S Q N w p D) (hN : N ≤ 1000000) (pt : Prt) (hp : okPrt pt) (a : Option Addr) (n c : Nat) (hw : WordsO w (.slice a n c) pt.words) :
    Calls Tryz.prog 44 #[.pointer (some ⟨p, 0, none⟩), .agg #[.int .i64 (pt.kind : Int), .slice a n c, .bool pt.neg]] w fun e w' => ∃ v, e = .returned v ∧ HitsR w.heap.size w' v (hitsP D pt) ∧ Below w.heap.size w w' := by
  have hmm := @run_makeMap Tryz.prog
  have hnf := neq_func
  have hn0 := neq_nilf
  obtain ⟨w0, hw0⟩ : ∃ w0, w.alloc (.cells #[.int .i64 (pt.kind : Int), .slice a n c, .bool pt.neg] 53) = w0 := ⟨_, rfl⟩
  have hb0 : Below w.heap.size w w0 := by rw [← hw0]; exact (Below.refl _ w).alloc (Nat.le_refl _) _
  have hat0 : w0.heap[w.heap.size]? = some (.cells #[.int .i64 (pt.kind : Int), .slice a n c, .bool pt.neg] 53 (0, 0)) := by rw [← hw0]; exact heap_alloc_new w _
  have hs0 : w0.heap.size = w.heap.size + 1 := by rw [← hw0]; simp
  have hM0 : IM w0.heap.size 0 (fun _ => none) (w0.alloc (.map #[] 0)) := RMap.new w0
  obtain ⟨w1, hput1, hM1, hg1⟩ := hM0.put int_inj (by decide) intKeys (t := 123) Tryz.underlying123 (intKey (i := 1) (by decide) (by decide)) (.func (.func 37) #[] #[])
  obtain ⟨w2, hput2, hM2, hg2⟩ := hM1.put int_inj (by decide) intKeys (t := 123) Tryz.underlying123 (intKey (i := 3) (by decide) (by decide)) (.func (.func 79) #[] #[])
  have hsA : (w0.alloc (.map #[] 0)).heap.size = w0.heap.size + 1 := by simp
  have hb1 : Below w.heap.size w w1 := (hb0.alloc (by omega) _).grown hg1 (by omega) (fun j hj => by cases hj; omega)
  have hb2 : Below w.heap.size w w2 := hb1.grown hg2 hb1.size (fun j hj => by cases hj; omega)
  have hat2 : w2.heap[w.heap.size]? = some (.cells #[.int .i64 (pt.kind : Int), .slice a n c, .bool pt.neg] 53 (0, 0)) := by
    have h1 := hg1.size
    rw [hg2.block _ (by omega) (by simp; omega), hg1.block _ (by omega) (by simp; omega), heap_alloc_old w0 _ (by omega)]
    exact hat0
  have hget := hM2.get intKeys (t := 123) Tryz.underlying123 (Tryz.zeroValue122 w2) (intKey (i := (pt.kind : Int)) (by omega) (by have := hp.kind; omega))
  have x0 : w2.cell? ⟨w.heap.size, 0, none⟩ = some (.int .i64 (pt.kind : Int)) := by rw [Lib.cell_of_heap hat2]; rfl
  have x1 : w2.cell? ⟨w.heap.size, 1, none⟩ = some (.slice a n c) := by rw [Lib.cell_of_heap hat2]; rfl
  have HI := Lib.hid (h.below hb2)
  have HW2 := Lib.hid (hw.below hb2)
  have HB2 := Lib.hid hb2
  have HP := Lib.hid hp
  have hlen : n = pt.words.length := by obtain ⟨a', c', e⟩ := hw.form; injection e
  have hn1 := hp.pos
  have hn8 := hp.few
  obtain ⟨m0, hm0⟩ : ∃ m0, w0.heap.size = m0 := ⟨_, rfl⟩
  rw [hm0] at hput1 hput2 hget
  clear hM0 hM1 hM2 hg1 hg2 hb0 hb1 hb2 hat0 hat2 hsA hs0 h hw
  rcases hp.kind with h1 | h1 | h1
  · obtain ⟨x, hx⟩ : ∃ x, pt.words = [x] := List.length_eq_one_iff.1 (hp.one (by omega))
    have hd := fun W (hW : IdxAt S Q N W p D) => docs_any W hW hN x (by have := (hp.ok x (by rw [hx]; simp)).2.1; omega)
    rw [hits_docs1 D hp h1 hx] at hd
    obtain ⟨b, off, rfl, ck⟩ : ∃ b off, a = some ⟨b, off, none⟩ ∧ w2.cell? ⟨b, off, none⟩ = some (.string ⟨x.toArray⟩) := by
      obtain ⟨a', c', e, -, -, hc⟩ := HW2.out.at (by omega)
      injection e with e _ _
      obtain ⟨b, off, h2, h3⟩ := hc 0 (by omega)
      refine ⟨b, off, by rw [e, h2], ?_⟩
      simpa [hx, encW] using h3
    have hn : n = 1 := by rw [hlen, hx]; rfl
    subst hn
    have e1 : (pt.kind : Int) = 1 := by omega
    rw [e1] at hw0 hget x0 ⊢
    have HD := Lib.hid (hd w2 HI.out)
    simp at hget
    clear hd hlen hn1 hn8 hp e1 h1 hx HW2
    go_enter Tryz.func44, Tryz.ntmps44
    go_wp2_with (first
      | (go_at_call 37; refine HD.out.mono ?_; rintro e w9 ⟨v9, rfl, hr, hb9⟩)
      | fail)
    go_ret
    exact ⟨_, rfl, HitsR.mono hr HB2.out.size, bthen HB2.out hb9⟩
  · have hd := fun W (hW : IdxAt S Q N W p D) hq => phrase_any W hW hN (.slice a n c) pt.words hq (by omega) (fun s hs => by have := (hp.ok s hs).2.1; omega)
    rw [hits_phr D hp h1] at hd
    have e1 : (pt.kind : Int) = 2 := by omega
    rw [e1] at hw0 hget x0 ⊢
    have HD := Lib.hid (hd w2 HI.out (HW2.out.at (by omega)))
    simp at hget
    clear hd hlen hn1 hn8 hp e1 h1 HW2
    go_enter Tryz.func44, Tryz.ntmps44
    go_wp2_with (first
      | (go_at_call 80; refine HD.out.mono ?_; rintro e w9 ⟨v9, rfl, hr, hb9⟩)
      | fail)
    go_ret
    exact ⟨_, rfl, HitsR.mono hr HB2.out.size, bthen HB2.out hb9⟩
  · obtain ⟨x, hx⟩ : ∃ x, pt.words = [x] := List.length_eq_one_iff.1 (hp.one (by omega))
    have hd := fun W (hW : IdxAt S Q N W p D) => prefix_any W hW hN x (by have := (hp.ok x (by rw [hx]; simp)).2.1; omega)
    rw [hits_pref D hp h1 hx] at hd
    obtain ⟨b, off, rfl, ck⟩ : ∃ b off, a = some ⟨b, off, none⟩ ∧ w2.cell? ⟨b, off, none⟩ = some (.string ⟨x.toArray⟩) := by
      obtain ⟨a', c', e, -, -, hc⟩ := HW2.out.at (by omega)
      injection e with e _ _
      obtain ⟨b, off, h2, h3⟩ := hc 0 (by omega)
      refine ⟨b, off, by rw [e, h2], ?_⟩
      simpa [hx, encW] using h3
    have hn : n = 1 := by rw [hlen, hx]; rfl
    subst hn
    have e1 : (pt.kind : Int) = 3 := by omega
    rw [e1] at hw0 hget x0 ⊢
    have HD := Lib.hid (hd w2 HI.out)
    simp at hget
    clear hd hlen hn1 hn8 hp e1 h1 hx HW2
    go_enter Tryz.func44, Tryz.ntmps44
    go_wp2_with (first
      | (go_at_call 79; refine HD.out.mono ?_; rintro e w9 ⟨v9, rfl, hr, hb9⟩)
      | fail)
    go_ret
    exact ⟨_, rfl, HitsR.mono hr HB2.out.size, bthen HB2.out hb9⟩
end Go.Proofs.YtogjgibaolppfaaGreatDoor
/- search: the closures of Run: what is kept, how hits are ordered. -/
namespace Go.Proofs.YtogjgibaolppfaaGreatDoor
open Go.RowKit Go.Sort Go.Proofs Go.Shelf Go.Lib Go.Maps

abbrev SInt := {x : Int // -9223372036854775808 ≤ x ∧ x ≤ 9223372036854775807}
instance : Inhabited SInt := ⟨⟨0, by decide⟩⟩
def encJ (x : SInt) : Value := .int .i64 x.1
set_option maxRecDepth 100000 in
theorem run1_closure (B P bc N : Nat) (c : Int → Nat) (ng : Bool) (x : Int) (hx : -9223372036854775808 ≤ x ∧ x ≤ 9223372036854775807) (W : World) (h1 : W.cell? ⟨B, 0, none⟩ = some (.map (some bc))) (h2 : W.cell? ⟨P, 2, none⟩ = some (.bool ng)) (h3 : IM bc N (cntM c) W) :
    FnGives Tryz.prog 46 #[.pointer (some ⟨B, 0, none⟩), .pointer (some ⟨P, 0, none⟩)] #[.int .i64 x] (.bool (decide (0 < c x) == ng)) W := by
  show Calls Tryz.prog 46 #[.int .i64 x, .pointer (some ⟨B, 0, none⟩), .pointer (some ⟨P, 0, none⟩)] W _
  have hget := h3.get intKeys (t := 81) Tryz.underlying81 (Tryz.zeroValue3 W) (intKey (i := x) hx.1 hx.2)
  rw [cntM_getD] at hget
  obtain ⟨m, hm⟩ : ∃ m : Nat, c x = m := ⟨_, rfl⟩
  rw [hm] at hget ⊢
  have e1 : decide ((0 : Int) < (m : Int)) = decide (0 < m) := by rw [decide_eq_decide]; omega
  clear hm h3
  go_enter Tryz.func46, Tryz.ntmps46
  go_wp2
  go_ret
  refine ⟨?_, 0, rfl⟩
  try rw [e1]
  try rfl

theorem del_ids (B P bc N base gb cap : Nat) (c : Int → Nat) (ng : Bool) (l : List Int) (w : World) (hl : ∀ x ∈ l, -9223372036854775808 ≤ x ∧ x ≤ 9223372036854775807) (h1 : w.cell? ⟨B, 0, none⟩ = some (.map (some bc))) (h2 : w.cell? ⟨P, 2, none⟩ = some (.bool ng)) (h3 : IM bc N (cntM c) w)
    (ho : w.ownsRow base 3 1 (.slice (some ⟨gb, 0, none⟩) l.length cap) l.length (l.map (Value.int .i64))) (n1 : B ≠ gb) (n2 : P ≠ gb) (n3 : bc ≠ gb) :
    Calls Tryz.prog 45 #[.slice (some ⟨gb, 0, none⟩) l.length cap, .func (.func 46) #[] #[.pointer (some ⟨B, 0, none⟩), .pointer (some ⟨P, 0, none⟩)]] w fun e w' =>
      e = .returned (.slice (some ⟨gb, 0, none⟩) (l.filter fun x => !(decide (0 < c x) == ng)).length cap) ∧ w'.ownsRow base 3 1 (.slice (some ⟨gb, 0, none⟩) (l.filter fun x => !(decide (0 < c x) == ng)).length cap) (l.filter fun x => !(decide (0 < c x) == ng)).length ((l.filter fun x => !(decide (0 < c x) == ng)).map (Value.int .i64)) ∧ But (fun k => k = gb) w.heap.size w w' := by
  have eg : ∀ args w, (callFunc 46 args).run Tryz.prog w = .ok (.enter 46 args) w := enters_of Tryz.func46 (by kernel_rfl) rfl
  obtain ⟨ls, hls⟩ : ∃ ls : List SInt, ls.map (·.1) = l := ⟨l.attach.map fun x => ⟨x.1, hl x.1 x.2⟩, by rw [List.map_map]; simp [Function.comp_def]⟩
  have hlen : ls.length = l.length := by rw [← hls]; simp
  have hmap : l.map (Value.int .i64) = ls.map encJ := by rw [← hls, List.map_map]; rfl
  have ho' : w.ownsRow base 3 1 (.slice (some ⟨gb, 0, none⟩) ls.length cap) ls.length (ls.map encJ) := by rw [hlen, ← hmap]; exact ho
  obtain ⟨gb', cap', e1, _, hlt, hcap, hmx, _, hH⟩ := Lib.holds_of_ownsRow ho' (by intro e; cases e)
  injection e1 with e2 _ e4
  injection e2 with e2
  injection e2 with e2
  subst e2; subst e4
  have hBl := World.block_lt_of_cell? w _ h1
  have hPl := World.block_lt_of_cell? w _ h2
  have hcon := AnyE.slices_DeleteFunc Tryz.delI encJ (fun _ => rfl) (fun x : SInt => decide (0 < c x.1) == ng) 46 #[.pointer (some ⟨B, 0, none⟩), .pointer (some ⟨P, 0, none⟩)] eg ⟨0, by decide⟩ Tryz.zeroValue3 gb 0 cap ls.toArray w
    (fun W x hb => run1_closure B P bc N c ng x.1 x.2 W ((hb.cell (p := ⟨B, 0, none⟩) hBl).trans h1) ((hb.cell (p := ⟨P, 2, none⟩) hPl).trans h2) (h3.kept (hb.block _ h3.lt)))
    (fun n os dk x _ => run1_closure B P bc N c ng x.1 x.2 _ (by
        unfold sortWorld
        rw [cell?_grow _ _ _ (by show B < (putRow _ _ _ _ _).heap.size; rw [size_putRow]; exact hBl), cell?_putRow_other _ _ gb 0 _ _ (Or.inl n1)]
        exact h1) (by
        unfold sortWorld
        rw [cell?_grow _ _ _ (by show P < (putRow _ _ _ _ _).heap.size; rw [size_putRow]; exact hPl), cell?_putRow_other _ _ gb 0 _ _ (Or.inl n2)]
        exact h2) (h3.kept (by
        have hk2 : bc < (putRow encJ (Sort.ahead w n) gb 0 dk).heap.size := by rw [size_putRow]; exact h3.lt
        simp only [sortWorld, grow]
        rw [Array.getElem?_append_left hk2]
        simp [putRow, mapBlock, Sort.ahead, Array.getElem?_modify, show gb ≠ bc from fun e => n3 e.symm])))
    hH (by simp [maxLen] at hmx ⊢; omega) (by simpa using hcap)
  change Calls Tryz.prog 45 _ _ _ at hcon
  have hfil : (ls.filter fun x => !(decide (0 < c x.1) == ng)).map encJ = (l.filter fun x => !(decide (0 < c x) == ng)).map (Value.int .i64) := by
    rw [← hls, List.filter_map, List.map_map]; rfl
  have hfl : (ls.filter fun x => !(decide (0 < c x.1) == ng)).length = (l.filter fun x => !(decide (0 < c x) == ng)).length := by
    have := congrArg List.length hfil
    simpa using this
  simp only [List.size_toArray, hlen] at hcon
  rw [hfl] at hcon
  refine hcon.mono ?_
  rintro e w' ⟨rfl, q, rfl⟩
  refine ⟨rfl, ?_, ?_⟩
  · have := Lib.ownsRow_putRow (q := q) (k := (l.filter fun x => !(decide (0 < c x) == ng)).length) (ys := (ls.filter fun x => !(decide (0 < c x.1) == ng)) ++ List.replicate (l.length - (l.filter fun x => !(decide (0 < c x) == ng)).length) ⟨0, by decide⟩) ho' (by
      have hle := List.length_filter_le (fun x => !(decide (0 < c x) == ng)) l
      rw [List.length_append, List.length_replicate, hfl, hlen]; omega) (by rw [hlen]; exact List.length_filter_le _ _)
    rw [List.take_append_of_le_length (by rw [hfl]; exact Nat.le_refl _), List.take_of_length_le (by rw [hfl]; exact Nat.le_refl _), hfil] at this
    exact this
  · exact ⟨rfl, rfl, rfl, by simp [putRow, mapBlock, Sort.ahead], fun k hk hne => by
      simp [putRow, mapBlock, Sort.ahead, Array.getElem?_modify, show gb ≠ k from fun e => hne e.symm]⟩

end Go.Proofs.YtogjgibaolppfaaGreatDoor

/- Facts and contracts for the laws of the sender, part 4. Conditions: those that each theorem names. -/
import Derived.Test.YtogjgibaolppfaaGreatDoorK03
import Derived.Test.YtogjgibaolppfaaGreatDoorK01
import Derived.Test.YtogjgibaolppfaaGreatDoorProg
import Derived.WalkKit
import Derived.WalkSpells
import Derived.WalkLawsBesides
import Derived.RangeFuncBox
import Derived.RangeFuncLeaves
import Derived.Maps.AppendAt
import Derived.Deep.DeepMust
import Derived.Deep.QuietTactic
import Derived.BigQuiet
import Derived.Lib.Hide
import Derived.RangeFuncNested
import Derived.Deep.DeepCutAuto
import Derived.RangeFuncBound
import Derived.RangeFuncCalls
import Derived.Shelf.Abstract
import Derived.OwnWalkIn
import Derived.TacticsInMore
import Derived.LoopNIn
import Derived.LoopIn
import Derived.Laws.IdiomStrings
/- Plain: what the laws of layer 18 say. -/
namespace Go.Proofs.YtogjgibaolppfaaGreatDoor

/-! query words and the words of a text -/
theorem wordsGo_parts : ∀ {x : List UInt8} (cur : List UInt8), (∀ c ∈ x, isPart c = true) → cur.length + x.length ≤ 30 → wordsGo cur x = wordsGo (cur ++ lowW x) []
  | [], cur, _, _ => by simp [lowW]
  | c :: x, cur, h, hl => by
    simp only [List.length_cons] at hl
    rw [wordsGo_part (h c (by simp)) (by omega), wordsGo_parts (cur ++ [low c]) (fun d hd => h d (by simp [hd])) (by simp; omega)]
    simp [lowW]
theorem words_isWd {s : List UInt8} (h : isWd s = true) : wordsOf s = [lowW s] := by
  obtain ⟨h1, h2, h3⟩ := isWd_mem h
  unfold wordsOf
  rw [wordsGo_parts [] h1 (by simpa using h3), List.nil_append]
  have hne : lowW s ≠ [] := by
    intro e
    have := congrArg List.length e
    simp [lowW] at this
    rw [this] at h2; simp at h2
  rw [wordsGo, if_neg hne]
theorem wordsGo_count : ∀ (l cur : List UInt8), Lib.lens (wordsGo cur l) ≤ cur.length + l.countP isPart
  | [], cur => by
    unfold wordsGo
    split <;> simp [Lib.lens]
  | c :: r, cur => by
    unfold wordsGo
    split
    · rename_i hp
      rw [List.countP_cons_of_pos hp]
      by_cases h30 : cur.length < 30
      · have := wordsGo_count r (cur ++ [low c])
        rw [if_pos h30]
        simp at this; omega
      · have := wordsGo_count r cur
        rw [if_neg h30]; omega
    · rename_i hp
      have := wordsGo_count r []
      rw [List.countP_cons_of_neg hp]
      split
      · simp at this ⊢; omega
      · have e : Lib.lens ([cur] ++ wordsGo [] r) = cur.length + Lib.lens (wordsGo [] r) := by simp [Lib.lens]
        rw [e]; simp at this; omega
theorem word_iff (s : List UInt8) : (s.length ≤ 30 ∧ (wordsOf s).length = 1 ∧ ((wordsOf s).headD []).length = s.length) ↔ isWd s = true := by
  constructor
  · rintro ⟨h1, h2, h3⟩
    obtain ⟨x, hx⟩ : ∃ x, wordsOf s = [x] := by
      cases hw : wordsOf s with
      | nil => rw [hw] at h2; simp at h2
      | cons x r => cases r with
        | nil => exact ⟨x, rfl⟩
        | cons y r => rw [hw] at h2; simp at h2
    rw [hx] at h3
    simp only [List.headD_cons] at h3
    have hok := words_ok s x (by rw [hx]; simp)
    have hc := wordsGo_count s []
    have hx' : wordsGo [] s = [x] := hx
    rw [hx'] at hc
    simp [Lib.lens] at hc
    have hle : s.countP isPart ≤ s.length := List.countP_le_length
    have hall := List.countP_eq_length.1 (show s.countP isPart = s.length by omega)
    exact isWd_of hall (by rw [← h3]; exact List.length_pos_iff.2 hok.1) h1
  · intro h
    rw [words_isWd h]
    exact ⟨(isWd_mem h).2.2, rfl, by simp [lowW]⟩
theorem low_okWord {s : List UInt8} (h : isWd s = true) : okWord (lowW s) := by
  have := words_ok s (lowW s) (by rw [words_isWd h]; simp)
  exact this
theorem low_word {s : List UInt8} (h : okWord s) : lowW s = s := by
  unfold lowW
  conv => rhs; rw [← List.map_id s]
  exact List.map_congr_left fun c hc => (h.2.2 c hc).2
theorem isWd_ok {s : List UInt8} (h : okWord s) : isWd s = true := isWd_of (fun c hc => (h.2.2 c hc).1) (List.length_pos_iff.2 h.1) h.2.1
/-- what Print asks of a word -/
theorem okWord_iff (s : List UInt8) : okWord s ↔ isWd s = true ∧ lowW s = s := ⟨fun h => ⟨isWd_ok h, low_word h⟩, fun h => by rw [← h.2]; exact low_okWord h.1⟩

/-! the stem -/
def stemF (q : List UInt8) : List UInt8 := (q.reverse.takeWhile isPart).reverse
def headF (q : List UInt8) : List UInt8 := (q.reverse.dropWhile isPart).reverse
theorem head_stem (q : List UInt8) : headF q ++ stemF q = q := by
  unfold headF stemF
  rw [← List.reverse_append, List.takeWhile_append_dropWhile, List.reverse_reverse]
theorem stem_parts (q : List UInt8) : ∀ c ∈ stemF q, isPart c = true := fun c hc => by
  unfold stemF at hc
  rw [List.mem_reverse] at hc
  exact List.all_eq_true.1 List.all_takeWhile c hc
theorem stem_of {a b : List UInt8} (hb : ∀ c ∈ b, isPart c = true) (ha : ∀ c, a.getLast? = some c → isPart c = false) : stemF (a ++ b) = b ∧ headF (a ++ b) = a := by
  unfold stemF headF
  rw [List.reverse_append]
  have h1 : ∀ c ∈ b.reverse, isPart c = true := fun c hc => hb c (List.mem_reverse.1 hc)
  rw [List.takeWhile_append_of_pos h1, List.dropWhile_append_of_pos h1]
  cases h : a.reverse with
  | nil => simp_all
  | cons c r =>
    have hl : a.getLast? = some c := by rw [← List.head?_reverse, h]; rfl
    have := ha c hl
    have e : a = (c :: r).reverse := by rw [← h, List.reverse_reverse]
    simp [this, e]

/-! rotation, division, independence -/
theorem cL_not (p : Prt) (b : Bool) (l : List Wd) : cL { p with neg := b } l = cL p l := rfl
theorem okL_rot (l : List Prt) (k : Nat) (x : List Wd) : okL (l.drop k ++ l.take k) x = okL l x := by
  conv => rhs; rw [← List.take_append_drop k l]
  rw [okL_append, okL_append, Bool.and_comm]
theorem sumL_rot (l : List Prt) (k : Nat) (x : List Wd) : sumL (l.drop k ++ l.take k) x = sumL l x := by
  conv => rhs; rw [← List.take_append_drop k l]
  rw [sumL_append, sumL_append, Nat.add_comm]
theorem res_rot (D : List Dc) (l : List Prt) (k : Nat) : resD D (l.drop k ++ l.take k) = resD D l := by
  unfold resD foundD
  rw [List.filter_congr (q := fun d => okL l d.2) fun d _ => okL_rot l k d.2]
  congr 1
  exact List.map_congr_left fun d _ => by rw [sumL_rot]
theorem okL_split (ps : List Prt) (p : Prt) (x : List Wd) : okL (ps ++ [{ p with neg := false }]) x = (okL ps x && decide (0 < cL p x)) ∧ okL (ps ++ [{ p with neg := true }]) x = (okL ps x && !decide (0 < cL p x)) := by
  rw [okL_append, okL_append, okL_one, okL_one, cL_not, cL_not]
  constructor
  · simp
  · have e : ∀ b : Bool, (b != true) = !b := by decide
    rw [e]
    rfl
theorem count_split (ps : List Prt) (p : Prt) : ∀ (D : List Dc), (D.filter fun d => okL ps d.2).length = (D.filter fun d => okL (ps ++ [{ p with neg := false }]) d.2).length + (D.filter fun d => okL (ps ++ [{ p with neg := true }]) d.2).length
  | [] => rfl
  | d :: D => by
    have ih := count_split ps p D
    obtain ⟨h1, h2⟩ := okL_split ps p d.2
    rw [List.filter_cons, List.filter_cons, List.filter_cons, h1, h2]
    cases okL ps d.2 <;> cases decide (0 < cL p d.2) <;> simp <;> omega
def inN (l : List Int) (n : Int) : Nat := if n ∈ l then 1 else 0
theorem mem_ids {D : List Dc} (_hA : Asc D) (ps : List Prt) (id : Int) : id ∈ (resD D ps).map (·.1) ↔ ∃ x, (id, x) ∈ D ∧ okL ps x = true := by
  rw [List.mem_map]
  constructor
  · rintro ⟨y, hy, rfl⟩
    obtain ⟨d, hd, ho, rfl⟩ := mem_res.1 hy
    exact ⟨d.2, hd, ho⟩
  · rintro ⟨x, hx, ho⟩
    exact ⟨_, mem_res.2 ⟨(id, x), hx, ho, rfl⟩, rfl⟩
theorem inN_yes {l : List Int} {n : Int} (h : n ∈ l) : inN l n = 1 := if_pos h
theorem inN_no {l : List Int} {n : Int} (h : n ∉ l) : inN l n = 0 := if_neg h
theorem in_split {D : List Dc} (hA : Asc D) (ps : List Prt) (p : Prt) (id : Int) :
    inN ((resD D ps).map (·.1)) id = inN ((resD D (ps ++ [{ p with neg := false }])).map (·.1)) id + inN ((resD D (ps ++ [{ p with neg := true }])).map (·.1)) id := by
  by_cases h : ∃ x, (id, x) ∈ D
  · obtain ⟨x, hx⟩ := h
    have hu : ∀ y, (id, y) ∈ D → y = x := fun y hy => by
      have h1 := (wordsAt_some hA).2 hx
      have h2 := (wordsAt_some hA).2 hy
      rw [h1] at h2; injection h2 with h2; exact h2.symm
    have e : ∀ qs, inN ((resD D qs).map (·.1)) id = if okL qs x = true then 1 else 0 := fun qs => by
      by_cases ho : okL qs x = true
      · rw [if_pos ho]; exact inN_yes ((mem_ids hA qs id).2 ⟨x, hx, ho⟩)
      · rw [if_neg ho]; exact inN_no fun hm => by
          obtain ⟨y, hy, hy2⟩ := (mem_ids hA qs id).1 hm
          rw [hu y hy] at hy2; exact ho hy2
    rw [e, e, e]
    obtain ⟨h1, h2⟩ := okL_split ps p x
    rw [h1, h2]
    cases okL ps x <;> cases decide (0 < cL p x) <;> simp
  · have e : ∀ qs, inN ((resD D qs).map (·.1)) id = 0 := fun qs => inN_no fun hm => by
      obtain ⟨y, hy, _⟩ := (mem_ids hA qs id).1 hm
      exact h ⟨y, hy⟩
    rw [e, e, e]
theorem alone {D : List Dc} (hA : Asc D) {id : Int} {x : List Wd} (hx : (id, x) ∈ D) (ps : List Prt) : (resD D ps).filter (fun y => decide (y.1 = id)) = resD [(id, x)] ps := by
  have hA1 : Asc [(id, x)] := List.pairwise_singleton _ _
  refine res_unique ((resD_asc hA ps).filter _) (resD_asc hA1 ps) fun y => ?_
  rw [List.mem_filter, mem_res, mem_res]
  constructor
  · rintro ⟨⟨d, hd, ho, rfl⟩, he⟩
    simp only [decide_eq_true_eq] at he
    have : d.2 = x := by
      have h1 := (wordsAt_some hA).2 hx
      have h2 := (wordsAt_some hA (id := d.1) (l := d.2)).2 hd
      rw [he, h1] at h2; injection h2 with h2; exact h2.symm
    exact ⟨(id, x), by simp, by rw [← this]; exact ho, by rw [← he, this]⟩
  · rintro ⟨d, hd, ho, rfl⟩
    simp at hd
    subst hd
    exact ⟨⟨(id, x), hx, ho, rfl⟩, by simp⟩

/-! the limits -/
def aT (n : Nat) : List UInt8 := (List.replicate n [97, 32]).flatten
theorem aT_succ (n : Nat) : aT (n + 1) = 97 :: 32 :: aT n := by simp [aT, List.replicate_succ]
theorem aT_snoc (n : Nat) : aT n ++ [97, 32] = aT (n + 1) := by simp [aT, List.replicate_succ']
theorem aT_len : ∀ n, (aT n).length = 2 * n
  | 0 => rfl
  | n + 1 => by rw [aT_succ]; simp [aT_len n]; omega
def pA : Prt := ⟨1, false, [[97]]⟩
theorem part_a (r : List UInt8) : partP (97 :: 32 :: r) = some (pA, 32 :: r) := by
  rw [partP, if_neg (by simp), part1, if_neg (by simp)]
  have h1 : (97 :: 32 :: r : List UInt8).takeWhile isPart = [97] := by
    rw [List.takeWhile_cons_of_pos (by decide +kernel), List.takeWhile_cons_of_neg (by decide +kernel)]
  have h2 : (97 :: 32 :: r : List UInt8).dropWhile isPart = 32 :: r := by
    rw [List.dropWhile_cons_of_pos (by decide +kernel), List.dropWhile_cons_of_neg (by decide +kernel)]
  rw [h1, h2]
  have h3 : isWd [97] = true := by decide +kernel
  have h4 : lowW [97] = [97] := by decide +kernel
  rw [if_pos h3, if_neg (by simp), h4]
  rfl
theorem trim_aT : ∀ n, trimB (aT n) = aT n ∧ trimB (32 :: aT n) = aT n
  | 0 => ⟨rfl, by decide +kernel⟩
  | n + 1 => by rw [aT_succ]; exact ⟨trim_cons (by decide), by rw [trim_blank]; exact trim_cons (by decide)⟩
theorem go_aT : ∀ (n m : Nat) (acc : List Prt), (aT n).length < m → acc.length ≤ 8 → parseGo m (aT n) acc = if acc.length + n ≤ 8 then some (acc ++ List.replicate n pA) else none
  | 0, 0, acc, h, _ => by simp at h
  | n + 1, 0, acc, h, _ => by simp at h
  | 0, m + 1, acc, _, ha => by
    rw [parseGo, if_pos (by rfl), if_pos (by omega)]; simp
  | n + 1, m + 1, acc, h, ha => by
    rw [aT_len] at h
    have hne : aT (n + 1) ≠ [] := by rw [aT_succ]; simp
    have hb : atB (32 :: aT n) := .inr rfl
    rw [parseGo, if_neg hne, aT_succ, part_a]
    simp only
    by_cases h8 : acc.length = 8
    · rw [if_pos (.inl h8), if_neg (by omega)]
    · rw [if_neg (fun h => h.elim h8 (fun h => h hb)), (trim_aT n).2, go_aT n m (acc ++ [pA]) (by rw [aT_len]; omega) (by simp; omega)]
      simp only [List.length_append, List.length_cons, List.length_nil, List.append_assoc, List.singleton_append]
      have e : (acc.length + (0 + 1) + n ≤ 8) = (acc.length + (n + 1) ≤ 8) := by apply propext; omega
      simp only [e, List.replicate_succ]
theorem parse_aT {n : Nat} (hn : 1 ≤ n) : parseP (aT n) = if n ≤ 8 then some (List.replicate n pA) else none := by
  rw [parseP, aT_len]
  by_cases h : 300 < 2 * n
  · rw [if_pos h, if_neg (by omega)]
  · rw [if_neg h, (trim_aT n).1, go_aT n _ [] (by rw [aT_len]; omega) (by simp)]
    by_cases h8 : n ≤ 8
    · rw [if_pos (by simpa using h8), if_pos h8]
      simp
      omega
    · rw [if_neg (by simpa using h8), if_neg h8]; rfl
theorem fields_aT : ∀ n, fieldsB (aT n) = List.replicate n [97]
  | 0 => rfl
  | n + 1 => by
    have ih := fields_aT n
    unfold fieldsB at *
    rw [aT_succ, fieldsGo, if_neg (by decide), fieldsGo, if_pos rfl, ih]
    simp [List.replicate_succ]
theorem aT_noq : ∀ n, 34 ∉ aT n
  | 0 => by simp [aT]
  | n + 1 => by
    have := aT_noq n
    rw [aT_succ]; simp [this]
theorem parse_phr {n : Nat} (hn : 1 ≤ n) : parseP (45 :: 34 :: (aT n ++ [34])) = if n ≤ 8 then some [⟨2, true, List.replicate n [97]⟩] else none := by
  have hl : (45 :: 34 :: (aT n ++ [34]) : List UInt8).length = 2 * n + 3 := by simp [aT_len]
  rw [parseP, hl]
  by_cases h : 300 < 2 * n + 3
  · rw [if_pos h, if_neg (by omega)]
  · have e1 : partP (45 :: 34 :: (aT n ++ [34])) = if n ≤ 8 then some (⟨2, true, List.replicate n [97]⟩, []) else none := by
      rw [partP]
      refine (if_pos rfl).trans ?_
      have e : (45 :: 34 :: (aT n ++ [34]) : List UInt8).tail = 34 :: (aT n ++ [34]) := rfl
      rw [e, part1]
      refine (if_pos rfl).trans ?_
      have e : (34 :: (aT n ++ [34]) : List UInt8).tail = aT n ++ 34 :: [] := rfl
      rw [e, cutQ_at [] (aT_noq n)]
      simp only
      have hw : (List.replicate n ([97] : List UInt8)).all isWd = true := by
        rw [List.all_eq_true]; intro x hx; rw [(List.mem_replicate.1 hx).2]; decide +kernel
      have hm : (List.replicate n ([97] : List UInt8)).map lowW = List.replicate n [97] := by
        rw [List.map_replicate]; rfl
      rw [fields_aT, hm]
      by_cases h8 : n ≤ 8
      · rw [if_pos (by simp only [okPhr, hw, List.length_replicate, Bool.and_eq_true, decide_eq_true_eq]; exact ⟨trivial, hn, h8⟩), if_pos h8]
      · rw [if_neg (by simp only [okPhr, hw, List.length_replicate, Bool.and_eq_true, decide_eq_true_eq]; exact fun h => h8 h.2.2), if_neg h8]
    have hb : atB [] := .inl rfl
    rw [if_neg h, trim_cons (by decide), parseGo, if_neg (by simp), e1]
    by_cases h8 : n ≤ 8
    · rw [if_pos h8, if_pos h8]
      simp only
      rw [if_neg (fun h => h.elim (fun h => by simp at h) (fun h => h hb))]
      have e : trimB [] = [] := rfl
      rw [e, show 2 * n + 3 = (2 * n + 2) + 1 from rfl, parseGo, if_pos rfl]
      simp
    · rw [if_neg h8, if_neg h8]; rfl
theorem parse_lett {n : Nat} (hn : 1 ≤ n) : parseP (List.replicate n 97) = if n ≤ 30 then some [⟨1, false, [List.replicate n 97]⟩] else none := by
  rw [parseP, List.length_replicate]
  have ha : ∀ c ∈ List.replicate n (97 : UInt8), isPart c = true := fun c hc => by rw [(List.mem_replicate.1 hc).2]; decide +kernel
  have hne : List.replicate n (97 : UInt8) ≠ [] := by intro e; have := congrArg List.length e; simp at this; omega
  obtain ⟨m, rfl⟩ : ∃ m, n = m + 1 := ⟨n - 1, by omega⟩
  by_cases h : 300 < m + 1
  · rw [if_pos h, if_neg (by omega)]
  · have ht := take_parts ha (a := []) (fun c hc => by cases hc)
    rw [List.append_nil] at ht
    have hlow : lowW (List.replicate (m + 1) 97) = List.replicate (m + 1) 97 := by unfold lowW; rw [List.map_replicate]; rfl
    have e1 : partP (List.replicate (m + 1) 97) = if m + 1 ≤ 30 then some (⟨1, false, [List.replicate (m + 1) 97]⟩, []) else none := by
      have q1 : (List.replicate (m + 1) (97 : UInt8)).head? = some 97 := by simp [List.replicate_succ]
      rw [partP, q1, if_neg (by decide), part1, q1, if_neg (by decide), ht.1, ht.2]
      by_cases h8 : m + 1 ≤ 30
      · rw [if_pos (isWd_of ha (by simp) (by simpa using h8)), if_pos h8, if_neg (by simp), hlow]
      · rw [if_neg (by rw [isWd_long (by simp; omega)]; simp), if_neg h8]
    have hb : atB [] := .inl rfl
    have htr : trimB (List.replicate (m + 1) 97) = List.replicate (m + 1) 97 := by rw [List.replicate_succ]; exact trim_cons (by decide)
    rw [if_neg h, htr, parseGo, if_neg hne, e1]
    by_cases h8 : m + 1 ≤ 30
    · rw [if_pos h8, if_pos h8]
      simp only
      rw [if_neg (fun h => h.elim (fun h => by simp at h) (fun h => h hb))]
      have e : trimB [] = [] := rfl
      rw [e, parseGo, if_pos rfl]
      simp
    · rw [if_neg h8, if_neg h8]; rfl
theorem trim_blanks (s : List UInt8) : ∀ n, trimB (List.replicate n 32 ++ s) = trimB s
  | 0 => rfl
  | n + 1 => by rw [List.replicate_succ, List.cons_append, trim_blank, trim_blanks s n]
theorem parse_blank {n : Nat} (hn : 1 ≤ n) : parseP (List.replicate (n - 1) 32 ++ [97]) = if n ≤ 300 then some [pA] else none := by
  have hl : (List.replicate (n - 1) 32 ++ [97] : List UInt8).length = n := by simp; omega
  rw [parseP, hl]
  by_cases h : n ≤ 300
  · obtain ⟨m, rfl⟩ : ∃ m, n = m + 1 := ⟨n - 1, by omega⟩
    have hb : atB [] := .inl rfl
    have e : trimB [] = [] := rfl
    rw [if_neg (by omega), if_pos h, trim_blanks, trim_cons (by decide), parseGo, if_neg (by simp)]
    have e1 : partP [97] = some (pA, []) := by
      rw [partP, if_neg (by simp), part1, if_neg (by simp)]
      have h1 : ([97] : List UInt8).takeWhile isPart = [97] := by decide +kernel
      have h2 : ([97] : List UInt8).dropWhile isPart = [] := by decide +kernel
      rw [h1, h2]
      have h3 : isWd [97] = true := by decide +kernel
      have h4 : lowW [97] = [97] := by decide +kernel
      rw [if_pos h3, if_neg (by simp), h4]
      rfl
    rw [e1]
    simp only
    rw [if_neg (fun h => h.elim (fun h => by simp at h) (fun h => h hb)), e, parseGo, if_pos rfl]
    rfl
  · rw [if_pos (by omega), if_neg h]

end Go.Proofs.YtogjgibaolppfaaGreatDoor
namespace Go.Proofs.YtogjgibaolppfaaGreatDoor
open Go.RowKit

theorem tup2 {a b : Int} {c d : Bool} {k : IntKind} (h : a = b) (h2 : c = d) : Ending.returned (.tuple #[.int k a, .bool c]) = .returned (.tuple #[.int k b, .bool d]) := by rw [h, h2]

theorem bool1 {a b : Bool} (h : a = b) : Ending.returned (.bool a) = .returned (.bool b) := by rw [h]

set_option maxHeartbeats 400000 in
theorem small_any (x : UInt8) (w : World) :
    Calls Tryz.prog 139 #[.int .u8 x.toNat] w fun e w' => e = .returned (.tuple #[.int .u8 (smallV x), .bool (isPart x)]) ∧ w = w' := by
  go_enter Tryz.func139, Tryz.ntmps139
  go_wp2
  all_goals go_ret2
  all_goals refine ⟨tup2 ?_ ?_, rfl⟩
  all_goals first
    | exact (isPart_of (by omega)).symm
    | exact (not_isPart_of (by omega)).symm
    | (rw [smallV_big (by omega)])
    | (rw [smallV_small (by omega)])
    | (rw [smallV_none (not_isPart_of (by omega))])

theorem small_yes (x : UInt8) (h : isPart x = true) (w : World) :
    Calls Tryz.prog 139 #[.int .u8 x.toNat] w fun e w' => e = .returned (.tuple #[.int .u8 (low x).toNat, .bool true]) ∧ w = w' :=
  (small_any x w).mono fun e w' ⟨he, hw⟩ => ⟨by rw [he, h]; simp [smallV, h], hw⟩
theorem small_no (x : UInt8) (h : isPart x = false) (w : World) :
    Calls Tryz.prog 139 #[.int .u8 x.toNat] w fun e w' => e = .returned (.tuple #[.int .u8 0, .bool false]) ∧ w = w' :=
  (small_any x w).mono fun e w' ⟨he, hw⟩ => ⟨by rw [he, h]; simp [smallV, h], hw⟩

end Go.Proofs.YtogjgibaolppfaaGreatDoor
/- Small laws on worlds: no program in sight. -/
namespace Go.Proofs.YtogjgibaolppfaaGreatDoor
open Go.RowKit

/-- Below n₀ all but block B lies as it lay. -/
structure ButAt (n₀ B : Nat) (w w' : World) : Prop where
  os : w'.os = w.os
  tape : w'.tape = w.tape
  output : w'.output = w.output
  size : w.heap.size ≤ w'.heap.size
  block : ∀ k, k < n₀ → k ≠ B → w'.heap[k]? = w.heap[k]?

theorem ButAt.below {n₀ B m : Nat} {w w' : World} (h : ButAt n₀ B w w') (hm : m ≤ n₀) (hB : m ≤ B) : Below m w w' := ⟨h.os, h.tape, h.output, h.size, fun k hk => h.block k (by omega) (by omega)⟩
theorem ButAt.of_below {n₀ B : Nat} {w w' : World} (h : Below n₀ w w') : ButAt n₀ B w w' := ⟨h.os, h.tape, h.output, h.size, fun k hk _ => h.block k hk⟩
theorem ButAt.trans {n₀ B : Nat} {a b c : World} (h : ButAt n₀ B a b) (k : ButAt n₀ B b c) : ButAt n₀ B a c :=
  ⟨k.os.trans h.os, k.tape.trans h.tape, k.output.trans h.output, Nat.le_trans h.size k.size, fun i hi hb => (k.block i hi hb).trans (h.block i hi hb)⟩
theorem ButAt.setCell {n₀ B o : Nat} (w : World) (u : Value) : ButAt n₀ B w (w.setCell ⟨B, o, none⟩ u) :=
  ⟨rfl, rfl, rfl, by simp [World.setCell], fun k _ hb => Below.heap_setCell _ _ _ _ hb⟩

/-- Block b lies as it lay. -/
def KeepsAt (b : Nat) (W W' : World) : Prop := W.heap.size ≤ W'.heap.size ∧ W'.heap[b]? = W.heap[b]?
theorem KeepsAt.refl (b : Nat) (W : World) : KeepsAt b W W := ⟨Nat.le_refl _, rfl⟩
theorem KeepsAt.trans {b : Nat} {A B C : World} (h : KeepsAt b A B) (k : KeepsAt b B C) : KeepsAt b A C := ⟨Nat.le_trans h.1 k.1, k.2.trans h.2⟩
theorem KeepsAt.alloc {b : Nat} {A B : World} (h : KeepsAt b A B) (hb : b < B.heap.size) (o : Obj) : KeepsAt b A (B.alloc o) := h.trans ⟨by simp, Below.heap_alloc _ _ _ hb⟩
theorem KeepsAt.cell {b : Nat} {W W' : World} (h : KeepsAt b W W') : W'.cell? ⟨b, 0, none⟩ = W.cell? ⟨b, 0, none⟩ := World.cell?_of_block (w := W) h.2
theorem KeepsAt.putObj {b : Nat} {w : World} (hb : b < w.heap.size) (W : World) (l : Nat) (o o' : Obj) (hl : w.heap.size ≤ l) (_ : W.heap[l]? = some o) (_ : o.isCells = false) (_ : o.isWalk = false) : KeepsAt b W (W.putObj l o') :=
  ⟨by simp, World.putObj_heap_other (by omega)⟩
theorem ButAt.keepsAt {n₀ B b : Nat} {w w' : World} (h : ButAt n₀ B w w') (hb : b < n₀) (hB : b ≠ B) : KeepsAt b w w' := ⟨h.size, h.block b hb hB⟩

/-- 'Boxed.appended' where nothing was laid for what is appended; the frame by blocks. -/
theorem boxed_appended {W w1 : World} {n₀ B : Nat} {t e : TypeId} {size : Nat} {v v' : Value} {k m : Nat} {xs ys : List Value}
    (hv : Boxed W B t v) (hte : t ≠ e) (hrow : W.ownsRow n₀ e size v k xs) (hn₀ : n₀ ≤ W.heap.size)
    (hown' : w1.ownsRow n₀ e size v' m ys) (hgrow : W.grownBy w1 v.ownBlock) :
    Boxed w1 B t v ∧ Boxed (w1.setCell ⟨B, 0, none⟩ v') B t v' ∧ (w1.setCell ⟨B, 0, none⟩ v').ownsRow n₀ e size v' m ys ∧ KeepsOthers W (w1.setCell ⟨B, 0, none⟩ v') ∧ ButAt n₀ B W (w1.setCell ⟨B, 0, none⟩ v') := by
  have hv1 : Boxed w1 B t v := hv.kept hgrow (hv.not_row hte hrow)
  refine ⟨hv1, hv1.set v', hown'.kept (grownBy_setCell' w1 B v') (.inr (hv1.not_row hte hown').symm), ?_, ?_⟩
  · refine (KeepsOthers.of_grownBy hgrow fun j o ej hj => ?_).trans (KeepsOthers.setCell _ _ _)
    rcases hrow.2 with ⟨rfl, _⟩ | ⟨g, cap, cur, rfl, _, hgb, _⟩
    · simp [Value.ownBlock] at ej
    · obtain rfl : g = j := by simpa [Value.ownBlock] using ej
      rw [hgb] at hj; cases hj; rfl
  · refine (ButAt.of_below ((Below.refl n₀ W).grown hgrow (by omega) fun j ej => ?_)).trans (ButAt.setCell _ _)
    rcases hrow.2 with ⟨rfl, _⟩ | ⟨g, cap, cur, rfl, hb, _, _⟩
    · simp [Value.ownBlock] at ej
    · obtain rfl : g = j := by simpa [Value.ownBlock] using ej
      exact hb

theorem _root_.Go.World.ownsRow.mono_base {w : World} {base base' : Nat} {e : TypeId} {size : Nat} {v : Value} {n : Nat} {xs : List Value} (h : w.ownsRow base e size v n xs) (hb : base' ≤ base) : w.ownsRow base' e size v n xs := by
  obtain ⟨h1, h2⟩ := h
  refine ⟨h1, ?_⟩
  rcases h2 with h2 | ⟨g, cap, cur, hv, hg, r⟩
  · exact .inl h2
  · exact .inr ⟨g, cap, cur, hv, by omega, r⟩

theorem _root_.Go.RowKit.Below.drewN {B : Nat} {a w : World} (h : Below B a w) (n : Nat) : Below B a (w.drewN n) := ⟨h.os, h.tape, h.output, h.size, h.block⟩

theorem below_then {a b c : World} (h : Below a.heap.size a b) (k : Below b.heap.size b c) : Below a.heap.size a c := h.trans (k.mono h.size)
theorem below_alloc {a b : World} (h : Below a.heap.size a b) (o : Obj) : Below a.heap.size a (b.alloc o) := h.alloc h.size o

theorem cell_one {w : World} {b : Nat} {v : Value} (h : w.cell? ⟨b, 0, none⟩ = some v) : ∀ j u, [v][j]? = some u → w.cell? ((⟨b, 0, none⟩ : Addr).add j) = some u := by
  intro j u hj
  cases j with
  | zero => simp at hj; subst hj; simpa [Addr.add] using h
  | succ j => simp at hj

end Go.Proofs.YtogjgibaolppfaaGreatDoor
namespace Go.Proofs.YtogjgibaolppfaaGreatDoor
open Go.RowKit

theorem infoStr : (Tryz.prog.info? 9).map (fun i => (i.zero, i.size, i.bytes)) = some (some (.string .empty), 1, 16) := by kernel_rfl

/-- 'l.items = append(l.items, x)' -/
def AddPost (B n₀ k : Nat) (xs : List Value) (w : World) (e : Ending) (w' : World) : Prop :=
  e = .returned (.tuple #[]) ∧ ∃ v', Boxed w' B 146 v' ∧ w'.ownsRow n₀ 9 1 v' k xs ∧ KeepsOthers w w' ∧ ButAt n₀ B w w'

set_option maxHeartbeats 400000 in
theorem add_any (B n₀ k bi : Nat) (v : Value) (xs : List Value) (x : ByteArray) (w : World) (hv : Boxed w B 146 v) (hrow : w.ownsRow n₀ 9 1 v k xs)
    (hn₀ : n₀ ≤ w.heap.size) (hbi : w.cell? ⟨bi, 0, none⟩ = some (.string x)) (hlen : k + 1 ≤ 1099511627776) :
    Calls Tryz.prog 101 #[.pointer (some ⟨B, 0, none⟩), .slice (some ⟨bi, 0, none⟩) 1 1] w (AddPost B n₀ (k + 1) (xs ++ [.string x]) w) := by
  obtain ⟨i0, hi, hz0, hz1, hz2⟩ := info_parts infoStr
  have hc := hv.cell
  have h63 : k + 1 ≤ maxLen := by unfold maxLen; omega
  have hby : (k + 1) * 16 ≤ 140737488355328 := by omega
  have hnw := cell_one hbi
  have h1c : ∀ u ∈ [Value.string x], u.oneCell' = true := by simp [Value.oneCell']
  go_enter Tryz.func101, Tryz.ntmps101
  go_wp2_with (at_builtin; refine wpList_append_own _ rfl _ _ 28 rfl n₀ 9 i0 (.string .empty) 1 16 Tryz.underlying28 hi hz0 hz1 hz2 rfl (by decide) v k xs rfl hrow ⟨bi, 0, none⟩ 1 1 [.string x] rfl rfl hnw h1c h63 hby hn₀ ?_; intro v' w1 hown' hgrow _; obtain ⟨g', cap', rfl⟩ := ownsRow_succ hown'; obtain ⟨hv1, hv2, hr2, hk2, hb2⟩ := boxed_appended hv (by decide) hrow hn₀ hown' hgrow; have hc1 := hv1.cell; have hf1 := hv1.frozen)
  go_end0
  exact ⟨rfl, _, hv2, hr2, hk2, hb2⟩

set_option maxHeartbeats 400000 in
/-- 'words(s)': s is boxed; the function value captures the box. -/
theorem words_any (s : ByteArray) (w : World) :
    Calls Tryz.prog 100 #[.string s] w fun e w' => e = .returned (.func (.func 138) #[] #[.pointer (some ⟨w.heap.size, 0, none⟩)]) ∧ w' = w.alloc (.cells #[.string s] 9) := by
  go_enter Tryz.func100, Tryz.ntmps100
  go_wp2
  go_ret
  exact ⟨rfl, rfl⟩
end Go.Proofs.YtogjgibaolppfaaGreatDoor
namespace Go.Proofs.YtogjgibaolppfaaGreatDoor
open Go.RowKit

def encW (x : List UInt8) : Value := .string ⟨x.toArray⟩

/-- v is a slice of strings, xs. -/
def StrsAt (W : World) (v : Value) (xs : List (List UInt8)) : Prop :=
  ∃ a c, v = .slice a xs.length c ∧ xs.length ≤ c ∧ xs.length ≤ 1099511627776 ∧ ∀ j (h : j < xs.length), ∃ b off, a = some ⟨b, off, none⟩ ∧ W.cell? ⟨b, off + j, none⟩ = some (encW xs[j])

theorem StrsAt.below {W W' : World} {v : Value} {xs : List (List UInt8)} (h : StrsAt W v xs) (hb : Below W.heap.size W W') : StrsAt W' v xs := by
  obtain ⟨a, c, hv, hle, hl, hc⟩ := h
  refine ⟨a, c, hv, hle, hl, fun j hj => ?_⟩
  obtain ⟨b, off, ha, hcell⟩ := hc j hj
  exact ⟨b, off, ha, (hb.cell (World.block_lt_of_cell? W _ hcell)).trans hcell⟩

def beqB (x y : List UInt8) : Bool := decide (x = y)
def sameB (xs ys : List (List UInt8)) : Bool := decide (xs = ys)

theorem toList_mk (x : List UInt8) : (⟨x.toArray⟩ : ByteArray).toList = x := by
  rw [ByteArray.toList_eq]

theorem take_snoc_eq {α : Type} {xs ys : List α} {k : Nat} (h : xs.take k = ys.take k) (h1 : k < xs.length) (h2 : k < ys.length) (he : xs[k] = ys[k]) : xs.take (k + 1) = ys.take (k + 1) := by
  rw [List.take_succ_eq_append_getElem h1, List.take_succ_eq_append_getElem h2, h, he]

/-- A new block of strings. -/
theorem strsAt_new (w : World) (xs : List (List UInt8)) (hl : xs.length ≤ 1099511627776) : StrsAt (w.alloc (.cells (xs.map encW).toArray 9)) (.slice (some ⟨w.heap.size, 0, none⟩) xs.length xs.length) xs := by
  refine ⟨_, _, rfl, Nat.le_refl _, hl, fun j hj => ⟨_, _, rfl, ?_⟩⟩
  rw [Nat.zero_add, World.cell?_alloc_new]
  simp [List.getElem?_eq_getElem hj]

/-- A slice of strings that the call owns is a slice of strings. -/
theorem strsAt_of_owns {W : World} {base : Nat} {v : Value} {xs : List (List UInt8)} (h : W.ownsRow base 9 1 v xs.length (xs.map encW)) (hl : xs.length ≤ 1099511627776) : StrsAt W v xs := by
  have hcells : ∀ g, v.ownBlock = some g → ∀ j u, (xs.map encW)[j]? = some u → W.cell? ((⟨g, 0, none⟩ : Addr).add j) = some u := fun g hg => h.cells hg
  rcases h.2 with ⟨rfl, h0⟩ | ⟨g, cap, cur, rfl, _, _, hc, _⟩
  · exact ⟨none, 0, by rw [h0], by omega, hl, fun j hj => by omega⟩
  · refine ⟨some ⟨g, 0, none⟩, cap, rfl, hc, hl, fun j hj => ⟨g, 0, rfl, ?_⟩⟩
    have := hcells g rfl j (encW xs[j]) (by rw [List.getElem?_map, List.getElem?_eq_getElem hj]; rfl)
    rw [Nat.zero_add]
    have e : (⟨g, 0, none⟩ : Addr).add j = ⟨g, j, none⟩ := by unfold Addr.add; split <;> simp_all
    rwa [e] at this

end Go.Proofs.YtogjgibaolppfaaGreatDoor
namespace Go.Proofs.YtogjgibaolppfaaGreatDoor
open Go.RowKit Go.Shelf

attribute [local go_sem] Oper.semAt_some



theorem addr_add (b j : Nat) : (⟨b, 0, none⟩ : Addr).add j = ⟨b, j, none⟩ := by unfold Addr.add; split <;> simp_all
theorem word_len : Tryz.prog.arrayLen 181 = 30 := by kernel_rfl
theorem word_elem : Tryz.prog.elem 181 = 5 := by kernel_rfl
theorem slice_word (b n : Nat) (h : n ≤ 30) (w : World) : (Instr.sliceAt 181 (.pointer (some ⟨b, 0, none⟩)) none (some (.int .i64 (n : Int))) none).run Tryz.prog w = .ok (.slice (some ⟨b, 0, none⟩) n 30) w := by
  have hz : (sizeOf 5).run Tryz.prog w = .ok 1 w := by kernel_rfl
  rw [run_sliceAt_array_h w 181 ⟨b, 0, none⟩ (by rw [word_len, word_elem]; exact Tryz.underlying181) .i64 n (by omega) (by rw [word_len]; omega), word_len, word_elem, hz]
  simp [Result.andThen, slicedAt, Addr.add]

theorem drop_byte (s : ByteArray) (k : Nat) (h : k < s.size) : s.data.toList.drop k = s[k] :: s.data.toList.drop (k + 1) := by
  rw [List.drop_eq_getElem_cons (by simpa using h)]; rfl
def WordCells (C : Array Value) (cur : List UInt8) : Prop := C.size = 30 ∧ (∀ j (h : j < cur.length), C[j]? = some (.int .u8 (cur[j].toNat : Int))) ∧ cur.length ≤ 30
theorem wordCells_nil {C : Array Value} (h : C.size = 30 := by rfl) : WordCells C [] := ⟨h, by simp, by simp⟩
theorem wordCells_push {C : Array Value} {cur : List UInt8} (h : WordCells C cur) (hf : cur.length < 30) (c : UInt8) : WordCells (C.setIfInBounds cur.length (.int .u8 (c.toNat : Int))) (cur ++ [c]) := by
  refine ⟨by simp [h.1], fun j hj => ?_, by simp; omega⟩
  rw [Array.getElem?_setIfInBounds]
  by_cases e : cur.length = j
  · subst e; simp [h.1, hf]
  · simp at hj
    have hj' : j < cur.length := by omega
    rw [if_neg e, h.2.1 j hj', List.getElem_append_left hj']

set_option maxRecDepth 100000 in
set_option maxHeartbeats 400000 in
theorem words1_in (n l Bs : Nat) (hn : 1 ≤ n) (s : ByteArray) (hsz : s.size ≤ 1099511627776) (J Jx : List (List UInt8) → World → Prop) (W : World) (hJ : AbidesFrom W.heap.size J) (hBs : Bs < W.heap.size)
    (hY : ∀ pre x W, J pre W → pre.length < (wordsOf s.data.toList).length → YieldAt Fence.wide (n - 1) Tryz.prog l #[encW x] W fun e W' =>
      (e = .returned (.bool true) ∧ J (pre ++ [x]) W' ∧ KeepsAt Bs W W') ∨ (e = .returned (.bool false) ∧ Jx (pre ++ [x]) W'))
    (hBn : W.cell? ⟨Bs, 0, none⟩ = some (.string s)) (h0 : J [] W) :
    CallsIn Fence.wide n Tryz.prog 138 #[.func (.yield l) #[] #[], .pointer (some ⟨Bs, 0, none⟩)] W fun e W' => (∃ v, e = .returned v) ∧
      ((∃ ys, ys = wordsOf s.data.toList ∧ J ys W') ∨ (∃ pre, pre <+: wordsOf s.data.toList ∧ Jx pre W')) := by
  refine callsIn_wide.2 ?_
  have HY := Lib.hid hY; clear hY
  have HJ := Lib.hid hJ; clear hJ
  go_enter Tryz.func138, Tryz.ntmps138
  go_step3
  go_wp2
  go_step3
  go_wp2
  have hWl : wordsOf s.data.toList = [] ++ wordsGo [] (s.data.toList.drop 0) := rfl
  go_loopw [3] (fun p wr => ∃ (k : Nat) (pre : List (List UInt8)), p = .int .i64 k ∧ k ≤ s.size + 1 ∧ Hid (wordsOf s.data.toList = pre ++ wordsGo [] (s.data.toList.drop k)) ∧ KeepsAt Bs W wr ∧ J pre wr)
    (fun p _ => s.size + 1 - (intOf p).toNat)
  case atStart => exact ⟨0, [], rfl, by omega, Lib.hid hWl, KeepsAt.refl _ _, h0⟩
  case round =>
    clear h0
    obtain ⟨k0, pre, rfl, hk0, hw, hB, hJp⟩ := hrel
    have hcs : wr.cell? ⟨Bs, 0, none⟩ = some (.string s) := hB.cell.trans hBn
    have hS := hB.1
    have hBw : Bs < wr.heap.size := by omega
    clear hBn
    obtain ⟨wo, rfl⟩ : ∃ wo : World, wo = wr := ⟨_, rfl⟩
    by_cases hlt : k0 < s.size
    · go_wp2
      go_loopw [3, 5] (fun p q wi => ∃ (k : Nat) (cur : List UInt8) (C : Array Value), p = .int .i64 k ∧ q = .int .i64 cur.length ∧ wi = wo.alloc (.cells C 181) ∧ WordCells C cur ∧ k0 ≤ k ∧ k ≤ s.size ∧ Hid (wordsGo [] (s.data.toList.drop k0) = wordsGo cur (s.data.toList.drop k)) ∧ (cur ≠ [] → k0 < k))
        (fun p _ _ => s.size - (intOf p).toNat)
      case atStart => exact ⟨k0, [], _, rfl, rfl, rfl, wordCells_nil, Nat.le_refl _, by omega, Lib.hid rfl, by simp⟩
      case round =>
        obtain ⟨k, cur, C, rfl, rfl, rfl, hC, hk, hks, hg, hne⟩ := hrel
        have h30 := hC.2.2
        by_cases hlt : k < s.size
        · have hdr : s.data.toList.drop k = s[k] :: s.data.toList.drop (k + 1) := drop_byte s k hlt
          have HD := Lib.hid hdr; clear hdr
          by_cases hp : isPart s[k] = true
          · by_cases hf : cur.length < 30
            · obtain ⟨v0, hv0⟩ : ∃ v, C[cur.length]? = some v := ⟨_, Array.getElem?_eq_getElem (by rw [hC.1]; exact hf)⟩
              go_wp2_with (go_at_call 139; refine (small_yes _ hp _).mono ?_; rintro e w' ⟨rfl, rfl⟩)
              go_roundw
              case rel => exact ⟨k + 1, cur ++ [low s[k]], _, by go_num, by rw [List.length_append]; go_num, rfl, wordCells_push hC hf _, by omega, by omega, Lib.hid (by rw [hg.out, HD.out, wordsGo_part hp hf]), fun _ => by omega⟩
              case measure => simp [intOf]; omega
            · go_wp2_with (go_at_call 139; refine (small_yes _ hp _).mono ?_; rintro e w' ⟨rfl, rfl⟩)
              go_roundw
              case rel => exact ⟨k + 1, cur, _, by go_num, rfl, rfl, hC, by omega, by omega, Lib.hid (by rw [hg.out, HD.out, wordsGo_full hp hf]), fun _ => by omega⟩
              case measure => simp [intOf]; omega
          · have hp' : isPart s[k] = false := by simpa using hp
            have hov : ∀ c r', s.data.toList.drop k = c :: r' → isPart c = false := fun c r' e => by rw [HD.out] at e; cases e; exact hp'
            have HO := Lib.hid hov; clear hov hp
            have HC := Lib.hid hC
            by_cases hcur : cur = []
            · obtain rfl : cur = [] := hcur
              go_wp2_with (go_at_call 139; refine (small_no _ hp' _).mono ?_; rintro e w' ⟨rfl, rfl⟩)
              go_roundw
              case rel => exact ⟨k + 1, pre, by go_num, by omega, Lib.hid (by rw [hw.out, hg.out, wordsGo_skip HO.out, List.drop_drop]), hB.alloc (by omega) _, HJ.out _ _ _ none hJp (World.grownBy_alloc _ _ _) (by simp)⟩
              case measure => simp [intOf]; omega
            · have hlen : 0 < cur.length := List.length_pos_iff.2 hcur
              have hkk := hne hcur
              have HQ := Lib.hid (by rw [hw.out, hg.out, wordsGo_over HO.out hcur] : wordsOf s.data.toList = pre ++ cur :: wordsGo [] (s.data.toList.drop k))
              have hn0 : ((cur.length : Int) == 0) = false := by rw [beq_eq_false_iff_ne]; omega
              clear hcur hne hg hw HO
              go_upto_region 13 with (go_at_call 139; refine (small_no _ hp' _).mono ?_; rintro e w' ⟨rfl, rfl⟩)
              refine (wpIn_wide (n := n)).1 ?_
              have hJ1 : J pre (wo.alloc (.cells C 181)) := HJ.out _ _ _ none hJp (World.grownBy_alloc _ _ _) (by simp)
              have hconv : (convert 70 9 (.slice (some ⟨wo.heap.size, 0, none⟩) cur.length 30)).run Tryz.prog (wo.alloc (.cells C 181)) = .ok (.string ⟨cur.toArray⟩) (wo.alloc (.cells C 181)) :=
                run_convert_bytes_back _ 70 9 5 ⟨wo.heap.size, 0, none⟩ 30 cur Tryz.underlying70 Tryz.underlying5 Tryz.underlying9 (fun j hj => by
                  rw [addr_add]
                  exact (World.cell?_alloc_new wo C _ j).trans (HC.out.2.1 j hj))
              have hsl := slice_word wo.heap.size cur.length h30 (wo.alloc (.cells C 181))
              obtain ⟨fn, tmps, assign, body, hy, hR⟩ := HY.out pre cur _ hJ1 (by rw [HQ.out]; simp)
              dsimp only [encW] at hy
              gi_wp2
              refine hR.mono ?_
              rintro e W3 (⟨rfl, hJ3, hk3⟩ | ⟨rfl, hJx3⟩)
              · gi_wp2
                go_wp2
                go_roundw
                case rel => exact ⟨k, pre ++ [cur], rfl, by omega, Lib.hid (by rw [HQ.out]; simp), (hB.alloc (by omega) _).trans hk3, hJ3⟩
                case measure => simp [intOf]; omega
              · gi_wp2
                go_wp2
                rw [Exit.noGoto_normal]
                go_end0
                exact ⟨⟨_, rfl⟩, .inr ⟨pre ++ [cur], ⟨wordsGo [] (s.data.toList.drop k), by rw [HQ.out]; simp⟩, hJx3⟩⟩
        · have hov : ∀ c r', s.data.toList.drop k = c :: r' → isPart c = false := fun c r' e => by rw [List.drop_eq_nil_of_le (by simp; omega)] at e; cases e
          have HO := Lib.hid hov; clear hov
          have HC := Lib.hid hC
          by_cases hcur : cur = []
          · obtain rfl : cur = [] := hcur
            go_wp2
            go_roundw
            case rel => exact ⟨k + 1, pre, by go_num, by omega, Lib.hid (by rw [hw.out, hg.out, wordsGo_skip HO.out, List.drop_drop]), hB.alloc (by omega) _, HJ.out _ _ _ none hJp (World.grownBy_alloc _ _ _) (by simp)⟩
            case measure => simp [intOf]; omega
          · have hlen : 0 < cur.length := List.length_pos_iff.2 hcur
            have hkk := hne hcur
            have HQ := Lib.hid (by rw [hw.out, hg.out, wordsGo_over HO.out hcur] : wordsOf s.data.toList = pre ++ cur :: wordsGo [] (s.data.toList.drop k))
            have hn0 : ((cur.length : Int) == 0) = false := by rw [beq_eq_false_iff_ne]; omega
            clear hcur hne hg hw HO
            go_upto_region 13 with (fail)
            refine (wpIn_wide (n := n)).1 ?_
            have hJ1 : J pre (wo.alloc (.cells C 181)) := HJ.out _ _ _ none hJp (World.grownBy_alloc _ _ _) (by simp)
            have hconv : (convert 70 9 (.slice (some ⟨wo.heap.size, 0, none⟩) cur.length 30)).run Tryz.prog (wo.alloc (.cells C 181)) = .ok (.string ⟨cur.toArray⟩) (wo.alloc (.cells C 181)) :=
              run_convert_bytes_back _ 70 9 5 ⟨wo.heap.size, 0, none⟩ 30 cur Tryz.underlying70 Tryz.underlying5 Tryz.underlying9 (fun j hj => by
                rw [addr_add]
                exact (World.cell?_alloc_new wo C _ j).trans (HC.out.2.1 j hj))
            have hsl := slice_word wo.heap.size cur.length h30 (wo.alloc (.cells C 181))
            obtain ⟨fn, tmps, assign, body, hy, hR⟩ := HY.out pre cur _ hJ1 (by rw [HQ.out]; simp)
            dsimp only [encW] at hy
            gi_wp2
            refine hR.mono ?_
            rintro e W3 (⟨rfl, hJ3, hk3⟩ | ⟨rfl, hJx3⟩)
            · gi_wp2
              go_wp2
              go_roundw
              case rel => exact ⟨k, pre ++ [cur], rfl, by omega, Lib.hid (by rw [HQ.out]; simp), (hB.alloc (by omega) _).trans hk3, hJ3⟩
              case measure => simp [intOf]; omega
            · gi_wp2
              go_wp2
              rw [Exit.noGoto_normal]
              go_end0
              exact ⟨⟨_, rfl⟩, .inr ⟨pre ++ [cur], ⟨wordsGo [] (s.data.toList.drop k), by rw [HQ.out]; simp⟩, hJx3⟩⟩
    · have hfin : wordsOf s.data.toList = pre := by rw [hw.out, List.drop_eq_nil_of_le (by simp; omega)]; simp [wordsGo]
      have HF := Lib.hid hfin; clear hfin
      go_wp2
      rw [Exit.noGoto_normal]
      go_end0
      exact ⟨⟨_, rfl⟩, .inl ⟨pre, HF.out.symm, hJp⟩⟩

theorem words_stops (n : Nat) (hn : 1 ≤ n) (Bs : Nat) (s : ByteArray) (hsz : s.size ≤ 1099511627776) (w : World) (hBs : Bs < w.heap.size) (hc : w.cell? ⟨Bs, 0, none⟩ = some (.string s)) :
    SeqStopsK Fence.wide n Tryz.prog 138 #[.pointer (some ⟨Bs, 0, none⟩)] (fun x => #[encW x]) (KeepsAt Bs) (fun ys => ys = wordsOf s.data.toList) (fun pre => pre <+: wordsOf s.data.toList) (wordsOf s.data.toList).length w :=
  fun l J Jx W hW hJ _ hY h0 => words1_in n l Bs hn s hsz J Jx W hJ (by have := hW.size; omega) hY ((hW.cell (p := ⟨Bs, 0, none⟩) hBs).trans hc) h0
end Go.Proofs.YtogjgibaolppfaaGreatDoor

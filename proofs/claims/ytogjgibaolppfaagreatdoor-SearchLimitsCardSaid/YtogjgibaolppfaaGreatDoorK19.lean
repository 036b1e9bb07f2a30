/- Facts and contracts for the laws of the sender, part 19. Conditions: those that each theorem names. -/
import Derived.Test.YtogjgibaolppfaaGreatDoorK02
import Derived.Test.YtogjgibaolppfaaGreatDoorK18
import Derived.Test.YtogjgibaolppfaaGreatDoorK07
import Derived.Test.YtogjgibaolppfaaGreatDoorK04
import Derived.Lib.FieldsP
import Derived.Lib.MapLaws
import Derived.Lib.SpaceUEq
import Derived.Lib.Hide
import Derived.Deep.RegionHeld3
import Derived.WalkKit
/- Plain: strings.FieldsFunc at the blank, by bytes. -/
namespace Go.Proofs.YtogjgibaolppfaaGreatDoor
open Go.Lib

theorem fieldsGo_skip (r : List UInt8) : ∀ {x : List UInt8} (cur : List UInt8), (∀ c ∈ x, c ≠ 32) → fieldsGo cur (x ++ r) = fieldsGo (cur ++ x) r
  | [], cur, _ => by simp
  | c :: x, cur, h => by
    rw [List.cons_append, fieldsGo, if_neg (h c (by simp)), fieldsGo_skip r (cur ++ [c]) (fun d hd => h d (by simp [hd]))]
    simp
theorem getD_mem : ∀ {l : List UInt8} {k : Nat} {c : UInt8}, c ∈ l.take k → ∃ i, i < k ∧ i < l.length ∧ l.getD i 0 = c
  | [], k, c, h => by simp at h
  | d :: l, 0, c, h => by simp at h
  | d :: l, k + 1, c, h => by
    rw [List.take_succ_cons] at h
    rcases List.mem_cons.1 h with rfl | h
    · exact ⟨0, by omega, by simp, by simp⟩
    · obtain ⟨i, h1, h2, h3⟩ := getD_mem h
      exact ⟨i + 1, by omega, by simp; omega, by simpa using h3⟩
theorem decode_blank (l : List UInt8) (hne : l ≠ []) :
    ((decodeL l).1 = 32 → (decodeL l).2 = 1 ∧ l.getD 0 0 = 32) ∧ ((decodeL l).1 ≠ 32 → ∀ c ∈ l.take (decodeL l).2, c ≠ 32) ∧ 1 ≤ (decodeL l).2 ∧ (decodeL l).2 ≤ l.length := by
  have hl : 0 < l.length := List.length_pos_iff.2 hne
  have hle := decodeL_le l hne
  have hto : ∀ x : UInt8, x.toNat = 32 → x = 32 := fun x h => by
    apply UInt8.toNat_inj.1; rw [h]; rfl
  have hne' : ∀ x : UInt8, x.toNat ≠ 32 → x ≠ 32 := fun x h e => h (by rw [e]; rfl)
  have main : ((decodeL l).1 = 32 → (decodeL l).2 = 1 ∧ l.getD 0 0 = 32) ∧ ((decodeL l).1 ≠ 32 → ∀ i, i < (decodeL l).2 → i < l.length → l.getD i 0 ≠ 32) ∧ 1 ≤ (decodeL l).2 := by
    rw [decodeL_N]
    have k0 := (l.getD 0 0).toNat_lt
    rcases decodeN_shape l.length (l.getD 0 0).toNat (l.getD 1 0).toNat (l.getD 2 0).toNat (l.getD 3 0).toNat with ⟨c, e⟩ | ⟨c1, c2, c3, cv, e⟩ | ⟨c1, c2, c3, c4, cv, cs, e⟩ | ⟨c1, c2, c3, c4, c5, cv, cw, e⟩ | e
    · rw [e]
      refine ⟨fun h => ⟨rfl, hto _ h⟩, fun h i hi _ => ?_, Nat.le_refl _⟩
      obtain rfl : i = 0 := by simp only at hi; omega
      exact hne' _ h
    · rw [e]
      refine ⟨fun h => ?_, fun h i hi _ => ?_, by simp only; omega⟩
      · simp only at h; omega
      · simp only at hi
        rcases (show i = 0 ∨ i = 1 by omega) with rfl | rfl <;> exact hne' _ (by omega)
    · rw [e]
      refine ⟨fun h => ?_, fun h i hi _ => ?_, by simp only; omega⟩
      · simp only at h; omega
      · simp only at hi
        rcases (show i = 0 ∨ i = 1 ∨ i = 2 by omega) with rfl | rfl | rfl <;> exact hne' _ (by omega)
    · rw [e]
      refine ⟨fun h => ?_, fun h i hi _ => ?_, by simp only; omega⟩
      · simp only at h; omega
      · simp only at hi
        rcases (show i = 0 ∨ i = 1 ∨ i = 2 ∨ i = 3 by omega) with rfl | rfl | rfl | rfl <;> exact hne' _ (by omega)
    · rw [e]
      refine ⟨fun h => by simp at h, fun h i hi _ => ?_, Nat.le_refl _⟩
      obtain rfl : i = 0 := by simp only at hi; omega
      intro h32
      have hc : (l.getD 0 0).toNat = 32 := by rw [h32]; rfl
      have := e
      rw [hc] at this
      unfold decodeN at this
      rw [if_pos (by decide)] at this
      cases this
  refine ⟨main.1, fun h c hc => ?_, main.2.2, hle⟩
  obtain ⟨i, h1, h2, h3⟩ := getD_mem hc
  rw [← h3]
  exact main.2.1 h i h1 h2
theorem fieldsGo_nil (cur : List UInt8) : fieldsGo cur [] = if cur = [] then [] else [cur] := rfl
theorem spansB_eq (s : ByteArray) : ∀ (f pos : Nat) (st : Option Nat) (acc : List (Nat × Nat)), s.size ≤ pos + f → pos ≤ s.size → (∀ a, st = some a → a < pos) →
    acc.map (fun p => pieceU s.data.toList p.1 p.2) ++ fieldsGo (openPiece s.data.toList st pos) (s.data.toList.drop pos) = (closeSpans s (spansFromP (fun r => r == 32) s f pos st acc)).map (fun p => pieceU s.data.toList p.1 p.2)
  | f, pos, st, acc, h, hp, hst => by
    by_cases hlt : pos < s.size
    · obtain ⟨f, rfl⟩ : ∃ g, f = g + 1 := ⟨f - 1, by omega⟩
      have hll : pos < s.data.toList.length := by rw [← size_eq]; exact hlt
      have hne : s.data.toList.drop pos ≠ [] := by
        intro h0
        have := congrArg List.length h0
        rw [List.length_drop] at this
        simp at this hll; omega
      obtain ⟨d1, d2, d3, d4⟩ := decode_blank _ hne
      rw [decodeL_drop] at d1 d2 d3 d4
      rw [List.length_drop, ← size_eq] at d4
      have hdr : s.data.toList.drop pos = (s.data.toList.drop pos).take (Utf8.decode s pos).2 ++ s.data.toList.drop (pos + (Utf8.decode s pos).2) := by
        rw [← List.drop_drop, List.take_append_drop]
      unfold spansFromP
      rw [if_pos hlt]
      by_cases h32 : (Utf8.decode s pos).1 = 32
      · rw [if_pos (by simp [h32])]
        obtain ⟨e1, e2⟩ := d1 h32
        have hhd : s.data.toList.drop pos = 32 :: s.data.toList.drop (pos + 1) := by
          rw [List.drop_eq_getElem_cons hll]
          congr 1
          rw [← e2, List.drop_eq_getElem_cons hll]; rfl
        rw [e1, hhd, fieldsGo, if_pos rfl]
        cases st with
        | none =>
          have := spansB_eq s f (pos + 1) none acc (by omega) (by omega) (fun a h => by cases h)
          simp only [openPiece] at this ⊢
          rw [if_pos True.intro, List.nil_append]
          exact this
        | some a =>
          have ha := hst a rfl
          have := spansB_eq s f (pos + 1) none (acc ++ [(a, pos)]) (by omega) (by omega) (fun a h => by cases h)
          have hop : openPiece s.data.toList (some a) pos ≠ [] := pieceU_ne _ _ _ ha (by rw [← size_eq]; exact hp)
          rw [if_neg hop]
          simp only [openPiece, List.map_append, List.map_cons, List.map_nil] at this ⊢
          rw [← this]
          simp
      · rw [if_neg (by simp [h32]), hdr, fieldsGo_skip _ _ (d2 h32)]
        cases st with
        | none =>
          have := spansB_eq s f (pos + (Utf8.decode s pos).2) (some pos) acc (by omega) (by omega) (fun a h => by cases h; omega)
          simp only [openPiece] at this ⊢
          rw [← this]
          congr 2
          simp [pieceU, Nat.add_sub_cancel_left]
        | some a =>
          have ha := hst a rfl
          have := spansB_eq s f (pos + (Utf8.decode s pos).2) (some a) acc (by omega) (by omega) (fun a' h => by cases h; omega)
          simp only [openPiece] at this ⊢
          rw [pieceU_grow _ _ _ _ (by omega)]
          exact this
    · obtain rfl : pos = s.size := by omega
      have hd : s.data.toList.drop s.size = [] := List.drop_eq_nil_of_le (by rw [← size_eq]; exact Nat.le_refl _)
      rw [hd, fieldsGo_nil, spansFromP_end _ _ _ _ _ _ (by omega)]
      cases st with
      | none => simp [openPiece, closeSpans]
      | some a =>
        have ha := hst a rfl
        have hop : openPiece s.data.toList (some a) s.size ≠ [] := pieceU_ne _ _ _ ha (by rw [← size_eq]; exact Nat.le_refl _)
        rw [if_neg hop]
        simp [openPiece, closeSpans]
  termination_by f => f
theorem goFieldsB (s : ByteArray) : (goFieldsP (fun r => r == 32) s).map (·.data.toList) = fieldsB s.data.toList := by
  have h := spansB_eq s s.size 0 none [] (by omega) (Nat.zero_le _) (fun a h => by cases h)
  simp only [List.map_nil, List.nil_append, openPiece, List.drop_zero] at h
  unfold fieldsB goFieldsP spansOfP
  rw [h, List.map_map]
  congr 1
  funext p
  simp [pieceU]
end Go.Proofs.YtogjgibaolppfaaGreatDoor
/- search: the string functions that it calls. -/
namespace Go.Proofs.YtogjgibaolppfaaGreatDoor
open Go.RowKit Go.Shelf Go.Lib Go.Proofs

theorem builderX : Builder.Extra Tryz.prog Tryz.lays159_ren where
  sizeBuilder := by kernel_rfl
  liesBuilder := by kernel_rfl
  t5 := Tryz.underlying5
  a5 := Tryz.isAgg5
  z5 := Tryz.sizeOf5
  v5 := Tryz.zeroValue5
  infoByte := by kernel_rfl
  cellsByte := by kernel_rfl
  sizeByte := by kernel_rfl
  neB5 := by decide
theorem builderX2 : Builder.Extra Tryz.prog Tryz.lays156_ren where
  sizeBuilder := by kernel_rfl
  liesBuilder := by kernel_rfl
  t5 := Tryz.underlying5
  a5 := Tryz.isAgg5
  z5 := Tryz.sizeOf5
  v5 := Tryz.zeroValue5
  infoByte := by kernel_rfl
  cellsByte := by kernel_rfl
  sizeByte := by kernel_rfl
  neB5 := by decide
/-- what the library's variables hold -/
structure Env (w : World) : Prop where
  first : Lib.Utf8Tabs 0 1 w
  case : CaseVar 3 caseA w
  maxLen : ∃ m, w.cell? ⟨2, 0, none⟩ = some (.int .i64 m)
theorem Env.below {w w' : World} (h : Env w) (hb : Below w.heap.size w w') : Env w' :=
  ⟨Utf8Tabs_below h.first hb, CaseVar_below h.case hb, by
    obtain ⟨m, hm⟩ := h.maxLen
    exact ⟨m, (hb.cell (World.block_lt_of_cell? w _ hm)).trans hm⟩⟩

def cutSC (c : UInt8) (s : List UInt8) : List UInt8 := if s.head? = some c then s.tail else s
def hasC (c : UInt8) (s : List UInt8) : Bool := decide (s.head? = some c)
theorem hasPrefix_one (s : List UInt8) (c : UInt8) : Lib.hasPrefix s [c] = hasC c s ∧ Lib.trimPrefix s [c] = cutSC c s := by
  have h1 : Lib.hasPrefix s [c] = hasC c s := by
    unfold Lib.hasPrefix hasC
    cases s with
    | nil => rfl
    | cons d r =>
      by_cases h : c = d
      · subst h; simp
      · have h' : ¬ d = c := fun e => h e.symm
        simp [h', List.isPrefixOf, h]
  refine ⟨h1, ?_⟩
  unfold Lib.trimPrefix cutSC
  rw [h1]
  unfold hasC
  by_cases h : s.head? = some c
  · rw [if_pos (by simpa using h), if_pos h]; simp
  · rw [if_neg (by simpa using h), if_neg h]
theorem cutPrefix_any (c : UInt8) (s : List UInt8) (w : World) : Calls Tryz.prog 69 #[.string ⟨s.toArray⟩, .string ⟨#[c]⟩] w fun e w' => e = .returned (.tuple #[.string ⟨(cutSC c s).toArray⟩, .bool (hasC c s)]) ∧ w = w' := by
  have h := Any.strings_CutPrefix Tryz.lays103 ⟨s.toArray⟩ ⟨#[c]⟩ w
  change Calls Tryz.prog 69 _ _ _ at h
  refine h.mono ?_
  rintro e w' ⟨rfl, rfl⟩
  have := hasPrefix_one s c
  refine ⟨?_, rfl⟩
  show Ending.returned (.tuple #[.string ⟨(Lib.trimPrefix s [c]).toArray⟩, .bool (Lib.hasPrefix s [c])]) = _
  rw [this.1, this.2]
theorem trimLeft_any (s : List UInt8) (w : World) : Calls Tryz.prog 38 #[.string ⟨s.toArray⟩, .string ⟨#[32]⟩] w fun e w' => e = .returned (.string ⟨(trimB s).toArray⟩) ∧ w = w' := by
  have h := Any.strings_TrimLeft_one Tryz.lays161 ⟨s.toArray⟩ 32 (by decide) w
  change Calls Tryz.prog 38 _ _ _ at h
  refine h.mono ?_
  rintro e w' ⟨rfl, rfl⟩
  exact ⟨rfl, rfl⟩

def cutQI (s : List UInt8) : List UInt8 := match cutQ s with | none => s | some x => x.1
def cutQA (s : List UInt8) : List UInt8 := match cutQ s with | none => [] | some x => x.2
theorem index_quote : ∀ (s : List UInt8), Lib.index s [34] = match cutQ s with | none => -1 | some x => (x.1.length : Int)
  | [] => rfl
  | c :: r => by
    have ih := index_quote r
    by_cases hc : c = 34
    · subst hc
      have h1 : [34].isPrefixOf (34 :: r) = true := by simp [List.isPrefixOf]
      have h2 : cutQ (34 :: r) = some ([], r) := by rw [cutQ, if_pos rfl]
      rw [Lib.index, if_pos h1, h2]; rfl
    · have h1 : [34].isPrefixOf (c :: r) = false := by simp [List.isPrefixOf, Ne.symm hc]
      rw [Lib.index, h1, ih, cutQ, if_neg hc]
      cases hq : cutQ r with
      | none => rfl
      | some x =>
        have : ((x.1.length : Int) == -1) = false := by rw [beq_eq_false_iff_ne]; omega
        simp [this]
theorem cut_quote (s : List UInt8) : Lib.cut s [34] = (cutQI s, cutQA s, (cutQ s).isSome) := by
  unfold Lib.cut cutQI cutQA
  rw [index_quote]
  cases hq : cutQ s with
  | none => rfl
  | some x =>
    obtain ⟨h1, -⟩ := cutQ_some (q := s) (i := x.1) (a := x.2) hq
    simp only
    rw [if_pos (by omega), h1]
    simp
theorem cut_any (s : List UInt8) (hs : s.length ≤ 1000000) (w : World) (hE : Env w) : Calls Tryz.prog 70 #[.string ⟨s.toArray⟩, .string ⟨#[34]⟩] w fun e w' => e = .returned (.tuple #[.string ⟨(cutQI s).toArray⟩, .string ⟨(cutQA s).toArray⟩, .bool (cutQ s).isSome]) ∧ Below w.heap.size w w' := by
  obtain ⟨m, hm⟩ := hE.maxLen
  have h := Any.strings_Cut { Tryz.laysM145 with } ⟨s.toArray⟩ ⟨#[34]⟩ m w (by show s.toArray.size < _; simp; omega) hm
  change Calls Tryz.prog 70 _ _ _ at h
  refine h.mono ?_
  rintro e w' ⟨rfl, n, rfl⟩
  have hc := cut_quote s
  refine ⟨?_, (Below.refl _ w).drewN n⟩
  show Ending.returned (.tuple #[.string ⟨(Lib.cut s [34]).1.toArray⟩, .string ⟨(Lib.cut s [34]).2.1.toArray⟩, .bool (Lib.cut s [34]).2.2]) = _
  rw [hc]

/-! strings.FieldsFunc at the blank -/
theorem blank_closure (x : Nat) (hx : x ≤ 1114111) (W : World) : Calls Tryz.prog 72 #[.int .i32 (x : Int)] W fun e w' => e = .returned (.bool (x == 32)) ∧ W = w' := by
  by_cases h : x = 32
  · subst h
    go_enter Tryz.func72, Tryz.ntmps72
    go_wp2
    go_ret
    exact ⟨rfl, rfl⟩
  · have e1 : ((x : Int) == 32) = false := by rw [beq_eq_false_iff_ne]; omega
    have e2 : (x == 32) = false := by simpa using h
    rw [e2]
    clear h e2
    go_enter Tryz.func72, Tryz.ntmps72
    go_wp2
    go_ret
    exact ⟨rfl, rfl⟩
theorem goFields_len (s : ByteArray) : (Lib.goFieldsP (fun r => r == 32) s).length = (fieldsB s.data.toList).length := by rw [← goFieldsB, List.length_map]
theorem fields_any (s : List UInt8) (hs : s.length ≤ 1000000) (w : World) : Calls Tryz.prog 71 #[.string ⟨s.toArray⟩, .func (.func 72) #[] #[]] w fun e w' => ∃ A, e = .returned (.slice (some ⟨A, 0, none⟩) (fieldsB s).length (fieldsB s).length) ∧ w.heap.size ≤ A ∧
    w'.ownsRow w.heap.size 9 1 (.slice (some ⟨A, 0, none⟩) (fieldsB s).length (fieldsB s).length) (fieldsB s).length ((fieldsB s).map encW) ∧ Below w.heap.size w w' := by
  have eg : ∀ args w, (callFunc 72 args).run Tryz.prog w = .ok (.enter 72 args) w := enters_of Tryz.func72 (by kernel_rfl) rfl
  have hp : PredAtRunes Tryz.prog 72 #[] (fun r => r == 32) w := fun W x hx _ => by
    show Calls Tryz.prog 72 #[.int .i32 (x : Int)] W _
    exact (blank_closure x hx W).mono fun e w' h => ⟨h.1, 0, h.2.symm⟩
  have h := Any.strings_FieldsFunc_runes Tryz.lays229 72 #[] eg (fun r => r == 32) ⟨s.toArray⟩ w (by show s.toArray.size ≤ _; simp; omega) hp (by kernel_rfl) (by kernel_rfl)
  change Calls Tryz.prog 71 _ _ _ at h
  refine h.mono ?_
  rintro e w' ⟨A, rfl, h1, h2, h3⟩
  have hl := goFields_len ⟨s.toArray⟩
  have hd : (⟨s.toArray⟩ : ByteArray).data.toList = s := by simp
  rw [hd] at hl
  have hm : (Lib.goFieldsP (fun r => r == 32) ⟨s.toArray⟩).map Value.string = (fieldsB s).map encW := by
    have := goFieldsB ⟨s.toArray⟩
    rw [hd] at this
    rw [← this, List.map_map]
    refine List.map_congr_left fun x _ => ?_
    simp [encW]
  rw [hl, hm] at h2
  exact ⟨A, by rw [hl], h1, h2, h3⟩

/-! strings.ToLower -/
def lowD (s : List UInt8) : List UInt8 := Lib.toLowerD s
theorem lower_low (c : UInt8) : Lib.lowerB c = low c := by
  unfold Lib.lowerB low Lib.isUpperB
  by_cases h : 65 ≤ c.toNat ∧ c.toNat ≤ 90
  · rw [if_pos h, if_pos (by simp [UInt8.le_iff_toNat_le]; omega)]
  · rw [if_neg h, if_neg (by simp [UInt8.le_iff_toNat_le]; omega)]
theorem part_ascii {c : UInt8} (h : isPart c = true) : c.toNat < 128 := by
  have := (isPart_iff c).1 h; omega
theorem lowD_parts {s : List UInt8} (h : ∀ c ∈ s, isPart c = true) : lowD s = lowW s := by
  unfold lowD lowW
  rw [Lib.toLowerD_ascii _ (fun b hb => part_ascii (h b hb))]
  unfold Lib.toLowerA
  exact List.map_congr_left fun c _ => lower_low c
theorem lower_any (s : List UInt8) (hs : s.length ≤ 1000000) (w : World) (hE : Env w) : Calls Tryz.prog 74 #[.string ⟨s.toArray⟩] w fun e w' => e = .returned (.string ⟨(lowD s).toArray⟩) ∧ Below w.heap.size w w' := by
  have h := Any.strings_ToLower_any Tryz.lays159 builderX ⟨s.toArray⟩ w (by show s.toArray.size < _; simp; omega) hE.case hE.first
  change Calls Tryz.prog 74 _ _ _ at h
  exact h

/-! strings.Join with a blank -/
theorem join_any (v : Value) (xs : List Wd) (w : World) (h : StrsAt w v xs) (hl : (Lib.join xs [32]).length ≤ 1000000) (hn : xs.length ≤ 1000000) : Calls Tryz.prog 56 #[v, .string ⟨#[32]⟩] w fun e w' => e = .returned (.string ⟨(Lib.join xs [32]).toArray⟩) ∧ Below w.heap.size w w' := by
  obtain ⟨a, c, rfl, hc, hm, hx⟩ := h
  by_cases h0 : xs = []
  · subst h0
    have h := Any.strings_Join_none Tryz.lays156 builderX2 a c ⟨#[32]⟩ w
    change Calls Tryz.prog 56 _ _ _ at h
    exact h.mono fun e w' k => ⟨k.1, by rw [k.2]; exact Below.refl _ _⟩
  · have hpos : 0 < xs.length := List.length_pos_iff.2 h0
    obtain ⟨b, off, rfl, k0⟩ := hx 0 hpos
    have e1 : (xs.map fun x : Wd => (⟨x.toArray⟩ : ByteArray)).map (·.data.toList) = xs := by rw [List.map_map]; simp [Function.comp_def]
    have h := Any.strings_Join Tryz.lays156 builderX2 b off c (xs.map fun x : Wd => (⟨x.toArray⟩ : ByteArray)) ⟨#[32]⟩ w (fun j x hj => by
      rw [List.getElem?_map] at hj
      cases hxj : xs[j]? with
      | none => rw [hxj] at hj; cases hj
      | some y =>
        rw [hxj] at hj
        cases hj
        obtain ⟨hlt, hy⟩ := List.getElem?_eq_some_iff.1 hxj
        obtain ⟨b', off', e, k⟩ := hx j hlt
        cases e
        rw [k, hy]; rfl) (World.block_lt_of_cell? w _ k0) (by rw [List.length_map]; omega) (by rw [List.length_map]; exact hc) (by rw [e1]; show (Lib.join xs [32]).length ≤ _; omega)
    change Calls Tryz.prog 56 _ _ _ at h
    rw [e1, List.length_map] at h
    exact h
end Go.Proofs.YtogjgibaolppfaaGreatDoor
/- search: inWord, isWord. -/
namespace Go.Proofs.YtogjgibaolppfaaGreatDoor
open Go.RowKit

set_option maxHeartbeats 1000000 in
theorem inWord_any (x : UInt8) (w : World) : Calls Tryz.prog 52 #[.int .u8 (x.toNat : Int)] w fun e w' => e = .returned (.bool (isPart x)) ∧ w = w' := by
  have hb : (x.toNat : Int) < 256 := by have := x.toNat_lt; omega
  by_cases h1 : 97 ≤ x.toNat ∧ x.toNat ≤ 122
  · have hR : isPart x = true := isPart_of (.inl h1)
    rw [hR]
    have e1 : decide ((97 : Int) ≤ (x.toNat : Int)) = true := by simp; omega
    have e2 : decide ((x.toNat : Int) ≤ 122) = true := by simp; omega
    clear hR h1
    go_enter Tryz.func52, Tryz.ntmps52
    go_wp2
    go_ret
    exact ⟨rfl, rfl⟩
  · by_cases h2 : 65 ≤ x.toNat ∧ x.toNat ≤ 90
    · have hR : isPart x = true := isPart_of (.inr (.inl h2))
      rw [hR]
      have e1 : decide ((97 : Int) ≤ (x.toNat : Int)) = false := by simp; omega
      have e3 : decide ((65 : Int) ≤ (x.toNat : Int)) = true := by simp; omega
      have e4 : decide ((x.toNat : Int) ≤ 90) = true := by simp; omega
      clear hR h1 h2
      go_enter Tryz.func52, Tryz.ntmps52
      go_wp2
      go_ret
      exact ⟨rfl, rfl⟩
    · by_cases h3 : 48 ≤ x.toNat ∧ x.toNat ≤ 57
      · have hR : isPart x = true := isPart_of (.inr (.inr h3))
        rw [hR]
        have e1 : decide ((97 : Int) ≤ (x.toNat : Int)) = false := by simp; omega
        have e3 : decide ((65 : Int) ≤ (x.toNat : Int)) = false := by simp; omega
        have e5 : decide ((48 : Int) ≤ (x.toNat : Int)) = true := by simp; omega
        have e6 : decide ((x.toNat : Int) ≤ 57) = true := by simp; omega
        clear hR h1 h2 h3
        go_enter Tryz.func52, Tryz.ntmps52
        go_wp2
        go_ret
        exact ⟨rfl, rfl⟩
      · have hR : isPart x = false := not_isPart_of (fun h => by omega)
        rw [hR]
        obtain ⟨n, hn⟩ : ∃ n : Int, (x.toNat : Int) = n := ⟨_, rfl⟩
        have hz : ¬ (97 ≤ n ∧ n ≤ 122) ∧ ¬ (65 ≤ n ∧ n ≤ 90) ∧ ¬ (48 ≤ n ∧ n ≤ 57) := by omega
        rw [hn]
        clear hR h1 h2 h3 hn hb
        obtain ⟨h1, h2, h3⟩ := hz
        go_enter Tryz.func52, Tryz.ntmps52
        by_cases a1 : 97 ≤ n <;> by_cases a2 : 65 ≤ n <;> by_cases a3 : 48 ≤ n
        all_goals first
          | (exfalso; omega)
          | (have c1 : decide ((97 : Int) ≤ n) = decide (97 ≤ n) := rfl
             by_cases b1 : n ≤ 122 <;> by_cases b2 : n ≤ 90 <;> by_cases b3 : n ≤ 57
             all_goals first
               | (exfalso; omega)
               | (go_wp2; go_ret; exact ⟨by simp_all, rfl⟩))

set_option maxHeartbeats 1000000 in
theorem isWord_any (s : ByteArray) (hs : s.size ≤ 1000000) (w : World) : Calls Tryz.prog 73 #[.string s] w fun e w' => e = .returned (.bool (isWd s.data.toList)) ∧ w = w' := by
  obtain ⟨R, hR⟩ : ∃ R, isWd s.data.toList = R := ⟨_, rfl⟩
  rw [hR]
  have HR := Lib.hid hR
  clear hR
  go_enter Tryz.func73, Tryz.ntmps73
  go_wp2
  go_loop [6] (fun i => ∃ k : Nat, i = .int .i64 k ∧ k ≤ s.size ∧ Hid (∀ j (h : j < s.size), j < k → isPart s[j] = true)) (fun i => s.size - (intOf i).toNat)
  case atStart => exact ⟨0, rfl, Nat.zero_le _, Lib.hid (fun j h h2 => by omega)⟩
  case round =>
    obtain ⟨k, rfl, hk, HK⟩ := hrel
    by_cases hlt : k < s.size
    · have hki : (k : Int) < (s.size : Int) := by omega
      have HM : Hid (s[k] ∈ s.data.toList) := Lib.hid (by rw [Array.mem_toList_iff]; exact Array.getElem_mem (xs := s.data) hlt)
      have hcw := fun W => inWord_any s[k] W
      cases hp : isPart s[k] with
      | true =>
        rw [hp] at hcw
        have HK2 : Hid (∀ j (h : j < s.size), j < k + 1 → isPart s[j] = true) := Lib.hid (fun j h h2 => by
          rcases Nat.lt_or_ge j k with h3 | h3
          · exact HK.out j h h3
          · obtain rfl : j = k := by omega
            exact hp)
        clear hp HK
        go_wp2_with (go_at_call 52; refine (hcw _).mono ?_; rintro e w' ⟨rfl, rfl⟩)
        go_round
        case rel => exact ⟨k + 1, by go_num, by omega, HK2⟩
        case measure => simp [intOf]; omega
      | false =>
        rw [hp] at hcw
        have HF : Hid (false = R) := Lib.hid (by rw [← HR.out]; exact (isWd_no HM.out hp).symm)
        clear hp HK HM HR
        go_wp2_with (go_at_call 52; refine (hcw _).mono ?_; rintro e w' ⟨rfl, rfl⟩)
        go_ret
        exact ⟨by rw [← HF.out]; rfl, rfl⟩
    · obtain rfl : k = s.size := by omega
      have hall : ∀ c ∈ s.data.toList, isPart c = true := fun c hc => by
        obtain ⟨j, hj, rfl⟩ := List.getElem_of_mem hc
        exact HK.out j (by simpa using hj) (by simpa using hj)
      have hlen : s.data.toList.length = s.size := by simp
      by_cases h1 : 1 ≤ s.size
      · by_cases h30 : s.size ≤ 30
        · have HF : Hid (true = R) := Lib.hid (by rw [← HR.out]; exact (isWd_of hall (by rw [hlen]; exact h1) (by rw [hlen]; exact h30)).symm)
          have g1 : decide ((1 : Int) ≤ (s.size : Int)) = true := by simp; omega
          have g2 : decide ((s.size : Int) ≤ 30) = true := by simp; omega
          clear hall hlen h1 h30 HK HR
          go_wp2
          go_ret
          exact ⟨by rw [← HF.out]; rfl, rfl⟩
        · have HF : Hid (false = R) := Lib.hid (by rw [← HR.out]; exact (isWd_long (by rw [hlen]; omega)).symm)
          have g1 : decide ((1 : Int) ≤ (s.size : Int)) = true := by simp; omega
          have g2 : decide ((s.size : Int) ≤ 30) = false := by simp; omega
          clear hall hlen h1 h30 HK HR
          go_wp2
          go_ret
          exact ⟨by rw [← HF.out]; rfl, rfl⟩
      · have HF : Hid (false = R) := Lib.hid (by
          rw [← HR.out]
          have : s.data.toList = [] := List.eq_nil_of_length_eq_zero (by omega)
          rw [this]; rfl)
        have g1 : decide ((1 : Int) ≤ (s.size : Int)) = false := by simp; omega
        clear hall hlen h1 HK HR
        go_wp2
        go_ret
        exact ⟨by rw [← HF.out]; rfl, rfl⟩
end Go.Proofs.YtogjgibaolppfaaGreatDoor
/- a drawn region in one order, operation by operation. -/
namespace Go.Proofs.YtogjgibaolppfaaGreatDoor
open Go.RowKit

theorem take_w {P : Program} {md : Region.Mode} {ops : Array Oper} {Q : Exit → Act → World → Prop} {S : World → Prop} {fuel : Nat} {listed : Array Bool} {a : Act} {w : World} (i : Nat)
    (h : ∃ oi, ops[i]? = some oi ∧ Region.noSelect ops = true ∧ Region.free md ops listed i = true ∧ (Region.ready md ops listed).contains i = true ∧ ∃ v, (∀ c a w, Q (.panic c) (a.put oi.dst v) w → Q (.panic c) a w) ∧ YieldsIf P ops S oi v a ∧ S w ∧ wpAnyH P md ops Q S fuel (listed.setIfInBounds i true) (a.put oi.dst v) w) : wpAnyH P md ops Q S (fuel + 1) listed a w := by
  obtain ⟨oi, h1, h2, h3, h4, v, h5, h6, h7, h8⟩ := h
  exact wpAnyH_take h1 h2 h3 h4 h5 h6 h7 h8
theorem call_w {P : Program} {md : Region.Mode} {ops : Array Oper} {Q : Exit → Act → World → Prop} {S : World → Prop} {fuel : Nat} {listed : Array Bool} {a : Act} {w : World} (i : Nat)
    (h : ∃ oi, ops[i]? = some oi ∧ Region.ready md ops listed = [i] ∧ Region.wanted oi (yielded ops a.tmps) = true ∧ ∀ K' : Act → World → Prop, Shut (∀ a w, S w → (S w → wpAnyH P md ops Q S fuel (listed.setIfInBounds i true) a w) → K' a w) → Oper.wp P oi a w K' Q) : wpAnyH P md ops Q S (fuel + 1) listed a w := by
  obtain ⟨oi, h1, h2, h3, h4⟩ := h
  exact wpAnyH_ready h2 (by simp) (AllReadyH.cons h1 (fun K' hK => by rw [if_pos h3]; exact h4 K' hK) AllReadyH.nil)
end Go.Proofs.YtogjgibaolppfaaGreatDoor

/- Facts and contracts for the laws of the sender, part 21. Conditions: those that each theorem names. -/
import Derived.Test.YtogjgibaolppfaaGreatDoorK18
import Derived.Test.YtogjgibaolppfaaGreatDoorK20
import Derived.Deep.RegionLaw
import Derived.Deep.AppendLies
/- the reference: part. -/
namespace Go.Proofs.YtogjgibaolppfaaGreatDoor
open Go.RowKit Go.Lib Go.Proofs

def RPEnd (R : Option Prt) (k : Nat) (u : Value) (ng ok : Bool) (w' : World) : Prop :=
  match R with
  | none => ok = false
  | some x => ok = true ∧ k = x.kind ∧ ng = x.neg ∧ WordsO w' u x.words
def RPPost (R : Option Prt) (w : World) (e : Ending) (w' : World) : Prop :=
  Below w.heap.size w w' ∧ ∃ (k : Nat) (ua : Option Addr) (un uc : Nat) (ng ok : Bool), e = .returned (.tuple #[.agg #[.int .i64 (k : Int), .slice ua un uc, .bool ng], .bool ok]) ∧ RPEnd R k (.slice ua un uc) ng ok w'
/-- what kind of part, and its words as they stand -/
def wordsR (s : List UInt8) : Option (Nat × List (List UInt8)) :=
  if 2 ≤ s.length ∧ s.head? = some 34 ∧ s.getLast? = some 34 then (if 34 ∈ s.tail.dropLast then none else some (2, piecesR s.tail.dropLast))
  else if s.getLast? = some 42 then some (3, [s.dropLast]) else some (1, [s])
theorem okPhr_one (x : List UInt8) : okPhr [x] = isWd x := by simp [okPhr]
theorem part2_words (neg : Bool) (s : List UInt8) : part2 neg s = (wordsR s).bind fun x => if okPhr x.2 then some ⟨x.1, neg, x.2.map lowW⟩ else none := by
  unfold part2 wordsR
  split
  · split
    · rfl
    · rfl
  · split
    · simp only [Option.bind_some, okPhr_one]; rfl
    · simp only [Option.bind_some, okPhr_one]; rfl
theorem partR_cut (s : List UInt8) : partR s = part2 (decide (s.head? = some 45)) (if s.head? = some 45 then s.tail else s) := by
  unfold partR
  by_cases h : s.head? = some 45
  · rw [if_pos h, if_pos h, decide_eq_true h]
  · rw [if_neg h, if_neg h, decide_eq_false h]
theorem cell_same' {w w' : World} {b o : Nat} {v : Value} (h : w'.heap[b]? = w.heap[b]?) (k : w.cell? ⟨b, o, none⟩ = some v) : w'.cell? ⟨b, o, none⟩ = some v := by
  rw [← k]; exact World.cell?_of_block (a := ⟨b, o, none⟩) h
theorem frozen_same' {w w' : World} {b o : Nat} (h : w'.heap[b]? = w.heap[b]?) (k : w.frozen? ⟨b, o, none⟩ = false) : w'.frozen? ⟨b, o, none⟩ = false := by
  rw [← k]; exact World.frozen?_of_block (a := ⟨b, o, none⟩) h
theorem Loc.start1 (w : World) : Loc w ((w.alloc (.cells #[.int .i64 0, .slice none 0 0, .bool false] 53)).alloc (.cells #[.int .i64 1, .slice none 0 0, .bool false] 53)) 1 (.slice none 0 0) false := by
  have h1 : (w.alloc (.cells #[.int .i64 0, .slice none 0 0, .bool false] 53)).heap.size = w.heap.size + 1 := by simp
  refine ⟨?_, ?_, ((Below.refl _ w).alloc (Nat.le_refl _) _).alloc (by simp) _⟩
  · rw [Below.heap_alloc _ _ _ (by omega)]; exact heap_alloc_new w _
  · rw [← h1]; exact heap_alloc_new _ _
theorem Loc.set2 {w wx : World} {k : Int} {u : Value} {ng : Bool} (h : Loc w wx k u ng) (b : Bool) : Loc w (wx.setCell ⟨w.heap.size + 1, 2, none⟩ (.bool b)) k u b :=
  ⟨(Below.heap_setCell wx ⟨w.heap.size + 1, 2, none⟩ _ _ (by simp)).trans h.res, by simp [World.setCell, Array.getElem?_modify, h.blk], h.bel.setCell (by simp) _⟩
theorem Loc.free2 {w wx : World} {k : Int} {u : Value} {ng : Bool} (h : Loc w wx k u ng) : wx.frozen? ⟨w.heap.size + 1, 2, none⟩ = false := Lib.frozen_of_heap h.blk 2
theorem head_at (t : ByteArray) (h : 0 < t.size) (c : UInt8) : t.data.toList.head? = some c ↔ t[0] = c := by
  have hl : 0 < t.data.toList.length := by simpa using h
  rw [List.head?_eq_getElem?, List.getElem?_eq_getElem hl]
  constructor
  · intro e; injection e
  · intro e; exact congrArg some e
theorem last_at (t : ByteArray) (h : 0 < t.size) (c : UInt8) : t.data.toList.getLast? = some c ↔ t[t.size - 1] = c := by
  have hl : t.data.toList.length = t.size := by simp
  rw [List.getLast?_eq_getElem?, hl, List.getElem?_eq_getElem (by omega)]
  constructor
  · intro e; injection e
  · intro e; exact congrArg some e
theorem bytes_list (t : ByteArray) : t.toList = t.data.toList := by
  have := toList_mk t.data.toList
  simpa using this
theorem not_empty {t : ByteArray} (h : 0 < t.size) : (!t.toList.isEmpty) = true := by
  rw [bytes_list]
  have hl : t.data.toList.length = t.size := by simp
  cases hd : t.data.toList with
  | nil => rw [hd] at hl; simp at hl; omega
  | cons c r => rfl
theorem is_empty {t : ByteArray} (h : ¬ 0 < t.size) : (!t.toList.isEmpty) = false := by
  rw [bytes_list]
  have hl : t.data.toList.length = t.size := by simp
  have : t.data.toList = [] := List.eq_nil_of_length_eq_zero (by omega)
  rw [this]; rfl
theorem byte_eq (c : UInt8) (d : UInt8) (n : Int) (hn : (d.toNat : Int) = n) : ((c.toNat : Int) == n) = decide (c = d) := by
  by_cases h : c = d
  · rw [decide_eq_true h, h, hn]; simp
  · rw [decide_eq_false h, beq_eq_false_iff_ne]; intro e; apply h; apply UInt8.toNat_inj.1; omega

set_option maxRecDepth 100000 in
set_option maxHeartbeats 4000000 in
theorem refPart_any (t0 : ByteArray) (hs0 : t0.size ≤ 1000) (w : World) :
    Calls Tryz.prog 41 #[.string t0] w (RPPost (partR t0.data.toList) w) := by
  rw [partR_cut]
  obtain ⟨ng, hng⟩ : ∃ ng, decide (t0.data.toList.head? = some 45) = ng := ⟨_, rfl⟩
  obtain ⟨t, ht⟩ : ∃ t : ByteArray, t.data.toList = (if t0.data.toList.head? = some 45 then t0.data.toList.tail else t0.data.toList) := ⟨⟨_⟩, rfl⟩
  rw [hng, ← ht]
  have hts : t.size ≤ 1000 := by
    have h := congrArg List.length ht
    have h0 : t0.data.toList.length = t0.size := by simp
    have h1 : t.data.toList.length = t.size := by simp
    split at h
    · rw [List.length_tail] at h; omega
    · omega
  have HNG := Lib.hid hng
  have HT := Lib.hid ht
  obtain ⟨R, hR⟩ : ∃ R, part2 ng t.data.toList = R := ⟨_, rfl⟩
  have HR := Lib.hid hR
  rw [hR]
  have HL := Lib.hid (Loc.start1 w)
  clear hng ht hR
  go_enter Tryz.func41, Tryz.ntmps41
  go_upto_region 2 with fail
  obtain ⟨w1, hw1⟩ : ∃ w1, ((w.alloc (.cells #[.int .i64 0, .slice none 0 0, .bool false] 53)).alloc (.cells #[.int .i64 1, .slice none 0 0, .bool false] 53)) = w1 := ⟨_, rfl⟩
  rw [hw1] at HL ⊢
  clear hw1
  go_cut [17] (fun v wx => v = .bool ng ∧ w1 = wx)
  case first =>
    have hng := HNG.out
    clear HL HT HR HNG
    by_cases h0 : 0 < t0.size
    · have e0 := not_empty h0
      have e1 : ((t0[0].toNat : Int) == 45) = ng := by
        rw [byte_eq _ 45 45 rfl, ← hng]
        exact decide_eq_decide.2 (head_at t0 h0 45).symm
      have h0' : (0 : Int) < (t0.size : Int) := by omega
      clear hng
      go_wp2_with fail
      go_meet
      exact ⟨rfl, rfl⟩
    · have e0 := is_empty h0
      have hb : ng = false := by
        rw [← hng]
        have hl : t0.data.toList.length = t0.size := by simp
        have : t0.data.toList = [] := List.eq_nil_of_length_eq_zero (by omega)
        rw [this]; rfl
      subst hb
      clear hng
      go_wp2_with fail
      go_meet
      exact ⟨rfl, rfl⟩
  case rest =>
    obtain ⟨rfl, rfl⟩ := hcut
    go_upto_if 17 with fail
    go_cut [0] (fun v wx => v = .string t ∧ Hid (Loc w wx 1 (.slice none 0 0) ng))
    case first =>
      cases ng
      · have htt : t0 = t := by
          apply ByteArray.ext; apply Array.toList_inj.1
          rw [HT.out, if_neg (by simpa using HNG.out)]
        subst htt
        clear HT HNG HR
        go_wp2_with fail
        go_meet
        exact ⟨rfl, HL⟩
      · have hh : t0.data.toList.head? = some 45 := by simpa using HNG.out
        have hl0 : t0.data.toList.length = t0.size := by simp
        have hx : t0.extract 1 t0.size = t := by
          apply ByteArray.ext; apply Array.toList_inj.1
          rw [HT.out, if_pos hh, Lib.extract_to_end]; simp
        have hpos : (1 : Int) ≤ (t0.size : Int) := by
          cases h : t0.data.toList with
          | nil => rw [h] at hh; cases hh
          | cons c r => rw [h] at hl0; simp at hl0; omega
        obtain ⟨⟨c0, c1, c2⟩, -, -⟩ := HL.out.cells
        have f2 := HL.out.free2
        have HL2 := Lib.hid (HL.out.set2 true)
        clear HT HNG HR hh hl0
        go_wp2_with fail
        go_meet
        exact ⟨rfl, HL2⟩
    case rest =>
      obtain ⟨rfl, HL1⟩ := hcut
      clear HT HNG HL
      have hdl : t.data.toList.length = t.size := by simp
      have hRw := (part2_words ng t.data.toList).symm
      rw [HR.out] at hRw
      have HRW := Lib.hid hRw
      clear hRw HR
      go_upto_block 0 with fail
      go_cut [5] (fun v wx => ∃ (kd : Nat) (ws : List (List UInt8)) (a5 : Option Addr) (c5 : Nat), v = .slice a5 ws.length c5 ∧ ws.length ≤ 1000 ∧ Hid (WordsO wx (.slice a5 ws.length c5) ws) ∧ Hid (Loc w wx (kd : Int) (.slice none 0 0) ng) ∧ Hid ((∀ x ∈ ws, x.length ≤ 1000) ∧ (if okPhr ws then some ⟨kd, ng, ws.map lowW⟩ else none) = R))
      case first =>
        go_upto_region 7 with fail
        obtain ⟨b1, hb1⟩ : ∃ b1, decide (2 ≤ t.data.toList.length ∧ t.data.toList.head? = some 34 ∧ t.data.toList.getLast? = some 34) = b1 := ⟨_, rfl⟩
        have HB1 := Lib.hid hb1
        clear hb1
        go_cut [23] (fun v wx => v = .bool b1 ∧ wc = wx)
        case first =>
          have hb1 := HB1.out
          rw [hdl] at hb1
          clear HB1 HRW HL1
          by_cases h2 : 2 ≤ t.size
          · have g1 : decide ((2 : Int) ≤ (t.size : Int)) = true := by simp; omega
            have g1' : decide (2 ≤ t.size) = true := by simp; omega
            have h0 : 0 < t.size := by omega
            have h0' : (0 : Int) < (t.size : Int) := by omega
            have hh := head_at t h0 34
            have hl := last_at t h0 34
            by_cases hq : t[0] = 34
            · have g2 : ((t[0].toNat : Int) == 34) = true := by rw [byte_eq _ 34 34 rfl, decide_eq_true hq]
              by_cases hz : t[t.size - 1] = 34
              · have g3 : ((t[t.size - 1].toNat : Int) == 34) = true := by rw [byte_eq _ 34 34 rfl, decide_eq_true hz]
                have hb : b1 = true := by rw [← hb1]; exact decide_eq_true ⟨h2, hh.2 hq, hl.2 hz⟩
                subst hb
                clear hb1 hq hz hh hl
                go_wp2_with fail
                go_meet
                exact ⟨rfl, rfl⟩
              · have g3 : ((t[t.size - 1].toNat : Int) == 34) = false := by rw [byte_eq _ 34 34 rfl, decide_eq_false hz]
                have hb : b1 = false := by rw [← hb1]; exact decide_eq_false (fun h => hz (hl.1 h.2.2))
                subst hb
                clear hb1 hq hz hh hl
                go_wp2_with fail
                go_meet
                exact ⟨rfl, rfl⟩
            · have g2 : ((t[0].toNat : Int) == 34) = false := by rw [byte_eq _ 34 34 rfl, decide_eq_false hq]
              have hb : b1 = false := by rw [← hb1]; exact decide_eq_false (fun h => hq (hh.1 h.2.1))
              subst hb
              clear hb1 hq hh hl
              go_wp2_with fail
              go_meet
              exact ⟨rfl, rfl⟩
          · have g1 : decide ((2 : Int) ≤ (t.size : Int)) = false := by simp; omega
            have g1' : decide (2 ≤ t.size) = false := by simp; omega
            have hb : b1 = false := by rw [← hb1]; exact decide_eq_false (fun h => h2 h.1)
            subst hb
            clear hb1 h2
            go_wp2_with fail
            go_meet
            exact ⟨rfl, rfl⟩
        case rest =>
          obtain ⟨rfl, rfl⟩ := hcut
          cases b1 with
          | true =>
            have hP : 2 ≤ t.data.toList.length ∧ t.data.toList.head? = some 34 ∧ t.data.toList.getLast? = some 34 := of_decide_eq_true HB1.out
            have hsz : 2 ≤ t.size := by omega
            have hRW := HRW.out
            unfold wordsR at hRW
            rw [if_pos hP] at hRW
            obtain ⟨I, hI⟩ : ∃ I : ByteArray, t.extract 1 (t.size - 1) = I := ⟨_, rfl⟩
            have hIl : I.data.toList = t.data.toList.tail.dropLast := by
              rw [← hI, Lib.extract_data, List.dropLast_eq_take, List.drop_one, List.length_tail, hdl]
            have hIs : I.size ≤ 1000 := by
              have h := congrArg List.length hIl
              have h1 : I.data.toList.length = I.size := by simp
              rw [List.length_dropLast, List.length_tail] at h
              omega
            rw [← hIl] at hRW
            have HRW2 := Lib.hid hRW
            obtain ⟨⟨c0, c1, c2⟩, ⟨f0, f1⟩, -⟩ := HL1.out.cells
            have HL2 := Lib.hid (HL1.out.set0 2)
            obtain ⟨w2, hw2⟩ : ∃ w2, wc.setCell ⟨w.heap.size + 1, 0, none⟩ (.int .i64 2) = w2 := ⟨_, rfl⟩
            have HL2' : Hid (Loc w w2 2 (.slice none 0 0) ng) := Lib.hid (by rw [← hw2]; exact HL2.out)
            have hs1 : (1 : Int) ≤ (t.size : Int) - 1 := by omega
            have hs2 : (t.size : Int) - 1 ≤ (t.size : Int) := by omega
            clear hRW hP HB1 HRW HL2 HL1 hIl
            go_upto_region 11 with fail
            clear hw2 c0 c1 c2 f0 f1 hs1 hs2 hI
            go_loop [7] (fun vi => ∃ k : Nat, vi = .int .i64 k ∧ k ≤ I.size ∧ Hid (∀ j (h : j < I.size), j < k → I[j] ≠ 34)) (fun vi => I.size - (intOf vi).toNat)
            case atStart => exact ⟨0, rfl, Nat.zero_le _, Lib.hid (fun j h h2 => by omega)⟩
            case round =>
              obtain ⟨k, rfl, hk, HK⟩ := hrel
              by_cases hlt : k < I.size
              · have hki : (k : Int) < (I.size : Int) := by omega
                by_cases hq : I[k] = 34
                · have g1 : ((I[k].toNat : Int) == 34) = true := by rw [byte_eq _ 34 34 rfl, decide_eq_true hq]
                  have hin : 34 ∈ I.data.toList := by rw [← hq, Array.mem_toList_iff]; exact Array.getElem_mem (xs := I.data) hlt
                  have hRn : R = none := by have h := HRW2.out; rw [if_pos hin] at h; exact h.symm
                  obtain ⟨-, -, ⟨r0, r1, r2⟩, ⟨q0, q1, q2⟩⟩ := HL2'.out.cells
                  have HBW := Lib.hid HL2'.out.bel
                  subst hRn
                  clear HRW2 HL2' HK hin hq
                  go_wp2_with fail
                  exact bodyPost_ret (v := .tuple #[.agg #[.int .i64 0, .slice none 0 0, .bool false], .bool false]) (by simp [results, Tryz.results41, go_sem, r0, r1, r2]) rfl ⟨((HBW.out.setCell (p := ⟨w.heap.size, 0, none⟩) (Nat.le_refl _) _).setCell (p := ⟨w.heap.size, 1, none⟩) (Nat.le_refl _) _).setCell (p := ⟨w.heap.size, 2, none⟩) (Nat.le_refl _) _, 0, none, 0, 0, false, false, rfl, rfl⟩
                · have g1 : ((I[k].toNat : Int) == 34) = false := by rw [byte_eq _ 34 34 rfl, decide_eq_false hq]
                  have HK2 : Hid (∀ j (h : j < I.size), j < k + 1 → I[j] ≠ 34) := Lib.hid (fun j h h2 => by
                    rcases Nat.lt_or_ge j k with h3 | h3
                    · exact HK.out j h h3
                    · obtain rfl : j = k := by omega
                      exact hq)
                  clear hq HK
                  go_wp2_with fail
                  go_round
                  case rel => exact ⟨k + 1, by go_num, by omega, HK2⟩
                  case measure => simp [intOf]; omega
              · obtain rfl : k = I.size := by omega
                have hnin : 34 ∉ I.data.toList := fun hm => by
                  obtain ⟨j, hj, he⟩ := List.getElem_of_mem hm
                  exact HK.out j (by simpa using hj) (by simpa using hj) he
                have HRW3 : Hid ((if okPhr (piecesR I.data.toList) then some ⟨2, ng, (piecesR I.data.toList).map lowW⟩ else none) = R) := Lib.hid (by have h := HRW2.out; rw [if_neg hnin] at h; exact h)
                have hpc := refPieces_any I hIs w2
                have hpl : (piecesR I.data.toList).length ≤ 1000 ∧ ∀ x ∈ piecesR I.data.toList, x.length ≤ 1000 := by
                  have e : piecesR I.data.toList = fieldsB I.data.toList := pieces_fields hnin
                  have hl : I.data.toList.length = I.size := by simp
                  rw [e]
                  exact ⟨by have := fields_len I.data.toList; omega, fun x hx => by have := fields_mem _ x hx; omega⟩
                obtain ⟨ws, hws⟩ : ∃ ws, piecesR I.data.toList = ws := ⟨_, rfl⟩
                rw [hws] at HRW3 hpc hpl
                have HPL := Lib.hid hpl.2
                have hpl1 := hpl.1
                clear hws HRW2 hnin HK hpl
                go_wp2_with fail
                refine hpc.mono ?_
                rintro e w3 ⟨v, rfl, hwo, -, hb3⟩
                have HL3 := Lib.hid (HL2'.out.below hb3)
                have HWO := Lib.hid hwo
                obtain ⟨a5, c5, rfl⟩ := hwo.form
                clear hb3 HL2' hwo hpc
                go_wp2_with fail
                go_meet
                exact ⟨2, ws, a5, c5, rfl, hpl1, HWO, HL3, Lib.hid ⟨HPL.out, HRW3.out⟩⟩
          | false =>
            have hP : ¬ (2 ≤ t.data.toList.length ∧ t.data.toList.head? = some 34 ∧ t.data.toList.getLast? = some 34) := of_decide_eq_false HB1.out
            have hRW := HRW.out
            unfold wordsR at hRW
            rw [if_neg hP] at hRW
            obtain ⟨b2, hb2⟩ : ∃ b2, decide (t.data.toList.getLast? = some 42) = b2 := ⟨_, rfl⟩
            have HB2 := Lib.hid hb2
            have HRW2 := Lib.hid hRW
            clear hRW hP HB1 HRW hb2
            go_upto_region 16 with fail
            go_cut [59] (fun v wx => v = .bool b2 ∧ wc = wx)
            case first =>
              have hb2 := HB2.out
              clear HB2 HRW2 HL1
              by_cases h0 : 0 < t.size
              · have g0 := not_empty h0
                have h0' : (0 : Int) < (t.size : Int) := by omega
                have hl := last_at t h0 42
                by_cases hz : t[t.size - 1] = 42
                · have g3 : ((t[t.size - 1].toNat : Int) == 42) = true := by rw [byte_eq _ 42 42 rfl, decide_eq_true hz]
                  have hb : b2 = true := by rw [← hb2]; exact decide_eq_true (hl.2 hz)
                  subst hb
                  clear hb2 hz hl
                  go_wp2_with fail
                  go_meet
                  exact ⟨rfl, rfl⟩
                · have g3 : ((t[t.size - 1].toNat : Int) == 42) = false := by rw [byte_eq _ 42 42 rfl, decide_eq_false hz]
                  have hb : b2 = false := by rw [← hb2]; exact decide_eq_false (fun h => hz (hl.1 h))
                  subst hb
                  clear hb2 hz hl
                  go_wp2_with fail
                  go_meet
                  exact ⟨rfl, rfl⟩
              · have g0 := is_empty h0
                have hb : b2 = false := by
                  rw [← hb2]
                  have : t.data.toList = [] := List.eq_nil_of_length_eq_zero (by omega)
                  rw [this]; rfl
                subst hb
                clear hb2
                go_wp2_with fail
                go_meet
                exact ⟨rfl, rfl⟩
            case rest =>
              obtain ⟨rfl, rfl⟩ := hcut
              cases b2 with
              | true =>
                have hl42 : t.data.toList.getLast? = some 42 := of_decide_eq_true HB2.out
                have hRW := HRW2.out
                rw [if_pos hl42] at hRW
                have h0 : 1 ≤ t.size := by
                  rcases Nat.eq_zero_or_pos t.size with h | h
                  · have : t.data.toList = [] := List.eq_nil_of_length_eq_zero (by omega)
                    rw [this] at hl42; cases hl42
                  · exact h
                obtain ⟨x, hx⟩ : ∃ x, t.data.toList.dropLast = x := ⟨_, rfl⟩
                have hxe : t.extract 0 (t.size - 1) = ⟨x.toArray⟩ := by
                  apply ByteArray.ext; apply Array.toList_inj.1
                  rw [Lib.extract_data, ← hx, List.dropLast_eq_take, hdl, List.drop_zero]; simp
                have hxl : x.length ≤ 1000 := by
                  have h := congrArg List.length hx
                  rw [List.length_dropLast] at h; omega
                rw [hx] at hRW
                have HRW3 := Lib.hid hRW
                obtain ⟨⟨c0, c1, c2⟩, ⟨f0, f1⟩, -⟩ := HL1.out.cells
                have HL2 := Lib.hid (HL1.out.set0 3)
                obtain ⟨w2, hw2⟩ : ∃ w2, wc.setCell ⟨w.heap.size + 1, 0, none⟩ (.int .i64 3) = w2 := ⟨_, rfl⟩
                have HL2' : Hid (Loc w w2 3 (.slice none 0 0) ng) := Lib.hid (by rw [← hw2]; exact HL2.out)
                have HWO := Lib.hid (wordsO_new w2 [x] (by simp))
                have HL3 := Lib.hid (HL2'.out.below ((Below.refl _ w2).alloc (Nat.le_refl _) (.cells #[.string ⟨x.toArray⟩] 9)))
                have hs1 : (0 : Int) ≤ (t.size : Int) - 1 := by omega
                have hs2 : (t.size : Int) - 1 ≤ (t.size : Int) := by omega
                clear hRW HB2 HRW2 HL2 HL1 HL2' hx hl42
                go_wp2_with fail
                go_meet
                exact ⟨3, [x], some ⟨w2.heap.size, 0, none⟩, 1, rfl, by simp, HWO, HL3, Lib.hid ⟨fun y hy => by rw [List.mem_singleton.1 hy]; exact hxl, HRW3.out⟩⟩
              | false =>
                have hl42 : ¬ t.data.toList.getLast? = some 42 := of_decide_eq_false HB2.out
                have hRW := HRW2.out
                rw [if_neg hl42] at hRW
                obtain ⟨x, hx⟩ : ∃ x, t.data.toList = x := ⟨_, rfl⟩
                have hxe : t = ⟨x.toArray⟩ := by
                  apply ByteArray.ext; apply Array.toList_inj.1
                  rw [hx]
                have hxl : x.length ≤ 1000 := by rw [← hx, hdl]; exact hts
                rw [hx] at hRW
                have HRW3 := Lib.hid hRW
                have HWO := Lib.hid (wordsO_new wc [x] (by simp))
                have HL3 := Lib.hid (HL1.out.below ((Below.refl _ wc).alloc (Nat.le_refl _) (.cells #[.string ⟨x.toArray⟩] 9)))
                subst hxe
                clear hRW HB2 HRW2 HL1 hx hl42 hdl
                go_wp2_with fail
                go_meet
                exact ⟨1, [x], some ⟨wc.heap.size, 0, none⟩, 1, rfl, by simp, HWO, HL3, Lib.hid ⟨fun y hy => by rw [List.mem_singleton.1 hy]; exact hxl, HRW3.out⟩⟩
      case rest =>
        obtain ⟨kd, ws, a5, c5, rfl, hwl, HWO, HLm, HRm⟩ := hcut
        clear HRW HL1 hdl
        obtain ⟨i0, hi, hz0, hz1, hz2⟩ := info_parts infoStrP
        have HSZ : Hid (w.heap.size + 1 < wc.heap.size) := Lib.hid HLm.out.size
        go_upto_region 20 with fail
        have HB9 : Hid (∀ b0 n c, a5 = some ⟨b0, 0, none⟩ → n = ws.length → c = c5 → b0 ≠ w.heap.size + 1) := Lib.hid (fun b0 n c e _ _ hb => by
          subst e; subst hb
          rcases HWO.out.2 with ⟨h0, -⟩ | ⟨g, cap, cur, h0, -, hg, -⟩
          · cases h0
          · cases h0
            rw [HLm.out.blk] at hg
            injection hg with hg
            injection hg with _ h _
            exact absurd h (by decide))
        go_loopw [8] (fun vi wr => ∃ (k : Nat) (a : Option Addr) (c : Nat), vi = .int .i64 k ∧ k ≤ ws.length ∧ Hid (Loc w wr (kd : Int) (.slice a k c) ng) ∧ Hid (wr.ownsRow wc.heap.size 9 1 (.slice a k c) k (((ws.take k).map lowW).map encW)) ∧ Hid (wc.heap.size ≤ wr.heap.size ∧ ∀ j, j < wc.heap.size → j ≠ w.heap.size + 1 → wr.heap[j]? = wc.heap[j]?) ∧ Hid ((ws.take k).all isWd = true)) (fun vi _ => ws.length - (intOf vi).toNat)
        case atStart => exact ⟨0, none, 0, rfl, Nat.zero_le _, HLm, Lib.hid (World.ownsRow_nil _ _ _ _), Lib.hid ⟨Nat.le_refl _, fun _ _ _ => rfl⟩, Lib.hid rfl⟩
        case round =>
          obtain ⟨k, a, c, rfl, hk, HLk, HOk, HBk, HAk⟩ := hrel
          by_cases hlt : k < ws.length
          · have hki : (k : Int) < (ws.length : Int) := by omega
            obtain ⟨b0, rfl⟩ : ∃ b0, a5 = some ⟨b0, 0, none⟩ := by
              rcases HWO.out.2 with ⟨h0, h1⟩ | ⟨g, cap, cur, h0, -⟩
              · omega
              · cases h0; exact ⟨g, rfl⟩
            have hx0 := row_cell HWO.out (x := ws[k]) (k := k) (by rw [List.getElem?_eq_getElem hlt])
            have hb0 := World.block_lt_of_cell? wc _ hx0.1
            have hn0 := HB9.out b0 _ _ rfl rfl rfl
            have cx : wr.cell? ⟨b0, k, none⟩ = some (encW ws[k]) := cell_same' (HBk.out.2 b0 hb0 hn0) hx0.1
            have HT := Lib.hid (List.take_succ_eq_append_getElem hlt)
            have hxl := HRm.out.1 ws[k] (List.getElem_mem hlt)
            have HMEM := Lib.hid (List.getElem_mem hlt)
            obtain ⟨x, hx⟩ : ∃ x, ws[k] = x := ⟨_, rfl⟩
            rw [hx] at cx HT hxl HMEM
            unfold encW at cx
            have hb0r := World.block_lt_of_cell? wr _ cx
            have hwq := fun W => refWordQ_any x (by omega) W
            clear hx hx0
            by_cases hiw : isWd x = true
            · rw [hiw] at hwq
              have HWC : Hid (∀ W, Calls Tryz.prog 76 #[.string ⟨x.toArray⟩] W fun e w' => ∃ bI oI cI, e = .returned (.slice (some ⟨bI, oI, none⟩) 1 cI) ∧ 1 ≤ cI ∧ w'.cell? ⟨bI, oI, none⟩ = some (.string ⟨(lowW x).toArray⟩) ∧ Below W.heap.size W w') := Lib.hid (fun W => by
                have hss : (⟨x.toArray⟩ : ByteArray).size ≤ 274877906944 := by show x.toArray.size ≤ _; simp; omega
                refine (refWords_any ⟨x.toArray⟩ (by omega) W).mono fun e w' h => ?_
                obtain ⟨v, rfl, ⟨aI, cI, rfl, h1, h2, h3⟩, hb⟩ := h.strs hss
                have e1 : wordsOf (⟨x.toArray⟩ : ByteArray).data.toList = [lowW x] := by
                  have : (⟨x.toArray⟩ : ByteArray).data.toList = x := by simp
                  rw [this]; exact words_isWd hiw
                rw [e1] at h1 h2 h3 ⊢
                obtain ⟨bI, oI, rfl, h4⟩ := h3 0 (by simp)
                exact ⟨bI, oI, cI, rfl, h1, h4, hb⟩)
              have HA2 : Hid ((ws.take (k + 1)).all isWd = true) := Lib.hid (by rw [HT.out, List.all_append, HAk.out]; simp [hiw])
              have HSU : Hid (((ws.take k).map lowW).map encW ++ [encW (lowW x)] = ((ws.take (k + 1)).map lowW).map encW) := Lib.hid (by rw [HT.out, List.map_append, List.map_append]; rfl)
              have hLl : (((ws.take k).map lowW).map encW).length = k := by rw [List.length_map, List.length_map, List.length_take]; omega
              obtain ⟨L, hL⟩ : ∃ L, ((ws.take k).map lowW).map encW = L := ⟨_, rfl⟩
              rw [hL] at HSU HOk hLl
              clear hiw hL HT HAk
              go_upto_region 25 with (first
                | (go_at_call 75; (with_reducible (refine (hwq _).mono ?_)); rintro e w2 ⟨rfl, hb2⟩; have HB2 := Lib.hid hb2; clear hb2)
                | fail)
              clear hwq
              have HL2 := Lib.hid (HLk.out.below HB2.out)
              have cx2 : w2.cell? ⟨b0, k, none⟩ = some (.string ⟨x.toArray⟩) := cell_same' (HB2.out.block b0 hb0r) cx
              have hb02 := World.block_lt_of_cell? w2 _ cx2
              obtain ⟨⟨-, p1, -⟩, ⟨-, q1⟩, -⟩ := HL2.out.cells
              have HO2 : Hid (w2.ownsRow wc.heap.size 9 1 (.slice a k c) k L) := Lib.hid (row_stay HOk.out fun j hj => HB2.out.block j (HOk.out.lt j hj).2)
              have hs2 := HL2.out.size
              have hws2 : wc.heap.size ≤ w2.heap.size := Nat.le_trans HBk.out.1 HB2.out.size
              have HNB : Hid (some (w.heap.size + 1) ≠ (Value.slice a k c).ownBlock) := Lib.hid (fun e => by have := (HOk.out.lt _ e.symm).1; have := HSZ.out; omega)
              have HK2 : Hid (∀ j, j < wc.heap.size → j ≠ w.heap.size + 1 → w2.heap[j]? = wc.heap[j]?) := Lib.hid (fun j h1 h2 => (HB2.out.block j (Nat.lt_of_lt_of_le h1 HBk.out.1)).trans (HBk.out.2 j h1 h2))
              clear HLk HOk HBk cx hb0r hn0 hb0
              have hw2d : Below w2.heap.size w2 w2.drew := (Below.refl _ w2).drewN 1
              go_region_law
                (first
                  | ((go_simp; go_at_call 76; ((with_reducible (refine (HWC.out _).mono ?_)); rintro e wI ⟨bI, oI, cI, rfl, hcI, z0, hbI⟩; have hbI2 : Below w2.heap.size w2 wI := hw2d.trans hbI; have hsI : w2.heap.size ≤ wI.heap.size := hbI2.size; have i1 : wI.cell? ⟨w.heap.size + 1, 1, none⟩ = some (.slice a k c) := cell_same' (hbI2.block _ hs2) p1; have j1 : wI.frozen? ⟨w.heap.size + 1, 1, none⟩ = false := frozen_same' (hbI2.block _ hs2) q1; have ix : wI.cell? ⟨b0, k, none⟩ = some (.string ⟨x.toArray⟩) := cell_same' (hbI2.block _ hb02) cx2; have hrowI : wI.ownsRow wc.heap.size 9 1 (.slice a k c) k L := row_stay HO2.out (fun j hj => hbI2.block j (HO2.out.lt j hj).2); have HROW := Lib.hid hrowI; have HBI := Lib.hid hbI2; have hzl := World.block_lt_of_cell? wI _ z0; have hsB : w.heap.size + 1 < wI.heap.size := (by omega); have iA : (wI.alloc (.cells #[.string ⟨(lowW x).toArray⟩] 9)).cell? ⟨w.heap.size + 1, 1, none⟩ = some (.slice a k c) := cell_same' (heap_alloc_old wI _ hsB) i1; clear hrowI hbI2 hbI)))
                  | ((refine step_append_lies _ (by rfl) _ _ _ (by rfl) wc.heap.size 9 i0 _ 1 16 Tryz.underlying28 hi hz0 hz1 hz2 rfl (by omega) (.slice a k c) k L (by rfl) (by first | exact (HROW.out.alloc _).drew | exact HROW.out.alloc _) ⟨wI.heap.size, 0, none⟩ 1 1 [.string ⟨(lowW x).toArray⟩] (by rfl) (by rfl) (World.news_of_block (cs := #[.string ⟨(lowW x).toArray⟩]) (t := 9) (fr := (0, 0)) (heap_alloc_new wI _)) (by simp [Value.oneCell']) (by omega) (by unfold maxLen; omega) (by omega) (by simp; omega) (wI.heap.size + 1) (by simp) ?_; intro gg cap' w7 ho7 hg7 hat hlt'; have hbq : w7.heap[w.heap.size + 1]? = wI.heap[w.heap.size + 1]? := (hg7.block _ (by simp; omega) HNB.out).trans (heap_alloc_old wI _ (by omega)); have y1 : w7.cell? ⟨w.heap.size + 1, 1, none⟩ = some (.slice a k c) := cell_same' hbq i1; have x1 : w7.frozen? ⟨w.heap.size + 1, 1, none⟩ = false := frozen_same' hbq j1; have HBQ := Lib.hid hbq; clear hbq))
                  | fail)
              all_goals
                have hgl : wc.heap.size ≤ gg := (ho7.lt gg rfl).1
                have hsz9 := HSZ.out
                have hgr : ∀ j, j < w2.heap.size → j < wc.heap.size → w7.heap[j]? = w2.heap[j]? := fun j h1 h2 =>
                  ((hg7.block j (by simp; omega) (fun e => by have h3 : wc.heap.size ≤ j := (HROW.out.lt j e.symm).1; omega)).trans (heap_alloc_old wI _ (by omega))).trans (HBI.out.block j h1)
                have hres : w7.heap[w.heap.size]? = w2.heap[w.heap.size]? := hgr _ (by omega) (by omega)
                have hblk : w7.heap[w.heap.size + 1]? = w2.heap[w.heap.size + 1]? := HBQ.out.trans (HBI.out.block _ (by omega))
                have hbel : Below w.heap.size w w7 := ((HL2.out.bel.trans (HBI.out.mono HL2.out.bel.size)).alloc (by have := HBI.out.size; omega) _).grown hg7 (by simp; omega) (fun j e => by have h3 : wc.heap.size ≤ j := (HROW.out.lt j e).1; omega)
                have HL7 := Lib.hid ((HL2.out.kept hres hblk hbel).set1 (.slice (some ⟨gg, 0, none⟩) (k + 1) cap'))
                have HO7 : Hid ((w7.setCell ⟨w.heap.size + 1, 1, none⟩ (.slice (some ⟨gg, 0, none⟩) (k + 1) cap')).ownsRow wc.heap.size 9 1 (.slice (some ⟨gg, 0, none⟩) (k + 1) cap') (k + 1) (((ws.take (k + 1)).map lowW).map encW)) := Lib.hid (by
                  rw [← HSU.out]
                  exact row_stay ho7 fun j hj => by
                    have : j = gg := by simpa [Value.ownBlock] using hj.symm
                    subst this
                    exact Below.heap_setCell w7 ⟨w.heap.size + 1, 1, none⟩ _ _ (by simp; omega))
                have HK7 : Hid (wc.heap.size ≤ (w7.setCell ⟨w.heap.size + 1, 1, none⟩ (.slice (some ⟨gg, 0, none⟩) (k + 1) cap')).heap.size ∧ ∀ j, j < wc.heap.size → j ≠ w.heap.size + 1 → (w7.setCell ⟨w.heap.size + 1, 1, none⟩ (.slice (some ⟨gg, 0, none⟩) (k + 1) cap')).heap[j]? = wc.heap[j]?) := Lib.hid ⟨by have h1 := hg7.size; simp at h1 ⊢; omega, fun j h1 h2 => (Below.heap_setCell w7 ⟨w.heap.size + 1, 1, none⟩ _ _ h2).trans ((hgr j (by omega) h1).trans (HK2.out j h1 h2))⟩
                clear ho7 hg7 hat hlt' HBQ HROW HBI i1 j1 ix z0 hzl iA y1 x1 hgr hres hblk hbel HL2 HO2 HK2 HNB
                go_wp2_with fail
                go_roundw
                case rel => exact ⟨k + 1, some ⟨gg, 0, none⟩, cap', by go_num, by omega, HL7, HO7, HK7, HA2⟩
                case measure => simp [intOf]; omega
            · have hiw' : isWd x = false := by simpa using hiw
              rw [hiw'] at hwq
              have hRn : R = none := by
                rw [← HRm.out.2, if_neg]
                intro h
                simp only [okPhr, Bool.and_eq_true] at h
                exact hiw (List.all_eq_true.1 h.1 x HMEM.out)
              subst hRn
              clear hiw hiw' HT HAk HMEM
              go_upto_region 24 with (first
                | (go_at_call 75; (with_reducible (refine (hwq _).mono ?_)); rintro e w2 ⟨rfl, hb2⟩; have HB2 := Lib.hid hb2; clear hb2)
                | fail)
              have HL2 := Lib.hid (HLk.out.below HB2.out)
              obtain ⟨-, -, ⟨r0, r1, r2⟩, ⟨q0, q1, q2⟩⟩ := HL2.out.cells
              have HBW := Lib.hid HL2.out.bel
              clear HL2 HLk HOk HBk hwq HWO HLm HRm HB9
              go_wp2_with fail
              exact bodyPost_ret (v := .tuple #[.agg #[.int .i64 0, .slice none 0 0, .bool false], .bool false]) (by simp [results, Tryz.results41, go_sem, r0, r1, r2]) rfl ⟨((HBW.out.setCell (p := ⟨w.heap.size, 0, none⟩) (Nat.le_refl _) _).setCell (p := ⟨w.heap.size, 1, none⟩) (Nat.le_refl _) _).setCell (p := ⟨w.heap.size, 2, none⟩) (Nat.le_refl _) _, 0, none, 0, 0, false, false, rfl, rfl⟩
          · obtain rfl : k = ws.length := by omega
            rw [List.take_length] at HOk HAk
            have HFIN : Hid (∀ wx, Below w.heap.size w wx → (∀ j, j < wr.heap.size → j ≠ w.heap.size → wx.heap[j]? = wr.heap[j]?) → RPPost R w (.returned (.tuple #[.agg #[.int .i64 (kd : Int), .slice a ws.length c, .bool ng], .bool (decide (1 ≤ ws.length) && decide (ws.length ≤ 8))])) wx) := Lib.hid (by
              intro wx hbel hblk
              refine ⟨hbel, kd, _, _, _, ng, _, rfl, ?_⟩
              rw [← HRm.out.2]
              have hok : okPhr ws = (decide (1 ≤ ws.length) && decide (ws.length ≤ 8)) := by unfold okPhr; rw [HAk.out]; rfl
              rw [← hok]
              by_cases h : okPhr ws = true
              · rw [if_pos h]
                refine ⟨h, rfl, rfl, ?_⟩
                have := row_stay HOk.out (w' := wx) fun j hj => by
                  have h1 : wc.heap.size ≤ j ∧ j < wr.heap.size := HOk.out.lt j hj
                  have h2 : w.heap.size + 1 < wc.heap.size := HSZ.out
                  have h3 : j ≠ w.heap.size := by
                    intro e
                    have h4 : wc.heap.size ≤ w.heap.size := by rw [← e]; exact h1.1
                    omega
                  exact hblk j h1.2 h3
                unfold WordsO
                show wx.ownsRow 0 _ 1 _ (ws.map lowW).length ((ws.map lowW).map encW)
                rw [List.length_map]
                exact this.mono_base (Nat.zero_le _)
              · rw [if_neg h]
                show okPhr ws = false
                simpa using h)
            obtain ⟨⟨c0, c1, c2⟩, -, ⟨r0, r1, r2⟩, ⟨q0, q1, q2⟩⟩ := HLk.out.cells
            have HBW := Lib.hid HLk.out.bel
            have HW : Hid (∀ (v0 v1 v2 : Value), (∀ j, j < wr.heap.size → j ≠ w.heap.size → (((wr.setCell ⟨w.heap.size, 0, none⟩ v0).setCell ⟨w.heap.size, 1, none⟩ v1).setCell ⟨w.heap.size, 2, none⟩ v2).heap[j]? = wr.heap[j]?)) := Lib.hid (fun v0 v1 v2 j _ hj => by
              rw [Below.heap_setCell _ ⟨w.heap.size, 2, none⟩ _ _ hj, Below.heap_setCell _ ⟨w.heap.size, 1, none⟩ _ _ hj, Below.heap_setCell _ ⟨w.heap.size, 0, none⟩ _ _ hj])
            clear HLk HOk HBk HAk HWO HLm HRm HB9
            by_cases h1 : 1 ≤ ws.length
            · have g1 : decide ((1 : Int) ≤ (ws.length : Int)) = true := decide_eq_true (by omega)
              have g1' : decide (1 ≤ ws.length) = true := decide_eq_true (by omega)
              by_cases h8 : ws.length ≤ 8
              · have g2 : decide ((ws.length : Int) ≤ 8) = true := decide_eq_true (by omega)
                have g2' : decide (ws.length ≤ 8) = true := decide_eq_true (by omega)
                rw [g1', g2'] at HFIN
                clear h1 h8
                go_wp2_with fail
                exact bodyPost_ret (v := .tuple #[.agg #[.int .i64 (kd : Int), .slice a ws.length c, .bool ng], .bool true]) (by simp [results, Tryz.results41, go_sem, r0, r1, r2]) rfl (HFIN.out _ (((HBW.out.setCell (p := ⟨w.heap.size, 0, none⟩) (Nat.le_refl _) _).setCell (p := ⟨w.heap.size, 1, none⟩) (Nat.le_refl _) _).setCell (p := ⟨w.heap.size, 2, none⟩) (Nat.le_refl _) _) (HW.out _ _ _))
              · have g2 : decide ((ws.length : Int) ≤ 8) = false := decide_eq_false (by omega)
                have g2' : decide (ws.length ≤ 8) = false := decide_eq_false (by omega)
                rw [g1', g2'] at HFIN
                clear h1 h8
                go_wp2_with fail
                exact bodyPost_ret (v := .tuple #[.agg #[.int .i64 (kd : Int), .slice a ws.length c, .bool ng], .bool false]) (by simp [results, Tryz.results41, go_sem, r0, r1, r2]) rfl (HFIN.out _ (((HBW.out.setCell (p := ⟨w.heap.size, 0, none⟩) (Nat.le_refl _) _).setCell (p := ⟨w.heap.size, 1, none⟩) (Nat.le_refl _) _).setCell (p := ⟨w.heap.size, 2, none⟩) (Nat.le_refl _) _) (HW.out _ _ _))
            · have g1 : decide ((1 : Int) ≤ (ws.length : Int)) = false := decide_eq_false (by omega)
              have g1' : decide (1 ≤ ws.length) = false := decide_eq_false (by omega)
              rw [g1'] at HFIN
              clear h1
              go_wp2_with fail
              exact bodyPost_ret (v := .tuple #[.agg #[.int .i64 (kd : Int), .slice a ws.length c, .bool ng], .bool false]) (by simp [results, Tryz.results41, go_sem, r0, r1, r2]) rfl (HFIN.out _ (((HBW.out.setCell (p := ⟨w.heap.size, 0, none⟩) (Nat.le_refl _) _).setCell (p := ⟨w.heap.size, 1, none⟩) (Nat.le_refl _) _).setCell (p := ⟨w.heap.size, 2, none⟩) (Nat.le_refl _) _) (HW.out _ _ _))
end Go.Proofs.YtogjgibaolppfaaGreatDoor

/- Facts and contracts for the laws of the sender, part 24. Conditions: those that each theorem names. -/
import Derived.Test.YtogjgibaolppfaaGreatDoorK20
import Derived.Laws.AppendOwn
import Derived.Deep.AppendLies
import Derived.OwnWalk
/- search: part, a word. -/
namespace Go.Proofs.YtogjgibaolppfaaGreatDoor
open Go.RowKit Go.Shelf Go.Lib Go.Proofs

set_option maxRecDepth 100000 in
set_option maxHeartbeats 4000000 in
theorem part_wrd (s : List UInt8) (ng : Bool) (t : ByteArray) (hq : t.data.toList.head? ≠ some 34) (hl : t.size ≤ 1000) (w : World) (hE : Env w) (hC : ∀ W, Calls Tryz.prog 69 #[.string ⟨s.toArray⟩, .string ⟨#[45]⟩] W fun e w' => e = .returned (.tuple #[.string t, .bool ng]) ∧ W = w') :
    Calls Tryz.prog 39 #[.string ⟨s.toArray⟩] w (PartPost (part1 ng t.data.toList) w) := by
  have hC2 := fun W => cutPrefix_any 34 t.data.toList W
  have HE := Lib.hid hE
  have g1 : hasC 34 t.data.toList = false := by unfold hasC; exact decide_eq_false hq
  have g2 : cutSC 34 t.data.toList = t.data.toList := by unfold cutSC; exact if_neg hq
  have g3 : (⟨t.data.toList.toArray⟩ : ByteArray) = t := by simp
  rw [g1, g2, g3] at hC2
  have hdl : t.data.toList.length = t.size := by simp
  have hsplit := List.takeWhile_append_dropWhile (p := isPart) (l := t.data.toList)
  have hpw : ∀ c ∈ t.data.toList.takeWhile isPart, isPart c = true := List.all_eq_true.1 List.all_takeWhile
  have hdw : ∀ c, (t.data.toList.dropWhile isPart).head? = some c → isPart c = false := fun c h => by
    have := List.head?_dropWhile_not isPart t.data.toList
    rw [h] at this; simpa using this
  have h1p : part1 ng t.data.toList = if isWd (t.data.toList.takeWhile isPart) then
      (if (t.data.toList.dropWhile isPart).head? = some 42 then some (⟨3, ng, [lowW (t.data.toList.takeWhile isPart)]⟩, (t.data.toList.dropWhile isPart).tail)
        else some (⟨1, ng, [lowW (t.data.toList.takeWhile isPart)]⟩, t.data.toList.dropWhile isPart)) else none := by rw [part1, if_neg hq]
  obtain ⟨R, hR⟩ : ∃ R, part1 ng t.data.toList = R := ⟨_, rfl⟩
  rw [hR] at h1p ⊢
  obtain ⟨x, hx⟩ : ∃ x, t.data.toList.takeWhile isPart = x := ⟨_, rfl⟩
  obtain ⟨d, hd⟩ : ∃ d, t.data.toList.dropWhile isPart = d := ⟨_, rfl⟩
  rw [hx] at hsplit hpw h1p
  rw [hd] at hsplit hdw h1p
  have hxl : x.length + d.length = t.size := by rw [← hdl, ← hsplit, List.length_append]
  have hat : ∀ (k : Nat) (h : k < t.size), k < x.length → isPart t[k] = true := fun k h hk => by
    have e : t.data.toList[k]? = some t[k] := by
      rw [List.getElem?_eq_getElem (by rw [hdl]; exact h)]; simp; rfl
    rw [← hsplit, List.getElem?_append_left hk, List.getElem?_eq_getElem hk] at e
    injection e with e
    rw [← e]; exact hpw _ (List.getElem_mem hk)
  have hend : ∀ (h : x.length < t.size), isPart t[x.length] = false := fun h => by
    have hdl0 : 0 < d.length := by omega
    have e : t.data.toList[x.length]? = some t[x.length] := by
      rw [List.getElem?_eq_getElem (by rw [hdl]; exact h)]; simp; rfl
    rw [← hsplit, List.getElem?_append_right (Nat.le_refl _), Nat.sub_self] at e
    refine hdw _ ?_
    rw [List.head?_eq_getElem?]; exact e
  have hx1 : t.extract 0 x.length = ⟨x.toArray⟩ := by
    apply ByteArray.ext
    apply Array.toList_inj.1
    rw [Lib.extract_data, ← hsplit]
    simp
  have hx2 : t.extract x.length t.size = ⟨d.toArray⟩ := by
    apply ByteArray.ext
    apply Array.toList_inj.1
    rw [Lib.extract_to_end, ← hsplit]
    simp
  have HAT := Lib.hid hat
  have HEND := Lib.hid hend
  have HRP := Lib.hid h1p
  have HPW := Lib.hid hpw
  have HX1 := Lib.hid hx1
  have HX2 := Lib.hid hx2
  have HL := Lib.hid (Loc.start w ng)
  clear g1 g2 g3 hE hq hsplit hpw hdw h1p hR hx hd hat hend hx1 hx2 hdl
  go_enter Tryz.func39, Tryz.ntmps39
  go_wp2_with fail
  refine (hC _).mono ?_
  rintro e w1 ⟨rfl, rfl⟩
  go_wp2_with fail
  refine (hC2 _).mono ?_
  rintro e w1 ⟨rfl, rfl⟩
  obtain ⟨w1, hw1⟩ : ∃ w1, ((w.alloc (.cells #[.int .i64 0, .slice none 0 0, .bool false] 53)).alloc (.cells #[.int .i64 0, .slice none 0 0, .bool ng] 53)) = w1 := ⟨_, rfl⟩
  rw [hw1] at HL ⊢
  clear hw1 hC hC2
  go_wp2_with fail
  go_loop [13] (fun vi => ∃ k : Nat, vi = .int .i64 k ∧ k ≤ x.length) (fun vi => x.length - (intOf vi).toNat)
  case atStart => exact ⟨0, rfl, Nat.zero_le _⟩
  case round =>
    obtain ⟨k, rfl, hk⟩ := hrel
    by_cases hlt : k < x.length
    · have hkt : k < t.size := by omega
      have hki : (k : Int) < (t.size : Int) := by omega
      have hcw := fun W => inWord_any t[k] W
      rw [HAT.out k hkt hlt] at hcw
      have e1 : decide ((k : Int) < (t.size : Int)) = true := by simp; omega
      have e2 : decide (k < t.size) = true := by simp; omega
      go_wp2_with (first
        | (go_at_call 52; (with_reducible (refine (hcw _).mono ?_)); rintro e wx ⟨rfl, rfl⟩)
        | fail)
      go_round
      case rel => exact ⟨k + 1, by go_num, by omega⟩
      case measure => simp [intOf]; omega
    · obtain rfl : k = x.length := by omega
      have hkle : (x.length : Int) ≤ (t.size : Int) := by omega
      go_upto_region 16 with fail
      go_cut [82] (fun v wx => v = .bool false ∧ w1 = wx)
      case first =>
        by_cases hsz : x.length < t.size
        · have hki : (x.length : Int) < (t.size : Int) := by omega
          have hcw := fun W => inWord_any t[x.length] W
          rw [HEND.out hsz] at hcw
          have e1 : decide ((x.length : Int) < (t.size : Int)) = true := by simp; omega
          have e2 : decide (x.length < t.size) = true := by simp; omega
          go_wp2_with (first
            | (go_at_call 52; (with_reducible (refine (hcw _).mono ?_)); rintro e wx ⟨rfl, rfl⟩)
            | fail)
          go_meet
          exact ⟨rfl, rfl⟩
        · have e1 : decide ((x.length : Int) < (t.size : Int)) = false := by simp; omega
          have e2 : decide (x.length < t.size) = false := by simp; omega
          go_wp2_with fail
          go_meet
          exact ⟨rfl, rfl⟩
      case rest =>
        obtain ⟨rfl, rfl⟩ := hcut
        obtain ⟨⟨c0, c1, c2⟩, ⟨f0, f1⟩, -⟩ := HL.out.cells
        have HL2 := Lib.hid (HL.out.set0 1)
        obtain ⟨w2, hw2⟩ : ∃ w2, w1.setCell ⟨w.heap.size + 1, 0, none⟩ (.int .i64 1) = w2 := ⟨_, rfl⟩
        have HL2' : Hid (Loc w w2 1 (.slice none 0 0) ng) := Lib.hid (by rw [← hw2]; exact HL2.out)
        have hx1 := HX1.out
        have hx2 := HX2.out
        have hxi : (0 : Int) ≤ (x.length : Int) := by omega
        go_upto_region 19 with fail
        have hlow := lower_any x (by omega) w2 (HE.out.below HL2'.out.bel)
        clear hw2 c0 c1 c2 f0 f1 HL2
        go_wp2_with fail
        refine hlow.mono ?_
        rintro e w3 ⟨rfl, hb3⟩
        have HL3 := Lib.hid (HL2'.out.below hb3)
        have hlx : lowD x = lowW x := lowD_parts HPW.out
        rw [hlx]
        have h4 : Below w3.heap.size w3 (w3.alloc (.cells #[.string ⟨(lowW x).toArray⟩] 9)) := (Below.refl _ w3).alloc (Nat.le_refl _) _
        have HL4 := Lib.hid (HL3.out.below h4)
        have HW4 := Lib.hid (wordsO_new w3 [lowW x] (by simp))
        obtain ⟨Bw, hBw⟩ : ∃ b, w3.heap.size = b := ⟨_, rfl⟩
        obtain ⟨w4, hw4⟩ : ∃ w4, w3.alloc (.cells #[.string ⟨(lowW x).toArray⟩] 9) = w4 := ⟨_, rfl⟩
        have HW4' : Hid (WordsO w4 (.slice (some ⟨Bw, 0, none⟩) 1 1) [lowW x]) := Lib.hid (by rw [← hw4, ← hBw]; exact HW4.out)
        have hBl : w.heap.size + 1 < Bw := by rw [← hBw]; exact HL3.out.size
        rw [hw4] at HL4
        obtain ⟨⟨c0, c1, c2⟩, ⟨f0, f1⟩, -⟩ := HL4.out.cells
        have HL5 := Lib.hid (HL4.out.set1 (.slice (some ⟨Bw, 0, none⟩) 1 1))
        have HW5 : Hid (WordsO (w4.setCell ⟨w.heap.size + 1, 1, none⟩ (.slice (some ⟨Bw, 0, none⟩) 1 1)) (.slice (some ⟨Bw, 0, none⟩) 1 1) [lowW x]) := Lib.hid (HW4'.out.stay fun j hj => by
          have : j = Bw := by simpa [Value.ownBlock] using hj.symm
          subst this
          exact Below.heap_setCell w4 ⟨w.heap.size + 1, 1, none⟩ _ _ (by simp; omega))
        obtain ⟨w5, hw5⟩ : ∃ w5, w4.setCell ⟨w.heap.size + 1, 1, none⟩ (.slice (some ⟨Bw, 0, none⟩) 1 1) = w5 := ⟨_, rfl⟩
        rw [hw5] at HL5 HW5
        clear HL3 HW4 HW4' HL4 hb3 h4 hlow
        go_upto_region 20 with fail
        clear c0 c1 c2 f0 f1 hw5 hw4 hBw
        have hcs := fun W => cutPrefix_any 42 d W
        have hiw := fun W => isWord_any ⟨x.toArray⟩ (by show x.toArray.size ≤ _; simp; omega) W
        have hdl : (⟨x.toArray⟩ : ByteArray).data.toList = x := by simp
        rw [hdl] at hiw
        clear hdl
        obtain ⟨iw, hiw2⟩ : ∃ iw, isWd x = iw := ⟨_, rfl⟩
        have HRP2 := HRP.out
        rw [hiw2] at hiw HRP2
        by_cases h42 : d.head? = some 42
        · have g1 : hasC 42 d = true := by unfold hasC; exact decide_eq_true h42
          have g2 : cutSC 42 d = d.tail := by unfold cutSC; exact if_pos h42
          rw [g1, g2] at hcs
          rw [if_pos h42] at HRP2
          have HFIN : Hid (∀ wx, (∀ j, j < w5.heap.size → j ≠ w.heap.size → j ≠ w.heap.size + 1 → wx.heap[j]? = w5.heap[j]?) → Below w.heap.size w wx → PartPost R w (.returned (.tuple #[.agg #[.int .i64 3, .slice (some ⟨Bw, 0, none⟩) 1 1, .bool ng], .string ⟨d.tail.toArray⟩, .bool iw])) wx) := Lib.hid (by
            intro wx hblk hbel
            refine ⟨hbel, 3, _, _, _, ng, iw, d.tail, rfl, ?_⟩
            rw [HRP2]
            cases iw with
            | false => rfl
            | true => exact ⟨rfl, rfl, rfl, rfl, HW5.out.stay fun j hj => by
                have h2 := (HW5.out.lt j hj).2
                have : j = Bw := by simpa [Value.ownBlock] using hj.symm
                subst this
                exact hblk _ h2 (by omega) (by omega)⟩)
          have HHW5 := Lib.hid HW5
          clear g1 g2 h42 HRP2 hiw2 HRP
          go_upto_region 22 with (first
            | (go_at_call 69; (with_reducible (refine (hcs _).mono ?_)); rintro e wx ⟨rfl, rfl⟩)
            | fail)
          obtain ⟨⟨c0, c1, c2⟩, ⟨f0, f1⟩, -⟩ := HL5.out.cells
          have HL6 := Lib.hid (HL5.out.set0 3)
          obtain ⟨we, hwe⟩ : ∃ we, w5.setCell ⟨w.heap.size + 1, 0, none⟩ (.int .i64 3) = we := ⟨_, rfl⟩
          have HBE : Hid ((∀ j, j ≠ w.heap.size + 1 → we.heap[j]? = w5.heap[j]?) ∧ we.heap.size = w5.heap.size) := Lib.hid ⟨fun j hj => by rw [← hwe]; exact Below.heap_setCell w5 ⟨w.heap.size + 1, 0, none⟩ _ _ hj, by rw [← hwe]; simp⟩
          have HLe : Hid (Loc w we 3 (.slice (some ⟨Bw, 0, none⟩) 1 1) ng) := Lib.hid (by rw [← hwe]; exact HL6.out)
          go_upto_region 23 with fail
          clear c0 c1 c2 f0 f1 hwe HL6 HL5
          obtain ⟨⟨c0, c1, c2⟩, -, ⟨r0, r1, r2⟩, ⟨f0, f1, f2⟩⟩ := HLe.out.cells
          have HBW := Lib.hid HLe.out.bel
          have hwl : w.heap.size < we.heap.size := by have := HLe.out.size; omega
          have HW : Hid (∀ (v0 v1 v2 : Value), (∀ j, j < we.heap.size → j ≠ w.heap.size → (((we.setCell ⟨w.heap.size, 0, none⟩ v0).setCell ⟨w.heap.size, 1, none⟩ v1).setCell ⟨w.heap.size, 2, none⟩ v2).heap[j]? = we.heap[j]?)) := Lib.hid (fun v0 v1 v2 j _ hj => by
            rw [Below.heap_setCell _ ⟨w.heap.size, 2, none⟩ _ _ hj, Below.heap_setCell _ ⟨w.heap.size, 1, none⟩ _ _ hj, Below.heap_setCell _ ⟨w.heap.size, 0, none⟩ _ _ hj])
          clear HLe
          go_region_held3 (fun w' => w'.cell? ⟨w.heap.size + 1, 0, none⟩ = some (.int .i64 3) ∧ w'.cell? ⟨w.heap.size + 1, 1, none⟩ = some (.slice (some ⟨Bw, 0, none⟩) 1 1) ∧ w'.cell? ⟨w.heap.size + 1, 2, none⟩ = some (.bool ng))
            (first | assumption | go_keep)
            (first
              | (go_at_call 73; (with_reducible (refine (hiw _).mono ?_)); rintro e wx ⟨rfl, rfl⟩)
              | fail)
          go_wp2_with fail
          exact bodyPost_ret (v := .tuple #[.agg #[.int .i64 3, .slice (some ⟨Bw, 0, none⟩) 1 1, .bool ng], .string ⟨d.tail.toArray⟩, .bool iw]) (by simp [results, Tryz.results39, go_sem, r0, r1, r2]) rfl (HFIN.out _ (fun j hj h1 h2 => (HW.out _ _ _ j (by rw [HBE.out.2]; exact hj) h1).trans (HBE.out.1 j h2)) ((((HBW.out.setCell (p := ⟨w.heap.size, 0, none⟩) (Nat.le_refl _) _).setCell (p := ⟨w.heap.size, 1, none⟩) (Nat.le_refl _) _).setCell (p := ⟨w.heap.size, 2, none⟩) (Nat.le_refl _) _).drewN 1))
        · have g1 : hasC 42 d = false := by unfold hasC; exact decide_eq_false h42
          have g2 : cutSC 42 d = d := by unfold cutSC; exact if_neg h42
          rw [g1, g2] at hcs
          rw [if_neg h42] at HRP2
          have HFIN : Hid (∀ wx, (∀ j, j < w5.heap.size → j ≠ w.heap.size → j ≠ w.heap.size + 1 → wx.heap[j]? = w5.heap[j]?) → Below w.heap.size w wx → PartPost R w (.returned (.tuple #[.agg #[.int .i64 1, .slice (some ⟨Bw, 0, none⟩) 1 1, .bool ng], .string ⟨d.toArray⟩, .bool iw])) wx) := Lib.hid (by
            intro wx hblk hbel
            refine ⟨hbel, 1, _, _, _, ng, iw, d, rfl, ?_⟩
            rw [HRP2]
            cases iw with
            | false => rfl
            | true => exact ⟨rfl, rfl, rfl, rfl, HW5.out.stay fun j hj => by
                have h2 := (HW5.out.lt j hj).2
                have : j = Bw := by simpa [Value.ownBlock] using hj.symm
                subst this
                exact hblk _ h2 (by omega) (by omega)⟩)
          have HHW5 := Lib.hid HW5
          clear g1 g2 h42 HRP2 hiw2 HRP
          obtain ⟨we, hwe⟩ : ∃ we, w5 = we := ⟨_, rfl⟩
          have HBE : Hid ((∀ j, j ≠ w.heap.size + 1 → we.heap[j]? = w5.heap[j]?) ∧ we.heap.size = w5.heap.size) := Lib.hid ⟨fun j hj => by rw [← hwe], by rw [← hwe]⟩
          have HLe : Hid (Loc w we 1 (.slice (some ⟨Bw, 0, none⟩) 1 1) ng) := Lib.hid (by rw [← hwe]; exact HL5.out)
          go_upto_region 23 with (first
            | (go_at_call 69; (with_reducible (refine (hcs _).mono ?_)); rintro e wx ⟨rfl, rfl⟩)
            | fail)
          clear hwe HL5
          obtain ⟨⟨c0, c1, c2⟩, -, ⟨r0, r1, r2⟩, ⟨f0, f1, f2⟩⟩ := HLe.out.cells
          have HBW := Lib.hid HLe.out.bel
          have hwl : w.heap.size < we.heap.size := by have := HLe.out.size; omega
          have HW : Hid (∀ (v0 v1 v2 : Value), (∀ j, j < we.heap.size → j ≠ w.heap.size → (((we.setCell ⟨w.heap.size, 0, none⟩ v0).setCell ⟨w.heap.size, 1, none⟩ v1).setCell ⟨w.heap.size, 2, none⟩ v2).heap[j]? = we.heap[j]?)) := Lib.hid (fun v0 v1 v2 j _ hj => by
            rw [Below.heap_setCell _ ⟨w.heap.size, 2, none⟩ _ _ hj, Below.heap_setCell _ ⟨w.heap.size, 1, none⟩ _ _ hj, Below.heap_setCell _ ⟨w.heap.size, 0, none⟩ _ _ hj])
          clear HLe
          go_region_held3 (fun w' => w'.cell? ⟨w.heap.size + 1, 0, none⟩ = some (.int .i64 1) ∧ w'.cell? ⟨w.heap.size + 1, 1, none⟩ = some (.slice (some ⟨Bw, 0, none⟩) 1 1) ∧ w'.cell? ⟨w.heap.size + 1, 2, none⟩ = some (.bool ng))
            (first | assumption | go_keep)
            (first
              | (go_at_call 73; (with_reducible (refine (hiw _).mono ?_)); rintro e wx ⟨rfl, rfl⟩)
              | fail)
          go_wp2_with fail
          exact bodyPost_ret (v := .tuple #[.agg #[.int .i64 1, .slice (some ⟨Bw, 0, none⟩) 1 1, .bool ng], .string ⟨d.toArray⟩, .bool iw]) (by simp [results, Tryz.results39, go_sem, r0, r1, r2]) rfl (HFIN.out _ (fun j hj h1 h2 => (HW.out _ _ _ j (by rw [HBE.out.2]; exact hj) h1).trans (HBE.out.1 j h2)) ((((HBW.out.setCell (p := ⟨w.heap.size, 0, none⟩) (Nat.le_refl _) _).setCell (p := ⟨w.heap.size, 1, none⟩) (Nat.le_refl _) _).setCell (p := ⟨w.heap.size, 2, none⟩) (Nat.le_refl _) _).drewN 1))

theorem part_any (s : List UInt8) (hs : s.length ≤ 1000) (w : World) (hE : Env w) :
    Calls Tryz.prog 39 #[.string ⟨s.toArray⟩] w (PartPost (partP s) w) := by
  have hC := fun W => cutPrefix_any 45 s W
  rw [partP_cut]
  have hl1 : (cutSC 45 s).length ≤ 1000 := by
    unfold cutSC; split
    · rw [List.length_tail]; omega
    · exact hs
  obtain ⟨ng, hng⟩ : ∃ ng, hasC 45 s = ng := ⟨_, rfl⟩
  obtain ⟨s1, hs1⟩ : ∃ s1, cutSC 45 s = s1 := ⟨_, rfl⟩
  rw [hng, hs1] at hC ⊢
  rw [hs1] at hl1
  by_cases hq : s1.head? = some 34
  · obtain ⟨q, rfl⟩ : ∃ q, s1 = 34 :: q := by
      cases s1 with
      | nil => cases hq
      | cons c r => simp at hq; exact ⟨r, by rw [hq]⟩
    exact part_phr s ng q (by simp at hl1; omega) w hE hC
  · have := part_wrd s ng ⟨s1.toArray⟩ (by simpa using hq) (by simpa [ByteArray.size] using hl1) w hE hC
    simpa using this
end Go.Proofs.YtogjgibaolppfaaGreatDoor
/- search: Parse. -/
namespace Go.Proofs.YtogjgibaolppfaaGreatDoor
open Go.RowKit Go.Shelf Go.Lib Go.Proofs

def ParseEnd (R : Option (List Prt)) (w : World) (e : Ending) (w' : World) : Prop :=
  match R with
  | none => e = .returned (.tuple #[.slice none 0 0, .int .i64 180])
  | some l => ∃ v P, P.map (·.1) = l ∧ PartsR w.heap.size w' v P ∧ e = .returned (.tuple #[v, .int .i64 0])
def ParsePost (R : Option (List Prt)) (w : World) (e : Ending) (w' : World) : Prop := Below w.heap.size w w' ∧ ParseEnd R w e w'
theorem part1_len {neg : Bool} {s a : List UInt8} {p : Prt} (h : part1 neg s = some (p, a)) : a.length < s.length := by
  rw [part1] at h
  by_cases hq : s.head? = some 34
  · rw [if_pos hq] at h
    cases s with
    | nil => cases hq
    | cons c q =>
      simp only [List.tail_cons] at h
      cases hc : cutQ q with
      | none => rw [hc] at h; cases h
      | some x =>
        rw [hc] at h
        simp only at h
        split at h
        · cases h
          have h1 := congrArg List.length (cutQ_some (q := q) (i := x.1) (a := x.2) hc).1
          simp at h1 ⊢; omega
        · cases h
  · rw [if_neg hq] at h
    have hw := List.takeWhile_append_dropWhile (p := isPart) (l := s)
    have hl := congrArg List.length hw
    rw [List.length_append] at hl
    by_cases hk : isWd (s.takeWhile isPart) = true
    · rw [if_pos hk] at h
      have h1 := (isWd_mem hk).2.1
      split at h
      · cases h; rw [List.length_tail]; omega
      · cases h; omega
    · rw [if_neg hk] at h; cases h
theorem partP_len {s a : List UInt8} {p : Prt} (h : partP s = some (p, a)) : a.length < s.length := by
  rw [partP] at h
  split at h
  · have := part1_len h; rw [List.length_tail] at this; omega
  · exact part1_len h
/-- one part on -/
def StepG (G : Option (List Prt)) (L : List Prt) (x : Option (Prt × List UInt8)) : Prop :=
  match x with
  | none => G = none
  | some y => ((L.length = 8 ∨ ¬ atB y.2) → G = none) ∧ (L.length ≠ 8 → atB y.2 → ∃ n, (trimB y.2).length < n ∧ G = parseGo n (trimB y.2) (L ++ [y.1]))
theorem stepG {G : Option (List Prt)} {r : List UInt8} {L : List Prt} (hr : r ≠ []) (h : ∃ n, r.length < n ∧ G = parseGo n r L) : StepG G L (partP r) := by
  obtain ⟨n, hn, hg⟩ := h
  cases n with
  | zero => omega
  | succ n =>
    rw [parseGo, if_neg hr] at hg
    cases hp : partP r with
    | none => rw [hp] at hg; exact hg
    | some y =>
      rw [hp] at hg
      simp only at hg
      refine ⟨fun h => by rw [if_pos h] at hg; exact hg, fun h1 h2 => ⟨n, ?_, ?_⟩⟩
      · have h3 := partP_len (a := y.2) (p := y.1) hp
        have := trim_len y.2
        omega
      · rw [if_neg (fun h => h.elim h1 (fun h => h h2))] at hg; exact hg
def strLen : Value → Nat
  | .string s => s.size
  | _ => 0
set_option maxRecDepth 100000 in
set_option maxHeartbeats 4000000 in
theorem parse_any (q : List UInt8) (hq : q.length ≤ 1000000) (w : World) (hE : Env w) :
    Calls Tryz.prog 16 #[.string ⟨q.toArray⟩] w (ParsePost (parseP q) w) := by
  obtain ⟨i0, hi, hz0, hz1, hz2⟩ := info_parts infoPart
  by_cases h300 : 300 < q.length
  · have hR : parseP q = none := by rw [parseP, if_pos h300]
    rw [hR]
    have h3 : (300 : Int) < (q.length : Int) := by omega
    have HE : Hid (∀ wx, wx = w → ParsePost none w (.returned (.tuple #[.slice none 0 0, .int .i64 180])) wx) := Lib.hid (by rintro wx rfl; exact ⟨Below.refl _ _, rfl⟩)
    clear hR hE h300
    go_enter Tryz.func16, Tryz.ntmps16
    go_wp2_with fail
    go_ret2
    exact HE.out _ rfl
  · have h3 : ¬ (300 : Int) < (q.length : Int) := by omega
    have htr := fun W => trimLeft_any q W
    have hR : parseP q = (parseGo (q.length + 1) (trimB q) []).bind fun l => if l.length = 0 then none else some l := by rw [parseP, if_neg h300]
    have htl := trim_len q
    obtain ⟨R, HR⟩ : ∃ R, Hid (parseP q = R) := ⟨_, Lib.hid rfl⟩
    have HR2 : Hid (R = (parseGo (q.length + 1) (trimB q) []).bind fun l => if l.length = 0 then none else some l) := Lib.hid (by rw [← HR.out, hR])
    rw [HR.out]
    have HST : Hid (∃ n, (trimB q).length < n ∧ parseGo (q.length + 1) (trimB q) [] = parseGo n (trimB q) []) := Lib.hid ⟨q.length + 1, by omega, rfl⟩
    obtain ⟨r0, hr0⟩ : ∃ r0, trimB q = r0 := ⟨_, rfl⟩
    rw [hr0] at htr HST htl HR2
    have HE := Lib.hid hE
    obtain ⟨G, hG⟩ : ∃ G, parseGo (q.length + 1) r0 [] = G := ⟨_, rfl⟩
    rw [hG] at HR2 HST
    have hr0l : r0.length ≤ 300 := by omega
    clear hR hr0 hE h300 hG HR htl
    go_enter Tryz.func16, Tryz.ntmps16
    go_wp2_with (first
      | (go_at_call 38; (with_reducible (refine (htr _).mono ?_)); rintro e wx ⟨rfl, rfl⟩)
      | fail)
    go_loopw [4, 5] (fun v4 v5 wr => ∃ (P : List Pv) (r : List UInt8), v5 = .string ⟨r.toArray⟩ ∧ r.length ≤ 300 ∧ P.length ≤ 8 ∧ Hid (PartsR w.heap.size wr v4 P) ∧ Hid (Below w.heap.size w wr) ∧ Hid (∃ n, r.length < n ∧ G = parseGo n r (P.map (·.1)))) (fun _ v5 _ => strLen v5)
    case atStart => exact ⟨[], r0, rfl, hr0l, by simp, Lib.hid (PartsR.nil _ _), Lib.hid (Below.refl _ _), HST⟩
    case round =>
      clear HST htr
      obtain ⟨P, r, rfl, hrl, hPl, HP, HB, HG⟩ := hrel
      obtain ⟨a4, c4, hv4⟩ := row_form HP.out.1
      by_cases hre : r = []
      · subst hre
        have hG : G = some (P.map (·.1)) := by
          obtain ⟨n, hn, hg⟩ := HG.out
          cases n with
          | zero => simp at hn
          | succ n => rw [hg, parseGo, if_pos rfl]
        have hR := HR2.out
        rw [hG] at hR
        simp only [Option.bind_some, List.length_map] at hR
        subst hv4
        by_cases h0 : P.length = 0
        · rw [if_pos h0] at hR
          have HF : Hid (ParsePost R w (.returned (.tuple #[.slice none 0 0, .int .i64 180])) wr) := Lib.hid ⟨HB.out, by rw [hR]; rfl⟩
          have g0 : ((P.length : Int) == 0) = true := by simp [h0]
          have g1 : (P.length == 0) = true := by simp [h0]
          clear hR h0 hG HG HP
          go_wp2_with fail
          go_ret2
          exact HF.out
        · rw [if_neg h0] at hR
          have HF : Hid (ParsePost R w (.returned (.tuple #[.slice a4 P.length c4, .int .i64 0])) wr) := Lib.hid ⟨HB.out, by rw [hR]; exact ⟨_, P, rfl, HP.out, rfl⟩⟩
          have g0 : ((P.length : Int) == 0) = false := by simp [h0]
          have g1 : (P.length == 0) = false := by simp [h0]
          clear hR h0 hG HG HP
          go_wp2_with fail
          go_ret2
          exact HF.out
      · have hpt := part_any r (by omega) wr (HE.out.below HB.out)
        have hse : (!r.isEmpty) = true := by cases r <;> simp_all
        have HSG := Lib.hid (stepG hre HG.out)
        have hpl2 : ∀ p a, partP r = some (p, a) → a.length < r.length := fun p a h => partP_len h
        obtain ⟨PR, hPR⟩ : ∃ PR, partP r = PR := ⟨_, rfl⟩
        rw [hPR] at HSG hpl2 hpt
        have HPL := Lib.hid hpl2
        clear hPR hpl2 hre HG
        subst hv4
        go_upto_region 7 with (first
          | (go_at_call 39; (with_reducible (refine hpt.mono ?_)); rintro e w2 ⟨hb2, kd, ua, un, uc, ng, ok, a, rfl, hpe⟩; have HPE := Lib.hid hpe; have HB2 := Lib.hid hb2; clear hpe hb2)
          | fail)
        obtain ⟨w3, hw3⟩ : ∃ w3, w2.alloc (.cells #[.int .i64 (kd : Int), .slice ua un uc, .bool ng] 53) = w3 := ⟨_, rfl⟩
        obtain ⟨b3, hb3⟩ : ∃ b3, w2.heap.size = b3 := ⟨_, rfl⟩
        have HC3 : Hid (w3.heap[b3]? = some (.cells #[.int .i64 (kd : Int), .slice ua un uc, .bool ng] 53 (0, 0))) := Lib.hid (by rw [← hw3, ← hb3]; exact heap_alloc_new w2 _)
        have HB23 : Hid (Below w2.heap.size w2 w3) := Lib.hid (by rw [← hw3]; exact (Below.refl _ w2).alloc (Nat.le_refl _) _)
        have HBW : Hid (Below wr.heap.size wr w3) := Lib.hid (HB2.out.trans (HB23.out.mono HB2.out.size))
        have HP3 : Hid (PartsR w.heap.size w3 (.slice a4 P.length c4) P) := Lib.hid (HP.out.below HBW.out)
        have HB3 : Hid (Below w.heap.size w w3) := Lib.hid (HB.out.trans (HBW.out.mono HB.out.size))
        have HPE3 : Hid (PartEnd PR kd (.slice ua un uc) ng ok a w3) := Lib.hid (by
          have h := HPE.out
          cases PR with
          | none => exact h
          | some y => exact ⟨h.1, h.2.1, h.2.2.1, h.2.2.2.1, h.2.2.2.2.below HB23.out⟩)
        rw [hw3, hb3]
        clear hw3 hb3 HB23 HPE HP HB HB2 hpt
        obtain ⟨bad, hbad⟩ : ∃ bad, (!(ok && (!decide (P.length = 8) && decide (atB a)))) = bad := ⟨_, rfl⟩
        have HBAD := Lib.hid hbad
        clear hbad
        go_cut [37] (fun v wx => v = .bool bad ∧ w3 = wx)
        case first =>
          have hbad := HBAD.out
          clear HC3 HP3 HB3 HPE3 HBAD HSG HPL HBW
          cases ok
          · have hb : bad = true := by rw [← hbad]; rfl
            subst hb
            clear hbad
            go_wp2_with fail
            go_meet
            exact ⟨rfl, rfl⟩
          · by_cases h8 : P.length = 8
            · have hb : bad = true := by rw [← hbad, decide_eq_true h8]; rfl
              subst hb
              have g1 : ((P.length : Int) == 8) = true := by simp [h8]
              have g2 : (P.length == 8) = true := by simp [h8]
              clear hbad h8
              go_wp2_with fail
              go_meet
              exact ⟨rfl, rfl⟩
            · have g1 : ((P.length : Int) == 8) = false := by simp; omega
              have g2 : (P.length == 8) = false := by simp [h8]
              rw [decide_eq_false h8] at hbad
              clear h8
              cases a with
              | nil =>
                have hb : bad = false := by rw [← hbad, decide_eq_true (show atB [] from .inl rfl)]; rfl
                subst hb
                clear hbad
                go_wp2_with fail
                go_meet
                exact ⟨rfl, rfl⟩
              | cons c a =>
                by_cases hc : c = 32
                · have hb : bad = false := by rw [← hbad, decide_eq_true (show atB (c :: a) from .inr (by rw [hc]; rfl))]; rfl
                  subst hb
                  have g3 : ((c.toNat : Int) != 32) = false := by rw [hc]; rfl
                  clear hbad hc
                  go_wp2_with fail
                  go_meet
                  exact ⟨congrArg Value.bool g3, rfl⟩
                · have hnb : ¬ atB (c :: a) := fun h => by
                    rcases h with h | h
                    · cases h
                    · simp at h; exact hc h
                  have hb : bad = true := by rw [← hbad, decide_eq_false hnb]; rfl
                  subst hb
                  have g3 : ((c.toNat : Int) != 32) = true := by
                    rw [bne_iff_ne]; intro h; apply hc; apply UInt8.toNat_inj.1
                    have : c.toNat = 32 := by omega
                    rw [this]; rfl
                  clear hbad hc hnb
                  go_wp2_with fail
                  go_meet
                  exact ⟨congrArg Value.bool g3, rfl⟩
        case rest =>
          obtain ⟨rfl, rfl⟩ := hcut
          cases bad
          · -- one part more
            obtain ⟨hok, h8, hat⟩ : ok = true ∧ P.length ≠ 8 ∧ atB a := by
              have h := HBAD.out
              cases ok
              · cases h
              · by_cases h8 : P.length = 8
                · rw [decide_eq_true h8] at h; cases h
                · by_cases hb : atB a
                  · exact ⟨rfl, h8, hb⟩
                  · rw [decide_eq_false hb] at h; simp at h
            obtain ⟨p, hpr, hk, hn, hw⟩ : ∃ p : Prt, PR = some (p, a) ∧ kd = p.kind ∧ ng = p.neg ∧ WordsO w3 (.slice ua un uc) p.words := by
              have h := HPE3.out
              cases PR with
              | none => rw [hok] at h; cases h
              | some y => exact ⟨y.1, by rw [h.2.2.2.1], h.2.1, h.2.2.1, h.2.2.2.2⟩
            have HG2 : Hid (∃ n, (trimB a).length < n ∧ G = parseGo n (trimB a) ((P ++ [((p, Value.slice ua un uc) : Pv)]).map (·.1))) := Lib.hid (by
              have h := HSG.out
              rw [hpr] at h
              have := h.2 (by rw [List.length_map]; exact h8) hat
              rw [List.map_append]
              exact this)
            have hal : (trimB a).length ≤ 300 ∧ (trimB a).length < r.length := by
              have := HPL.out p a hpr
              have := trim_len a
              omega
            have htr := fun W => trimLeft_any a W
            have c0 : w3.cell? ⟨b3, 0, none⟩ = some (.int .i64 (kd : Int)) := by rw [Lib.cell_of_heap HC3.out]; rfl
            have c1 : w3.cell? ⟨b3, 1, none⟩ = some (.slice ua un uc) := by rw [Lib.cell_of_heap HC3.out]; rfl
            have c2 : w3.cell? ⟨b3, 2, none⟩ = some (.bool ng) := by rw [Lib.cell_of_heap HC3.out]; rfl
            have hrow := HP3.out.1
            have hbs := HB3.out.size
            obtain ⟨wB, hwB⟩ : ∃ wB, w3.alloc (.cells #[.int .i64 (kd : Int), .slice ua un uc, .bool ng] 53) = wB := ⟨_, rfl⟩
            have hbB : Below w3.heap.size w3 wB := by rw [← hwB]; exact (Below.refl _ w3).alloc (Nat.le_refl _) _
            have HPB : Hid (PartsR w.heap.size wB (.slice a4 P.length c4) P) := Lib.hid (HP3.out.below hbB)
            have HWB : Hid (WordsO wB (.slice ua un uc) p.words) := Lib.hid (hw.below hbB)
            have HBB : Hid (Below w.heap.size w wB) := Lib.hid (HB3.out.trans (hbB.mono hbs))
            have HEQ := Lib.hid hwB
            have hrowB := HPB.out.1
            have hnews : wB.heap[w3.heap.size]? = some (.cells #[.int .i64 (kd : Int), .slice ua un uc, .bool ng] 53 (0, 0)) := by rw [← hwB]; exact heap_alloc_new w3 _
            have hszB : w3.heap.size < wB.heap.size := by rw [← hwB]; simp
            have hprt : prtC (p, Value.slice ua un uc) = [.int .i64 (kd : Int), .slice ua un uc, .bool ng] := by rw [hk, hn]; rfl
            have HPT := Lib.hid hprt
            clear hw hk hn hbB HBAD HSG HPL HPE3 HBW HC3 HP3 hrow hok hat hpr
            go_wp2_with (at_builtin; go_loud (refine wpList_append_own _ rfl _ _ 26 rfl w.heap.size 53 i0 _ 3 40 Tryz.underlying26 hi hz0 hz1 hz2 rfl (by decide) _ _ _ rfl hrowB ⟨w3.heap.size, 0, none⟩ 1 1 [.int .i64 (kd : Int), .slice ua un uc, .bool ng] rfl rfl (World.news_of_block (cs := #[.int .i64 (kd : Int), .slice ua un uc, .bool ng]) (t := 53) (fr := (0, 0)) hnews) (by simp [Value.oneCell']) ?c3 ?c4 ?c5 ?_))
            case c3 => unfold maxLen; omega
            case c4 => omega
            case c5 => omega
            intro v' w5 ho5 hg5 _
            have HP5 : Hid (PartsR w.heap.size w5 v' (P ++ [(p, .slice ua un uc)])) := Lib.hid (HPB.out.snoc (x := (p, .slice ua un uc)) HWB.out (by rw [HPT.out]; exact ho5) hg5)
            have HB5 : Hid (Below w.heap.size w w5) := Lib.hid (HBB.out.grown hg5 HBB.out.size (fun j e => (hrowB.lt j e).1))
            clear ho5 hg5 hnews hszB hrowB hwB hprt c0 c1 c2
            go_wp2_with (first
              | (go_at_call 38; (with_reducible (refine (htr _).mono ?_)); rintro e wx ⟨rfl, rfl⟩)
              | fail)
            go_roundw
            case rel => exact ⟨_, trimB a, rfl, hal.1, by rw [List.length_append]; simp; omega, HP5, HB5, HG2⟩
            case measure => simp [strLen, ByteArray.size]; omega
          · have hG : R = none := by
              have hg : G = none := by
                have h := HSG.out
                have hb := HBAD.out
                have hp := HPE3.out
                cases PR with
                | none => exact h
                | some y =>
                  obtain ⟨p1, p2, p3, p4, p5⟩ := hp
                  refine h.1 ?_
                  rw [p1] at hb
                  rw [List.length_map]
                  by_cases h8 : P.length = 8
                  · exact .inl h8
                  · by_cases hat : atB a
                    · rw [decide_eq_false h8, decide_eq_true hat] at hb; cases hb
                    · exact .inr (by rw [← p4]; exact hat)
              rw [HR2.out, hg]; rfl
            have HF : Hid (ParsePost R w (.returned (.tuple #[.slice none 0 0, .int .i64 180])) w3) := Lib.hid ⟨HB3.out, by rw [hG]; rfl⟩
            clear hG HC3 HP3 HB3 HPE3 HBAD HSG HPL HBW
            go_wp2_with fail
            go_ret2
            exact HF.out
end Go.Proofs.YtogjgibaolppfaaGreatDoor

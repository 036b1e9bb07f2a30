/- left: the operations that put what remains. -/
import Derived.Test.YtmfnhfkgkdibfaaGreatILwB
namespace Go.Proofs.YtmfnhfkgkdibfaaGreat
open Go.RowKit Go.Sort Go.Proofs Go.Maps

def leftAt (l : List Op3) (id : Int) : List Op3 := match l.reverse.find? (fun o => decide (o.2.1 = id)) with | some o => if o.1 = 0 then [] else [o] | none => []
def leftK (l : List Op3) (k : Nat) : List Op3 := (List.range k).flatMap fun (j : Nat) => leftAt l (256 - (j : Int))
def leftL (l : List Op3) : List Op3 := leftK l 256
theorem leftK_succ (l : List Op3) (k : Nat) : leftK l (k + 1) = leftK l k ++ leftAt l (256 - (k : Int)) := by unfold leftK; rw [List.range_succ, List.flatMap_append]; simp
theorem leftAt_len (l : List Op3) (id : Int) : (leftAt l id).length ≤ 1 := by
  unfold leftAt
  split
  · split <;> simp
  · simp
theorem leftK_len (l : List Op3) : ∀ k, (leftK l k).length ≤ k
  | 0 => by simp [leftK]
  | k + 1 => by
    rw [leftK_succ, List.length_append]
    have := leftK_len l k
    have := leftAt_len l (256 - (k : Int))
    omega
theorem leftAt_none {l : List Op3} {id : Int} (h : ∀ o ∈ l, o.2.1 ≠ id) : leftAt l id = [] := by
  unfold leftAt
  have : l.reverse.find? (fun o => decide (o.2.1 = id)) = none := List.find?_eq_none.2 fun o ho => by simpa using h o (List.mem_reverse.1 ho)
  rw [this]
theorem leftAt_at {l : List Op3} {id : Int} {m : Nat} (hm : m < l.length) (h : ∀ o ∈ l.drop (m + 1), o.2.1 ≠ id) (ho : l[m].2.1 = id) : leftAt l id = if l[m].1 = 0 then [] else [l[m]] := by
  unfold leftAt
  have hs : l = l.take m ++ l[m] :: l.drop (m + 1) := by rw [← List.drop_eq_getElem_cons hm, List.take_append_drop]
  have : l.reverse.find? (fun o => decide (o.2.1 = id)) = some l[m] := by
    conv => lhs; rw [hs]
    rw [List.reverse_append, List.reverse_cons, List.append_assoc, List.find?_append]
    have hn : (l.drop (m + 1)).reverse.find? (fun o => decide (o.2.1 = id)) = none := List.find?_eq_none.2 fun o ho => by simpa using h o (List.mem_reverse.1 ho)
    rw [hn]
    simp [ho]
  rw [this]

set_option maxRecDepth 100000 in
set_option maxHeartbeats 4000000 in
theorem left_any (v : Value) (l : List Op3) (w : World) (h : OpsAt w v l) (hl : l.length ≤ 256) :
    Calls Tryz.prog 34 #[v] w fun e w' => ∃ v', e = .returned v' ∧ OpsR w.heap.size w' v' (leftL l) ∧ Below w.heap.size w w' := by
  obtain ⟨i0, hi, hz0, hz1, hz2⟩ := info_parts infoOp
  obtain ⟨a, c, rfl, hle, hm, hc⟩ := h
  have HC := Lib.hid hc
  clear hc
  go_enter Tryz.func34, Tryz.ntmps34
  go_wp2
  go_loopw [3, 4] (fun u i wr => ∃ (k : Nat) (id : Int), i = .int .i64 id ∧ id = 256 - (k : Int) ∧ k ≤ 256 ∧ Hid (OpsR w.heap.size wr u (leftK l k)) ∧ Hid (Below w.heap.size w wr)) (fun _ i _ => (intOf i).toNat)
  case atStart => exact ⟨0, 256, rfl, by omega, by omega, Lib.hid ⟨rfl, .inl ⟨rfl, rfl⟩⟩, Lib.hid (Below.refl _ _)⟩
  case round =>
    obtain ⟨k, id, rfl, hid, hk, HO, HB⟩ := hrel
    have HID := Lib.hid hid
    by_cases hgo : 1 ≤ id
    · have g1 : decide (1 ≤ id) = true := by simpa using hgo
      have hidb : id ≤ 256 := by omega
      have hk2 : k < 256 := by omega
      clear hid
      go_wp2
      go_loopw [3, 5] (fun u i wq => ∃ (m : Nat) (im : Int), i = .int .i64 im ∧ im = (m : Int) - 1 ∧ m ≤ l.length ∧ Hid (∀ o ∈ l.drop m, o.2.1 ≠ id) ∧ Hid (OpsR w.heap.size wq u (leftK l k)) ∧ Hid (Below w.heap.size w wq)) (fun _ i _ => (intOf i + 1).toNat)
      case atStart => exact ⟨l.length, _, rfl, by omega, Nat.le_refl _, Lib.hid (by simp), HO, HB⟩
      case round =>
        obtain ⟨m, im, rfl, him, hml, HN, HOq, HBq⟩ := hrel
        by_cases hm0 : m = 0
        · have g2 : decide (0 ≤ im) = false := by simp; omega
          have hneg : im < 0 := by omega
          have HL : Hid (leftK l (k + 1) = leftK l k) := Lib.hid (by
            rw [leftK_succ, ← HID.out, leftAt_none (by have := HN.out; rw [hm0, List.drop_zero] at this; exact this), List.append_nil])
          clear him hm0
          go_wp2
          go_roundw
          case rel => exact ⟨k + 1, id - 1, rfl, by have := HID.out; omega, by omega, by rw [HL.out]; exact HOq, HBq⟩
          case measure => simp [intOf]; omega
        · obtain ⟨j, rfl⟩ : ∃ j, m = j + 1 := ⟨m - 1, by omega⟩
          obtain rfl : im = (j : Int) := by omega
          have hji : (j : Int) < (l.length : Int) := by omega
          obtain ⟨b, off, rfl, k1, k2, k3⟩ := HC.out j (by omega)
          have hbl := World.block_lt_of_cell? w _ k1
          have c1 := (HBq.out.cell (p := ⟨b, off + j * 3, none⟩) hbl).trans k1
          have c2 := (HBq.out.cell (p := ⟨b, off + j * 3 + 1, none⟩) hbl).trans k2
          have c3 := (HBq.out.cell (p := ⟨b, off + j * 3 + 2, none⟩) hbl).trans k3
          have hjl0 : j < l.length := by omega
          have HLA := Lib.hid (fun (ho : l[j].2.1 = id) => leftAt_at hjl0 HN.out ho)
          have HDR : Hid (l[j].2.1 ≠ id → ∀ o ∈ l.drop j, o.2.1 ≠ id) := Lib.hid (fun hne o ho => by
            rw [List.drop_eq_getElem_cons (by omega)] at ho
            rcases List.mem_cons.1 ho with rfl | ho
            · exact hne
            · exact HN.out o ho)
          obtain ⟨⟨x1, x2, x3⟩, hx⟩ : ∃ x, l[j]'(by omega) = x := ⟨_, rfl⟩
          rw [hx] at c1 c2 c3 HLA HDR
          simp only at c1 c2 c3
          have hjl : j < l.length := by omega
          have hll := leftK_len l k
          have hbq := HBq.out.size
          clear k1 k2 k3 hx him hm0
          by_cases hx2 : x2 = id
          · have g3 : (x2 == id) = true := by simpa using hx2
            have HLA2 := Lib.hid (HLA.out hx2)
            clear hx2
            by_cases hx1 : x1 = 0
            · have g4 : (x1 != 0) = false := by simpa using hx1
              have HL : Hid (leftK l (k + 1) = leftK l k) := Lib.hid (by
                rw [leftK_succ, ← HID.out, HLA2.out, if_pos hx1, List.append_nil])
              clear hx1
              go_wp2
              go_roundw
              case rel => exact ⟨k + 1, id - 1, rfl, by have := HID.out; omega, by omega, by rw [HL.out]; exact HOq, HBq⟩
              case measure => simp [intOf]; omega
            · have g4 : (x1 != 0) = true := by simpa using hx1
              have HL : Hid (leftK l k ++ [(x1, x2, x3)] = leftK l (k + 1)) := Lib.hid (by
                rw [leftK_succ, ← HID.out, HLA2.out, if_neg hx1])
              clear hx1
              obtain ⟨L, hL⟩ : ∃ L, leftK l k = L := ⟨_, rfl⟩
              have HOL : wr.ownsRow w.heap.size 33 3 u3 L.length (L.flatMap opC) := by rw [← hL]; exact HOq.out
              rw [hL] at HL hll
              clear hL HO HOq
              go_wp2_with (at_builtin; refine wpList_append_own _ rfl _ _ 22 rfl w.heap.size 33 i0 _ 3 32 Tryz.underlying22 hi hz0 hz1 hz2 rfl (by decide) _ _ _ rfl (HOL.alloc _) ⟨wr.heap.size, 0, none⟩ 1 1 (opC (x1, x2, x3)) rfl rfl (World.news_of_block (cs := (opC (x1, x2, x3)).toArray) (t := 33) (fr := (0, 0)) (heap_alloc_new wr _)) (by simp [Value.oneCell', opC]) ?c3 ?c4 ?c5 ?_)
              case c3 => unfold maxLen; omega
              case c4 => omega
              case c5 => omega
              intro v' w2 ho2 hg2 _
              have HO2 : Hid (OpsR w.heap.size w2 v' (leftK l (k + 1))) := Lib.hid (by
                rw [← HL.out]
                unfold OpsR
                simpa [List.flatMap_append] using ho2)
              have HB2 : Hid (Below w.heap.size w w2) := Lib.hid ((HBq.out.alloc hbq _).grown hg2 (by simp; omega) (fun j e => (HOL.lt j e).1))
              clear ho2 hg2
              go_wp2
              go_roundw
              case rel => exact ⟨k + 1, id - 1, rfl, by have := HID.out; omega, by omega, HO2, HB2⟩
              case measure => simp [intOf]; omega
          · have g3 : (x2 == id) = false := by simpa using hx2
            have HD2 := Lib.hid (HDR.out hx2)
            clear hx2
            go_wp2
            go_roundw
            case rel => exact ⟨j, (j : Int) - 1, rfl, rfl, by omega, HD2, HOq, HBq⟩
            case measure => first | (simp [intOf]; done) | (simp [intOf]; omega)
    · have g1 : decide (1 ≤ id) = false := by simpa using hgo
      obtain rfl : k = 256 := by omega
      clear hid
      go_wp2
      all_goals first | (exfalso; omega) | (go_ret; exact ⟨_, rfl, HO.out, HB.out⟩)

/-- what the operations leave, and what the remaining ones build, is the same -/
theorem words_step {D : List Dc} (hA : Asc D) (o : Op3) (i : Int) (hi : 1 ≤ i ∧ i ≤ 256) : wordsAt (stepD D o) i = if o.2.1 = i then (if o.1 = 0 then none else some (wordsOf o.2.2)) else wordsAt D i := by
  unfold stepD
  split
  · rw [wordsAt_rem hA]
    by_cases h : i = o.2.1
    · simp [h]
    · have h' : ¬ o.2.1 = i := fun e => h e.symm
      simp [h, h']
  · split
    · rw [wordsAt_put hA]
      by_cases h : i = o.2.1
      · simp [h]
      · have h' : ¬ o.2.1 = i := fun e => h e.symm
        simp [h, h']
    · rename_i h1 h2
      have : ¬ o.2.1 = i := fun e => h2 (by omega)
      rw [if_neg this]
end Go.Proofs.YtmfnhfkgkdibfaaGreat

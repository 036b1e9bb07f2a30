/- Facts and contracts for the laws of the sender, part 9. Conditions: those that each theorem names. -/
import Derived.Test.YtogjgibaolppfaaGreatDoorK08
import Derived.Test.YtogjgibaolppfaaGreatDoorK04
import Derived.Test.YtogjgibaolppfaaGreatDoorK03
import Derived.OwnWalk
import Derived.Deep.QuietTactic
import Derived.Laws.StructEq
import Derived.Sort.OwnSorted
import Derived.Laws.AppendOwn
import Derived.Deep.AppendLies
/- The search of a phrase in a text: the program's matches. -/
namespace Go.Proofs.YtogjgibaolppfaaGreatDoor
open Go.RowKit

/-- v is a slice of integers, zs -/
def NatsAt (W : World) (v : Value) (zs : List Nat) : Prop :=
  ∃ a c, v = .slice a zs.length c ∧ zs.length ≤ c ∧ ∀ j (h : j < zs.length), ∃ b off, a = some ⟨b, off, none⟩ ∧ W.cell? ⟨b, off + j, none⟩ = some (.int .i64 (zs[j] : Int))
theorem NatsAt.below {W W' : World} {v : Value} {zs : List Nat} (h : NatsAt W v zs) (hb : Below W.heap.size W W') : NatsAt W' v zs := by
  obtain ⟨a, c, hv, hle, hc⟩ := h
  refine ⟨a, c, hv, hle, fun j hj => ?_⟩
  obtain ⟨b, off, ha, hcell⟩ := hc j hj
  exact ⟨b, off, ha, (hb.cell (World.block_lt_of_cell? W _ hcell)).trans hcell⟩

set_option maxRecDepth 100000 in
set_option maxHeartbeats 2000000 in
theorem matches_any (v1 v2 v3 : Value) (t p : List Wd) (bk : List Nat) (w : World) (h1 : StrsAt w v1 t) (h2 : StrsAt w v2 p) (h3 : NatsAt w v3 bk) (hp : p ≠ []) (hb : Borders p bk p.length) (hbl : bk.length = p.length) :
    Calls Tryz.prog 117 #[v1, v2, v3] w fun e w' => e = .returned (.int .i64 (occ t p)) ∧ Below w.heap.size w w' := by
  obtain ⟨a1, c1, rfl, hcp1, hl1, hc1⟩ := h1
  obtain ⟨a2, c2, rfl, hcp2, hl2, hc2⟩ := h2
  obtain ⟨a3, c3, rfl, hcp3, hc3⟩ := h3
  rw [hbl] at hcp3 ⊢
  have hp0 : 0 < p.length := List.length_pos_iff.2 hp
  rw [← occ_ends hp]
  obtain ⟨R, hR⟩ : ∃ R, occE t p t.length = R := ⟨_, rfl⟩
  rw [hR]
  have HR := Lib.hid hR; have H1 := Lib.hid hc1; have H2 := Lib.hid hc2; have H3 := Lib.hid hc3; have HBD := Lib.hid hb; have HBL := Lib.hid hbl
  clear hR hc1 hc2 hc3 hb hbl hp
  go_enter Tryz.func117, Tryz.ntmps117
  go_wp2
  go_loop [7, 8, 13] (fun n c i => ∃ k n0 m : Nat, i = .int .i64 k ∧ k ≤ t.length ∧ n = .int .i64 n0 ∧ n0 ≤ p.length ∧ c = .int .i64 m ∧ m ≤ k ∧ Hid (IsL p (t.take k) n0) ∧ Hid (m = occE t p k)) (fun _ _ i => t.length - (intOf i).toNat)
  case atStart => exact ⟨0, 0, 0, rfl, by omega, rfl, by omega, rfl, by omega, Lib.hid (by rw [List.take_zero]; exact IsL.nil p), Lib.hid rfl⟩
  case round =>
    obtain ⟨k, n0, m, rfl, hk, rfl, hn0, rfl, hm, HL, HM⟩ := hrel
    by_cases hlt : k < t.length
    · obtain ⟨b1, o1, rfl, hx⟩ := H1.out k hlt
      have HT := Lib.hid (show t.take (k + 1) = t.take k ++ [t[k]] from List.take_succ_eq_append_getElem hlt)
      unfold encW at hx
      have HF := Lib.hid (Falls.start HL.out t[k])
      have HO := Lib.hid (occE_succ t p k)
      generalize t[k] = x at *
      clear HL
      go_wp2
      go_loop [7] (fun n => ∃ n1 : Nat, n = .int .i64 n1 ∧ n1 ≤ p.length ∧ Hid (Falls p (t.take k) x n1)) (fun n => (intOf n).toNat)
      case atStart => exact ⟨n0, rfl, hn0, HF⟩
      case round =>
        obtain ⟨n1, rfl, hn1, HF1⟩ := hrel
        by_cases hz : 0 < n1
        · obtain ⟨b3, o3, rfl, hbk⟩ := H3.out (n1 - 1) (by have := HBL.out; omega)
          obtain ⟨bd, hbd1, hbd2⟩ := HBD.out n1 hz hn1
          have hbe : bk[n1 - 1]'(by have := HBL.out; omega) = bd := by
            rw [List.getElem?_eq_getElem (by have := HBL.out; omega)] at hbd1
            exact Option.some.inj hbd1
          rw [hbe] at hbk
          clear hbe hbd1
          have hbdl := hbd2.le
          have HBE := Lib.hid hbd2
          clear hbd2
          rw [show o3 + (n1 - 1) = o3 + (n1 - 1) from rfl] at hbk
          obtain ⟨n2, rfl⟩ : ∃ n2, n1 = n2 + 1 := ⟨n1 - 1, by omega⟩
          simp only [Nat.add_sub_cancel] at hbk
          by_cases hfull : n2 + 1 = p.length
          · have HN := Lib.hid (HF1.out.next hz (by rw [hfull]; simp) HBE.out)
            have e1 : (((n2 : Int) + 1) == (p.length : Int)) = true := by rw [beq_iff_eq]; omega
            have hlt2 := HN.out.2
            have HFL := Lib.hid hfull
            clear hfull
            go_wp2
            go_round
            case rel => exact ⟨bd, rfl, by omega, Lib.hid HN.out.1⟩
            case measure => simp [intOf]; omega
          · have hlt1 : n2 + 1 < p.length := by omega
            obtain ⟨b2, o2, rfl, hy⟩ := H2.out (n2 + 1) hlt1
            unfold encW at hy
            have e1 : (((n2 : Int) + 1) == (p.length : Int)) = false := by rw [beq_eq_false_iff_ne]; omega
            have hge : p[n2 + 1]? = some p[n2 + 1] := List.getElem?_eq_getElem hlt1
            generalize p[n2 + 1] = y at *
            by_cases hxy : x = y
            · subst hxy
              have HH := Lib.hid (HF1.out.hit hge)
              have HFU := Lib.hid (HH.out.full)
              have hq : (x == x) = true := by simp
              have hq2 : (x != x) = false := by simp
              clear hge
              by_cases hf2 : n2 + 1 + 1 = p.length
              · have HS : Hid (occE t p (k + 1) = m + 1) := Lib.hid (by rw [HO.out, ← HM.out, HT.out, if_pos (List.isSuffixOf_iff_suffix.2 (HFU.out.1 hf2))])
                have e2 : (((n2 : Int) + 1 + 1) == (p.length : Int)) = true := by rw [beq_iff_eq]; omega
                go_wp2
                go_round
                case rel => exact ⟨k + 1, n2 + 1 + 1, m + 1, by go_num, by omega, by go_num, by omega, by go_num, by omega, Lib.hid (by rw [HT.out]; exact HH.out), Lib.hid HS.out.symm⟩
                case measure => simp [intOf]; omega
              · have HS : Hid (occE t p (k + 1) = m) := Lib.hid (by rw [HO.out, ← HM.out, HT.out, if_neg (fun e => hf2 (HFU.out.2 (List.isSuffixOf_iff_suffix.1 e)))]; rfl)
                have e2 : (((n2 : Int) + 1 + 1) == (p.length : Int)) = false := by rw [beq_eq_false_iff_ne]; omega
                go_wp2
                go_round
                case rel => exact ⟨k + 1, n2 + 1 + 1, m, by go_num, by omega, by go_num, by omega, rfl, by omega, Lib.hid (by rw [HT.out]; exact HH.out), Lib.hid HS.out.symm⟩
                case measure => simp [intOf]; omega
            · have hq : (x == y) = false := by simpa using hxy
              have hq2 : (x != y) = true := by simpa using hxy
              have HN := Lib.hid (HF1.out.next hz (by rw [hge]; exact fun e => hxy (Option.some.inj e).symm) HBE.out)
              have hlt2 := HN.out.2
              clear hge hxy
              go_wp2
              go_round
              case rel => exact ⟨bd, rfl, by omega, Lib.hid HN.out.1⟩
              case measure => simp [intOf]; omega
        · obtain rfl : n1 = 0 := by omega
          obtain ⟨b2, o2, rfl, hy⟩ := H2.out 0 hp0
          unfold encW at hy
          rw [Nat.add_zero] at hy
          have hge : p[0]? = some p[0] := List.getElem?_eq_getElem hp0
          generalize p[0] = y at *
          by_cases hxy : x = y
          · subst hxy
            have HH := Lib.hid (HF1.out.hit hge)
            have HFU := Lib.hid (HH.out.full)
            have hq : (x == x) = true := by simp
            clear hge
            by_cases hf2 : 0 + 1 = p.length
            · have HS : Hid (occE t p (k + 1) = m + 1) := Lib.hid (by rw [HO.out, ← HM.out, HT.out, if_pos (List.isSuffixOf_iff_suffix.2 (HFU.out.1 hf2))])
              have e2 : ((1 : Int) == (p.length : Int)) = true := by rw [beq_iff_eq]; omega
              go_wp2
              go_round
              case rel => exact ⟨k + 1, 0 + 1, m + 1, by go_num, by omega, by go_num, by omega, by go_num, by omega, Lib.hid (by rw [HT.out]; exact HH.out), Lib.hid HS.out.symm⟩
              case measure => simp [intOf]; omega
            · have HS : Hid (occE t p (k + 1) = m) := Lib.hid (by rw [HO.out, ← HM.out, HT.out, if_neg (fun e => hf2 (HFU.out.2 (List.isSuffixOf_iff_suffix.1 e)))]; rfl)
              have e2 : ((1 : Int) == (p.length : Int)) = false := by rw [beq_eq_false_iff_ne]; omega
              go_wp2
              go_round
              case rel => exact ⟨k + 1, 0 + 1, m, by go_num, by omega, by go_num, by omega, rfl, by omega, Lib.hid (by rw [HT.out]; exact HH.out), Lib.hid HS.out.symm⟩
              case measure => simp [intOf]; omega
          · have hq : (x == y) = false := by simpa using hxy
            have HH := Lib.hid (HF1.out.miss (by rw [hge]; exact fun e => hxy (Option.some.inj e).symm))
            have HFU := Lib.hid (HH.out.full)
            have HS : Hid (occE t p (k + 1) = m) := Lib.hid (by rw [HO.out, ← HM.out, HT.out, if_neg (fun e => (by have := HFU.out.2 (List.isSuffixOf_iff_suffix.1 e); omega))]; rfl)
            have e2 : ((0 : Int) == (p.length : Int)) = false := by rw [beq_eq_false_iff_ne]; omega
            clear hge hxy
            go_wp2
            go_round
            case rel => exact ⟨k + 1, 0, m, by go_num, by omega, rfl, by omega, rfl, by omega, Lib.hid (by rw [HT.out]; exact HH.out), Lib.hid HS.out.symm⟩
            case measure => simp [intOf]; omega
    · go_wp2
      go_ret
      have hkt : k = t.length := by omega
      exact ⟨ret_int (by rw [HM.out, ← HR.out, hkt]), Below.refl _ _⟩
end Go.Proofs.YtogjgibaolppfaaGreatDoor
/- The borders of a phrase: the program's borders. -/
namespace Go.Proofs.YtogjgibaolppfaaGreatDoor
open Go.RowKit

theorem infoInt : (Tryz.prog.info? 3).map (fun i => (i.zero, i.size, i.bytes)) = some (some (.int .i64 0), 1, 8) := by kernel_rfl
def natV (n : Nat) : Value := .int .i64 (n : Int)
theorem natsAt_of_owns {W : World} {base g n : Nat} {bk : List Nat} (h : W.ownsRow base 3 1 (.slice (some ⟨g, 0, none⟩) n n) n (bk.map natV)) : NatsAt W (.slice (some ⟨g, 0, none⟩) n n) bk := by
  have hl : bk.length = n := by have := h.1; simpa using this
  refine ⟨some ⟨g, 0, none⟩, n, by rw [hl], by omega, fun j hj => ⟨g, 0, rfl, ?_⟩⟩
  rw [Nat.zero_add, h.cellAt j (by omega), List.getElem?_map, List.getElem?_eq_getElem hj]
  rfl
theorem Borders.set {p : List Wd} {bk : List Nat} {k n : Nat} (h : Borders p bk k) (hk : k < bk.length) (hn : IsL p ((p.take (k + 1)).drop 1) n) : Borders p (bk.set k n) (k + 1) := by
  intro j h1 h2
  by_cases hj : j = k + 1
  · subst hj
    exact ⟨n, by rw [Nat.add_sub_cancel, List.getElem?_set_self hk], hn⟩
  · obtain ⟨b, hb, hi⟩ := h j h1 (by omega)
    exact ⟨b, by rw [List.getElem?_set_ne (by omega)]; exact hb, hi⟩

theorem made_zeros (n : Nat) : (madeCells #[Value.int .i64 0] n).toList = (List.replicate n 0).map natV := by
  rw [List.map_replicate]
  refine List.eq_replicate_iff.2 ⟨by rw [Array.length_toList, size_madeCells], fun b hb => ?_⟩
  unfold madeCells at hb
  rw [Array.toList_map, List.mem_map] at hb
  obtain ⟨x, _, rfl⟩ := hb
  simp [Nat.mod_one, natV]

set_option maxRecDepth 100000 in
set_option maxHeartbeats 2000000 in
theorem borders_any (v1 : Value) (p : List Wd) (w : World) (h1 : StrsAt w v1 p) (hp : p ≠ []) (hpl : p.length ≤ 1000000) :
    Calls Tryz.prog 116 #[v1] w fun e w' => ∃ v bk, e = .returned v ∧ bk.length = p.length ∧ NatsAt w' v bk ∧ Borders p bk p.length ∧ Below w.heap.size w w' := by
  obtain ⟨i0, hi, hz0, hz1, hz2⟩ := info_parts infoInt
  obtain ⟨a1, c1, rfl, hcp1, hl1, hc1⟩ := h1
  have hp0 : 0 < p.length := List.length_pos_iff.2 hp
  have H1 := Lib.hid hc1
  have HB0 : Hid (Borders p (List.replicate p.length 0) 1) := Lib.hid (fun j h1 h2 => by
    obtain rfl : j = 1 := by omega
    exact ⟨0, by simp [hp0], border_one p⟩)
  clear hc1 hp
  go_enter Tryz.func116, Tryz.ntmps116
  go_wp2_with (refine wpList_make_full _ rfl _ _ 22 rfl w.heap.size 3 i0 (.int .i64 0) 1 Tryz.underlying22 hi hz0 hz1 .i64 .i64 _ _ p.length rfl rfl rfl rfl ?b2 ?b3 ?b4 ?_)
  case b2 => rw [hz2]; omega
  case b3 => unfold maxLen; omega
  case b4 => exact Nat.le_refl _
  intro w1 hown hg
  rw [made_zeros] at hown
  have HOWN := Lib.hid hown
  have HBW := Lib.hid ((Below.refl w.heap.size w).grown hg (Nat.le_refl _) (fun j e => by cases e))
  clear hown hg
  go_wp2
  go_loopw [4, 5] (fun n i wr => ∃ (k n0 : Nat) (bk : List Nat), i = .int .i64 k ∧ 1 ≤ k ∧ k ≤ p.length ∧ n = .int .i64 n0 ∧ Hid (IsL p ((p.take k).drop 1) n0) ∧ n0 < k ∧ bk.length = p.length ∧ Hid (Borders p bk k) ∧ Hid (wr.ownsRow w.heap.size 3 1 (.slice (some ⟨w.heap.size, 0, none⟩) p.length p.length) p.length (bk.map natV)) ∧ Hid (Below w.heap.size w wr)) (fun _ i _ => p.length - (intOf i).toNat)
  case atStart => exact ⟨1, 0, List.replicate p.length 0, rfl, by omega, hp0, rfl, Lib.hid (border_one p), by omega, by simp, HB0, HOWN, HBW⟩
  case round =>
    obtain ⟨k, n0, bk, rfl, hk1, hk, rfl, HL, hn0, hbl, HBD, HO, HB⟩ := hrel
    by_cases hlt : k < p.length
    · obtain ⟨b1, o1, rfl, hx0⟩ := H1.out k hlt
      have hx := (HB.out.cell (World.block_lt_of_cell? w _ hx0)).trans hx0
      unfold encW at hx
      clear hx0
      have hkx : p[k]? = some p[k] := List.getElem?_eq_getElem hlt
      have HT := Lib.hid (drop_one_take_succ hk1 hkx)
      have HF := Lib.hid (Falls.start HL.out p[k])
      generalize p[k] = x at *
      clear HL hkx
      go_wp2
      go_loopw [4] (fun n wr2 => ∃ n1 q : Nat, n = .int .i64 n1 ∧ n1 < k ∧ Hid (Falls p ((p.take k).drop 1) x n1) ∧ wr2 = wr.drewN q) (fun n _ => (intOf n).toNat)
      case atStart => exact ⟨n0, 0, rfl, hn0, HF, rfl⟩
      case round =>
        obtain ⟨n1, q, rfl, hn1, HF1, rfl⟩ := hrel
        have hlt1 : n1 < p.length := by omega
        obtain ⟨b2, o2, e2, hy0⟩ := H1.out n1 hlt1
        cases e2
        have hy : wr.cell? ⟨b1, o1 + n1, none⟩ = some (.string ⟨p[n1].toArray⟩) := (HB.out.cell (World.block_lt_of_cell? w _ hy0)).trans hy0
        have hge : p[n1]? = some p[n1] := List.getElem?_eq_getElem hlt1
        clear hy0
        generalize p[n1] = y at *
        have hck : wr.cell? ⟨w.heap.size, k, none⟩ = some (natV bk[k]) := by
          rw [HO.out.cellAt k (by omega), List.getElem?_map, List.getElem?_eq_getElem (by omega)]; rfl
        have hfz : wr.frozen? ⟨w.heap.size, k, none⟩ = false := HO.out.frozenAt k
        unfold natV at hck
        by_cases hz : 0 < n1
        · have g0 : decide ((0 : Int) < (n1 : Int)) = true := by rw [decide_eq_true_eq]; omega
          by_cases hxy : x = y
          · subst hxy
            have hq : (x == x) = true := by simp
            have hq2 : (!x == x) = false := by simp
            have HH := Lib.hid (HF1.out.hit hge)
            clear hge
            go_wp2
            go_quiet (fail)
            go_wp2
            go_quiet (fail)
            go_wp2
            exact ⟨⟨k + 1, n1 + 1, bk.set k (n1 + 1), by go_num, by omega, by omega, by go_num, Lib.hid (by rw [HT.out]; exact HH.out), by omega, by simp [hbl], Lib.hid (HBD.out.set (by omega) (by rw [HT.out]; exact HH.out)), Lib.hid (by rw [List.map_set]; exact (World.ownsRow.stored (w := wr.drewN _) HO.out k (natV (n1 + 1))).1), Lib.hid ((HB.out.drewN _).setCell (Nat.le_refl _) _)⟩, by simp [intOf]; omega⟩
          · have hq : (x == y) = false := by simpa using hxy
            have hq2 : (!x == y) = true := by simpa using hxy
            obtain ⟨bd, hbd1, hbd2⟩ := HBD.out n1 hz (by omega)
            have HN := Lib.hid (HF1.out.next hz (by rw [hge]; exact fun e => hxy (Option.some.inj e).symm) hbd2)
            have hlt2 := HN.out.2
            have hcb : wr.cell? ⟨w.heap.size, n1 - 1, none⟩ = some (.int .i64 (bd : Int)) := by
              rw [HO.out.cellAt (n1 - 1) (by omega), List.getElem?_map, hbd1]; rfl
            obtain ⟨n2, rfl⟩ : ∃ n2, n1 = n2 + 1 := ⟨n1 - 1, by omega⟩
            rw [Nat.add_sub_cancel] at hcb
            clear hge hxy hbd1 hbd2
            go_wp2
            go_quiet (fail)
            go_wp2
            exact ⟨⟨bd, _, rfl, by omega, Lib.hid HN.out.1, rfl⟩, by simp [intOf]; omega⟩
        · obtain rfl : n1 = 0 := by omega
          by_cases hxy : x = y
          · subst hxy
            have hq : (x == x) = true := by simp
            have HH := Lib.hid (HF1.out.hit hge)
            clear hge
            rw [Nat.add_zero] at hy
            go_wp2
            go_quiet (fail)
            go_wp2
            go_quiet (fail)
            go_wp2
            exact ⟨⟨k + 1, 0 + 1, bk.set k (0 + 1), by go_num, by omega, by omega, by go_num, Lib.hid (by rw [HT.out]; exact HH.out), by omega, by simp [hbl], Lib.hid (HBD.out.set (by omega) (by rw [HT.out]; exact HH.out)), Lib.hid (by rw [List.map_set]; exact (World.ownsRow.stored (w := wr.drewN _) HO.out k (natV (0 + 1))).1), Lib.hid ((HB.out.drewN _).setCell (Nat.le_refl _) _)⟩, by simp [intOf]; omega⟩
          · have hq : (x == y) = false := by simpa using hxy
            have HH := Lib.hid (HF1.out.miss (by rw [hge]; exact fun e => hxy (Option.some.inj e).symm))
            clear hge hxy
            rw [Nat.add_zero] at hy
            go_wp2
            go_quiet (fail)
            go_wp2
            go_quiet (fail)
            go_wp2
            exact ⟨⟨k + 1, 0, bk.set k 0, by go_num, by omega, by omega, rfl, Lib.hid (by rw [HT.out]; exact HH.out), by omega, by simp [hbl], Lib.hid (HBD.out.set (by omega) (by rw [HT.out]; exact HH.out)), Lib.hid (by rw [List.map_set]; exact (World.ownsRow.stored (w := wr.drewN _) HO.out k (natV 0)).1), Lib.hid ((HB.out.drewN _).setCell (Nat.le_refl _) _)⟩, by simp [intOf]; omega⟩
    · go_wp2
      go_ret
      have hkt : k = p.length := by omega
      subst hkt
      exact ⟨_, bk, rfl, hbl, natsAt_of_owns HO.out, HBD.out, HB.out⟩
end Go.Proofs.YtogjgibaolppfaaGreatDoor
/- The law's comparisons of results. -/
namespace Go.Proofs.YtogjgibaolppfaaGreatDoor
open Go.RowKit

def IntsAt (W : World) (v : Value) (zs : List Int) : Prop :=
  ∃ a c, v = .slice a zs.length c ∧ zs.length ≤ c ∧ zs.length ≤ 1099511627776 ∧ ∀ j (h : j < zs.length), ∃ b off, a = some ⟨b, off, none⟩ ∧ W.cell? ⟨b, off + j, none⟩ = some (.int .i64 zs[j])

end Go.Proofs.YtogjgibaolppfaaGreatDoor
/- The law's comparisons of hits and of terms: equal lists are the same. -/
namespace Go.Proofs.YtogjgibaolppfaaGreatDoor
open Go.RowKit

/-- v is a slice of such structs, l -/
def HitsAt (W : World) (v : Value) (l : List (Int × Nat)) : Prop :=
  ∃ a c, v = .slice a l.length c ∧ l.length ≤ c ∧ c ≤ 9223372036854775807 ∧ ∀ k (h : k < l.length), ∃ b off, a = some ⟨b, off, none⟩ ∧ W.cell? ⟨b, off + k * 2, none⟩ = some (.int .i64 l[k].1) ∧ W.cell? ⟨b, off + (k * 2 + 1), none⟩ = some (.int .i64 (l[k].2 : Int))
theorem HitsAt.below {W W' : World} {v : Value} {l : List (Int × Nat)} (h : HitsAt W v l) (hb : Below W.heap.size W W') : HitsAt W' v l := by
  obtain ⟨a, c, hv, hle, hm, hc⟩ := h
  refine ⟨a, c, hv, hle, hm, fun j hj => ?_⟩
  obtain ⟨b, off, ha, h1, h2⟩ := hc j hj
  exact ⟨b, off, ha, (hb.cell (World.block_lt_of_cell? W _ h1)).trans h1, (hb.cell (World.block_lt_of_cell? W _ h2)).trans h2⟩

/-- v is a slice of such structs, l -/
def TermsAt (W : World) (v : Value) (l : List (Wd × Nat)) : Prop :=
  ∃ a c, v = .slice a l.length c ∧ l.length ≤ c ∧ c ≤ 9223372036854775807 ∧ ∀ k (h : k < l.length), ∃ b off, a = some ⟨b, off, none⟩ ∧ W.cell? ⟨b, off + k * 2, none⟩ = some (.string ⟨l[k].1.toArray⟩) ∧ W.cell? ⟨b, off + (k * 2 + 1), none⟩ = some (.int .i64 (l[k].2 : Int))
theorem TermsAt.below {W W' : World} {v : Value} {l : List (Wd × Nat)} (h : TermsAt W v l) (hb : Below W.heap.size W W') : TermsAt W' v l := by
  obtain ⟨a, c, hv, hle, hm, hc⟩ := h
  refine ⟨a, c, hv, hle, hm, fun j hj => ?_⟩
  obtain ⟨b, off, ha, h1, h2⟩ := hc j hj
  exact ⟨b, off, ha, (hb.cell (World.block_lt_of_cell? W _ h1)).trans h1, (hb.cell (World.block_lt_of_cell? W _ h2)).trans h2⟩

end Go.Proofs.YtogjgibaolppfaaGreatDoor
/- Ranges over maps of raw values; hits lists counts by ascending IDs. -/
namespace Go.Proofs.YtogjgibaolppfaaGreatDoor
open Go.RowKit Go.Sort Go.Proofs Go.Maps Go.ChangeMaps Go.WideMaps

/-- what is still to come of a range: the keys of the map that are not in done -/
def Left {κ : Type} (K : κ → Lit) (f : κ → Option Value) (left : Lit → Bool) (done : List κ) : Prop := ∀ x, left (K x) = true ↔ (f x).isSome = true ∧ x ∉ done

theorem Left.start {κ : Type} {K : κ → Lit} {f : κ → Option Value} {D : DataW Value} (hf : ∀ x, has D (K x) = (f x).isSome ∧ ∀ v, f x = some v → ∀ zd, D.atKey (K x) zd = .held v) : Left K f (has D) [] := fun x => by rw [(hf x).1]; simp
theorem Left.next {κ : Type} {K : κ → Lit} (hK : ∀ x y, (K x).sameKey (K y) = true ↔ x = y) {f : κ → Option Value} {left : Lit → Bool} {done : List κ} (h : Left K f left done) (x : κ) : Left K f (fun z => left z && !z.sameKey (K x)) (done ++ [x]) := fun y => by
  have := hK y x
  rw [Bool.and_eq_true, h y, List.mem_append, List.mem_singleton, not_or]
  constructor
  · rintro ⟨⟨h1, h2⟩, h3⟩
    refine ⟨h1, h2, fun e => ?_⟩
    rw [this.2 e] at h3
    cases h3
  · rintro ⟨h1, h2, h3⟩
    refine ⟨⟨h1, h2⟩, ?_⟩
    cases hs : (K y).sameKey (K x) with
    | true => exact absurd (this.1 hs) h3
    | false => rfl
theorem Left.done {κ : Type} {K : κ → Lit} {f : κ → Option Value} {left : Lit → Bool} {done : List κ} (h : Left K f left done) (hl : ∀ kl, left kl = false) (x : κ) (hx : (f x).isSome = true) : x ∈ done := by
  by_cases hm : x ∈ done
  · exact hm
  · have := (h x).2 ⟨hx, hm⟩
    rw [hl] at this
    cases this
theorem Left.value {κ : Type} {K : κ → Lit} {f : κ → Option Value} {left : Lit → Bool} {done : List κ} (h : Left K f left done) {D : DataW Value} (hf : ∀ x, has D (K x) = (f x).isSome ∧ ∀ v, f x = some v → ∀ zd, D.atKey (K x) zd = .held v) {x : κ} {c : Value} (hl : left (K x) = true) (hat : ∀ zd, D.atKey (K x) zd = .held c) : f x = some c ∧ x ∉ done := by
  obtain ⟨h1, h2⟩ := (h x).1 hl
  obtain ⟨v, hv⟩ := Option.isSome_iff_exists.1 h1
  have := (hf x).2 v hv .nil
  rw [hat .nil] at this
  cases this
  exact ⟨hv, h2⟩
theorem int_same (x y : Int) : (Lit.int .i64 x).sameKey (.int .i64 y) = true ↔ x = y := by simp [Lit.sameKey]
theorem str_same (x y : List UInt8) : (Lit.string x).sameKey (.string y) = true ↔ x = y := by simp [Lit.sameKey]

/-- the keys of a counted map -/
def cntM (c : Int → Nat) (id : Int) : Option Value := if 0 < c id then some (.int .i64 (c id : Int)) else none
theorem cntM_some {c : Int → Nat} {id : Int} {v : Value} (h : cntM c id = some v) : 0 < c id ∧ v = .int .i64 (c id : Int) := by
  unfold cntM at h
  split at h
  · cases h; exact ⟨by assumption, rfl⟩
  · cases h
theorem cntM_isSome {c : Int → Nat} {id : Int} : (cntM c id).isSome = true ↔ 0 < c id := by
  unfold cntM; split <;> simp_all

/-- a slice of hits in memory of the call's own -/
def HitsR (base : Nat) (W : World) (v : Value) (l : List (Int × Nat)) : Prop := W.ownsRow base 64 2 v l.length (l.flatMap hitC)
def TermsR (base : Nat) (W : World) (v : Value) (l : List (Wd × Nat)) : Prop := W.ownsRow base 92 2 v l.length (l.flatMap termC)

theorem infoHit : (Tryz.prog.info? 64).map (fun i => (i.zero, i.size, i.bytes)) = some (some (.agg #[.int .i64 0, .int .i64 0]), 2, 16) := by kernel_rfl

theorem hits_of_done {c : Int → Nat} {done : List Int} (hn : done.Nodup) (h : ∀ x, x ∈ done ↔ 0 < c x) (hc : ∀ x, 0 < c x → 1 ≤ x ∧ x ≤ 256) {l : List (Int × Nat)} (hp : l.Perm (done.map fun x => (x, c x))) (hs : l.Pairwise fun a b => ltOf (fun x y : Int × Nat => Lib.compareInt x.1 y.1) b a = false) : l = hitsF c := by
  refine hits_unique ?_ (hitsF_asc c) fun x => ?_
  · have h1 : (l.map (·.1)).Nodup := by
      have := (hp.map (·.1)).nodup_iff.2 (by simpa [List.map_map, Function.comp_def] using hn)
      exact this
    have h2 : l.Pairwise fun a b => a.1 ≠ b.1 := by
      have := List.pairwise_map.1 h1
      exact this
    refine (hs.and h2).imp ?_
    rintro a b ⟨h3, h4⟩
    rw [ltH] at h3
    simp at h3
    omega
  · rw [hp.mem_iff, mem_hitsF, List.mem_map]
    constructor
    · rintro ⟨a, ha, rfl⟩
      have h0 := (h a).1 ha
      exact ⟨(hc a h0).1, (hc a h0).2, h0, rfl⟩
    · rintro ⟨h1, h2, h3, h4⟩
      exact ⟨x.1, (h x.1).2 (by omega), by rw [← h4]⟩

theorem nodup_len : ∀ (N : Nat) (l : List Int), l.Nodup → (∀ x ∈ l, 1 ≤ x ∧ x ≤ (N : Int)) → l.length ≤ N
  | 0, l, _, h => by
    cases l with
    | nil => simp
    | cons x l => have := h x (by simp); omega
  | N + 1, l, hn, h => by
    have h1 := nodup_len N (l.erase ((N : Int) + 1)) (hn.erase _) fun x hx => by
      have h2 := h x (List.mem_of_mem_erase hx)
      have h3 : x ≠ (N : Int) + 1 := fun e => by
        subst e
        exact (List.Nodup.not_mem_erase hn) hx
      omega
    by_cases hm : ((N : Int) + 1) ∈ l
    · rw [List.length_erase_of_mem hm] at h1; omega
    · rw [List.erase_of_not_mem hm] at h1; omega
theorem done_len {c : Int → Nat} {done : List Int} (hn : done.Nodup) (h : ∀ x ∈ done, 0 < c x) (hc : ∀ x, 0 < c x → 1 ≤ x ∧ x ≤ 256) : done.length ≤ 256 :=
  nodup_len 256 done hn fun x hx => by have := hc x (h x hx); omega

set_option maxRecDepth 100000 in
set_option maxHeartbeats 2000000 in
theorem hits_any (b n : Nat) (c : Int → Nat) (w : World) (hM : IM b n (cntM c) w) (hn : n ≤ 1000000000) (hc : ∀ x, 0 < c x → 1 ≤ x ∧ x ≤ 256) (hcb : ∀ x, c x ≤ 1000000) :
    Calls Tryz.prog 64 #[.map (some b)] w fun e w' => ∃ v, e = .returned v ∧ HitsR w.heap.size w' v (hitsF c) ∧ Below w.heap.size w w' := by
  obtain ⟨D, hD, hf⟩ := hM
  have hsz := hD.size_le
  have hlen := hD.len (t := 81) Tryz.underlying81
  obtain ⟨i0, hi, hz0, hz1, hz2⟩ := info_parts infoHit
  have HF := Lib.hid hf; have HC := Lib.hid hc; have HCB := Lib.hid hcb
  clear hf hc hcb
  go_enter Tryz.func64, Tryz.ntmps64
  go_wp2_with (at_make; refine wpList_make_own _ rfl _ _ 39 rfl w.heap.size 64 i0 _ 2 Tryz.underlying39 hi hz0 hz1 .i64 .i64 _ (Maps.size D) rfl rfl rfl ?b2 ?b3 ?b4 ?_)
  case b2 => rw [hz2]; omega
  case b3 => unfold maxLen; omega
  case b4 => omega
  intro w1 ho1 hg1
  have hD1 := hD.kept hg1 (by simp)
  go_wp2_with (at_range; refine wpList_range_own _ rfl _ 81 rfl 3 3 intKeys Tryz.underlying81 _ b n _ rfl hD1 ?_; intro w0 hrg0 hg0 hs0)
  go_frame
  have hb1 : Below w.heap.size w w1 := (Below.refl _ w).grown hg1 (Nat.le_refl _) (fun j hj => by cases hj)
  have hb0 : Below w.heap.size w w0 := hb1.grown hg0 (by simpa using hb1.size) (fun j hj => by cases hj)
  have HO0 : Hid (w0.ownsRow w.heap.size 64 2 (.slice (some ⟨w.heap.size, 0, none⟩) 0 (Maps.size D)) 0 []) := Lib.hid (ho1.kept hg0 (by simp [Value.ownBlock]))
  go_loopw [3] (fun u wr => ∃ (v : Value) (left : Lit → Bool) (cnt : Nat) (done : List Int), v = u ∧ wr.ranges Tryz.prog 3 rawE b w1.heap.size n D left cnt ∧ Hid (Left (Lit.int .i64) (cntM c) left done) ∧ Hid (done.Nodup ∧ ∀ x ∈ done, 0 < c x) ∧ Hid (HitsR w.heap.size wr v (done.map fun x => (x, c x))) ∧ Hid (Below w.heap.size w wr)) (fun _ wr => wr.rangeLeft b w1.heap.size)
  case atStart => exact ⟨_, _, _, [], rfl, hrg0, Lib.hid (Left.start HF.out), Lib.hid ⟨.nil, fun x hx => by cases hx⟩, HO0, Lib.hid hb0⟩
  case round =>
    obtain ⟨v, left, cnt, done, rfl, hrg, HL, HN, HR, HB⟩ := hrel
    go_wp2_with (at_next; refine wpList_next_ranges _ rfl _ rfl 3 intKeys rawE (Value.int .i64) id (fun key kl hkey => by obtain ⟨x, rfl, _⟩ := Maps.keyOf_int_inv Tryz.underlying3 hkey; exact ⟨x, rfl⟩) (fun v y _ => ⟨v, rfl⟩) b w1.heap.size n _ _ _ rfl hrg ?_ ?_)
    · intro _ hl0
      have hmem : ∀ x, x ∈ done ↔ 0 < c x := fun x => ⟨HN.out.2 x, fun h => HL.out.done hl0 x (cntM_isSome.2 h)⟩
      have hlen2 := done_len HN.out.1 HN.out.2 HC.out
      have hco := fun W => ordered_hits (done.map fun x => (x, c x)) v w.heap.size W
      have HM := Lib.hid hmem
      clear hmem
      obtain ⟨L, HLl⟩ : ∃ L, Hid ((done.map fun x => (x, c x)) = L) := ⟨_, Lib.hid rfl⟩
      have hLlen : L.length ≤ 1000000 := by rw [← HLl.out]; simp; omega
      rw [HLl.out] at hco HR
      go_wp2_with (go_at_call 105; refine (hco _ HR.out hLlen).mono ?_; rintro e w9 ⟨rfl, l', hp, hs, hr, hb9⟩)
      go_ret
      have hl9 : l' = hitsF c := hits_of_done HN.out.1 HM.out HC.out (by rw [← HLl.out] at hp; exact hp) hs
      rw [hl9] at hr
      exact ⟨_, rfl, hr, HB.out.trans hb9⟩
    · intro x cv kl y1 y2 w2 cnt2 hkey hlk hry hat hrg2 hlt hg2 hs2 hen
      obtain ⟨x', ex, rfl, hwx⟩ := Maps.keyOf_int_inv Tryz.underlying3 hkey
      cases ex
      cases hry
      obtain ⟨hcx, hnm⟩ := HL.out.value HF.out hlk hat
      obtain ⟨hc0, rfl⟩ := cntM_some hcx
      have hbs := HB.out.size
      have hne := row_ne_iter HR.out hrg
      have HR2 := Lib.hid (World.ownsRow.kept HR.out hg2 (.inr fun e => hne e.symm))
      have HB2 : Hid (Below w.heap.size w w2) := Lib.hid (HB.out.grown hg2 hbs (fun j hj => by cases hj; have := hb1.size; omega))
      have hbs2 := HB2.out.size
      have HCx : Hid (Left (Lit.int .i64) (cntM c) (fun z => left z && !z.sameKey (.int .i64 x)) (done ++ [x])) := Lib.hid (HL.out.next int_same x)
      have HN2 : Hid ((done ++ [x]).Nodup ∧ ∀ y ∈ done ++ [x], 0 < c y) := Lib.hid ⟨by
          rw [List.nodup_append]; exact ⟨HN.out.1, by simp, fun a ha b hb e => by simp at hb; subst hb; exact hnm (e ▸ ha)⟩, fun y hy => by
          rcases List.mem_append.1 hy with h | h
          · exact HN.out.2 y h
          · simp at h; subst h; exact hc0⟩
      have hdl := done_len HN.out.1 HN.out.2 HC.out
      obtain ⟨m, HM⟩ : ∃ m : Int, Hid (((c x : Nat) : Int) = m) := ⟨_, Lib.hid rfl⟩
      simp only [HM.out] at hen ⊢
      obtain ⟨L, HLl⟩ : ∃ L, Hid ((done.map fun x => (x, c x)) = L) := ⟨_, Lib.hid rfl⟩
      have hLlen : L.length ≤ 1000000 := by rw [← HLl.out]; simp; omega
      rw [HLl.out] at HR2
      have HR2' : w2.ownsRow w.heap.size 64 2 v L.length (L.flatMap hitC) := HR2.out
      have hrm := hrg2.left_eq
      have hrl := hrg.left_eq
      have HRM := Lib.hid hrm; have HRL := Lib.hid hrl
      clear hrm hrl hs2
      go_wp2_with (at_builtin; refine wpList_append_own _ rfl _ _ 39 rfl w.heap.size 64 i0 _ 2 16 Tryz.underlying39 hi hz0 hz1 hz2 rfl (by decide) _ _ _ rfl (HR2'.alloc _) ⟨w2.heap.size, 0, none⟩ 1 1 [.int .i64 x, .int .i64 m] rfl rfl (World.news_of_block (cs := #[.int .i64 x, .int .i64 m]) (t := 64) (fr := (0, 0)) (heap_alloc_new w2 _)) (by simp [Value.oneCell']) ?c3 ?c4 ?c5 ?_)
      case c3 => unfold maxLen; omega
      case c4 => omega
      case c5 => simp; omega
      intro v' w3 hown' hgrow _
      have hcl : L ++ [(x, c x)] = (done ++ [x]).map fun x => (x, c x) := by rw [← HLl.out]; simp
      have hbl : b < w.heap.size := hD.lt
      have HR3 : Hid (HitsR w.heap.size w3 v' ((done ++ [x]).map fun x => (x, c x))) := Lib.hid (by
        rw [← hcl]
        unfold HitsR
        simpa [List.flatMap_append, hitC, HM.out] using hown')
      have hrg3 := (hrg2.alloc (.cells #[.int .i64 x, .int .i64 m] 64 (0, 0))).kept hgrow (row_ne_low HR2' hbl) (row_ne_iter (HR2'.alloc (.cells #[.int .i64 x, .int .i64 m] 64 (0, 0))) (hrg2.alloc (.cells #[.int .i64 x, .int .i64 m] 64 (0, 0))))
      have HB3 : Hid (Below w.heap.size w w3) := Lib.hid ((HB2.out.alloc hbs2 _).grown hgrow (by simp; omega) (fun j e => (HR2'.lt j e).1))
      have HRE := Lib.hid hrg3.left_eq
      clear hown' hgrow hcl
      go_wp2
      go_roundw
      case rel => exact ⟨_, _, _, _, rfl, hrg3, HCx, HN2, HR3, HB3⟩
      case measure => rw [HRE.out, HRL.out]; exact hlt
end Go.Proofs.YtogjgibaolppfaaGreatDoor

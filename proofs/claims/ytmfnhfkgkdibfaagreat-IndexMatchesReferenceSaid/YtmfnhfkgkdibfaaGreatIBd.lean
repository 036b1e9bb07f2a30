/- The borders of a phrase: the program's borders. -/
import Derived.Test.YtmfnhfkgkdibfaaGreatIKw
import Derived.OwnWalk
import Derived.Deep.QuietTactic
namespace Go.Proofs.YtmfnhfkgkdibfaaGreat
open Go.RowKit

theorem infoInt : (Tryz.prog.info? 3).map (fun i => (i.zero, i.size, i.bytes)) = some (some (.int .i64 0), 1, 8) := by kernel_rfl
def natV (n : Nat) : Value := .int .i64 (n : Int)
theorem natsAt_of_owns {W : World} {base g n : Nat} {bk : List Nat} (h : W.ownsRow base 3 1 (.slice (some ⟨g, 0, none⟩) n n) n (bk.map natV)) : NatsAt W (.slice (some ⟨g, 0, none⟩) n n) bk := by
  have hl : bk.length = n := by have := h.1; simpa using this
  refine ⟨some ⟨g, 0, none⟩, n, by rw [hl], by omega, fun j hj => ⟨g, 0, rfl, ?_⟩⟩
  rw [Nat.zero_add, h.cellAt j (by omega), List.getElem?_map, List.getElem?_eq_getElem hj]
  rfl
theorem Borders.set {p : List Wd} {bk : List Nat} {k n : Nat} (h : Borders p bk k) (hk : k < bk.length) (hn : IsL p ((p.take (k + 1)).drop 1) n) : Borders p (bk.set k n) (k + 1) := by
  intro j h1 h2
  by_cases hj : j = k + 1
  · subst hj
    exact ⟨n, by rw [Nat.add_sub_cancel, List.getElem?_set_self hk], hn⟩
  · obtain ⟨b, hb, hi⟩ := h j h1 (by omega)
    exact ⟨b, by rw [List.getElem?_set_ne (by omega)]; exact hb, hi⟩

theorem made_zeros (n : Nat) : (madeCells #[Value.int .i64 0] n).toList = (List.replicate n 0).map natV := by
  rw [List.map_replicate]
  refine List.eq_replicate_iff.2 ⟨by rw [Array.length_toList, size_madeCells], fun b hb => ?_⟩
  unfold madeCells at hb
  rw [Array.toList_map, List.mem_map] at hb
  obtain ⟨x, _, rfl⟩ := hb
  simp [Nat.mod_one, natV]

set_option maxRecDepth 100000 in
set_option maxHeartbeats 2000000 in
theorem borders_any (v1 : Value) (p : List Wd) (w : World) (h1 : StrsAt w v1 p) (hp : p ≠ []) (hpl : p.length ≤ 1000000) :
    Calls Tryz.prog 46 #[v1] w fun e w' => ∃ v bk, e = .returned v ∧ bk.length = p.length ∧ NatsAt w' v bk ∧ Borders p bk p.length ∧ Below w.heap.size w w' := by
  obtain ⟨i0, hi, hz0, hz1, hz2⟩ := info_parts infoInt
  obtain ⟨a1, c1, rfl, hcp1, hl1, hc1⟩ := h1
  have hp0 : 0 < p.length := List.length_pos_iff.2 hp
  have H1 := Lib.hid hc1
  have HB0 : Hid (Borders p (List.replicate p.length 0) 1) := Lib.hid (fun j h1 h2 => by
    obtain rfl : j = 1 := by omega
    exact ⟨0, by simp [hp0], border_one p⟩)
  clear hc1 hp
  go_enter Tryz.func46, Tryz.ntmps46
  go_wp2_with (refine wpList_make_full _ rfl _ _ 40 rfl w.heap.size 3 i0 (.int .i64 0) 1 Tryz.underlying40 hi hz0 hz1 .i64 .i64 _ _ p.length rfl rfl rfl rfl ?b2 ?b3 ?b4 ?_)
  case b2 => rw [hz2]; omega
  case b3 => unfold maxLen; omega
  case b4 => exact Nat.le_refl _
  intro w1 hown hg
  rw [made_zeros] at hown
  have HOWN := Lib.hid hown
  have HBW := Lib.hid ((Below.refl w.heap.size w).grown hg (Nat.le_refl _) (fun j e => by cases e))
  clear hown hg
  go_wp2
  go_loopw [4, 5] (fun n i wr => ∃ (k n0 : Nat) (bk : List Nat), i = .int .i64 k ∧ 1 ≤ k ∧ k ≤ p.length ∧ n = .int .i64 n0 ∧ Hid (IsL p ((p.take k).drop 1) n0) ∧ n0 < k ∧ bk.length = p.length ∧ Hid (Borders p bk k) ∧ Hid (wr.ownsRow w.heap.size 3 1 (.slice (some ⟨w.heap.size, 0, none⟩) p.length p.length) p.length (bk.map natV)) ∧ Hid (Below w.heap.size w wr)) (fun _ i _ => p.length - (intOf i).toNat)
  case atStart => exact ⟨1, 0, List.replicate p.length 0, rfl, by omega, hp0, rfl, Lib.hid (border_one p), by omega, by simp, HB0, HOWN, HBW⟩
  case round =>
    obtain ⟨k, n0, bk, rfl, hk1, hk, rfl, HL, hn0, hbl, HBD, HO, HB⟩ := hrel
    by_cases hlt : k < p.length
    · obtain ⟨b1, o1, rfl, hx0⟩ := H1.out k hlt
      have hx := (HB.out.cell (World.block_lt_of_cell? w _ hx0)).trans hx0
      unfold encW at hx
      clear hx0
      have hkx : p[k]? = some p[k] := List.getElem?_eq_getElem hlt
      have HT := Lib.hid (drop_one_take_succ hk1 hkx)
      have HF := Lib.hid (Falls.start HL.out p[k])
      generalize p[k] = x at *
      clear HL hkx
      go_wp2
      go_loopw [4] (fun n wr2 => ∃ n1 q : Nat, n = .int .i64 n1 ∧ n1 < k ∧ Hid (Falls p ((p.take k).drop 1) x n1) ∧ wr2 = wr.drewN q) (fun n _ => (intOf n).toNat)
      case atStart => exact ⟨n0, 0, rfl, hn0, HF, rfl⟩
      case round =>
        obtain ⟨n1, q, rfl, hn1, HF1, rfl⟩ := hrel
        have hlt1 : n1 < p.length := by omega
        obtain ⟨b2, o2, e2, hy0⟩ := H1.out n1 hlt1
        cases e2
        have hy : wr.cell? ⟨b1, o1 + n1, none⟩ = some (.string ⟨p[n1].toArray⟩) := (HB.out.cell (World.block_lt_of_cell? w _ hy0)).trans hy0
        have hge : p[n1]? = some p[n1] := List.getElem?_eq_getElem hlt1
        clear hy0
        generalize p[n1] = y at *
        have hck : wr.cell? ⟨w.heap.size, k, none⟩ = some (natV bk[k]) := by
          rw [HO.out.cellAt k (by omega), List.getElem?_map, List.getElem?_eq_getElem (by omega)]; rfl
        have hfz : wr.frozen? ⟨w.heap.size, k, none⟩ = false := HO.out.frozenAt k
        unfold natV at hck
        by_cases hz : 0 < n1
        · have g0 : decide ((0 : Int) < (n1 : Int)) = true := by rw [decide_eq_true_eq]; omega
          by_cases hxy : x = y
          · subst hxy
            have hq : (x == x) = true := by simp
            have hq2 : (!x == x) = false := by simp
            have HH := Lib.hid (HF1.out.hit hge)
            clear hge
            go_wp2
            go_quiet (fail)
            go_wp2
            go_quiet (fail)
            go_wp2
            exact ⟨⟨k + 1, n1 + 1, bk.set k (n1 + 1), by go_num, by omega, by omega, by go_num, Lib.hid (by rw [HT.out]; exact HH.out), by omega, by simp [hbl], Lib.hid (HBD.out.set (by omega) (by rw [HT.out]; exact HH.out)), Lib.hid (by rw [List.map_set]; exact (World.ownsRow.stored (w := wr.drewN _) HO.out k (natV (n1 + 1))).1), Lib.hid ((HB.out.drewN _).setCell (Nat.le_refl _) _)⟩, by simp [intOf]; omega⟩
          · have hq : (x == y) = false := by simpa using hxy
            have hq2 : (!x == y) = true := by simpa using hxy
            obtain ⟨bd, hbd1, hbd2⟩ := HBD.out n1 hz (by omega)
            have HN := Lib.hid (HF1.out.next hz (by rw [hge]; exact fun e => hxy (Option.some.inj e).symm) hbd2)
            have hlt2 := HN.out.2
            have hcb : wr.cell? ⟨w.heap.size, n1 - 1, none⟩ = some (.int .i64 (bd : Int)) := by
              rw [HO.out.cellAt (n1 - 1) (by omega), List.getElem?_map, hbd1]; rfl
            obtain ⟨n2, rfl⟩ : ∃ n2, n1 = n2 + 1 := ⟨n1 - 1, by omega⟩
            rw [Nat.add_sub_cancel] at hcb
            clear hge hxy hbd1 hbd2
            go_wp2
            go_quiet (fail)
            go_wp2
            exact ⟨⟨bd, _, rfl, by omega, Lib.hid HN.out.1, rfl⟩, by simp [intOf]; omega⟩
        · obtain rfl : n1 = 0 := by omega
          by_cases hxy : x = y
          · subst hxy
            have hq : (x == x) = true := by simp
            have HH := Lib.hid (HF1.out.hit hge)
            clear hge
            rw [Nat.add_zero] at hy
            go_wp2
            go_quiet (fail)
            go_wp2
            go_quiet (fail)
            go_wp2
            exact ⟨⟨k + 1, 0 + 1, bk.set k (0 + 1), by go_num, by omega, by omega, by go_num, Lib.hid (by rw [HT.out]; exact HH.out), by omega, by simp [hbl], Lib.hid (HBD.out.set (by omega) (by rw [HT.out]; exact HH.out)), Lib.hid (by rw [List.map_set]; exact (World.ownsRow.stored (w := wr.drewN _) HO.out k (natV (0 + 1))).1), Lib.hid ((HB.out.drewN _).setCell (Nat.le_refl _) _)⟩, by simp [intOf]; omega⟩
          · have hq : (x == y) = false := by simpa using hxy
            have HH := Lib.hid (HF1.out.miss (by rw [hge]; exact fun e => hxy (Option.some.inj e).symm))
            clear hge hxy
            rw [Nat.add_zero] at hy
            go_wp2
            go_quiet (fail)
            go_wp2
            go_quiet (fail)
            go_wp2
            exact ⟨⟨k + 1, 0, bk.set k 0, by go_num, by omega, by omega, rfl, Lib.hid (by rw [HT.out]; exact HH.out), by omega, by simp [hbl], Lib.hid (HBD.out.set (by omega) (by rw [HT.out]; exact HH.out)), Lib.hid (by rw [List.map_set]; exact (World.ownsRow.stored (w := wr.drewN _) HO.out k (natV 0)).1), Lib.hid ((HB.out.drewN _).setCell (Nat.le_refl _) _)⟩, by simp [intOf]; omega⟩
    · go_wp2
      go_ret
      have hkt : k = p.length := by omega
      subst hkt
      exact ⟨_, bk, rfl, hbl, natsAt_of_owns HO.out, HBD.out, HB.out⟩
end Go.Proofs.YtmfnhfkgkdibfaaGreat

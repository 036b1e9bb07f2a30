/- hits of a nil map; Docs. -/
import Derived.Test.YtmfnhfkgkdibfaaGreatIInv
namespace Go.Proofs.YtmfnhfkgkdibfaaGreat
open Go.RowKit Go.Sort Go.Proofs Go.Maps Go.ChangeMaps Go.WideMaps

theorem hitsF_zero : hitsF (fun _ => 0) = [] := by simp [hitsF]

set_option maxRecDepth 100000 in
set_option maxHeartbeats 2000000 in
theorem hits_nil (w : World) :
    Calls Tryz.prog 48 #[.map none] w fun e w' => ∃ v, e = .returned v ∧ HitsR w.heap.size w' v [] ∧ Below w.heap.size w w' := by
  obtain ⟨i0, hi, hz0, hz1, hz2⟩ := info_parts infoHit
  have hlen : ∀ ty W, (Builtin.len_ #[67] ty #[.map none]).run Tryz.prog W = .ok (.int .i64 0) W := fun ty W => by simp [Builtin.len_, run_underlying Tryz.underlying67, goInt, Result.andThen]
  have hrg := fun W => run_range_nilMap (P := Tryz.prog) W 67 3 3 Tryz.underlying67
  have hnx : ∀ (W : World) ty, (Instr.next (.pointer (some ⟨W.heap.size, 0, none⟩)) false ty).run Tryz.prog (W.alloc (.mapIter none 0 #[] 0)) = _ := fun W ty => run_next_nilMap W ty 0 0 #[]
  go_enter Tryz.func48, Tryz.ntmps48
  go_wp2_with (at_make; refine wpList_make_own _ rfl _ _ 43 rfl w.heap.size 53 i0 _ 2 Tryz.underlying43 hi hz0 hz1 .i64 .i64 _ 0 rfl rfl rfl ?b2 ?b3 ?b4 ?_)
  case b2 => rw [hz2]; omega
  case b3 => unfold maxLen; omega
  case b4 => omega
  intro w1 ho1 hg1
  have hb1 : Below w.heap.size w w1 := (Below.refl _ w).grown hg1 (Nat.le_refl _) (fun j hj => by cases hj)
  have hs1 := hb1.size
  have HO := Lib.hid (ho1.alloc (.mapIter none 0 #[] 0))
  have HB := Lib.hid (hb1.alloc hs1 (.mapIter none 0 #[] 0))
  have hco := fun W v h => ordered_hits [] v w.heap.size W h (by simp)
  clear ho1 hg1 hb1 hs1
  go_wp2
  refine wp_loop_rounds 1 ?_
  rw [rounds_succ]
  go_wp2_with (go_at_call 64; refine (hco _ _ HO.out).mono ?_; rintro e w9 ⟨rfl, l', hp, hs, hr, hb9⟩)
  go_ret
  obtain rfl := List.perm_nil.1 hp
  exact ⟨_, rfl, hr, HB.out.trans hb9⟩

/-- what Docs answers -/
def docsQ (D : List Dc) (s : List UInt8) : List (Int × Nat) := match wordOf s with | none => [] | some x => phraseD D [x]
theorem phraseD_one (D : List Dc) (x : Wd) : phraseD D [x] = hitsF (cntD D x) := by
  unfold phraseD cntD
  congr 1
  funext id
  congr 1
  funext l
  exact occ_one l x

set_option maxRecDepth 100000 in
set_option maxHeartbeats 2000000 in
theorem docs_any {S Q : Nat → Prop} {N : Nat} {p : Nat} {D : List Dc} (w : World) (h : IdxAt S Q N w p D) (hN : N ≤ 1000000) (s : List UInt8) (hs : s.length ≤ 1000000) :
    Calls Tryz.prog 28 #[.pointer (some ⟨p, 0, none⟩), .string ⟨s.toArray⟩] w fun e w' => ∃ v, e = .returned v ∧ HitsR w.heap.size w' v (docsQ D s) ∧ Below w.heap.size w w' := by
  have hcw := fun W => word_any s (by omega) W
  have HI := Lib.hid h
  clear h
  cases hw : wordOf s with
  | none =>
    have hR : docsQ D s = [] := by unfold docsQ; rw [hw]
    rw [hR]
    rw [hw] at hcw
    clear hR hw
    go_enter Tryz.func28, Tryz.ntmps28
    go_wp2_with (go_at_call 45; refine (hcw _).mono ?_; rintro e w1 ⟨rfl, hb1⟩)
    go_ret
    exact ⟨_, rfl, ⟨rfl, .inl ⟨rfl, rfl⟩⟩, hb1⟩
  | some x =>
    have hR : docsQ D s = hitsF (cntD D x) := by unfold docsQ; rw [hw]; exact phraseD_one D x
    obtain ⟨R, HR⟩ : ∃ R, Hid (docsQ D s = R) := ⟨_, Lib.hid rfl⟩
    have HRx : Hid (hitsF (cntD D x) = R) := Lib.hid (by rw [← HR.out, hR])
    rw [HR.out]
    rw [hw] at hcw
    have hxl := wordOf_len hw
    clear hR hw HR
    go_enter Tryz.func28, Tryz.ntmps28
    go_wp2_with fail
    refine (hcw _).mono ?_
    rintro e w1 ⟨rfl, hb1⟩
    have h1 := HI.out.below hb1
    obtain ⟨b1, b2, v, tx, g, hp, hne, hT, hF, hR⟩ := h1.parts
    have hp1 : w1.cell? ⟨p, 1, none⟩ = some (.map (some b2)) := by rw [Lib.cell_of_heap hp]; rfl
    have hget := hF.map.get strKeys (t := 64) Tryz.underlying64 (Tryz.zeroValue67 w1) (strKey (x := x) (by omega))
    have hin := hF.inner x
    have hsm := hF.some x
    have HB1 := Lib.hid hb1
    clear hb1 hp hT hF hR
    simp only [Option.getD_some, Option.isSome_some] at *
    cases hg : g x with
    | none =>
      have hz : cntD D x = fun _ => 0 := by
        funext id
        cases hc : cntD D x id with
        | zero => rfl
        | succ n => have := hsm.2 ⟨id, by omega⟩; rw [hg] at this; cases this
      have HRz : Hid (R = []) := Lib.hid (by rw [← HRx.out, hz, hitsF_zero])
      rw [hg] at hget
      clear hin hsm hz hg
      go_wp2_with (go_at_call 48; refine (hits_nil _).mono ?_; rintro e w2 ⟨v2, rfl, hr, hb2⟩)
      go_ret
      exact ⟨_, rfl, by rw [HRz.out]; exact HitsR.mono hr HB1.out.size, bthen HB1.out hb2⟩
    | some b =>
      obtain ⟨a1, a2, a3, a4⟩ := hin b hg
      rw [hg] at hget
      have hcl := fun id => cntD_le h1 x id
      have hcp := fun id (h : 0 < cntD D x id) => docsF_pos h1.asc h1.ids h
      have hcon := fun W hM => hits_any b N (cntD D x) W hM (by omega) hcp (fun i => by have := hcl i; omega)
      have HA4 := Lib.hid a4
      rw [HRx.out] at hcon
      clear hin hsm hg hcl hcp a4
      go_wp2_with (go_at_call 48; refine (hcon _ HA4.out).mono ?_; rintro e w2 ⟨v2, rfl, hr, hb2⟩)
      go_ret
      exact ⟨_, rfl, HitsR.mono hr HB1.out.size, bthen HB1.out hb2⟩
end Go.Proofs.YtmfnhfkgkdibfaaGreat

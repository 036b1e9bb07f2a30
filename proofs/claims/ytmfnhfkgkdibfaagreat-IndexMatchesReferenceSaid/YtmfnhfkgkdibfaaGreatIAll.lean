/- All and Len. -/
import Derived.Test.YtmfnhfkgkdibfaaGreatIDoc
import Derived.Test.YtmfnhfkgkdibfaaGreatIBd
namespace Go.Proofs.YtmfnhfkgkdibfaaGreat
open Go.RowKit Go.Sort Go.Proofs Go.Maps Go.ChangeMaps Go.WideMaps

theorem Texts.isSome {S A : Nat → Prop} {b1 N : Nat} {tx : Int → Option Value} {D : List Dc} {w : World} (h : Texts S A b1 N tx D w) (hA : Asc D) (id : Int) : id ∈ D.map (·.1) ↔ (tx id).isSome = true := by
  rw [List.mem_map]
  constructor
  · rintro ⟨d, hd, rfl⟩
    obtain ⟨u, hu, _⟩ := h.some d.1 d.2 ((wordsAt_some hA).2 hd)
    rw [hu]; rfl
  · intro hs
    cases hw : wordsAt D id with
    | none => rw [h.none id hw] at hs; cases hs
    | some l => exact ⟨_, (wordsAt_some hA).1 hw, rfl⟩
theorem ids_asc {D : List Dc} (hA : Asc D) : (D.map (·.1)).Pairwise (· < ·) := List.pairwise_map.2 hA
theorem ids_nodup {D : List Dc} (hA : Asc D) : (D.map (·.1)).Nodup := (ids_asc hA).imp fun h => by omega
theorem docs_le {D : List Dc} (hA : Asc D) (hI : Ids D) : D.length ≤ 256 := by
  have := nodup_len 256 (D.map (·.1)) (ids_nodup hA) fun x hx => by
    obtain ⟨d, hd, rfl⟩ := List.mem_map.1 hx
    exact hI d hd
  simpa using this

theorem len_any {S Q : Nat → Prop} {N : Nat} {p : Nat} {D : List Dc} (w : World) (h : IdxAt S Q N w p D) :
    Calls Tryz.prog 18 #[.pointer (some ⟨p, 0, none⟩)] w fun e w' => e = .returned (.int .i64 D.length) ∧ w' = w := by
  obtain ⟨b1, b2, v, tx, g, hp, hne, hT, hF, hR⟩ := h.parts
  have hp0 : w.cell? ⟨p, 0, none⟩ = some (.map (some b1)) := by rw [Lib.cell_of_heap hp]; rfl
  have hlen := hT.map.len int_same int_form intKeys (t := 63) Tryz.underlying63 (ids_nodup h.asc) (hT.isSome h.asc)
  rw [List.length_map] at hlen
  clear hp hT hF hR h
  go_enter Tryz.func18, Tryz.ntmps18
  go_wp2
  go_ret
  exact ⟨rfl, rfl⟩

/-- a slice of numbers in memory of the call's own -/
def IntsR (base : Nat) (W : World) (v : Value) (l : List Int) : Prop := W.ownsRow base 3 1 v l.length (l.map (Value.int .i64))

theorem ints_of_done {ids done l : List Int} (hA : ids.Pairwise (· < ·)) (hn : done.Nodup) (h : ∀ x, x ∈ done ↔ x ∈ ids) (hp : l.Perm done) (hs : l.Pairwise fun a b => ltOf Lib.compareInt b a = false) : l = ids := by
  refine eq_of_asc (R := fun x y : Int => x < y) (fun x => by omega) (fun x y z => by omega) ?_ hA fun x => by rw [hp.mem_iff, h]
  refine (hs.and (hp.nodup_iff.2 hn)).imp ?_
  rintro a b ⟨h3, h4⟩
  rw [ltI] at h3
  simp at h3
  omega

set_option maxRecDepth 100000 in
set_option maxHeartbeats 2000000 in
theorem all_any {S Q : Nat → Prop} {N : Nat} {p : Nat} {D : List Dc} (w : World) (h : IdxAt S Q N w p D) :
    Calls Tryz.prog 20 #[.pointer (some ⟨p, 0, none⟩)] w fun e w' => ∃ v, e = .returned v ∧ IntsR w.heap.size w' v (D.map (·.1)) ∧ Below w.heap.size w w' := by
  obtain ⟨i0, hi, hz0, hz1, hz2⟩ := info_parts infoInt
  obtain ⟨b1, b2, v, tx, g, hp, hne, hT, hF, hR⟩ := h.parts
  have hlt := h.lt p h.own
  have hlen := hT.map.len int_same int_form intKeys (t := 63) Tryz.underlying63 (ids_nodup h.asc) (hT.isSome h.asc)
  have hdl := docs_le h.asc h.ids
  have HT := Lib.hid (hT.isSome h.asc)
  have HA := Lib.hid (ids_asc h.asc)
  have HI := Lib.hid (show ∀ x ∈ D.map (·.1), 1 ≤ x ∧ x ≤ 256 from fun x hx => by
    obtain ⟨d, hd, rfl⟩ := List.mem_map.1 hx
    exact h.ids d hd)
  have hp0 : w.cell? ⟨p, 0, none⟩ = some (.map (some b1)) := by rw [Lib.cell_of_heap hp]; rfl
  obtain ⟨M, hD, hf⟩ := hT.map
  rw [List.length_map] at hlen
  obtain ⟨ids, hids⟩ : ∃ ids, D.map (·.1) = ids := ⟨_, rfl⟩
  obtain ⟨n, hn⟩ : ∃ n, D.length = n := ⟨_, rfl⟩
  have hil : ids.length = n := by rw [← hids, ← hn]; simp
  rw [hids] at HT HA HI ⊢
  rw [hn] at hlen hdl
  have HF := Lib.hid hf; have HIL := Lib.hid hil
  clear hp hT hF hR h hids hn hil hf
  go_enter Tryz.func20, Tryz.ntmps20
  go_wp2_with (at_make; refine wpList_make_own _ rfl _ _ 40 rfl w.heap.size 3 i0 _ 1 Tryz.underlying40 hi hz0 hz1 .i64 .i64 _ n rfl rfl rfl ?b2 ?b3 ?b4 ?_)
  case b2 => rw [hz2]; omega
  case b3 => unfold maxLen; omega
  case b4 => omega
  intro w1 ho1 hg1
  have hD1 := hD.kept hg1 (by simp)
  have hb1 : Below w.heap.size w w1 := (Below.refl _ w).grown hg1 (Nat.le_refl _) (fun j hj => by cases hj)
  have hq0 : w1.cell? ⟨p, 0, none⟩ = some (.map (some b1)) := (hb1.cell hlt).trans hp0
  go_wp2_with (at_range; refine wpList_range_own _ rfl _ 63 rfl 3 23 intKeys Tryz.underlying63 _ b1 N _ rfl hD1 ?_; intro w0 hrg0 hg0 hs0)
  go_frame
  have hb0 : Below w.heap.size w w0 := hb1.grown hg0 (by simpa using hb1.size) (fun j hj => by cases hj)
  have HO0 : Hid (w0.ownsRow w.heap.size 3 1 (.slice (some ⟨w.heap.size, 0, none⟩) 0 n) 0 []) := Lib.hid (ho1.kept hg0 (by simp [Value.ownBlock]))
  go_loopw [3] (fun u wr => ∃ (v : Value) (left : Lit → Bool) (cnt : Nat) (done : List Int), v = u ∧ wr.ranges Tryz.prog 3 rawE b1 w1.heap.size N M left cnt ∧ Hid (Left (Lit.int .i64) tx left done) ∧ Hid (done.Nodup ∧ ∀ x ∈ done, x ∈ ids) ∧ Hid (IntsR w.heap.size wr v done) ∧ Hid (Below w.heap.size w wr)) (fun _ wr => wr.rangeLeft b1 w1.heap.size)
  case atStart => exact ⟨_, _, _, [], rfl, hrg0, Lib.hid (Left.start HF.out), Lib.hid ⟨.nil, fun x hx => by cases hx⟩, HO0, Lib.hid hb0⟩
  case round =>
    obtain ⟨v, left, cnt, done, rfl, hrg, HL, HN, HR, HB⟩ := hrel
    have hdl2 : done.length ≤ 256 := nodup_len 256 done HN.out.1 fun x hx => HI.out x (HN.out.2 x hx)
    go_wp2_with (at_next; refine wpList_next_ranges _ rfl _ rfl 3 intKeys rawE (Value.int .i64) id (fun key kl hkey => by obtain ⟨x, rfl, _⟩ := Maps.keyOf_int_inv Tryz.underlying3 hkey; exact ⟨x, rfl⟩) (fun v y _ => ⟨v, rfl⟩) b1 w1.heap.size N _ _ _ rfl hrg ?_ ?_)
    · intro _ hl0
      have hmem : ∀ x, x ∈ done ↔ x ∈ ids := fun x => ⟨HN.out.2 x, fun h => HL.out.done hl0 x ((HT.out x).1 h)⟩
      have hco := fun W => ordered_ints done v w.heap.size W
      have HM := Lib.hid hmem
      clear hmem
      go_wp2_with (go_at_call 43; refine (hco _ HR.out (by omega)).mono ?_; rintro e w9 ⟨rfl, l', hp, hs, hr, hb9⟩)
      go_ret
      have hl9 : l' = ids := ints_of_done HA.out HN.out.1 HM.out hp hs
      rw [hl9] at hr
      exact ⟨_, rfl, hr, HB.out.trans hb9⟩
    · intro x cv kl y1 y2 w2 cnt2 hkey hlk hry hat hrg2 hlt hg2 hs2 hen
      obtain ⟨x', ex, rfl, hwx⟩ := Maps.keyOf_int_inv Tryz.underlying3 hkey
      cases ex
      cases hry
      obtain ⟨hcx, hnm⟩ := HL.out.value HF.out hlk hat
      have hbs := HB.out.size
      have hne := row_ne_iter HR.out hrg
      have HR2' : w2.ownsRow w.heap.size 3 1 v done.length (done.map (Value.int .i64)) := World.ownsRow.kept HR.out hg2 (.inr fun e => hne e.symm)
      have HB2 : Hid (Below w.heap.size w w2) := Lib.hid (HB.out.grown hg2 hbs (fun j hj => by cases hj; have := hb1.size; omega))
      have hbs2 := HB2.out.size
      have HCx : Hid (Left (Lit.int .i64) tx (fun z => left z && !z.sameKey (.int .i64 x)) (done ++ [x])) := Lib.hid (HL.out.next int_same x)
      have HN2 : Hid ((done ++ [x]).Nodup ∧ ∀ y ∈ done ++ [x], y ∈ ids) := Lib.hid ⟨by
          rw [List.nodup_append]; exact ⟨HN.out.1, by simp, fun a ha b hb e => by simp at hb; subst hb; exact hnm (e ▸ ha)⟩, fun y hy => by
          rcases List.mem_append.1 hy with h | h
          · exact HN.out.2 y h
          · simp at h; subst h; exact (HT.out y).2 (by rw [hcx]; rfl)⟩
      have HRM := Lib.hid hrg2.left_eq; have HRL := Lib.hid hrg.left_eq
      clear hs2
      go_wp2_with (at_builtin; refine wpList_append_own _ rfl _ _ 40 rfl w.heap.size 3 i0 _ 1 8 Tryz.underlying40 hi hz0 hz1 hz2 rfl (by decide) _ _ _ rfl (HR2'.alloc _) ⟨w2.heap.size, 0, none⟩ 1 1 [.int .i64 x] rfl rfl (World.news_of_block (cs := #[.int .i64 x]) (t := 3) (fr := (0, 0)) (heap_alloc_new w2 _)) (by simp [Value.oneCell']) ?c3 ?c4 ?c5 ?_)
      case c3 => unfold maxLen; omega
      case c4 => omega
      case c5 => simp; omega
      intro v' w3 hown' hgrow _
      have hbl : b1 < w.heap.size := hD.lt
      have HR3 : Hid (IntsR w.heap.size w3 v' (done ++ [x])) := Lib.hid (by
        unfold IntsR
        simpa using hown')
      have hrg3 := (hrg2.alloc (.cells #[.int .i64 x] 3 (0, 0))).kept hgrow (row_ne_low HR2' hbl) (row_ne_iter (HR2'.alloc (.cells #[.int .i64 x] 3 (0, 0))) (hrg2.alloc (.cells #[.int .i64 x] 3 (0, 0))))
      have HB3 : Hid (Below w.heap.size w w3) := Lib.hid ((HB2.out.alloc hbs2 _).grown hgrow (by simp; omega) (fun j e => (HR2'.lt j e).1))
      have HRE := Lib.hid hrg3.left_eq
      clear hown' hgrow
      go_wp2
      go_roundw
      case rel => exact ⟨_, _, _, _, rfl, hrg3, HCx, HN2, HR3, HB3⟩
      case measure => rw [HRE.out, HRL.out]; exact hlt
end Go.Proofs.YtmfnhfkgkdibfaaGreat

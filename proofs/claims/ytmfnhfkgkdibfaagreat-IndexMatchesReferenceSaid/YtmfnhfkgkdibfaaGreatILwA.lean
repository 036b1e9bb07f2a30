/- The law's texts: few, queries, New. -/
import Derived.Test.YtmfnhfkgkdibfaaGreatIPut
namespace Go.Proofs.YtmfnhfkgkdibfaaGreat
open Go.RowKit Go.Sort Go.Proofs Go.Maps

/-- an operation: its kind, its ID, its text -/
abbrev Op3 := Int × Int × List UInt8
def opC (o : Op3) : List Value := [.int .i64 o.1, .int .i64 o.2.1, .string ⟨o.2.2.toArray⟩]
def okOp (o : Op3) : Prop := (-9223372036854775808 ≤ o.1 ∧ o.1 ≤ 9223372036854775807) ∧ (-9223372036854775808 ≤ o.2.1 ∧ o.2.1 ≤ 9223372036854775807)
/-- v is a slice of operations -/
def OpsAt (W : World) (v : Value) (l : List Op3) : Prop :=
  ∃ a c, v = .slice a l.length c ∧ l.length ≤ c ∧ l.length ≤ 9223372036854775807 ∧ ∀ k (h : k < l.length), ∃ b off, a = some ⟨b, off, none⟩ ∧ W.cell? ⟨b, off + k * 3, none⟩ = some (.int .i64 l[k].1) ∧ W.cell? ⟨b, off + k * 3 + 1, none⟩ = some (.int .i64 l[k].2.1) ∧ W.cell? ⟨b, off + k * 3 + 2, none⟩ = some (.string ⟨l[k].2.2.toArray⟩)
theorem OpsAt.below {W W' : World} {v : Value} {l : List Op3} (h : OpsAt W v l) (hb : Below W.heap.size W W') : OpsAt W' v l := by
  obtain ⟨a, c, hv, hle, hm, hc⟩ := h
  refine ⟨a, c, hv, hle, hm, fun j hj => ?_⟩
  obtain ⟨b, off, ha, h1, h2, h3⟩ := hc j hj
  exact ⟨b, off, ha, (hb.cell (World.block_lt_of_cell? W _ h1)).trans h1, (hb.cell (World.block_lt_of_cell? W _ h2)).trans h2, (hb.cell (World.block_lt_of_cell? W _ h3)).trans h3⟩
theorem opC_len (l : List Op3) : (l.flatMap opC).length = l.length * 3 := by
  induction l with
  | nil => rfl
  | cons x l ih => rw [List.flatMap_cons, List.length_append, ih]; simp [opC]; omega
theorem opsAt_of_owns {W : World} {base : Nat} {v : Value} {l : List Op3} (h : W.ownsRow base 33 3 v l.length (l.flatMap opC)) (hl : l.length ≤ 9223372036854775807) : OpsAt W v l := by
  rcases h.2 with ⟨rfl, h0⟩ | ⟨g, cap, cur, rfl, _, hg, hc, _⟩
  · exact ⟨none, 0, by rw [h0], by omega, hl, fun j hj => by omega⟩
  · refine ⟨some ⟨g, 0, none⟩, cap, rfl, hc, hl, fun j hj => ⟨g, 0, rfl, ?_⟩⟩
    have hcells : ∀ i u, (l.flatMap opC)[i]? = some u → W.cell? ((⟨g, 0, none⟩ : Addr).add i) = some u := h.cells rfl
    have hat : ∀ c (hc : c < 3), (l.flatMap opC)[j * 3 + c]? = (opC l[j])[c]? := fun c hc => by
      rw [flatMap_at opC 3 (by decide) (fun _ => rfl), show (j * 3 + c) / 3 = j by omega, show (j * 3 + c) % 3 = c by omega, List.getElem?_eq_getElem hj]; rfl
    have ha : ∀ i, (⟨g, 0, none⟩ : Addr).add i = ⟨g, 0 + i, none⟩ := fun i => by unfold Addr.add; by_cases h0 : i = 0 <;> simp [h0]
    refine ⟨?_, ?_, ?_⟩
    · rw [← ha]; exact hcells _ _ (hat 0 (by decide))
    · rw [Nat.add_assoc, ← ha]; exact hcells _ _ (hat 1 (by decide))
    · rw [Nat.add_assoc, ← ha]; exact hcells _ _ (hat 2 (by decide))

/-- the first twelve, their texts cut to 200 bytes -/
def cutOp (o : Op3) : Op3 := (o.1, o.2.1, o.2.2.take 200)
def fewL (l : List Op3) : List Op3 := (l.take 12).map cutOp
theorem infoOp : (Tryz.prog.info? 33).map (fun i => (i.zero, i.size, i.bytes)) = some (some (.agg #[.int .i64 0, .int .i64 0, .string ⟨#[]⟩]), 3, 32) := by kernel_rfl
def OpsR (base : Nat) (W : World) (v : Value) (l : List Op3) : Prop := W.ownsRow base 33 3 v l.length (l.flatMap opC)

theorem extract_cut (x : List UInt8) (n : Nat) : (ByteArray.extract ⟨x.toArray⟩ 0 (min ((x.length : Nat) : Int) n).toNat) = ⟨(x.take n).toArray⟩ := by
  apply ByteArray.ext; apply Array.toList_inj.1
  rw [Lib.extract_data]
  show (x.drop 0).take _ = x.take n
  rw [List.drop_zero, Nat.sub_zero]
  rcases Nat.le_total x.length n with h | h
  · rw [show (min ((x.length : Nat) : Int) n).toNat = x.length by omega, List.take_of_length_le h, List.take_of_length_le (Nat.le_refl _)]
  · rw [show (min ((x.length : Nat) : Int) n).toNat = n by omega]

set_option maxRecDepth 100000 in
set_option maxHeartbeats 2000000 in
theorem few_any (v : Value) (ops : List Op3) (w : World) (h : OpsAt w v ops) (hlen : ∀ o ∈ ops, o.2.2.length ≤ 9223372036854775807) :
    Calls Tryz.prog 11 #[v] w fun e w' => ∃ v', e = .returned v' ∧ OpsR w.heap.size w' v' (fewL ops) ∧ Below w.heap.size w w' := by
  obtain ⟨i0, hi, hz0, hz1, hz2⟩ := info_parts infoOp
  obtain ⟨a, c, rfl, hle, hm, hc⟩ := h
  have HC := Lib.hid hc; have HL := Lib.hid hlen
  clear hc hlen
  go_enter Tryz.func11, Tryz.ntmps11
  go_wp2
  go_loopw [3, 4] (fun u i wr => ∃ k : Nat, i = .int .i64 k ∧ k ≤ ops.length ∧ k ≤ 12 ∧ Hid (OpsR w.heap.size wr u ((ops.take k).map cutOp)) ∧ Hid (Below w.heap.size w wr)) (fun _ i _ => ops.length - (intOf i).toNat)
  case atStart => exact ⟨0, rfl, by omega, by omega, Lib.hid ⟨rfl, .inl ⟨rfl, rfl⟩⟩, Lib.hid (Below.refl _ _)⟩
  case round =>
    obtain ⟨k, rfl, hk, hk12, HO, HB⟩ := hrel
    have hbs := HB.out.size
    by_cases hgo : k < ops.length ∧ k < 12
    · have g1 : decide ((k : Int) < (ops.length : Int)) = true := by simp; omega
      have g2 : decide ((k : Int) < 12) = true := by simp; omega
      have hki : (k : Int) < (ops.length : Int) := by omega
      obtain ⟨b, off, rfl, k1, k2, k3⟩ := HC.out k hgo.1
      have hbl := World.block_lt_of_cell? w _ k1
      have c1 : wr.cell? ⟨b, off + k * 3, none⟩ = some (.int .i64 ops[k].1) := (HB.out.cell (p := ⟨b, off + k * 3, none⟩) hbl).trans k1
      have c2 : wr.cell? ⟨b, off + k * 3 + 1, none⟩ = some (.int .i64 ops[k].2.1) := (HB.out.cell (p := ⟨b, off + k * 3 + 1, none⟩) hbl).trans k2
      have c3 : wr.cell? ⟨b, off + k * 3 + 2, none⟩ = some (.string ⟨(ops[k].2.2).toArray⟩) := (HB.out.cell (p := ⟨b, off + k * 3 + 2, none⟩) hbl).trans k3
      have hlx := HL.out ops[k] (List.getElem_mem hgo.1)
      have HSU : Hid ((ops.take k).map cutOp ++ [cutOp ops[k]] = (ops.take (k + 1)).map cutOp) := Lib.hid (by rw [List.take_succ_eq_append_getElem hgo.1, List.map_append]; rfl)
      obtain ⟨⟨x1, x2, x3⟩, hx⟩ : ∃ x, ops[k] = x := ⟨_, rfl⟩
      rw [hx] at c1 c2 c3 HSU hlx
      simp only at c1 c2 c3 hlx
      clear k1 k2 k3 hx
      have hext : ByteArray.extract ⟨x3.toArray⟩ 0 (min (x3.length : Int) 200).toNat = ⟨(x3.take 200).toArray⟩ := extract_cut x3 200
      have HO' : wr.ownsRow w.heap.size 33 3 u3 ((ops.take k).map cutOp).length (((ops.take k).map cutOp).flatMap opC) := HO.out
      have hll : ((ops.take k).map cutOp).length ≤ 12 := by rw [List.length_map, List.length_take]; omega
      obtain ⟨L, hL⟩ : ∃ L, (ops.take k).map cutOp = L := ⟨_, rfl⟩
      rw [hL] at HO' hll HSU
      clear hL HO
      go_wp2_with (at_builtin; refine wpList_append_own _ rfl _ _ 22 rfl w.heap.size 33 i0 _ 3 32 Tryz.underlying22 hi hz0 hz1 hz2 rfl (by decide) _ _ _ rfl ((HO'.alloc _).alloc _) ⟨wr.heap.size + 1, 0, none⟩ 1 1 (opC (x1, x2, x3.take 200)) rfl rfl (World.news_of_block (cs := (opC (x1, x2, x3.take 200)).toArray) (t := 33) (fr := (0, 0)) (by
        have e : (wr.alloc (.cells #[.int .i64 x1, .int .i64 x2, .string ⟨(x3.take 200).toArray⟩] 33)).heap.size = wr.heap.size + 1 := by simp
        rw [← e]; exact heap_alloc_new _ _)) (by simp [Value.oneCell', opC]) ?c3 ?c4 ?c5 ?_)
      case c3 => unfold maxLen; omega
      case c4 => omega
      case c5 => omega
      intro v' w2 ho2 hg2 _
      have HO2 : Hid (OpsR w.heap.size w2 v' ((ops.take (k + 1)).map cutOp)) := Lib.hid (by
        rw [← HSU.out]
        unfold OpsR
        simpa [List.flatMap_append, cutOp] using ho2)
      have HB2 : Hid (Below w.heap.size w w2) := Lib.hid (((HB.out.alloc hbs _).alloc (by simp; omega) _).grown hg2 (by simp; omega) (fun j e => (HO'.lt j e).1))
      clear ho2 hg2
      go_wp2
      go_roundw
      case rel => exact ⟨k + 1, by go_num, by omega, by omega, HO2, HB2⟩
      case measure => simp [intOf]; omega
    · have hkk : ops.take k = ops.take 12 := by
        rcases Nat.lt_or_ge k ops.length with h | h
        · have : k = 12 := by
            by_cases h2 : k < 12
            · exact absurd ⟨h, h2⟩ hgo
            · omega
          rw [this]
        · rw [List.take_of_length_le h, List.take_of_length_le (by omega)]
      have HR : Hid (OpsR w.heap.size wr u3 (fewL ops)) := Lib.hid (by unfold fewL; rw [← hkk]; exact HO.out)
      clear hkk HO
      go_wp2
      all_goals first | (exfalso; omega) | (go_ret; exact ⟨_, rfl, HR.out, HB.out⟩)

/-- v is a slice of strings, however long -/
def StrsL (W : World) (v : Value) (xs : List (List UInt8)) : Prop :=
  ∃ a c, v = .slice a xs.length c ∧ xs.length ≤ c ∧ xs.length ≤ 9223372036854775807 ∧ ∀ j (h : j < xs.length), ∃ b off, a = some ⟨b, off, none⟩ ∧ W.cell? ⟨b, off + j, none⟩ = some (encW xs[j])
theorem StrsL.below {W W' : World} {v : Value} {l : List (List UInt8)} (h : StrsL W v l) (hb : Below W.heap.size W W') : StrsL W' v l := by
  obtain ⟨a, c, hv, hle, hm, hc⟩ := h
  refine ⟨a, c, hv, hle, hm, fun j hj => ?_⟩
  obtain ⟨b, off, ha, h1⟩ := hc j hj
  exact ⟨b, off, ha, (hb.cell (World.block_lt_of_cell? W _ h1)).trans h1⟩
/-- the first five, cut to 40 bytes -/
def queriesL (l : List (List UInt8)) : List (List UInt8) := (l.take 5).map (·.take 40)

set_option maxRecDepth 100000 in
set_option maxHeartbeats 2000000 in
theorem queries_any (v : Value) (qs : List (List UInt8)) (w : World) (h : StrsL w v qs) (hlen : ∀ s ∈ qs, s.length ≤ 9223372036854775807) :
    Calls Tryz.prog 17 #[v] w fun e w' => ∃ v', e = .returned v' ∧ OwnsStrs w' w.heap.size v' (queriesL qs) ∧ Below w.heap.size w w' := by
  obtain ⟨i0, hi, hz0, hz1, hz2⟩ := info_parts infoStr'
  obtain ⟨a, c, rfl, hle, hm, hc⟩ := h
  have HC := Lib.hid hc; have HL := Lib.hid hlen
  clear hc hlen
  go_enter Tryz.func17, Tryz.ntmps17
  go_wp2
  go_loopw [3, 4] (fun u i wr => ∃ k : Nat, i = .int .i64 k ∧ k ≤ qs.length ∧ k ≤ 5 ∧ Hid (OwnsStrs wr w.heap.size u ((qs.take k).map (·.take 40))) ∧ Hid (Below w.heap.size w wr)) (fun _ i _ => qs.length - (intOf i).toNat)
  case atStart => exact ⟨0, rfl, by omega, by omega, Lib.hid ⟨rfl, .inl ⟨rfl, rfl⟩⟩, Lib.hid (Below.refl _ _)⟩
  case round =>
    obtain ⟨k, rfl, hk, hk12, HO, HB⟩ := hrel
    have hbs := HB.out.size
    by_cases hgo : k < qs.length ∧ k < 5
    · have g1 : decide ((k : Int) < (qs.length : Int)) = true := by simp; omega
      have g2 : decide ((k : Int) < 5) = true := by simp; omega
      have hki : (k : Int) < (qs.length : Int) := by omega
      obtain ⟨b, off, rfl, k1⟩ := HC.out k hgo.1
      have hbl := World.block_lt_of_cell? w _ k1
      have c1 : wr.cell? ⟨b, off + k, none⟩ = some (.string ⟨(qs[k]).toArray⟩) := (HB.out.cell (p := ⟨b, off + k, none⟩) hbl).trans k1
      have hlx := HL.out qs[k] (List.getElem_mem hgo.1)
      have HSU : Hid ((qs.take k).map (·.take 40) ++ [(qs[k]).take 40] = (qs.take (k + 1)).map (·.take 40)) := Lib.hid (by rw [List.take_succ_eq_append_getElem hgo.1, List.map_append]; rfl)
      obtain ⟨x, hx⟩ : ∃ x, qs[k] = x := ⟨_, rfl⟩
      rw [hx] at c1 HSU hlx
      clear k1 hx
      have hext : ByteArray.extract ⟨x.toArray⟩ 0 (min (x.length : Int) 40).toNat = ⟨(x.take 40).toArray⟩ := extract_cut x 40
      have HO' : wr.ownsRow w.heap.size 9 1 u3 ((qs.take k).map (·.take 40)).length (((qs.take k).map (·.take 40)).map encW) := HO.out
      have hll : ((qs.take k).map (·.take 40)).length ≤ 12 := by rw [List.length_map, List.length_take]; omega
      obtain ⟨L, hL⟩ : ∃ L, (qs.take k).map (·.take 40) = L := ⟨_, rfl⟩
      rw [hL] at HO' hll HSU
      clear hL HO
      go_upto_region 5 with fail
      have hbw : b < w.heap.size := hbl
      have ar : u3.ownBlock ≠ some b := fun e => by have := (HO'.lt _ e).1; omega
      have hs1 : (0 : Int) ≤ min (x.length : Int) 40 := by omega
      have hs2 : min (x.length : Int) 40 ≤ (x.length : Int) := by omega
      go_region_held3 (fun w' => w'.cell? ⟨b, off + k, none⟩ = some (.string ⟨x.toArray⟩))
        (first
          | assumption
          | go_keep
          | (rw [hg2.cell_far _ (by simp; omega) (Ne.symm ar)]; simp [*]))
        ((refine step_append_lies _ (by rfl) _ _ _ (by rfl) w.heap.size 9 i0 _ 1 16 Tryz.underlying23 hi hz0 hz1 hz2 rfl (by omega) u3 L.length (L.map encW) (by rfl) ((HO'.alloc _).drew)
            ⟨wr.heap.size, 0, none⟩ 1 1 [.string ⟨(x.take 40).toArray⟩] (by rfl) (by rfl) (World.news_of_block (cs := #[.string ⟨(x.take 40).toArray⟩]) (t := 9) (fr := (0, 0)) (heap_alloc_new wr _)) (by simp [Value.oneCell'])
            (by omega) (by unfold maxLen; omega) (by omega) (by simp; omega) (wr.heap.size + 1) (by simp) ?_; intro gg cap' w2 ho2 hg2 hat hlt'))
      have HO2 : Hid (OwnsStrs w2 w.heap.size (.slice (some ⟨gg, 0, none⟩) (L.length + 1) cap') ((qs.take (k + 1)).map (·.take 40))) := Lib.hid (by
        rw [← HSU.out]
        unfold OwnsStrs
        simpa [encW] using ho2)
      have HB2 : Hid (Below w.heap.size w w2) := Lib.hid (((HB.out.alloc hbs _).drew).grown hg2 (by simp; omega) (fun j e => (HO'.lt j e).1))
      clear ho2 hg2 hat hlt'
      go_wp2
      go_roundw
      case rel => exact ⟨k + 1, by go_num, by omega, by omega, HO2, HB2⟩
      case measure => simp [intOf]; omega
    · have hkk : qs.take k = qs.take 5 := by
        rcases Nat.lt_or_ge k qs.length with h | h
        · have : k = 5 := by
            by_cases h2 : k < 5
            · exact absurd ⟨h, h2⟩ hgo
            · omega
          rw [this]
        · rw [List.take_of_length_le h, List.take_of_length_le (by omega)]
      have HR : Hid (OwnsStrs wr w.heap.size u3 (queriesL qs)) := Lib.hid (by unfold queriesL; rw [← hkk]; exact HO.out)
      clear hkk HO
      go_wp2
      all_goals first | (exfalso; omega) | (go_ret; exact ⟨_, rfl, HR.out, HB.out⟩)
end Go.Proofs.YtmfnhfkgkdibfaaGreat

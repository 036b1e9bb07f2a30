/- The reference's begins, Find, Phrase, Prefix, All. The reference's Phrase and Find. -/
import Derived.Test.YtmfnhfkgkdibfaaGreatIRfC
import Derived.Test.YtmfnhfkgkdibfaaGreatIPhr
import Derived.Test.YtmfnhfkgkdibfaaGreatICnP
namespace Go.Proofs.YtmfnhfkgkdibfaaGreat
open Go.RowKit Go.Sort Go.Proofs Go.Maps

set_option maxHeartbeats 400000 in
theorem begins_any (s p : List UInt8) (w : World) :
    Calls Tryz.prog 54 #[.string ⟨s.toArray⟩, .string ⟨p.toArray⟩] w fun e w' => e = .returned (.bool (p.isPrefixOf s)) ∧ w = w' := by
  by_cases h : p.length ≤ s.length
  · have h1 : (p.length : Int) ≤ (s.length : Int) := by omega
    go_enter Tryz.func54, Tryz.ntmps54
    go_wp2
    go_ret
    refine ⟨bool1 ?_, rfl⟩
    have e : (⟨s.toArray⟩ : ByteArray).extract 0 p.length = ⟨(s.take p.length).toArray⟩ := by
      apply ByteArray.ext; apply Array.toList_inj.1
      rw [Lib.extract_data]
      show (s.drop 0).take _ = s.take p.length
      rw [List.drop_zero, Nat.sub_zero]
    rw [e, toList_mk, Bool.eq_iff_iff, beq_iff_eq, List.isPrefixOf_iff_prefix, List.prefix_iff_eq_take, eq_comm]
  · have h1 : ¬ (p.length : Int) ≤ (s.length : Int) := by omega
    have h2 : p.isPrefixOf s = false := by
      rw [Bool.eq_false_iff]; intro e; exact h (List.isPrefixOf_iff_prefix.1 e).length_le
    have H2 := Lib.hid h2
    clear h2 h
    go_enter Tryz.func54, Tryz.ntmps54
    go_wp2
    go_ret
    exact ⟨bool1 H2.out.symm, rfl⟩

set_option maxRecDepth 100000 in
set_option maxHeartbeats 4000000 in
theorem refAll_any {T : Nat → Prop} {y : Nat} {D : List Dc} (w : World) (h : RefAt T w y D) :
    Calls Tryz.prog 21 #[.pointer (some ⟨y, 0, none⟩)] w fun e w' => ∃ v, e = .returned v ∧ IntsR w.heap.size w' v (D.map (·.1)) ∧ Below w.heap.size w w' := by
  obtain ⟨i0, hi, hz0, hz1, hz2⟩ := info_parts infoInt
  have hlen := h.len
  obtain ⟨v, P, hD, hy, hv, hP⟩ := h.parts
  have hpl : P.length ≤ 256 := by rw [hD, List.length_map] at hlen; exact hlen
  obtain ⟨a, c, rfl, hle, hcm, hc⟩ := hv
  have cy : w.cell? ⟨y, 0, none⟩ = some (.slice a P.length c) := by rw [Lib.cell_of_heap hy]; rfl
  have HC := Lib.hid hc
  have hyl := h.ylt
  have HD := Lib.hid hD
  clear h hD hy hc hP hlen
  go_enter Tryz.func21, Tryz.ntmps21
  go_wp2
  go_loopw [3, 4] (fun u i wr => ∃ k : Nat, i = .int .i64 k ∧ k ≤ P.length ∧ Hid (IntsR w.heap.size wr u ((P.take k).map fun p => p.1.1)) ∧ Hid (Below w.heap.size w wr)) (fun _ i _ => P.length - (intOf i).toNat)
  case atStart => exact ⟨0, rfl, by omega, Lib.hid ⟨rfl, .inl ⟨rfl, rfl⟩⟩, Lib.hid (Below.refl _ _)⟩
  case round =>
    obtain ⟨k, rfl, hk, HO, HB⟩ := hrel
    have hbs := HB.out.size
    have cyr : wr.cell? ⟨y, 0, none⟩ = some (.slice a P.length c) := cell_same (HB.out.block y hyl) cy
    by_cases hkl : k < P.length
    · have hki : (k : Int) < (P.length : Int) := by omega
      obtain ⟨b, off, rfl, hT, k1, k2⟩ := HC.out k hkl
      have hbl := World.block_lt_of_cell? w _ k1
      have c1 : wr.cell? ⟨b, off + k * 2, none⟩ = some (.int .i64 P[k].1.1) := cell_same (HB.out.block b hbl) k1
      have HT := Lib.hid (List.take_succ_eq_append_getElem hkl)
      obtain ⟨⟨⟨i1, ws⟩, u0⟩, hx⟩ : ∃ z, P[k] = z := ⟨_, rfl⟩
      rw [hx] at c1 HT
      simp only at c1
      clear k1 k2 hx
      have HSU : Hid ((P.take k).map (fun p => p.1.1) ++ [i1] = (P.take (k + 1)).map fun p => p.1.1) := Lib.hid (by rw [HT.out, List.map_append]; rfl)
      have hml2 : ((P.take k).map fun p => p.1.1).length ≤ 256 := by rw [List.length_map, List.length_take]; omega
      obtain ⟨M, hM⟩ : ∃ M, ((P.take k).map fun p => p.1.1) = M := ⟨_, rfl⟩
      rw [hM] at HO HSU hml2
      have hrow : wr.ownsRow w.heap.size 3 1 u3 M.length (M.map (Value.int .i64)) := HO.out
      clear hM HO
      go_wp2_with (at_builtin; refine wpList_append_own _ rfl _ _ 40 rfl w.heap.size 3 i0 _ 1 8 Tryz.underlying40 hi hz0 hz1 hz2 rfl (by decide) _ _ _ rfl (hrow.alloc _) ⟨wr.heap.size, 0, none⟩ 1 1 [.int .i64 i1] rfl rfl (World.news_of_block (cs := #[.int .i64 i1]) (t := 3) (fr := (0, 0)) (heap_alloc_new wr _)) (by simp [Value.oneCell']) ?c3 ?c4 ?c5 ?_)
      case c3 => unfold maxLen; omega
      case c4 => omega
      case c5 => first | omega | (simp; omega)
      intro v' w2 ho2 hg2 _
      have HO2 : Hid (IntsR w.heap.size w2 v' ((P.take (k + 1)).map fun p => p.1.1)) := Lib.hid (by
        rw [← HSU.out]
        unfold IntsR
        simpa using ho2)
      have HB2 : Hid (Below w.heap.size w w2) := Lib.hid ((HB.out.alloc hbs _).grown hg2 (by simp; omega) (fun j e => (hrow.lt j e).1))
      clear ho2 hg2
      go_wp2
      go_roundw
      case rel => exact ⟨k + 1, by go_num, by omega, HO2, HB2⟩
      case measure => simp [intOf]; omega
    · have HO9 : Hid (IntsR w.heap.size wr u3 (D.map (·.1))) := Lib.hid (by
        rw [List.take_of_length_le (by omega)] at HO
        rw [HD.out, List.map_map]; exact HO.out)
      clear HO
      go_wp2
      go_ret
      exact ⟨_, rfl, HO9.out, HB.out⟩

/-- the hits of a count of words -/
def hitP (f : List Wd → Nat) (P : List Pd) : List (Int × Nat) := P.filterMap fun p => if 0 < f p.1.2 then some (p.1.1, f p.1.2) else none
theorem hitP_all {D : List Dc} {P : List Pd} (hA : Asc D) (hI : Ids D) (h : D = P.map (·.1)) (f : List Wd → Nat) : hitP f P = hitsF (docsF D f) := by
  rw [← hits_docs hA hI, h, List.filterMap_map]; rfl
theorem hitP_len (f : List Wd → Nat) (P : List Pd) : (hitP f P).length ≤ P.length := List.length_filterMap_le _ _
theorem hitP_yes {f : List Wd → Nat} {P : List Pd} {p : Pd} (h : 0 < f p.1.2) : hitP f (P ++ [p]) = hitP f P ++ [(p.1.1, f p.1.2)] := by unfold hitP; rw [List.filterMap_append]; simp [h]
theorem hitP_no {f : List Wd → Nat} {P : List Pd} {p : Pd} (h : ¬ 0 < f p.1.2) : hitP f (P ++ [p]) = hitP f P := by unfold hitP; rw [List.filterMap_append]; simp [h]

set_option maxRecDepth 100000 in
set_option maxHeartbeats 8000000 in
theorem refPrefix_any {T : Nat → Prop} {y : Nat} {D : List Dc} (w : World) (h : RefAt T w y D) (hA : Asc D) (hI : Ids D) (ho : ∀ d ∈ D, ∀ x ∈ d.2, okWord x) (s : List UInt8) (hs : s.length ≤ 1000000) :
    Calls Tryz.prog 31 #[.pointer (some ⟨y, 0, none⟩), .string ⟨s.toArray⟩] w fun e w' => ∃ v, e = .returned v ∧ HitsR w.heap.size w' v (prefQ D s) ∧ Below w.heap.size w w' := by
  obtain ⟨i0, hi, hz0, hz1, hz2⟩ := info_parts infoHit
  have HW := Lib.hid (refWord_any s (by omega) w)
  have hlen := h.len
  obtain ⟨v, P, hD, hy, hv, hP⟩ := h.parts
  have hpl : P.length ≤ 256 := by rw [hD, List.length_map] at hlen; exact hlen
  obtain ⟨a, c, rfl, hle, hcm, hc⟩ := hv
  have cy : w.cell? ⟨y, 0, none⟩ = some (.slice a P.length c) := by rw [Lib.cell_of_heap hy]; rfl
  have HC := Lib.hid hc
  have HPs := Lib.hid hP
  have hyl := h.ylt
  have HALL := Lib.hid (fun f => hitP_all hA hI hD f)
  have HOK : Hid (∀ p ∈ P, ∀ x ∈ p.1.2, okWord x) := Lib.hid (fun p hp x hx => ho p.1 (by rw [hD]; exact List.mem_map_of_mem hp) x hx)
  unfold prefQ
  obtain ⟨R, hR⟩ : ∃ R, wordOf s = R := ⟨_, rfl⟩
  rw [hR] at HW
  rw [hR]
  cases R with
  | none =>
    clear h hD hy hc hP hlen hR
    go_enter Tryz.func31, Tryz.ntmps31
    go_wp2_with fail
    refine HW.out.mono ?_
    rintro e w1 ⟨rfl, hb1⟩
    have HB1 := Lib.hid hb1
    clear hb1
    simp only [Option.getD_none]
    go_wp2
    go_ret
    exact ⟨_, rfl, ⟨rfl, .inl ⟨rfl, rfl⟩⟩, HB1.out⟩
  | some p =>
    have hpw := wordOf_len hR
    have hne : p ≠ [] := hpw.1
    have hp30 := hpw.2
    clear h hD hy hc hP hlen hR hpw
    have g0 : p.isEmpty = false := by simpa using hne
    have hrd : prefD D p = hitP (fun l => l.countP p.isPrefixOf) P := (HALL.out _).symm
    simp only [hrd]
    clear hrd
    simp only [Option.getD_some] at HW
    go_enter Tryz.func31, Tryz.ntmps31
    go_wp2_with fail
    refine HW.out.mono ?_
    rintro e w1 ⟨rfl, hb1⟩
    have HB1 := Lib.hid hb1
    clear hb1 HW
    go_wp2
    go_loopw [6, 7] (fun u i wr => ∃ k : Nat, i = .int .i64 k ∧ k ≤ P.length ∧ Hid (HitsR w.heap.size wr u (hitP (fun l => l.countP p.isPrefixOf) (P.take k))) ∧ Hid (Below w.heap.size w wr)) (fun _ i _ => P.length - (intOf i).toNat)
    case atStart => exact ⟨0, rfl, by omega, Lib.hid ⟨rfl, .inl ⟨rfl, rfl⟩⟩, HB1⟩
    case round =>
      obtain ⟨k, rfl, hk, HO, HB⟩ := hrel
      have hbs := HB.out.size
      have cyr : wr.cell? ⟨y, 0, none⟩ = some (.slice a P.length c) := cell_same (HB.out.block y hyl) cy
      by_cases hkl : k < P.length
      · have hki : (k : Int) < (P.length : Int) := by omega
        obtain ⟨b, off, rfl, hT, k1, k2⟩ := HC.out k hkl
        have hbl := World.block_lt_of_cell? w _ k1
        have c1 : wr.cell? ⟨b, off + k * 2, none⟩ = some (.int .i64 P[k].1.1) := cell_same (HB.out.block b hbl) k1
        have c2 : wr.cell? ⟨b, off + k * 2 + 1, none⟩ = some P[k].2 := cell_same (HB.out.block b hbl) k2
        have HT := Lib.hid (List.take_succ_eq_append_getElem hkl)
        have hst := HPs.out P[k] (List.getElem_mem hkl)
        have hok := HOK.out P[k] (List.getElem_mem hkl)
        obtain ⟨⟨⟨i1, ws⟩, u0⟩, hx⟩ : ∃ z, P[k] = z := ⟨_, rfl⟩
        rw [hx] at c1 c2 HT hst hok
        simp only at c1 c2 hst hok
        obtain ⟨au, cu, rfl, hu1, hu2, hu3⟩ := hst
        have HU := Lib.hid hu3; have HOKw := Lib.hid hok
        clear k1 k2 hx hu3 hok
        go_wp2
        go_loop [8, 9] (fun n j => ∃ m : Nat, j = .int .i64 m ∧ m ≤ ws.length ∧ n = .int .i64 ((ws.take m).countP p.isPrefixOf)) (fun _ j => ws.length - (intOf j).toNat)
        case atStart => exact ⟨0, rfl, by omega, rfl⟩
        case round =>
          obtain ⟨m, rfl, hm, rfl⟩ := hrel
          have hcl : (ws.take m).countP p.isPrefixOf ≤ 1000 := by have := List.countP_le_length (p := p.isPrefixOf) (l := ws.take m); rw [List.length_take] at this; omega
          by_cases hml : m < ws.length
          · have hmi : (m : Int) < (ws.length : Int) := by omega
            obtain ⟨bw, ow, rfl, hTw, kw⟩ := HU.out m hml
            have cw : wr.cell? ⟨bw, ow + m, none⟩ = some (encW ws[m]) := cell_same (HB.out.block bw (World.block_lt_of_cell? w _ kw)) kw
            have hx30 := (HOKw.out ws[m] (List.getElem_mem hml)).2.1
            have HS : Hid ((ws.take (m + 1)).countP p.isPrefixOf = (ws.take m).countP p.isPrefixOf + if p.isPrefixOf ws[m] then 1 else 0) := Lib.hid (by rw [List.take_succ_eq_append_getElem hml, List.countP_append, List.countP_singleton])
            obtain ⟨x, hx⟩ : ∃ x, ws[m] = x := ⟨_, rfl⟩
            rw [hx] at cw hx30 HS
            unfold encW at cw
            obtain ⟨n, hn⟩ : ∃ n, (ws.take m).countP p.isPrefixOf = n := ⟨_, rfl⟩
            rw [hn] at hcl HS ⊢
            clear kw hx hn
            go_wp2_with fail
            refine (begins_any x p wr).mono ?_
            rintro e w2 ⟨rfl, rfl⟩
            cases hpre : p.isPrefixOf x with
            | true =>
              rw [hpre] at HS
              have HS2 : Hid ((ws.take (m + 1)).countP p.isPrefixOf = n + 1) := Lib.hid (by rw [HS.out]; rfl)
              clear hpre HS
              go_wp2
              go_round
              case rel => exact ⟨m + 1, by go_num, by omega, by rw [HS2.out]; go_num⟩
              case measure => simp [intOf]; omega
            | false =>
              rw [hpre] at HS
              have HS2 : Hid ((ws.take (m + 1)).countP p.isPrefixOf = n) := Lib.hid (by rw [HS.out]; rfl)
              clear hpre HS
              go_wp2
              go_round
              case rel => exact ⟨m + 1, by go_num, by omega, by rw [HS2.out]⟩
              case measure => simp [intOf]; omega
          · have HE : Hid ((ws.take m).countP p.isPrefixOf = ws.countP p.isPrefixOf) := Lib.hid (by rw [List.take_of_length_le (by omega)])
            have hml2 : (hitP (fun l => l.countP p.isPrefixOf) (P.take k)).length ≤ 256 := by
              have := hitP_len (fun l => l.countP p.isPrefixOf) (P.take k)
              rw [List.length_take] at this
              omega
            obtain ⟨n, hn⟩ : ∃ n, (ws.take m).countP p.isPrefixOf = n := ⟨_, rfl⟩
            rw [hn] at hcl HE ⊢
            clear hn
            by_cases hpos : 0 < n
            · have HSU : Hid (hitP (fun l => l.countP p.isPrefixOf) (P.take k) ++ [(i1, n)] = hitP (fun l => l.countP p.isPrefixOf) (P.take (k + 1))) := Lib.hid (by
                rw [HT.out, hitP_yes (by simp only; rw [← HE.out]; exact hpos)]; simp only; rw [HE.out])
              obtain ⟨M, hM⟩ : ∃ M, hitP (fun l => l.countP p.isPrefixOf) (P.take k) = M := ⟨_, rfl⟩
              rw [hM] at HO HSU hml2
              have hrow : wr.ownsRow w.heap.size 53 2 u6 M.length (M.flatMap hitC) := HO.out
              have hpi : (0 : Int) < (n : Int) := by omega
              clear hM HO
              go_wp2_with (at_builtin; refine wpList_append_own _ rfl _ _ 43 rfl w.heap.size 53 i0 _ 2 16 Tryz.underlying43 hi hz0 hz1 hz2 rfl (by decide) _ _ _ rfl (hrow.alloc _) ⟨wr.heap.size, 0, none⟩ 1 1 (hitC (i1, n)) rfl rfl (World.news_of_block (cs := (hitC (i1, n)).toArray) (t := 53) (fr := (0, 0)) (heap_alloc_new _ _)) (by simp [Value.oneCell', hitC]) ?c3 ?c4 ?c5 ?_)
              case c3 => unfold maxLen; omega
              case c4 => omega
              case c5 => first | omega | (simp; omega)
              intro v' w2 ho2 hg2 _
              have HO2 : Hid (HitsR w.heap.size w2 v' (hitP (fun l => l.countP p.isPrefixOf) (P.take (k + 1)))) := Lib.hid (by
                rw [← HSU.out]
                unfold HitsR
                simpa [List.flatMap_append] using ho2)
              have HB2 : Hid (Below w.heap.size w w2) := Lib.hid ((HB.out.alloc hbs _).grown hg2 (by simp; omega) (fun j e => (hrow.lt j e).1))
              clear ho2 hg2
              go_wp2
              go_roundw
              case rel => exact ⟨k + 1, by go_num, by omega, HO2, HB2⟩
              case measure => simp [intOf]; omega
            · have HO2 : Hid (HitsR w.heap.size wr u6 (hitP (fun l => l.countP p.isPrefixOf) (P.take (k + 1)))) := Lib.hid (by
                rw [HT.out, hitP_no (by simp only; rw [← HE.out]; exact hpos)]; exact HO.out)
              have hpi : ¬ (0 : Int) < (n : Int) := by omega
              clear HO
              go_wp2
              go_roundw
              case rel => exact ⟨k + 1, by go_num, by omega, HO2, HB⟩
              case measure => simp [intOf]; omega
      · have HO9 : Hid (HitsR w.heap.size wr u6 (hitP (fun l => l.countP p.isPrefixOf) P)) := Lib.hid (by
          rw [List.take_of_length_le (by omega)] at HO; exact HO.out)
        clear HO
        go_wp2
        go_ret
        exact ⟨_, rfl, HO9.out, HB.out⟩

theorem take_eq_succ {a b : List Wd} {j : Nat} (ha : j < a.length) (hb : j < b.length) : a.take (j + 1) = b.take (j + 1) ↔ a.take j = b.take j ∧ a[j] = b[j] := by
  rw [List.take_succ_eq_append_getElem ha, List.take_succ_eq_append_getElem hb]
  constructor
  · intro h
    have := List.append_inj h (by rw [List.length_take, List.length_take]; omega)
    exact ⟨this.1, by simpa using this.2⟩
  · rintro ⟨h1, h2⟩
    rw [h1, h2]
theorem same_step {ws pre : List Wd} {m j : Nat} (h1 : m + j < ws.length) (h2 : j < pre.length) : (ws.drop m).take (j + 1) = pre.take (j + 1) ↔ (ws.drop m).take j = pre.take j ∧ ws[m + j] = pre[j] := by
  rw [take_eq_succ (by rw [List.length_drop]; omega) h2, List.getElem_drop]
theorem same_end {ws pre : List Wd} {m : Nat} : (ws.drop m).take pre.length = pre.take pre.length ↔ pre.isPrefixOf (ws.drop m) = true := by
  rw [List.isPrefixOf_iff_prefix, List.prefix_iff_eq_take, List.take_length, eq_comm]
theorem HitsR.stay {base : Nat} {w w' : World} {v : Value} {l : List (Int × Nat)} (h : HitsR base w v l) (hb : Below w.heap.size w w') : HitsR base w' v l := row_stay h fun j hj => hb.block j (h.lt j hj).2

set_option maxRecDepth 100000 in
set_option maxHeartbeats 16000000 in
theorem refPhrase_any {T : Nat → Prop} {y : Nat} {D : List Dc} (w : World) (h : RefAt T w y D) (hA : Asc D) (hI : Ids D) (vq : Value) (l : List (List UInt8)) (hq : StrsAt w vq l) (hl : l.length ≤ 1000) (hs : ∀ s ∈ l, s.length ≤ 1000000) :
    Calls Tryz.prog 24 #[.pointer (some ⟨y, 0, none⟩), vq] w fun e w' => ∃ v, e = .returned v ∧ HitsR w.heap.size w' v (phraseQ D l) ∧ Below w.heap.size w w' := by
  obtain ⟨j0, hj, hy0, hy1, hy2⟩ := info_parts infoHit
  obtain ⟨i0, hi, hz0, hz1, hz2⟩ := info_parts infoStr'
  have hlen := h.len
  obtain ⟨v, P, hD, hy, hv, hP⟩ := h.parts
  have hpl : P.length ≤ 256 := by rw [hD, List.length_map] at hlen; exact hlen
  obtain ⟨a, c, rfl, hle, hcm, hc⟩ := hv
  have cy : w.cell? ⟨y, 0, none⟩ = some (.slice a P.length c) := by rw [Lib.cell_of_heap hy]; rfl
  have HC := Lib.hid hc
  have HPs := Lib.hid hP
  have hyl := h.ylt
  have HALL := Lib.hid (fun f => hitP_all hA hI hD f)
  have hcw := fun (s : List UInt8) (hs : s.length ≤ 1000000) W => refWord_any s (by omega) W
  have HS := Lib.hid hs
  obtain ⟨aq, cq, rfl, hqle, -, hqc⟩ := hq
  have HQ := Lib.hid hqc
  obtain ⟨R, HR⟩ : ∃ R, Hid (phraseQ D l = R) := ⟨_, Lib.hid rfl⟩
  rw [HR.out]
  have HWd := Lib.hid hcw
  clear h hs hD hy hc hP hlen hqc hcw
  go_enter Tryz.func24, Tryz.ntmps24
  go_wp2
  go_loopw [5, 6] (fun u i wr => ∃ (k : Nat) (pre : List Wd), i = .int .i64 k ∧ k ≤ l.length ∧ Hid (pre.length = k) ∧ Hid (wordsQ l = (wordsQ (l.drop k)).map (pre ++ ·)) ∧ Hid (∀ x ∈ pre, x.length ≤ 30) ∧ Hid (OwnsStrs wr w.heap.size u pre) ∧ Hid (Below w.heap.size w wr)) (fun _ i _ => l.length - (intOf i).toNat)
  case atStart => exact ⟨0, [], rfl, by omega, Lib.hid rfl, Lib.hid (by simp), Lib.hid (by simp), Lib.hid ⟨rfl, .inl ⟨rfl, rfl⟩⟩, Lib.hid (Below.refl _ _)⟩
  case round =>
    obtain ⟨k, pre, rfl, hk, HPL, HWQ, HPO, HO, HB⟩ := hrel
    by_cases hkl : k < l.length
    · have hki : (k : Int) < (l.length : Int) := by omega
      obtain ⟨b0, off0, rfl, ck0⟩ := HQ.out k hkl
      have ck : wr.cell? ⟨b0, off0 + k, none⟩ = some (.string ⟨(l[k]).toArray⟩) := (HB.out.cell (p := ⟨b0, off0 + k, none⟩) (World.block_lt_of_cell? w _ ck0)).trans ck0
      have hsl := HS.out l[k] (List.getElem_mem hkl)
      have HW := Lib.hid (HWd.out l[k] hsl)
      have hne : l ≠ [] := by intro e; subst e; simp at hkl
      cases hw : wordOf l[k] with
      | none =>
        have HN9 := Lib.hid (wordsQ_none HWQ.out hkl hw)
        have HR9 : Hid (R = []) := Lib.hid (by rw [← HR.out, phraseQ, if_neg hne, HN9.out])
        have hcw1 := HW.out
        rw [hw] at hcw1
        clear HW hw hne
        obtain ⟨s, hse⟩ : ∃ s, l[k] = s := ⟨_, rfl⟩
        rw [hse] at ck hcw1
        clear hse ck0 hsl
        simp only [Option.getD_none] at hcw1
        go_wp2_with (go_at_call 49; refine (hcw1 _).mono ?_; rintro e w1 ⟨rfl, hb1⟩)
        go_ret
        refine ⟨_, rfl, ?_, bthen HB.out hb1⟩
        rw [HR9.out]
        exact ⟨rfl, .inl ⟨rfl, rfl⟩⟩
      | some x =>
        have HN9 := Lib.hid (wordsQ_step HWQ.out hkl hw)
        have hxl := wordOf_len hw
        have hxe : x.isEmpty = false := by simpa using hxl.1
        have hxn : x ≠ [] := hxl.1
        have hx30 : x.length ≤ 30 := hxl.2
        have hcw1 := HW.out
        rw [hw] at hcw1
        clear HW hw hne hxl
        obtain ⟨s, hse⟩ : ∃ s, l[k] = s := ⟨_, rfl⟩
        rw [hse] at ck hcw1
        clear hse ck0 hsl
        simp only [Option.getD_some] at hcw1
        go_wp2_with fail
        refine (hcw1 _).mono ?_
        rintro e w1 ⟨rfl, hb1⟩
        have HB1 := Lib.hid (bthen HB.out hb1)
        have HO1 : w1.ownsRow w.heap.size 9 1 u5 pre.length (pre.map encW) := row_stay HO.out fun j hj => hb1.block j (World.ownsRow.lt HO.out j hj).2
        have hbs := HB1.out.size
        have hplb : pre.length ≤ 1000 := by have := HPL.out; omega
        clear hb1 HO hcw1
        go_wp2_with (at_builtin; refine wpList_append_own _ rfl _ _ 23 rfl w.heap.size 9 i0 _ 1 16 Tryz.underlying23 hi hz0 hz1 hz2 rfl (by decide) _ _ _ rfl (HO1.alloc _) ⟨w1.heap.size, 0, none⟩ 1 1 [.string ⟨x.toArray⟩] rfl rfl (World.news_of_block (cs := #[.string ⟨x.toArray⟩]) (t := 9) (fr := (0, 0)) (heap_alloc_new w1 _)) (by simp [Value.oneCell']) ?c3 ?c4 ?c5 ?_)
        case c3 => unfold maxLen; omega
        case c4 => omega
        case c5 => simp; omega
        intro v' w2 ho2 hg2 _
        have HO2 : Hid (OwnsStrs w2 w.heap.size v' (pre ++ [x])) := Lib.hid (by unfold OwnsStrs; simpa [encW] using ho2)
        have HB2 : Hid (Below w.heap.size w w2) := Lib.hid ((HB1.out.alloc hbs _).grown hg2 (by simp; omega) (fun j e => (HO1.lt j e).1))
        have HPO2 : Hid (∀ z ∈ pre ++ [x], z.length ≤ 30) := Lib.hid (fun z hz => by
          rcases List.mem_append.1 hz with h | h
          · exact HPO.out z h
          · simp at h; subst h; exact hx30)
        have HPL2 : Hid ((pre ++ [x]).length = k + 1) := Lib.hid (by have := HPL.out; simp; omega)
        clear ho2 hg2
        go_wp2
        go_roundw
        case rel => exact ⟨k + 1, pre ++ [x], by go_num, by omega, HPL2, HN9, HPO2, HO2, HB2⟩
        case measure => simp [intOf]; omega
    · obtain rfl : k = l.length := by omega
      have HWS := Lib.hid (wordsQ_end HWQ.out)
      have hst := strsAt_of_owns HO.out (by have := HPL.out; omega)
      obtain ⟨a5, c5, rfl, hle5, hm5, hc5⟩ := hst
      have hplen : pre.length ≤ 1000 := by rw [HPL.out]; exact hl
      by_cases hln : l = []
      · have hp0 : pre.length = 0 := by rw [HPL.out, hln]; rfl
        have HR9 : Hid (R = []) := Lib.hid (by rw [← HR.out, phraseQ, if_pos hln])
        have g0 : ((pre.length : Int) == 0) = true := by simp [List.length_eq_zero_iff.1 hp0]
        clear hp0 hln HWQ HWS HPL
        go_wp2
        go_ret
        refine ⟨_, rfl, ?_, HB.out⟩
        rw [HR9.out]
        exact ⟨rfl, .inl ⟨rfl, rfl⟩⟩
      · have hp0 : 0 < pre.length := by rw [HPL.out]; exact List.length_pos_iff.2 hln
        have HRW : Hid (R = hitP (fun ws => occ ws pre) P) := Lib.hid (by rw [← HR.out, phraseQ, if_neg hln, HWS.out, HALL.out]; rfl)
        have g0 : ((pre.length : Int) == 0) = false := by rw [beq_eq_false_iff_ne]; omega
        have HC5 := Lib.hid hc5
        have HB5 := HB
        obtain ⟨w5, rfl⟩ : ∃ w5 : World, w5 = wr := ⟨_, rfl⟩
        clear hln HWQ HWS HPL HO HB hc5
        go_wp2
        go_loopw [8, 9] (fun u i wr => ∃ k : Nat, i = .int .i64 k ∧ k ≤ P.length ∧ Hid (HitsR w5.heap.size wr u (hitP (fun ws => occ ws pre) (P.take k))) ∧ Hid (Below w5.heap.size w5 wr)) (fun _ i _ => P.length - (intOf i).toNat)
        case atStart => exact ⟨0, rfl, by omega, Lib.hid ⟨rfl, .inl ⟨rfl, rfl⟩⟩, Lib.hid (Below.refl _ _)⟩
        case round =>
          obtain ⟨k, rfl, hk, HO, HBB⟩ := hrel
          have HB := Lib.hid (HB5.out.trans (HBB.out.mono HB5.out.size))
          have hbb := HBB.out.size
          have hbs := HB.out.size
          have cyr : wr.cell? ⟨y, 0, none⟩ = some (.slice a P.length c) := cell_same (HB.out.block y hyl) cy
          by_cases hkl : k < P.length
          · have hki : (k : Int) < (P.length : Int) := by omega
            obtain ⟨b, off, rfl, hT, k1, k2⟩ := HC.out k hkl
            have hbl := World.block_lt_of_cell? w _ k1
            have c1 : w.cell? ⟨b, off + k * 2, none⟩ = some (.int .i64 P[k].1.1) := k1
            have c2 : wr.cell? ⟨b, off + k * 2 + 1, none⟩ = some P[k].2 := cell_same (HB.out.block b hbl) k2
            have HT := Lib.hid (List.take_succ_eq_append_getElem hkl)
            have hst := HPs.out P[k] (List.getElem_mem hkl)
            obtain ⟨⟨⟨i1, ws⟩, u0⟩, hx⟩ : ∃ z, P[k] = z := ⟨_, rfl⟩
            rw [hx] at c1 c2 HT hst
            simp only at c1 c2 hst
            obtain ⟨au, cu, rfl, hu1, hu2, hu3⟩ := hst
            have HU := Lib.hid hu3
            have HC1 := Lib.hid c1
            clear k1 k2 hx hu3 c1
            obtain ⟨wo, rfl⟩ : ∃ wo : World, wo = wr := ⟨_, rfl⟩
            go_wp2
            go_loopw [10, 12] (fun n j wi => ∃ m : Nat, j = .int .i64 m ∧ m ≤ ws.length + 1 - pre.length ∧ n = .int .i64 (occS ws pre m) ∧ Hid (Below wo.heap.size wo wi)) (fun _ j _ => ws.length + 1 - (intOf j).toNat)
            case atStart => exact ⟨0, rfl, by omega, rfl, Lib.hid (Below.refl _ _)⟩
            case round =>
              obtain ⟨m, rfl, hm, rfl, HBm⟩ := hrel
              have hnl : occS ws pre m ≤ 1001 := by
                unfold occS
                refine Nat.le_trans List.countP_le_length ?_
                rw [List.length_range]; omega
              by_cases hml : m + pre.length ≤ ws.length
              · have hmi : (m : Int) + (pre.length : Int) ≤ (ws.length : Int) := by omega
                have HOCC := Lib.hid (occS_succ ws pre m)
                obtain ⟨n, hn⟩ : ∃ n, occS ws pre m = n := ⟨_, rfl⟩
                rw [hn] at HOCC hnl ⊢
                clear hn
                go_wp2
                go_loopw [13, 14] (fun sm j wi => ∃ (q : Nat) (B : Bool), j = .int .i64 q ∧ q ≤ pre.length ∧ sm = .bool B ∧ Hid (B = decide ((ws.drop m).take q = pre.take q)) ∧ Hid (Below wo.heap.size wo wi)) (fun _ j _ => pre.length - (intOf j).toNat)
                case atStart => exact ⟨0, true, rfl, by omega, rfl, Lib.hid (by simp), HBm⟩
                case round =>
                  obtain ⟨q, B, rfl, hq, rfl, HSM, HBq⟩ := hrel
                  by_cases hql : q < pre.length
                  · have hqi : (q : Int) < (pre.length : Int) := by omega
                    have hmq : m + q < ws.length := by omega
                    have hmqi : (m : Int) + (q : Int) < (ws.length : Int) := by omega
                    obtain ⟨bw, ow, rfl, hTw, kw⟩ := HU.out (m + q) hmq
                    have cw : wr.cell? ⟨bw, ow + (m + q), none⟩ = some (encW ws[m + q]) := cell_same ((HB.out.trans (HBq.out.mono hbs)).block bw (World.block_lt_of_cell? w _ kw)) kw
                    obtain ⟨bp, op, rfl, kp⟩ := HC5.out q hql
                    have cp : wr.cell? ⟨bp, op + q, none⟩ = some (encW pre[q]) := cell_same ((HBB.out.trans (HBq.out.mono HBB.out.size)).block bp (World.block_lt_of_cell? w5 _ kp)) kp
                    have HST := Lib.hid (same_step (ws := ws) (pre := pre) hmq hql)
                    obtain ⟨x, hx⟩ : ∃ x, ws[m + q] = x := ⟨_, rfl⟩
                    obtain ⟨z, hz⟩ : ∃ z, pre[q] = z := ⟨_, rfl⟩
                    rw [hx] at cw HST
                    rw [hz] at cp HST
                    unfold encW at cw cp
                    clear kw kp hx hz
                    cases B with
                    | false =>
                      have HSM2 : Hid (false = decide ((ws.drop m).take (q + 1) = pre.take (q + 1))) := Lib.hid (by
                        symm; rw [decide_eq_false_iff_not, HST.out]
                        rintro ⟨h1, _⟩
                        have := HSM.out
                        rw [decide_eq_true h1] at this; cases this)
                      clear HSM HST
                      go_wp2_with fail
                      go_quiet (fail)
                      go_wp2
                      go_roundw
                      case rel => exact ⟨q + 1, false, by go_num, by omega, rfl, HSM2, Lib.hid (HBq.out.drewN _)⟩
                      case measure => simp [intOf]; omega
                    | true =>
                      have hs1 : (ws.drop m).take q = pre.take q := of_decide_eq_true HSM.out.symm
                      by_cases hxz : x = z
                      · have HSM2 : Hid (true = decide ((ws.drop m).take (q + 1) = pre.take (q + 1))) := Lib.hid (by
                          symm; rw [decide_eq_true_iff, HST.out]; exact ⟨hs1, hxz⟩)
                        have g1 : (x == z) = true := by simpa using hxz
                        clear HSM HST hs1 hxz
                        go_wp2_with fail
                        have hw1 : IntKind.i64.wrap ((m : Int) + (q : Int)) = (m : Int) + (q : Int) := IntWalk.i64_in _ (by omega)
                        have hw2 : (0 : Int) ≤ (m : Int) + (q : Int) := by omega
                        have hw3 : ((m : Int) + (q : Int)).toNat = m + q := by omega
                        go_quiet (fail)
                        clear hw1 hw2 hw3
                        go_wp2
                        go_roundw
                        case rel => exact ⟨q + 1, true, by go_num, by omega, rfl, HSM2, Lib.hid (HBq.out.drewN _)⟩
                        case measure => simp [intOf]; omega
                      · have HSM2 : Hid (false = decide ((ws.drop m).take (q + 1) = pre.take (q + 1))) := Lib.hid (by
                          symm; rw [decide_eq_false_iff_not, HST.out]; exact fun h => hxz h.2)
                        have g1 : (x == z) = false := by simpa using hxz
                        clear HSM HST hs1 hxz
                        go_wp2_with fail
                        have hw1 : IntKind.i64.wrap ((m : Int) + (q : Int)) = (m : Int) + (q : Int) := IntWalk.i64_in _ (by omega)
                        have hw2 : (0 : Int) ≤ (m : Int) + (q : Int) := by omega
                        have hw3 : ((m : Int) + (q : Int)).toNat = m + q := by omega
                        go_quiet (fail)
                        clear hw1 hw2 hw3
                        go_wp2
                        go_roundw
                        case rel => exact ⟨q + 1, false, by go_num, by omega, rfl, HSM2, Lib.hid (HBq.out.drewN _)⟩
                        case measure => simp [intOf]; omega
                  · obtain rfl : q = pre.length := by omega
                    cases B with
                    | false =>
                      have HN : Hid (n = occS ws pre (m + 1)) := Lib.hid (by
                        have h1 : ¬ pre.isPrefixOf (ws.drop m) = true := fun h => by
                          have := HSM.out
                          rw [decide_eq_true (same_end.2 h)] at this; cases this
                        rw [HOCC.out, if_neg h1]; rfl)
                      clear HSM HOCC
                      go_wp2
                      go_roundw
                      case rel => exact ⟨m + 1, by go_num, by omega, by rw [← HN.out], HBq⟩
                      case measure => simp [intOf]; omega
                    | true =>
                      have HN : Hid (n + 1 = occS ws pre (m + 1)) := Lib.hid (by
                        have h1 : pre.isPrefixOf (ws.drop m) = true := same_end.1 (of_decide_eq_true HSM.out.symm)
                        rw [HOCC.out, if_pos h1])
                      clear HSM HOCC
                      go_wp2
                      go_roundw
                      case rel => exact ⟨m + 1, by go_num, by omega, by rw [← HN.out]; go_num, HBq⟩
                      case measure => simp [intOf]; omega
              · have HE : Hid (occS ws pre m = occ ws pre) := Lib.hid (by unfold occ; congr 1; omega)
                have hmi : ¬ ((m : Int) + (pre.length : Int) ≤ (ws.length : Int)) := by omega
                have hml2 : (hitP (fun ws => occ ws pre) (P.take k)).length ≤ 256 := by
                  have := hitP_len (fun ws => occ ws pre) (P.take k)
                  rw [List.length_take] at this
                  omega
                obtain ⟨n, hn⟩ : ∃ n, occS ws pre m = n := ⟨_, rfl⟩
                rw [hn] at hnl HE ⊢
                have HBr := Lib.hid (HB.out.trans (HBm.out.mono hbs))
                have HBBr := Lib.hid (HBB.out.trans (HBm.out.mono HBB.out.size))
                have hbr := HBr.out.size
                have hbbr := HBBr.out.size
                have c1 : wr.cell? ⟨b, off + k * 2, none⟩ = some (.int .i64 i1) := cell_same (HBr.out.block b hbl) HC1.out
                have cyr2 : wr.cell? ⟨y, 0, none⟩ = some (.slice (some ⟨b, off, none⟩) P.length c) := cell_same (HBr.out.block y hyl) cy
                have HOr := Lib.hid (HO.out.stay HBm.out)
                clear hn hml HO HBm
                by_cases hpos : 0 < n
                · have HSU : Hid (hitP (fun ws => occ ws pre) (P.take k) ++ [(i1, n)] = hitP (fun ws => occ ws pre) (P.take (k + 1))) := Lib.hid (by
                    rw [HT.out, hitP_yes (by simp only; rw [← HE.out]; exact hpos)]; simp only; rw [HE.out])
                  obtain ⟨M, hM⟩ : ∃ M, hitP (fun ws => occ ws pre) (P.take k) = M := ⟨_, rfl⟩
                  rw [hM] at HOr HSU hml2
                  have hrow : wr.ownsRow w5.heap.size 53 2 u8 M.length (M.flatMap hitC) := HOr.out
                  have hpi : (0 : Int) < (n : Int) := by omega
                  clear hM HOr
                  go_wp2_with (at_builtin; refine wpList_append_own _ rfl _ _ 43 rfl w5.heap.size 53 j0 _ 2 16 Tryz.underlying43 hj hy0 hy1 hy2 rfl (by decide) _ _ _ rfl (hrow.alloc _) ⟨wr.heap.size, 0, none⟩ 1 1 (hitC (i1, n)) rfl rfl (World.news_of_block (cs := (hitC (i1, n)).toArray) (t := 53) (fr := (0, 0)) (heap_alloc_new _ _)) (by simp [Value.oneCell', hitC]) ?d3 ?d4 ?d5 ?_)
                  case d3 => unfold maxLen; omega
                  case d4 => omega
                  case d5 => first | omega | (simp; omega)
                  intro v' w2 ho2 hg2 _
                  have HO2 : Hid (HitsR w5.heap.size w2 v' (hitP (fun ws => occ ws pre) (P.take (k + 1)))) := Lib.hid (by
                    rw [← HSU.out]
                    unfold HitsR
                    simpa [List.flatMap_append] using ho2)
                  have HBB2 : Hid (Below w5.heap.size w5 w2) := Lib.hid ((HBBr.out.alloc hbbr _).grown hg2 (by simp; omega) (fun j e => (hrow.lt j e).1))
                  clear ho2 hg2
                  go_wp2
                  go_roundw
                  case rel => exact ⟨k + 1, by go_num, by omega, HO2, HBB2⟩
                  case measure => simp [intOf]; omega
                · have HO2 : Hid (HitsR w5.heap.size wr u8 (hitP (fun ws => occ ws pre) (P.take (k + 1)))) := Lib.hid (by
                    rw [HT.out, hitP_no (by simp only; rw [← HE.out]; exact hpos)]; exact HOr.out)
                  have hpi : ¬ (0 : Int) < (n : Int) := by omega
                  clear HOr
                  go_wp2
                  go_roundw
                  case rel => exact ⟨k + 1, by go_num, by omega, HO2, HBBr⟩
                  case measure => simp [intOf]; omega
          · have HO9 : Hid (HitsR w.heap.size wr u8 R) := Lib.hid (by
              have := HO.out
              rw [List.take_of_length_le (by omega)] at this
              rw [HRW.out]; exact row_mono this HB5.out.size)
            clear HO
            go_wp2
            go_ret
            exact ⟨_, rfl, HO9.out, HB.out⟩

set_option maxRecDepth 100000 in
theorem refFind_any {T : Nat → Prop} {y : Nat} {D : List Dc} (w : World) (h : RefAt T w y D) (hA : Asc D) (hI : Ids D) (s : List UInt8) (hs : s.length ≤ 1000000) :
    Calls Tryz.prog 29 #[.pointer (some ⟨y, 0, none⟩), .string ⟨s.toArray⟩] w fun e w' => ∃ v, e = .returned v ∧ HitsR w.heap.size w' v (docsQ D s) ∧ Below w.heap.size w w' := by
  have hb1 : Below w.heap.size w (w.alloc (.cells #[.string ⟨s.toArray⟩] 9)) := (Below.refl _ w).alloc (Nat.le_refl _) _
  have hst := strsAt_new w [s] (by simp)
  have hph := refPhrase_any _ (h.below hb1) hA hI _ [s] hst (by simp) (fun x hx => by rw [List.mem_singleton.1 hx]; exact hs)
  rw [phraseQ_one] at hph
  have HPH := Lib.hid hph; have HB1 := Lib.hid hb1
  clear h hb1 hst hph
  go_enter Tryz.func29, Tryz.ntmps29
  go_wp2_with fail
  refine HPH.out.mono ?_
  rintro e w2 ⟨v, rfl, hr, hb2⟩
  have HR := Lib.hid (row_mono hr HB1.out.size); have HB2 := Lib.hid (bthen HB1.out hb2)
  clear hr hb2 HPH
  go_wp2
  go_ret
  exact ⟨_, rfl, HR.out, HB2.out⟩
end Go.Proofs.YtmfnhfkgkdibfaaGreat

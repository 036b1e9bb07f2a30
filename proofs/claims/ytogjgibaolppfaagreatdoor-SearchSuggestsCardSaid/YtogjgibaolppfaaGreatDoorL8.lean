/- The walk of one law of the sender. Conditions: those that each theorem names. -/
import Derived.Test.YtogjgibaolppfaaGreatDoorK29
import Derived.Test.YtogjgibaolppfaaGreatDoorK30
import Derived.Deep.QuietTactic
import Derived.BigQuiet
/- The law SearchSuggests, walked. -/
namespace Go.Proofs.YtogjgibaolppfaaGreatDoor
open Go.RowKit Go.Sort Go.Proofs Go.Maps Go.Lib

theorem extract_take (q : List UInt8) (k : Nat) : (⟨q.toArray⟩ : ByteArray).extract 0 k = ⟨(q.take k).toArray⟩ := by
  apply ByteArray.ext
  simp [ByteArray.data_extract]
theorem IX.docs {W : World} {p : Nat} {D : List Dc} (h : IX W p D) (s : List UInt8) (hs : s.length ≤ 1000000) :
    Calls Tryz.prog 37 #[.pointer (some ⟨p, 0, none⟩), .string ⟨s.toArray⟩] W fun e w' => ∃ v, e = .returned v ∧ HitsR W.heap.size w' v (docsQ D s) ∧ Below W.heap.size W w' := by
  obtain ⟨S, Q, N, h1, h2⟩ := h
  exact docs_any W h1 h2 s hs
theorem IX.oks {W : World} {p : Nat} {D : List Dc} (h : IX W p D) : ∀ d ∈ D, ∀ x ∈ d.2, okWord x := by
  obtain ⟨S, Q, N, h1, h2⟩ := h
  exact h1.oks
theorem strsR_at {base : Nat} {W : World} {v : Value} {l : List (List UInt8)} (h : StrsR base W v l) : ∃ a c, v = .slice a l.length c ∧ l.length ≤ c ∧ c ≤ 9223372036854775807 ∧ ∀ k (hk : k < l.length), ∃ b, a = some ⟨b, 0, none⟩ ∧ W.cell? ⟨b, k, none⟩ = some (.string ⟨l[k].toArray⟩) := by
  rcases h.2 with ⟨rfl, h0⟩ | ⟨g, cap, cur, rfl, _, hg, hc, hm, _⟩
  · exact ⟨none, 0, by rw [h0], by omega, by omega, fun k hk => by omega⟩
  · refine ⟨some ⟨g, 0, none⟩, cap, rfl, hc, by unfold maxLen at hm; exact hm, fun k hk => ⟨g, rfl, ?_⟩⟩
    have := World.ownsRow.cells h (g := g) rfl k (encW l[k]) (by rw [List.getElem?_map, List.getElem?_eq_getElem hk]; rfl)
    have ha : (⟨g, 0, none⟩ : Addr).add k = ⟨g, k, none⟩ := by unfold Addr.add; by_cases h0 : k = 0 <;> simp [h0]
    rw [ha] at this
    exact this
set_option maxRecDepth 100000 in
set_option maxHeartbeats 8000000 in
theorem lawSug_any (v : Value) (ds : List Int) (u : Value) (xs : List Int) (n : Int) (hn : I64 n) (w : World) (hv : IntsL w v ds) (hu : IntsL w u xs) (hE : Env w) :
    Calls Tryz.prog 10 #[v, u, .int .i64 n] w fun e w' => e = .returned (.bool true) ∧ Below w.heap.size w w' := by
  have HS := Lib.hid (sane_any w hE)
  have HV := Lib.hid hv
  have HU := Lib.hid hu
  obtain ⟨av, cv, hve, -⟩ := hv
  subst hve
  obtain ⟨au, cu, hue, -⟩ := hu
  subst hue
  clear hE
  go_enter Tryz.func10, Tryz.ntmps10
  go_wp2_with (first
    | (go_at_call 12; (with_reducible (refine HS.out.mono ?_)); rintro e w1 ⟨rfl, hb⟩; have HB1 := Lib.hid hb; clear hb; have HMA := Lib.hid (made_law _ ds w1 (HV.out.below HB1.out)))
    | (go_at_call 19; (with_reducible (refine HMA.out.mono ?_)); rintro e w2 ⟨p, y, rfl, hI, hb⟩; have HI2 := Lib.hid hI; have HB2 := Lib.hid (bthen HB1.out hb); clear hI hb; have HOD := Lib.hid (odd_any _ xs w2 (HU.out.below HB2.out)))
    | (go_at_call 13; (with_reducible (refine HOD.out.mono ?_)); rintro e w3 ⟨t, rfl, htl, hb⟩)
    | fail)
  have HB3 := Lib.hid (bthen HB2.out hb)
  have HI3 := Lib.hid (HI2.out.below hb)
  clear hb HB1 HB2 HI2 HMA HOD HS HU HV
  obtain ⟨D, hD⟩ : ∃ D, mD ds (min ds.length 12) = D := ⟨_, rfl⟩
  rw [hD] at HI3
  have HST := Lib.hid (refStem_any t (by omega) w3)
  have hsl := stem_le t
  have hht := head_take t
  have hhs := head_stem t
  have hhl : (headF t).length + (stemF t).length = t.length := by rw [← List.length_append, hhs]
  have HSG := Lib.hid (HI3.out.sug t (by omega) n hn)
  have HEA : Hid (∀ s ∈ sugD D t n, ∃ x : Wd, s = headF t ++ x ∧ (stemF t).length ≤ x.length ∧ x.length ≤ 30 ∧ 0 < (docsQ D x).length) := Lib.hid (fun s hs => sug_each HI3.out.asc HI3.out.ids HI3.out.oks hs)
  have HND := Lib.hid (sug_nodup D t n)
  have hsln := sug_len D t n
  have HNO : Hid ((stemF t = [] ∨ 30 < (stemF t).length) → sugD D t n = []) := Lib.hid (fun h => sug_none h)
  have hx1 := extract_take t (t.length - (stemF t).length)
  rw [hht.1] at hx1
  have HNL := Lib.hid (fun W => sug_nil W t (by omega) n)
  obtain ⟨st, hst⟩ : ∃ s, stemF t = s := ⟨_, rfl⟩
  obtain ⟨hd, hhd⟩ : ∃ s, headF t = s := ⟨_, rfl⟩
  obtain ⟨L, hL⟩ : ∃ l, sugD D t n = l := ⟨_, rfl⟩
  rw [hst] at HST HEA HNO hx1 hhl
  rw [hhd] at HEA hx1 hhl
  rw [hL] at HSG HEA HND hsln HNO
  rw [show t.length - st.length = hd.length by omega] at hx1
  have hsub : (t.length : Int) - (st.length : Int) = (hd.length : Int) := by omega
  have hm : decide ((L.length : Int) ≤ max 0 n) = true := decide_eq_true (by omega)
  have hh0 : (0 : Int) ≤ (hd.length : Int) := by omega
  have hh1 : (hd.length : Int) ≤ (t.length : Int) := by omega
  clear hst hhd hL hht hhs hsl hD
  go_upto_region 7 with (first
    | (go_at_call 36; (with_reducible (refine HST.out.mono ?_)); rintro e wx ⟨rfl, rfl⟩)
    | (go_at_call 25; (with_reducible (refine HSG.out.mono ?_)); rintro e w4 ⟨vs, rfl, hs, hb⟩; have HB4 := Lib.hid (bthen HB3.out hb); have HI4 := Lib.hid (HI3.out.below hb); have HSL := Lib.hid hs; obtain ⟨asl, csl, hvs⟩ := row_form hs; subst hvs; clear hs hb)
    | fail)
  go_cut [7] (fun v wx => v = .bool true ∧ w4 = wx)
  case first =>
    by_cases hc1 : st = []
    · have hL0 := HNO.out (.inl hc1)
      subst hc1
      subst hL0
      go_wp2_with fail
      go_meet
      exact ⟨rfl, rfl⟩
    · by_cases hc2 : 30 < st.length
      · have hL0 := HNO.out (.inr hc2)
        subst hL0
        have g2 : decide ((st.length : Int) ≤ 30) = false := decide_eq_false (by omega)
        have g2' : decide (st.length ≤ 30) = false := decide_eq_false (by omega)
        go_wp2_with fail
        go_meet
        exact ⟨rfl, rfl⟩
      · have g2 : decide ((st.length : Int) ≤ 30) = true := decide_eq_true (by omega)
        have g2' : decide (st.length ≤ 30) = true := decide_eq_true (by omega)
        go_wp2_with fail
        go_meet
        exact ⟨rfl, rfl⟩
  case rest =>
    obtain ⟨rfl, rfl⟩ := hcut
    go_wp2_with fail
    clear HST HSG HNO hsub hm hx1
    go_loopw [7, 14] (fun v7 v14 wr => ∃ k : Nat, v14 = .int .i64 k ∧ k ≤ L.length ∧ v7 = .bool true ∧ Hid (Below w4.heap.size w4 wr)) (fun _ v14 _ => L.length - (intOf v14).toNat)
    case atStart => exact ⟨0, rfl, Nat.zero_le _, rfl, Lib.hid (Below.refl _ _)⟩
    case round =>
      obtain ⟨k, rfl, hk, rfl, HB⟩ := hrel
      by_cases hkl : k < L.length
      · have hki : (k : Int) < (L.length : Int) := by omega
        obtain ⟨a1, c1, e1, hle1, hmx1, hc⟩ := strsR_at HSL.out
        have hLm : L.length ≤ 9223372036854775807 := Nat.le_trans hle1 hmx1
        clear hle1 hmx1
        injection e1 with e11 _ e13
        subst e11; subst e13
        obtain ⟨bl, rfl, ck⟩ := hc k hkl
        have ckr := (HB.out.cell (World.block_lt_of_cell? w4 _ ck)).trans ck
        have HC := Lib.hid hc
        obtain ⟨x, hx, hx1, hx2, hx3⟩ := HEA.out _ (List.getElem_mem hkl)
        have HNJ : Hid (∀ j (hj : j < k), L[j]'(by omega) ≠ L[k]) := Lib.hid (fun j hj => List.pairwise_iff_getElem.1 HND.out j k (by omega) hkl hj)
        obtain ⟨s, hs⟩ : ∃ s, L[k] = s := ⟨_, rfl⟩
        have hsl : s.length = hd.length + x.length := by rw [← hs, hx, List.length_append]
        have hxa : (⟨s.toArray⟩ : ByteArray).extract 0 hd.length = ⟨hd.toArray⟩ := by
          rw [extract_take, ← hs, hx, List.take_left]
        have hxb : (⟨s.toArray⟩ : ByteArray).extract hd.length s.length = ⟨x.toArray⟩ := by
          rw [extract_drop, ← hs, hx, List.drop_left]
        rw [hs] at ckr
        have HCK := Lib.hid ck
        have g1 : decide ((s.length : Int) < (t.length : Int)) = false := decide_eq_false (by omega)
        have g1' : decide (s.length < t.length) = false := decide_eq_false (by omega)
        have hds : (hd.length : Int) ≤ (s.length : Int) := by omega
        have HDC := Lib.hid ((HI4.out.below HB.out).docs x (by omega))
        obtain ⟨L2, hL2⟩ : ∃ l, docsQ D x = l := ⟨_, rfl⟩
        rw [hL2] at HDC hx3
        have HS := Lib.hid hs
        have hs900 : s.length ≤ 900 := by omega
        clear hc ck hs hx hL2 hsl
        go_wp2_with (first
          | (go_at_call 37; (with_reducible (refine HDC.out.mono ?_)); rintro e w5 ⟨vd, rfl, hdd, hb⟩; obtain ⟨ad, cd, hvd⟩ := row_form hdd; subst hvd; have HB5 := Lib.hid (bthen HB.out hb); clear hdd hb)
          | fail)
        have hz5 := HB5.out.size
        go_loopw [7, 16] (fun v7 v16 wi => ∃ j : Nat, v16 = .int .i64 j ∧ j ≤ k ∧ v7 = .bool true ∧ ∃ m, wi = w5.drewN m) (fun _ v16 _ => k - (intOf v16).toNat)
        case atStart => exact ⟨0, rfl, Nat.zero_le _, rfl, 0, rfl⟩
        case round =>
          obtain ⟨j, rfl, hj, rfl, mm, rfl⟩ := hrel
          by_cases hjk : j < k
          · have hjki : (j : Int) < (k : Int) := by omega
            have hjli : (j : Int) < (L.length : Int) := by omega
            have hj0 : (0 : Int) ≤ (j : Int) := by omega
            have hk0 : (0 : Int) ≤ (k : Int) := by omega
            have hne := HNJ.out j hjk
            obtain ⟨b', e', cj⟩ := HC.out j (by omega)
            injection e' with e'
            injection e' with e1 _
            subst e1
            have cj5 := (HB5.out.cell (World.block_lt_of_cell? w4 _ cj)).trans cj
            have ck5 := (HB5.out.cell (World.block_lt_of_cell? w4 _ HCK.out)).trans HCK.out
            obtain ⟨s1, hs1⟩ : ∃ s, L[j]'(by omega) = s := ⟨_, rfl⟩
            obtain ⟨s2, hs2⟩ : ∃ s, L[k] = s := ⟨_, rfl⟩
            rw [hs1] at cj5 hne
            rw [hs2] at ck5 hne
            have hnb' : ¬ ((⟨s1.toArray⟩ : ByteArray) = ⟨s2.toArray⟩) := by
              intro e
              apply hne
              have := congrArg (fun b : ByteArray => b.data.toList) e
              simpa using this
            clear cj hs1 hs2 HNL
            go_upto_region 17 with fail
            go_quiet (fail)
            go_wp2_with fail
            have hnb : (s1 == s2) = false := beq_eq_false_iff_ne.2 hne
            go_roundw
            case rel => exact ⟨j + 1, by go_num, by omega, by rw [hnb]; rfl, _, rfl⟩
            case measure => simp [intOf]; omega
          · obtain rfl : j = k := by omega
            go_wp2_with fail
            go_roundw
            case rel => exact ⟨j + 1, by go_num, by omega, rfl, Lib.hid (HB5.out.drewN _)⟩
            case measure => simp [intOf]; omega
      · obtain rfl : k = L.length := by omega
        have HNW := Lib.hid (HNL.out wr)
        go_wp2_with (first
          | (go_at_call 25; (with_reducible (refine HNW.out.mono ?_)); rintro e w6 ⟨rfl, hb⟩; have HB6 := Lib.hid (bthen HB4.out (bthen HB.out hb)); clear hb)
          | fail)
        go_ret
        exact ⟨rfl, HB6.out⟩
end Go.Proofs.YtogjgibaolppfaaGreatDoor

/- Facts and contracts for the laws of the sender, part 29. Conditions: those that each theorem names. -/
import Derived.Test.YtogjgibaolppfaaGreatDoorK26
import Derived.Test.YtogjgibaolppfaaGreatDoorK04
import Derived.Test.YtogjgibaolppfaaGreatDoorK27
import Derived.Test.YtogjgibaolppfaaGreatDoorK22
import Derived.Test.YtogjgibaolppfaaGreatDoorK18
import Derived.Test.YtogjgibaolppfaaGreatDoorK13
import Derived.Test.YtogjgibaolppfaaGreatDoorK28
import Derived.Test.YtogjgibaolppfaaGreatDoorK23
import Derived.Test.YtogjgibaolppfaaGreatDoorK19
import Derived.IntWalk
import Derived.Laws.AppendOwn
import Derived.Deep.DeepCutAuto
import Derived.Deep.CutBlock
import Derived.Deep.RegionHeld3
import Derived.Deep.QuietTactic
import Derived.BigQuiet
import Derived.Test.YtogjgibaolppfaaGreatDoorCards
import Derived.Test.YtogjgibaolppfaaGreatDoorTie
import Derived.Deep.DeepHandedRow
import Derived.Deep.DeepWitnessRowRef
import Derived.Lib.LaidCase
import Derived.PinnedBridge
import Derived.Lay
import Derived.LaidLaws
import Derived.WalkKit
import Derived.ProofKit
import Derived.OpenShut
import Derived.ShutString
import Derived.JoinedCond
import Derived.Deep.Slices
import Derived.ChangeSlices
/- Plain: what SearchSuggests and SearchTop ask. -/
namespace Go.Proofs.YtogjgibaolppfaaGreatDoor

theorem word_self {x : Wd} (h : okWord x) : wordOf x = some x := by
  unfold wordOf
  rw [words_isWd (isWd_ok h), low_word h]
theorem stem_word {q : List UInt8} (h0 : stemF q ≠ []) (h1 : ¬ 30 < (stemF q).length) {y : Wd} (h : prefW (stemF q) = some y) : y = lowW (stemF q) := by
  unfold prefW at h
  rw [if_neg h0] at h
  have hw : isWd (stemF q) = true := isWd_of (stem_parts q) (List.length_pos_iff.2 h0) (by omega)
  unfold wordOf at h
  rw [words_isWd hw] at h
  exact (Option.some.inj h).symm
theorem sug_none {D : List Dc} {q : List UInt8} {n : Int} (h : stemF q = [] ∨ 30 < (stemF q).length) : sugD D q n = [] := by
  unfold sugD
  rw [if_pos h]
theorem sug_some {D : List Dc} {q : List UInt8} {n : Int} (h : ¬ (stemF q = [] ∨ 30 < (stemF q).length)) : sugD D q n = (termsQ D (stemF q) n).map fun t => headF q ++ t.1 := by
  unfold sugD
  rw [if_neg h]
theorem termsQ_take (D : List Dc) (s : List UInt8) (n : Int) : (termsQ D s n).length ≤ n.toNat := by
  unfold termsQ
  cases prefW s with
  | none => simp
  | some y =>
    simp only
    rw [List.length_take]
    exact Nat.min_le_left _ _
theorem sug_len (D : List Dc) (q : List UInt8) (n : Int) : (sugD D q n).length ≤ n.toNat := by
  by_cases h : stemF q = [] ∨ 30 < (stemF q).length
  · rw [sug_none h]; simp
  · rw [sug_some h, List.length_map]; exact termsQ_take _ _ _
theorem sug_each {D : List Dc} (hA : Asc D) (hI : Ids D) (ho : ∀ d ∈ D, ∀ x ∈ d.2, okWord x) {q : List UInt8} {n : Int} {s : List UInt8} (hs : s ∈ sugD D q n) :
    ∃ x : Wd, s = headF q ++ x ∧ (stemF q).length ≤ x.length ∧ x.length ≤ 30 ∧ 0 < (docsQ D x).length := by
  by_cases h : stemF q = [] ∨ 30 < (stemF q).length
  · rw [sug_none h] at hs; cases hs
  · rw [sug_some h] at hs
    obtain ⟨t, ht, rfl⟩ := List.mem_map.1 hs
    obtain ⟨y, h1, h2, h3⟩ := termsQ_mem ht
    have hy := stem_word (fun e => h (.inl e)) (fun e => h (.inr e)) h1
    have hyl : y.length = (stemF q).length := by rw [hy]; simp [lowW]
    have hp := (List.isPrefixOf_iff_prefix.1 h3).length_le
    obtain ⟨d, hd, hx⟩ := mem_vocab.1 h2
    have hok := ho d hd _ hx
    refine ⟨t.1, rfl, by omega, hok.2.1, ?_⟩
    unfold docsQ
    rw [word_self hok]
    show 0 < (phraseD D [t.1]).length
    rw [docs_len hA hI]
    unfold dn
    exact List.countP_pos_iff.2 ⟨d, hd, decide_eq_true hx⟩
theorem sug_nodup (D : List Dc) (q : List UInt8) (n : Int) : (sugD D q n).Nodup := by
  by_cases h : stemF q = [] ∨ 30 < (stemF q).length
  · rw [sug_none h]; exact List.nodup_nil
  · rw [sug_some h]
    unfold termsQ
    cases prefW (stemF q) with
    | none => exact List.nodup_nil
    | some y =>
      simp only
      unfold List.Nodup
      rw [List.pairwise_map]
      refine List.Pairwise.sublist (List.take_sublist _ _) ?_
      refine List.Pairwise.imp_of_mem ?_ (termsD_asc D y)
      intro a b ha hb hab e
      have h1 : a.1 = b.1 := List.append_cancel_left e
      have h2 := (mem_termsD.1 ha).2.2
      have h3 := (mem_termsD.1 hb).2.2
      have h4 : a = b := Prod.ext h1 (by rw [h2, h3, h1])
      rw [h4] at hab
      exact tlt_irrefl _ hab
/-- neighbours in the order of the hits -/
theorem res_near {D : List Dc} (hA : Asc D) (l : List Prt) {j : Nat} (h : j + 1 < (resD D l).length) : HLt (resD D l)[j] (resD D l)[j + 1] :=
  List.pairwise_iff_getElem.1 (resD_asc hA l) j (j + 1) (by omega) h (by omega)
end Go.Proofs.YtogjgibaolppfaaGreatDoor
/- the law's Source. -/
namespace Go.Proofs.YtogjgibaolppfaaGreatDoor
open Go.RowKit Go.Lib Go.Proofs

theorem deco_one {c d : UInt8} (h : c ≠ 32) (h1 : isPart d = isPart c) (h2 : low d = low c) (h3 : isPart c = false → d = c) : Deco [c] [d] := .char h h1 h2 h3 .nil
theorem deco_blank (b : Bool) : Deco [32] (if b then [32] ++ [32] else [32]) := by
  cases b
  · exact .one .nil
  · exact .two .nil
/-- a small letter and its capital -/
theorem up_low {c d : UInt8} (h : 97 ≤ c.toNat ∧ c.toNat ≤ 122) (hd : d.toNat = c.toNat - 32) : isPart d = isPart c ∧ low d = low c := by
  have h1 : isPart c = true := isPart_of (.inl h)
  have h2 : isPart d = true := isPart_of (.inr (.inl (by omega)))
  refine ⟨by rw [h1, h2], ?_⟩
  apply UInt8.toNat_inj.1
  unfold low
  rw [if_pos (by first | omega | (simp [UInt8.le_iff_toNat_le]; omega)), if_neg (by first | omega | (simp [UInt8.le_iff_toNat_le]; omega))]
  rw [UInt8.toNat_add]
  have h32 : (32 : UInt8).toNat = 32 := rfl
  omega
set_option maxRecDepth 100000 in
set_option maxHeartbeats 4000000 in
theorem source_any (v : Value) (l : List Prt) (n : Int) (hn : I64 n) (w : World) (h : PartsAt w v l) (hok : ∀ p ∈ l, okPrt p) (h8 : l.length ≤ 8) :
    Calls Tryz.prog 14 #[v, .int .i64 n] w fun e w' => ∃ t, Deco (formL l) t ∧ e = .returned (.string ⟨t.toArray⟩) ∧ Below w.heap.size w w' := by
  have HFO := Lib.hid (refForm_any v l w h hok h8)
  have hfl := formL_le hok h8
  obtain ⟨F, hF⟩ : ∃ F, formL l = F := ⟨_, rfl⟩
  rw [hF] at HFO hfl ⊢
  have HP : Hid (∀ W, Calls Tryz.prog 31 #[.int .i64 n, .int .i64 1073741824] W fun e w' => e = .returned (.int .i64 ((pickN n 1073741824 : Nat) : Int)) ∧ W = w') := Lib.hid (fun W => pick_any n hn 1073741824 (by decide) (by decide) W)
  have hpl := pickN_lt (c := n) (n := 1073741824) (by decide)
  obtain ⟨m, hm⟩ : ∃ m, pickN n 1073741824 = m := ⟨_, rfl⟩
  rw [hm] at HP hpl
  clear hF h hok h8 hm hn
  go_enter Tryz.func14, Tryz.ntmps14
  go_wp2_with (first
    | (go_at_call 32; (with_reducible (refine HFO.out.mono ?_)); rintro e wx ⟨rfl, rfl⟩)
    | fail)
  go_loopw [6, 7] (fun v6 v7 wr => ∃ (k : Nat) (t : List UInt8), v7 = .int .i64 k ∧ k ≤ F.length ∧ v6 = .string ⟨t.toArray⟩ ∧ t.length ≤ 2 * k ∧ Hid (Deco (F.take k) t) ∧ Hid (Below w.heap.size w wr)) (fun _ v7 _ => F.length - (intOf v7).toNat)
  case atStart => exact ⟨0, [], rfl, Nat.zero_le _, rfl, by simp, Lib.hid .nil, Lib.hid (Below.refl _ _)⟩
  case round =>
    obtain ⟨k, t, rfl, hk, rfl, htl, HD, HB⟩ := hrel
    by_cases hkl : k < F.length
    · have hki : (k : Int) < (F.length : Int) := by omega
      have HTK : Hid (F.take (k + 1) = F.take k ++ [F[k]]) := Lib.hid (List.take_succ_eq_append_getElem hkl)
      obtain ⟨c, hc⟩ : ∃ c, (⟨F.toArray⟩ : ByteArray)[k]'(by show k < F.toArray.size; simp; omega) = c := ⟨_, rfl⟩
      have hc2 : F[k] = c := hc
      rw [hc2] at HTK
      have hk0 : (0 : Int) ≤ (k : Int) := by omega
      go_upto_region 7 with fail
      have hmod20 : 0 ≤ (k : Int).tmod 20 ∧ (k : Int).tmod 20 < 20 := by rw [Int.tmod_eq_emod_of_nonneg hk0]; omega
      have hmod7 : 0 ≤ (k : Int).tmod 7 ∧ (k : Int).tmod 7 < 7 := by rw [Int.tmod_eq_emod_of_nonneg hk0]; omega
      clear hc hc2
      have hc256 := c.toNat_lt
      go_cut [34] (fun v wx => wr = wx ∧ ∃ b : Bool, v = .bool b ∧ (b = true → 97 ≤ c.toNat ∧ c.toNat ≤ 122))
      case first =>
        by_cases h1 : 97 ≤ c.toNat ∧ c.toNat ≤ 122
        · have e1 : decide ((97 : Int) ≤ (c.toNat : Int)) = true := decide_eq_true (by omega)
          have e1' : decide (97 ≤ c.toNat) = true := decide_eq_true h1.1
          have e2 : decide ((c.toNat : Int) ≤ 122) = true := decide_eq_true (by omega)
          have e2' : decide (c.toNat ≤ 122) = true := decide_eq_true h1.2
          go_wp2_with (first
            | (go_at_call 31; (with_reducible (refine (HP.out _).mono ?_)); rintro e wx ⟨rfl, rfl⟩)
            | fail)
          go_meet
          exact ⟨rfl, _, rfl, fun _ => h1⟩
        · by_cases h2 : 97 ≤ c.toNat
          · have e1 : decide ((97 : Int) ≤ (c.toNat : Int)) = true := decide_eq_true (by omega)
            have e1' : decide (97 ≤ c.toNat) = true := decide_eq_true h2
            have e2 : decide ((c.toNat : Int) ≤ 122) = false := decide_eq_false (by omega)
            have e2' : decide (c.toNat ≤ 122) = false := decide_eq_false (by omega)
            clear h1 h2
            go_wp2_with fail
            go_meet
            exact ⟨rfl, false, rfl, fun h => by cases h⟩
          · have e1 : decide ((97 : Int) ≤ (c.toNat : Int)) = false := decide_eq_false (by omega)
            have e1' : decide (97 ≤ c.toNat) = false := decide_eq_false h2
            clear h1 h2
            go_wp2_with fail
            go_meet
            exact ⟨rfl, false, rfl, fun h => by cases h⟩
      case rest =>
        obtain ⟨rfl, b, rfl, hb⟩ := hcut
        go_upto_if 34 with fail
        go_cut [8] (fun v wx => wr = wx ∧ ∃ d : UInt8, v = .int .u8 (d.toNat : Int) ∧ Hid (isPart d = isPart c ∧ low d = low c ∧ (isPart c = false → d = c)))
        case first =>
          cases b
          · go_wp2_with fail
            go_meet
            exact ⟨rfl, c, rfl, Lib.hid ⟨rfl, rfl, fun _ => rfl⟩⟩
          · have hl := hb rfl
            have hw1 : IntKind.u8.wrap ((c.toNat : Int) - 97) = (c.toNat : Int) - 97 := IntWalk.u8_in _ (by omega)
            have hw2 : IntKind.u8.wrap ((c.toNat : Int) - 97 + 65) = (c.toNat : Int) - 97 + 65 := IntWalk.u8_in _ (by omega)
            have hdn : (UInt8.ofNat (c.toNat - 32)).toNat = c.toNat - 32 := by simp; omega
            have hup := up_low (d := UInt8.ofNat (c.toNat - 32)) hl hdn
            have hpc : isPart c = true := isPart_of (.inl hl)
            clear hb
            go_wp2_with fail
            go_meet
            exact ⟨rfl, UInt8.ofNat (c.toNat - 32), by rw [hdn]; congr 1; omega, Lib.hid ⟨hup.1, hup.2, fun h => by rw [hpc] at h; cases h⟩⟩
        case rest =>
          obtain ⟨rfl, d, rfl, HDC⟩ := hcut
          have hd256 := d.toNat_lt
          go_upto_region 9 with fail
          go_cut [48] (fun v wx => wr = wx ∧ ∃ b : Bool, v = .bool b ∧ (b = true → d = 32))
          case first =>
            by_cases h1 : d = 32
            · have e1 : ((d.toNat : Int) == 32) = true := by rw [h1]; rfl
              have H1 := Lib.hid h1
              clear h1
              go_wp2_with (first
                | (go_at_call 31; (with_reducible (refine (HP.out _).mono ?_)); rintro e wx ⟨rfl, rfl⟩)
                | fail)
              go_meet
              exact ⟨rfl, _, rfl, fun _ => H1.out⟩
            · have e1 : ((d.toNat : Int) == 32) = false := by
                rw [beq_eq_false_iff_ne]; intro h; apply h1; apply UInt8.toNat_inj.1
                have : d.toNat = 32 := by omega
                rw [this]; rfl
              go_wp2_with fail
              go_meet
              exact ⟨rfl, false, rfl, fun h => by cases h⟩
          case rest =>
            obtain ⟨rfl, b2, rfl, hb2⟩ := hcut
            have HB2 := Lib.hid hb2
            clear hb2 hb
            go_upto_if 48 with fail
            go_cut [6] (fun v wx => wr = wx ∧ v = .string ⟨(if b2 = true then t ++ [32] else t).toArray⟩)
            case first =>
              cases b2
              · go_wp2_with fail
                go_meet
                exact ⟨rfl, rfl⟩
              · have q1 := run_cat t [32] (by simp; omega)
                go_wp2_with fail
                go_meet
                exact ⟨rfl, rfl⟩
            case rest =>
              obtain ⟨rfl, rfl⟩ := hcut
              have HDN : Hid (Deco (F.take (k + 1)) ((if b2 = true then t ++ [32] else t) ++ [d])) := Lib.hid (by
                rw [HTK.out]
                obtain ⟨p1, p2, p3⟩ := HDC.out
                by_cases hc32 : c = 32
                · subst hc32
                  obtain rfl := p3 (by decide +kernel)
                  cases b2
                  · exact HD.out.append (.one .nil)
                  · have := HD.out.append (show Deco [32] ([32] ++ [32]) from .two .nil)
                    simpa using this
                · have hb3 : b2 = false := by
                    cases b2 with
                    | false => rfl
                    | true =>
                      have h9 := HB2.out rfl
                      subst h9
                      exact absurd (p3 (by rw [← p1]; decide +kernel)).symm hc32
                  rw [hb3]
                  exact HD.out.append (deco_one hc32 p1 p2 p3))
              have htl2 : (if b2 = true then t ++ [32] else t).length ≤ 2 * k + 1 := by split <;> (try simp) <;> omega
              obtain ⟨t2, ht2⟩ : ∃ t2, (if b2 = true then t ++ [32] else t) = t2 := ⟨_, rfl⟩
              rw [ht2] at HDN htl2 ⊢
              clear ht2 HD
              have q1 := run_cat t2 [d] (by simp; omega)
              have hconv : (convert 70 9 (.slice (some ⟨wr.heap.size, 0, none⟩) 1 1)).run Tryz.prog (wr.alloc (.cells #[.int .u8 (d.toNat : Int)] 5)) = .ok (.string ⟨[d].toArray⟩) (wr.alloc (.cells #[.int .u8 (d.toNat : Int)] 5)) :=
                run_convert_bytes_back _ 70 9 5 ⟨wr.heap.size, 0, none⟩ 1 [d] Tryz.underlying70 Tryz.underlying5 Tryz.underlying9 (fun j hj => by
                  have hj0 : j = 0 := by simp at hj; omega
                  subst hj0
                  simp [Addr.add])
              have HB5 : Hid (Below w.heap.size w (wr.alloc (.cells #[.int .u8 (d.toNat : Int)] 5))) := Lib.hid (HB.out.alloc HB.out.size _)
              go_wp2_with fail
              go_roundw
              case rel => exact ⟨k + 1, t2 ++ [d], by go_num, by omega, rfl, by rw [List.length_append]; simp; omega, HDN, HB5⟩
              case measure => simp [intOf]; omega
    · obtain rfl : k = F.length := by omega
      have hd := HD.out
      rw [List.take_length] at hd
      have HDD := Lib.hid hd
      clear HD hd
      go_wp2_with fail
      go_ret
      exact ⟨t, HDD.out, rfl, HB.out⟩
end Go.Proofs.YtogjgibaolppfaaGreatDoor
/- Rows of parts: appended, cut. -/
namespace Go.Proofs.YtogjgibaolppfaaGreatDoor
open Go.RowKit Go.Sort Go.Proofs Go.Maps

theorem prtC_drop : ∀ (P : List Pv) (k : Nat), (P.drop k).flatMap prtC = (P.flatMap prtC).drop (k * 3)
  | P, 0 => by simp
  | [], k + 1 => by simp
  | x :: P, k + 1 => by
    rw [List.drop_succ_cons, prtC_drop P k, List.flatMap_cons]
    show _ = (prtC x ++ _).drop ((k + 1) * 3)
    rw [show (k + 1) * 3 = (prtC x).length + k * 3 by simp [prtC]; omega, List.drop_append]
    simp
theorem prtC_take : ∀ (P : List Pv) (k : Nat), (P.take k).flatMap prtC = (P.flatMap prtC).take (k * 3)
  | P, 0 => by simp
  | [], k + 1 => by simp
  | x :: P, k + 1 => by
    rw [List.take_succ_cons, List.flatMap_cons, prtC_take P k, List.flatMap_cons]
    show _ = (prtC x ++ _).take ((k + 1) * 3)
    rw [show (k + 1) * 3 = (prtC x).length + k * 3 by simp [prtC]; omega, List.take_append, List.take_of_length_le (l := prtC x) (by omega), Nat.add_sub_cancel_left]
/-- behind an append of several parts -/
theorem PartsR.cat {base : Nat} {W w2 : World} {v v' : Value} {P Q : List Pv} (h : PartsR base W v P) (hx : ∀ x ∈ Q, WordsO W x.2 x.1.words) (ho : w2.ownsRow base 53 3 v' (P.length + Q.length) (P.flatMap prtC ++ Q.flatMap prtC)) (hg : W.grownBy w2 v.ownBlock) : PartsR base w2 v' (P ++ Q) := by
  refine ⟨by rw [List.length_append, List.flatMap_append]; exact ho, fun y hy => ?_⟩
  rcases List.mem_append.1 hy with hy | hy
  · exact row_grown (h.2 y hy) h.1 part_ne_str hg
  · exact row_grown (hx y hy) h.1 part_ne_str hg
/-- the block behind a row of parts -/
theorem PartsR.some {base : Nat} {W : World} {v : Value} {P : List Pv} (h : PartsR base W v P) (h0 : 0 < P.length) : ∃ g c, v = .slice (.some ⟨g, 0, none⟩) P.length c ∧ P.length ≤ c ∧ c ≤ 9223372036854775807 := by
  rcases h.1.2 with ⟨_, h1⟩ | ⟨g, cap, cur, hv, _, _, hn, hm, _⟩
  · omega
  · exact ⟨g, cap, hv, hn, by unfold maxLen at hm; exact hm⟩
/-- the cells of a row of parts, from the part k on -/
theorem PartsR.news {base : Nat} {W : World} {g n c : Nat} {P : List Pv} (h : PartsR base W (.slice (.some ⟨g, 0, none⟩) n c) P) (k : Nat) : ∀ j u, ((P.drop k).flatMap prtC)[j]? = .some u → W.cell? ((⟨g, k * 3, none⟩ : Addr).add j) = .some u := by
  intro j u hu
  rw [prtC_drop, List.getElem?_drop] at hu
  have := h.1.cells (g := g) rfl _ _ hu
  have e : (⟨g, k * 3, none⟩ : Addr).add j = (⟨g, 0, none⟩ : Addr).add (k * 3 + j) := by
    unfold Addr.add
    by_cases hj : j = 0
    · by_cases hk : k * 3 = 0
      · simp [hj, hk]
      · simp [hj, hk]
    · by_cases hk : k * 3 = 0
      · simp [hj, hk]
      · simp [hj]
  rw [e]
  exact this
theorem PartsR.news_take {base : Nat} {W : World} {g n c : Nat} {P : List Pv} (h : PartsR base W (.slice (.some ⟨g, 0, none⟩) n c) P) (k : Nat) : ∀ j u, ((P.take k).flatMap prtC)[j]? = .some u → W.cell? ((⟨g, 0, none⟩ : Addr).add j) = .some u := by
  intro j u hu
  rw [prtC_take, List.getElem?_take] at hu
  split at hu
  · exact h.1.cells (g := g) rfl _ _ hu
  · cases hu
/-- the cells of parts whose words lie in memory are single cells -/
theorem parts_one {W : World} {P : List Pv} (h : ∀ x ∈ P, WordsO W x.2 x.1.words) : ∀ u ∈ P.flatMap prtC, u.oneCell' = true := by
  intro u hu
  obtain ⟨x, hx, hu⟩ := List.mem_flatMap.1 hu
  obtain ⟨a, c, hv⟩ := (h x hx).form
  simp only [prtC, List.mem_cons, List.not_mem_nil, or_false] at hu
  rcases hu with rfl | rfl | rfl
  · rfl
  · rw [hv]; rfl
  · rfl
end Go.Proofs.YtogjgibaolppfaaGreatDoor
/- What the laws see of made and Parts. -/
namespace Go.Proofs.YtogjgibaolppfaaGreatDoor
open Go.RowKit Go.Sort Go.Proofs Go.Maps Go.Lib

theorem made_law (v : Value) (x : List Int) (w : World) (hv : IntsL w v x) :
    Calls Tryz.prog 19 #[v] w fun e w' => ∃ p y, e = .returned (.tuple #[.pointer (some ⟨p, 0, none⟩), .pointer (some ⟨y, 0, none⟩)]) ∧ IX w' p (mD x (min x.length 12)) ∧ Below w.heap.size w w' := by
  refine (made_any v x w hv).mono ?_
  rintro e w' ⟨p, y, rfl, h⟩
  exact ⟨p, y, rfl, h.ix (by omega), h.base⟩
/-- parts that the law drew -/
structure LP (l : List Prt) : Prop where
  voc : ∀ p ∈ l, VocP p
  pos : 1 ≤ l.length
  six : l.length ≤ 6
theorem LP.ok {l : List Prt} (h : LP l) : ∀ p ∈ l, okPrt p := fun p hp => (h.voc p hp).ok
theorem LP.eight {l : List Prt} (h : LP l) : l.length ≤ 8 := Nat.le_trans h.six (by omega)
theorem LP.len {l : List Prt} (h : LP l) : (formL l).length ≤ 224 := form_len h.voc h.eight
theorem LP.parse {l : List Prt} (h : LP l) : parseP (formL l) = some l := parse_voc h.voc h.pos h.eight
theorem LP.few {l : List Prt} (h : LP l) : ∀ p ∈ l, p.words.length ≤ 1000 := fun p hp => by have := (h.voc p hp).few; omega
theorem parts_law (v : Value) (x : List Int) (w : World) (hv : IntsL w v x) :
    Calls Tryz.prog 15 #[v] w fun e w' => ∃ (g c : Nat) (P : List Pv), e = .returned (.slice (some ⟨g, 0, none⟩) P.length c) ∧ PartsR w.heap.size w' (.slice (some ⟨g, 0, none⟩) P.length c) P ∧ LP (P.map (·.1)) ∧ Below w.heap.size w w' := by
  refine (lawParts_any v x w hv).mono ?_
  rintro e w' ⟨u, P, rfl, hP, hPv, hP1, hP6, hb⟩
  obtain ⟨g, c, hu, -, -⟩ := hP.some (by omega)
  subst hu
  refine ⟨g, c, P, rfl, hP, ⟨fun p hp => ?_, by rw [List.length_map]; exact hP1, by rw [List.length_map]; exact hP6⟩, hb⟩
  obtain ⟨y, hy, rfl⟩ := List.mem_map.1 hp
  exact hPv y hy
/-- Run of the printed form -/
theorem IX.runF {W : World} {p : Nat} {D : List Dc} (h : IX W p D) (hE : Env W) {l : List Prt} (hl : parseP (formL l) = some l) (hf : (formL l).length ≤ 1000000) (n : Int) (hn : -9223372036854775808 ≤ n ∧ n ≤ 9223372036854775807) :
    Calls Tryz.prog 20 #[.pointer (some ⟨p, 0, none⟩), .string ⟨(formL l).toArray⟩, .int .i64 n] W fun e w' => ∃ a c, e = .returned (.tuple #[.slice a ((resD D l).take n.toNat).length c, .int .i64 ((resD D l).length : Int), .int .i64 0]) ∧ HitsAt w' (.slice a ((resD D l).take n.toNat).length c) ((resD D l).take n.toNat) ∧ Below W.heap.size W w' := h.run hE _ hf hl rfl n hn
theorem IX.all {W : World} {p : Nat} {D : List Dc} (h : IX W p D) (l : List Prt) : (resD D l).take (256 : Int).toNat = resD D l := List.take_of_length_le (res_le h.asc h.ids l)
end Go.Proofs.YtogjgibaolppfaaGreatDoor
/- SameParts: equal lists are the same. -/
namespace Go.Proofs.YtogjgibaolppfaaGreatDoor
open Go.RowKit Go.Lib Go.Proofs

set_option maxRecDepth 100000 in
set_option maxHeartbeats 4000000 in
theorem sameParts_true (v v' : Value) (l : List Prt) (w : World) (h : PartsAt w v l) (h' : PartsAt w v' l) (hw : ∀ p ∈ l, p.words.length ≤ 1000) :
    Calls Tryz.prog 18 #[v, v'] w fun e w' => e = .returned (.bool true) ∧ Below w.heap.size w w' := by
  obtain ⟨A, cap, rfl, hl, hc, hce⟩ := h.at
  obtain ⟨A', cap', rfl, hl', hc', hce'⟩ := h'.at
  have HC := Lib.hid hce; have HC' := Lib.hid hce'; have HW := Lib.hid hw
  clear hce hce' h h' hw
  go_enter Tryz.func18, Tryz.ntmps18
  go_wp2
  go_loopw [5] (fun i wr => ∃ k : Nat, i = .int .i64 k ∧ k ≤ l.length ∧ Hid (Below w.heap.size w wr)) (fun i _ => l.length - (intOf i).toNat)
  case atStart => exact ⟨0, rfl, by omega, Lib.hid (Below.refl _ _)⟩
  case round =>
    obtain ⟨k, rfl, hk, HB⟩ := hrel
    by_cases hlt : k < l.length
    · obtain ⟨g, o, u, rfl, c0, c1, c2, hu⟩ := HC.out k hlt
      obtain ⟨g', o', u', rfl, d0, d1, d2, hu'⟩ := HC'.out k hlt
      replace c0 := (HB.out.cell (World.block_lt_of_cell? w _ c0)).trans c0
      replace c1 := (HB.out.cell (World.block_lt_of_cell? w _ c1)).trans c1
      replace c2 := (HB.out.cell (World.block_lt_of_cell? w _ c2)).trans c2
      replace d0 := (HB.out.cell (World.block_lt_of_cell? w _ d0)).trans d0
      replace d1 := (HB.out.cell (World.block_lt_of_cell? w _ d1)).trans d1
      replace d2 := (HB.out.cell (World.block_lt_of_cell? w _ d2)).trans d2
      have hwl := HW.out _ (List.getElem_mem hlt)
      have hS := (hu.below HB.out).at (by omega)
      have hS' := (hu'.below HB.out).at (by omega)
      obtain ⟨pt, hpt⟩ : ∃ pt, l[k] = pt := ⟨_, rfl⟩
      rw [hpt] at c0 c2 d0 d2 hwl hS hS'
      obtain ⟨kd, hkd⟩ : ∃ x : Int, (pt.kind : Int) = x := ⟨_, rfl⟩
      obtain ⟨ng, hng⟩ : ∃ x, pt.neg = x := ⟨_, rfl⟩
      obtain ⟨ws, hws⟩ : ∃ x, pt.words = x := ⟨_, rfl⟩
      rw [hkd] at c0 d0
      rw [hng] at c2 d2
      rw [hws] at hwl hS hS'
      obtain ⟨ua, uc, rfl, hule, hucm, hucel⟩ := hS
      obtain ⟨ua', uc', rfl, hule', hucm', hucel'⟩ := hS'
      have HU := Lib.hid hucel; have HU' := Lib.hid hucel'
      clear hu hu' hpt hkd hng hws hucel hucel'
      have k0 : (0 : Int) ≤ (k : Int) := by omega
      have k1 : (k : Int) < (l.length : Int) := by omega
      go_upto_region 6 with fail
      go_quiet (fail)
      go_wp2_with fail
      obtain ⟨wk, hwk⟩ : ∃ wk, wr = wk := ⟨_, rfl⟩
      have HWK := Lib.hid hwk
      go_loopw [6] (fun i wx => ∃ j : Nat, i = .int .i64 j ∧ j ≤ ws.length ∧ Hid (Below wk.heap.size wk wx)) (fun i _ => ws.length - (intOf i).toNat)
      case atStart => exact ⟨0, rfl, Nat.zero_le _, Lib.hid (by rw [← hwk]; exact (Below.refl _ wr).drewN _)⟩
      case round =>
        rw [hwk] at c0 c1 c2 d0 d1 d2 HU HU' HB
        clear hwk
        obtain ⟨j, rfl, hj, HX⟩ := hrel
        replace c1 := (HX.out.cell (World.block_lt_of_cell? wk _ c1)).trans c1
        replace d1 := (HX.out.cell (World.block_lt_of_cell? wk _ d1)).trans d1
        clear c0 c2 d0 d2
        by_cases hjl : j < ws.length
        · have j0 : (0 : Int) ≤ (j : Int) := by omega
          have j1 : (j : Int) < (ws.length : Int) := by omega
          obtain ⟨b1, o1, rfl, x0⟩ := HU.out j hjl
          obtain ⟨b2, o2, rfl, y0⟩ := HU'.out j hjl
          replace x0 := (HX.out.cell (World.block_lt_of_cell? wk _ x0)).trans x0
          replace y0 := (HX.out.cell (World.block_lt_of_cell? wk _ y0)).trans y0
          obtain ⟨z, hz⟩ : ∃ z, ws[j] = z := ⟨_, rfl⟩
          rw [hz] at x0 y0
          change _ = some (Value.string ⟨z.toArray⟩) at x0 y0
          clear hz
          go_upto_region 11 with fail
          go_quiet (fail)
          go_wp2_with fail
          go_roundw
          case rel => exact ⟨j + 1, by go_num, by omega, Lib.hid (HX.out.drewN _)⟩
          case measure => simp [intOf]; omega
        · obtain rfl : j = ws.length := by omega
          have HB9 : Hid (Below w.heap.size w wr) := Lib.hid (HB.out.trans (HX.out.mono HB.out.size))
          go_wp2_with fail
          go_roundw
          case rel => exact ⟨k + 1, by go_num, by omega, HB9⟩
          case measure => simp [intOf]; omega
    · go_wp2
      go_ret
      exact ⟨rfl, HB.out⟩
end Go.Proofs.YtogjgibaolppfaaGreatDoor
/- Plain: the suggestions of SearchLimits. -/
namespace Go.Proofs.YtogjgibaolppfaaGreatDoor

theorem rep_ok {n : Nat} (h1 : 1 ≤ n) (h : n ≤ 30) : okWord (List.replicate n (97 : UInt8)) := by
  refine ⟨fun e => ?_, by rw [List.length_replicate]; exact h, fun c hc => ?_⟩
  · have := congrArg List.length e
    rw [List.length_replicate] at this
    simp at this
    omega
  · rw [(List.mem_replicate.1 hc).2]
    exact ⟨by decide, by decide⟩
theorem rep_words {n : Nat} (h1 : 1 ≤ n) (h : n ≤ 30) : wordsOf (List.replicate n (97 : UInt8)) = [List.replicate n (97 : UInt8)] := by
  have hk := rep_ok h1 h
  rw [words_isWd (isWd_ok hk), low_word hk]
theorem terms_one (w : Wd) : termsD [((1 : Int), [w])] w = [(w, dn [((1 : Int), [w])] w)] := by
  refine terms_unique (termsD_asc _ _) (by unfold TAsc; simp) fun x => ?_
  rw [mem_termsD, mem_vocab, List.mem_singleton]
  constructor
  · rintro ⟨⟨d, hd, hx⟩, -, h2⟩
    rw [List.mem_singleton.1 hd] at hx
    have := List.mem_singleton.1 hx
    rw [this] at h2
    exact Prod.ext this h2
  · rintro rfl
    exact ⟨⟨_, List.mem_singleton.2 rfl, List.mem_singleton.2 rfl⟩, by simp, rfl⟩
theorem lim_stem (n : Nat) : stemF (45 :: List.replicate n (97 : UInt8)) = List.replicate n 97 ∧ headF (45 :: List.replicate n (97 : UInt8)) = [45] :=
  stem_of (a := [45]) (fun c hc => by rw [(List.mem_replicate.1 hc).2]; decide) (fun c hc => by
    have : c = 45 := by simpa using hc.symm
    rw [this]; decide)
theorem lim_sug {n : Nat} (h1 : 1 ≤ n) : (sugD (putD [] 1 (wordsOf (List.replicate n (97 : UInt8)))) (45 :: List.replicate n 97) 5).length = if n ≤ 30 then 1 else 0 := by
  unfold sugD
  rw [(lim_stem n).1, List.length_replicate]
  by_cases h : n ≤ 30
  · have hk := rep_ok h1 h
    rw [if_neg (by rintro (e | e); exact hk.1 e; omega), if_pos h, rep_words h1 h, List.length_map]
    have hp : prefW (List.replicate n (97 : UInt8)) = some (List.replicate n 97) := by
      unfold prefW
      rw [if_neg hk.1]
      unfold wordOf
      rw [rep_words h1 h]
    unfold termsQ
    rw [hp]
    show (((termsD [((1 : Int), [List.replicate n (97 : UInt8)])] (List.replicate n 97)).take 5)).length = 1
    rw [terms_one]
    rfl
  · rw [if_pos (.inr (by omega)), if_neg h]
    rfl
end Go.Proofs.YtogjgibaolppfaaGreatDoor
/- From a walk to a law's row: the law returns true and what lay before the call lies as it lay; the variables that the rows list. -/
namespace Go.Proofs.YtogjgibaolppfaaGreatDoor
open Go.RowKit Go.WideShapes Go.ChangeShapes Go.ChangeAt

section
variable {H : Type} {enc : TypeId × Value → H} {P : Program}

theorem trodAll_below (hl : laidOutB P = true) {W W' : World} (hb : Below W.heap.size W W') {sp : Nat → Bool} :
    ∀ {ts : List TypeId} {vs : List Value} {ds : List (DataW H)} {p : List MemPlace}, ts.all (fun t => P.readableRec t && decide (t < P.types.size)) = true →
      DataW.TrodAll enc P W 0 (fun _ => true) true ts vs ds p → (∀ x ∈ p, x.block < W.heap.size) → (∀ x ∈ p, sp x.block = true) → DataW.TrodAll enc P W' 0 sp true ts vs ds p
  | [], _, _, _, _, h, _, _ => by
    obtain ⟨rfl, rfl, rfl⟩ := trodAll_nil h
    exact trodAll_mk0
  | t :: ts, _, _, _, hr, h, hlt, hs => by
    obtain ⟨v, vs, d, ds, p, q, rfl, rfl, rfl, h1, h2⟩ := trodAll_cons h
    rw [List.all_cons, Bool.and_eq_true, Bool.and_eq_true, decide_eq_true_iff] at hr
    exact trodAll_cons_mk (WideElems.Trod_stays hl hr.1.1 hr.1.2 h1 (fun x hx => hb.same (hlt x (by simp [hx]))) (fun x hx => hs x (by simp [hx])))
      (trodAll_below hl hb hr.2 h2 (fun x hx => hlt x (by simp [hx])) (fun x hx => hs x (by simp [hx])))

theorem law_post {f : Func} {s : ChangeSpec} {apart fresh handsOn again : Bool} {W W' : World} {args : Array Value} {ds gs : List (DataW H)} {before : List MemPlace} {tb : TypeId}
    (hl : laidOutB P = true) (hr : f.params.toList.all (fun t => P.readableRec t && decide (t < P.types.size)) = true)
    (hrt : f.resultTypes = #[tb]) (ht : P.underlying tb = some .bool) (hv : s.vars = [])
    (hs : s.fn H (ds ++ gs) = { results := [.lit (.bool true)], args := ds })
    (hW : DataW.Whole enc P f.params.toList s.vars apart W args.toList ds gs before) (hb : Below W.heap.size W W') :
    s.post enc P f apart fresh handsOn again W args (.bool true) W' := by
  have hlt : ∀ p ∈ before, p.block < W.heap.size := fun p hp => hW.lt p hp
  have hold : ∀ p ∈ before, (fun b => decide (b < W.heap.size)) p.block = true := fun p hp => by simpa using hlt p hp
  have hW' := hW
  obtain ⟨p, q, hA, hV, hpq, hz, hn⟩ := hW
  rw [hv] at hV
  obtain ⟨rfl, rfl⟩ := trodVars_none hV
  obtain rfl : before = p := by rw [hpq, List.append_nil]
  have hargs : ∀ sp : Nat → Bool, (∀ x ∈ before, sp x.block = true) → DataW.TrodAll enc P W' 0 sp true f.params.toList args.toList (s.fn H (ds ++ [])).args before :=
    fun sp hsp => by rw [hs]; exact trodAll_below hl hb hr hA hlt hsp
  have hres : ∀ (b : Nat) (sp : Nat → Bool) (hd : Bool), DataW.TrodAll enc P W' b sp hd f.resultTypes.toList ((Value.bool true).resultList f.resultTypes.size) (s.fn H (ds ++ [])).results [] :=
    fun b sp hd => by rw [hs, hrt]; exact trodAll_cons_mk (shut_bool ht true) trodAll_mk0
  have hvars : ∀ sp : Nat → Bool, (∀ x ∈ before, sp x.block = true) → DataW.TrodVars enc P W' sp s.vars (s.fn H (ds ++ [])).vars [] :=
    fun sp _ => by rw [hs, hv]; rfl
  refine ⟨ds, [], before, [], before, [], hW', hres _ _ _, hargs _ hold, hvars _ hold, World.keptBut_mono (fun x hx => ⟨hx, ?_⟩) (hb.frame (· ∈ before)), fun _ => ?_⟩
  · exact Or.inr (Or.inl hx)
  · refine ⟨ok_one hrt rfl (okWide_bool_mk ht true), _, _, ([] ++ before) ++ [], ⟨[] ++ before, [], trodAll_append (hargs _ (fun _ _ => rfl)) (hres _ _ _), hvars _ (fun _ _ => rfl), rfl, ?_, ?_⟩, ?_⟩
    · intro b off hp
      have hin : MemPlace.cell b off ∈ before := by simpa using hp
      rw [hb.frozen (hlt _ hin)]
      exact hz b off hin
    · intro ha
      simpa using hn ha
    · intro x hx _
      simpa using hx
end

theorem own : ownKnob Tryz.prog.godebug = none := by kernel_rfl
theorem laidOut : laidOutB Tryz.prog = true := by kernel_rfl

/-! ### the variables that the rows list -/
def laidL : List (String × DataW Unit) := [("unicode/utf8.acceptRanges", Rows.laid_unicode_utf8_acceptRanges), ("unicode.CaseRanges", Rows.laid_unicode_CaseRanges), ("unicode/utf8.first", Rows.laid_unicode_utf8_first)]
theorem accept_eq : (Rows.laid_unicode_utf8_acceptRanges : DataW Unit) = Lib.acceptData := by kernel_rfl
theorem case_eq : Rows.laid_unicode_CaseRanges = Lib.caseData := Pinned.caseRanges_eq
theorem first_eq : Rows.laid_unicode_utf8_first = Lib.firstData := Pinned.utf8First_eq
theorem laid_env {W : World} (h : laidMet Tryz.prog laidL W) (hm : ∃ m, W.cell? ⟨2, 0, none⟩ = some (.int .i64 m)) : Env W := by
  have h1 : Lib.VarReads Tryz.prog W "unicode/utf8.acceptRanges" Lib.acceptData := by rw [← accept_eq]; exact Lib.laidMet.reads h (by simp [laidL])
  have h2 : Lib.VarReads Tryz.prog W "unicode.CaseRanges" Lib.caseData := by rw [← case_eq]; exact Lib.laidMet.reads h (by simp [laidL])
  have h3 : Lib.VarReads Tryz.prog W "unicode/utf8.first" Lib.firstData := by rw [← first_eq]; exact Lib.laidMet.reads h (by simp [laidL])
  exact ⟨utf8Tabs_of_reads (ρ := Tryz.lays159_ren) { Tryz.lays159 with } ⟨by kernel_rfl, by kernel_rfl, by kernel_rfl, by kernel_rfl, by kernel_rfl, by kernel_rfl, by kernel_rfl⟩ h3 h1,
    caseVar_of_reads (ρ := Tryz.lays159_ren) { Tryz.lays159 with } Tryz.lays159.t206 ⟨by kernel_rfl, by kernel_rfl, by kernel_rfl, by kernel_rfl, by kernel_rfl, by kernel_rfl⟩ h2, hm⟩

/-- a world for the witness: the variables hold what their initialisers lay -/
noncomputable def laidWorld (os : Os) : World := World.laidAll Tryz.prog os laidL
theorem laid_met (os : Os) (args : Array Value) : laidMet Tryz.prog laidL ((laidWorld os).forCall (fun _ _ => 0) ⟨#[], args, []⟩).memory := laidMet_laidAll _ (by kernel_rfl) (by kernel_rfl)
end Go.Proofs.YtogjgibaolppfaaGreatDoor
/- Arguments: slices of integers, arrays of two and of three integers by value. -/
namespace Go.Proofs.YtogjgibaolppfaaGreatDoor
open Go.RowKit Go.WideShapes Go.ChangeShapes Go.Deep

def InI64 (n : Int) : Prop := -9223372036854775808 ≤ n ∧ n ≤ 9223372036854775807
theorem int_range {n : Int} (h : (Lit.int .i64 n).wf = true) : InI64 n := by
  simpa [InI64, Lit.wf, IntKind.min, IntKind.max, IntKind.signed, IntKind.bits] using h

section
variable {H : Type} {enc : TypeId × Value → H} {W : World} {base : Nat} {v : Value} {d : DataW H} {p : List MemPlace}
theorem add_off (b off k : Nat) : (⟨b, off, none⟩ : Addr).add k = ⟨b, off + k, none⟩ := by unfold Addr.add; split <;> simp_all
set_option maxRecDepth 100000 in
theorem okWide_arr {W : World} {r : Reach} {b0 : Nat} {t e : TypeId} {n : Nat} {v : Value} (ht : Tryz.prog.underlying t = some (.array n e)) (h : Value.okWide Tryz.prog W r b0 t v) : ∃ cs : Array Value, v = .agg cs := by
  cases v <;> simp_all [Value.okWide]

set_option maxRecDepth 100000 in
theorem two_ints {m : Nat} {cs : List Value} {x : DataW H × List MemPlace} {b0 : Nat} {sp : Nat → Bool} {hd : Bool} (h : DataW.trod enc Tryz.prog W b0 sp hd m 34 cs = some x) : ∃ f : Nat → Int, cs.length = 2 ∧ ∀ i, i < 2 → InI64 (f i) ∧ cs[i]? = some (.int .i64 (f i)) := by
  obtain ⟨xs, m', hm, hx, hl, hxl, hi⟩ := DataW.trod_array Tryz.underlying34 h
  have hce : Tryz.prog.cellsOf 3 = 1 := by kernel_rfl
  have hct : Tryz.prog.cellsOf 34 = 2 := by kernel_rfl
  rw [hct] at hl
  have key : ∀ i, i < 2 → ∃ z, InI64 z ∧ cs[i]? = some (.int .i64 z) := by
    intro i hi6
    have h1 := hi i hi6
    rw [hce, Nat.mul_one] at h1
    have hxi : xs[i]? = some (xs[i]'(by omega)) := List.getElem?_eq_getElem _
    rw [hxi, List.drop_eq_getElem_cons (by omega)] at h1
    obtain ⟨z, hz, _, hwf⟩ := DataW.trod_int Tryz.underlying3 h1
    rw [List.take_succ_cons, List.take_zero] at hz
    have hz' : cs[i]'(by omega) = .int .i64 z := by simpa using hz
    exact ⟨z, int_range hwf, by rw [List.getElem?_eq_getElem (by omega), hz']⟩
  refine ⟨fun i => if h : i < 2 then (key i h).choose else 0, hl, fun i hi6 => ?_⟩
  simp only [hi6, dif_pos]
  exact (key i hi6).choose_spec

set_option maxRecDepth 100000 in
theorem raw_arr2 (ok : Value.okWide Tryz.prog W .any base 34 v) (h : DataW.Trod enc Tryz.prog W 0 (fun _ => true) true 34 v d p) :
    ∃ x0 x1 : Int, v = .agg #[.int .i64 x0, .int .i64 x1] ∧ InI64 x0 ∧ InI64 x1 := by
  obtain ⟨cs, rfl⟩ := okWide_arr Tryz.underlying34 ok
  obtain ⟨fuel, hf⟩ := h
  obtain ⟨f, hl, hc⟩ := two_ints hf
  obtain ⟨l⟩ := cs
  simp only [Value.cells] at hl hc
  match l, hl with
  | [c0, c1], _ =>
    have g0 := hc 0 (by omega); have g1 := hc 1 (by omega)
    simp at g0 g1
    exact ⟨f 0, f 1, by rw [g0.2, g1.2], g0.1, g1.1⟩

set_option maxRecDepth 100000 in
theorem three_ints {m : Nat} {cs : List Value} {x : DataW H × List MemPlace} {b0 : Nat} {sp : Nat → Bool} {hd : Bool} (h : DataW.trod enc Tryz.prog W b0 sp hd m 59 cs = some x) : ∃ f : Nat → Int, cs.length = 3 ∧ ∀ i, i < 3 → InI64 (f i) ∧ cs[i]? = some (.int .i64 (f i)) := by
  obtain ⟨xs, m', hm, hx, hl, hxl, hi⟩ := DataW.trod_array Tryz.underlying59 h
  have hce : Tryz.prog.cellsOf 3 = 1 := by kernel_rfl
  have hct : Tryz.prog.cellsOf 59 = 3 := by kernel_rfl
  rw [hct] at hl
  have key : ∀ i, i < 3 → ∃ z, InI64 z ∧ cs[i]? = some (.int .i64 z) := by
    intro i hi6
    have h1 := hi i hi6
    rw [hce, Nat.mul_one] at h1
    have hxi : xs[i]? = some (xs[i]'(by omega)) := List.getElem?_eq_getElem _
    rw [hxi, List.drop_eq_getElem_cons (by omega)] at h1
    obtain ⟨z, hz, _, hwf⟩ := DataW.trod_int Tryz.underlying3 h1
    rw [List.take_succ_cons, List.take_zero] at hz
    have hz' : cs[i]'(by omega) = .int .i64 z := by simpa using hz
    exact ⟨z, int_range hwf, by rw [List.getElem?_eq_getElem (by omega), hz']⟩
  refine ⟨fun i => if h : i < 3 then (key i h).choose else 0, hl, fun i hi6 => ?_⟩
  simp only [hi6, dif_pos]
  exact (key i hi6).choose_spec

set_option maxRecDepth 100000 in
theorem raw_arr3 (ok : Value.okWide Tryz.prog W .any base 59 v) (h : DataW.Trod enc Tryz.prog W 0 (fun _ => true) true 59 v d p) :
    ∃ x0 x1 x2 : Int, v = .agg #[.int .i64 x0, .int .i64 x1, .int .i64 x2] ∧ InI64 x0 ∧ InI64 x1 ∧ InI64 x2 := by
  obtain ⟨cs, rfl⟩ := okWide_arr Tryz.underlying59 ok
  obtain ⟨fuel, hf⟩ := h
  obtain ⟨f, hl, hc⟩ := three_ints hf
  obtain ⟨l⟩ := cs
  simp only [Value.cells] at hl hc
  match l, hl with
  | [c0, c1, c2], _ =>
    have g0 := hc 0 (by omega); have g1 := hc 1 (by omega); have g2 := hc 2 (by omega)
    simp at g0 g1 g2
    exact ⟨f 0, f 1, f 2, by rw [g0.2, g1.2, g2.2], g0.1, g1.1, g2.1⟩

set_option maxRecDepth 100000 in
theorem raw_ints (ok : Value.okWide Tryz.prog W .any base 22 v) (h : DataW.Trod enc Tryz.prog W 0 (fun _ => true) true 22 v d p) : ∃ l : List Int, IntsL W v l := by
  obtain ⟨A, n, c, rfl⟩ := okWide_slice Tryz.underlying22 ok
  obtain ⟨fuel, hf⟩ := h
  rcases open_ints Tryz.underlying22 Tryz.underlying3 (by kernel_rfl) hf with ⟨hcs, _⟩ | ⟨a, len, cap, zs, hcs, _, hl, hm, hz, _, hcell, hwf⟩
  · cases hcs
    exact ⟨[], none, 0, rfl, Nat.le_refl _, by omega, fun j hj => absurd hj (Nat.not_lt_zero j)⟩
  · cases hcs
    have hzl : zs.length = c := by simpa using hz
    have htl : (zs.take n).length = n := by rw [List.length_take]; omega
    refine ⟨zs.take n, some a, c, by rw [htl], by rw [htl]; exact hl, by unfold maxLen at hm; omega, fun j hj => ?_⟩
    rw [htl] at hj
    obtain ⟨b, off, spot⟩ := a
    have hspot : spot = none := by
      have h0 := hcell 0 (by omega)
      simpa [Addr.add] using World.cell?_spot h0
    subst hspot
    have hc := hcell j (by omega)
    rw [add_off] at hc
    have hg : (zs.take n)[j]'(by rw [htl]; exact hj) = zs.getD j 0 := by
      rw [List.getElem_take, List.getD_eq_getElem?_getD, List.getElem?_eq_getElem (by omega)]; rfl
    rw [hg]
    refine ⟨b, off, rfl, hc, int_range (hwf _ ?_)⟩
    rw [List.getD_eq_getElem?_getD, List.getElem?_eq_getElem (by omega)]
    exact List.getElem_mem _
end
end Go.Proofs.YtogjgibaolppfaaGreatDoor

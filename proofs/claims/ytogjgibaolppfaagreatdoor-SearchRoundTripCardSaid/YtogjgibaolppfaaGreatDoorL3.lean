/- The walk of one law of the sender. Conditions: those that each theorem names. -/
import Derived.Test.YtogjgibaolppfaaGreatDoorK27
import Derived.Test.YtogjgibaolppfaaGreatDoorK28
import Derived.Test.YtogjgibaolppfaaGreatDoorK29
/- The law SearchRoundTrip, walked. -/
namespace Go.Proofs.YtogjgibaolppfaaGreatDoor
open Go.RowKit Go.Sort Go.Proofs Go.Maps Go.Lib

set_option maxRecDepth 100000 in
set_option maxHeartbeats 4000000 in
theorem lawRound_any (v : Value) (x : List Int) (n : Int) (hn : I64 n) (w : World) (hv : IntsL w v x) (hE : Env w) :
    Calls Tryz.prog 5 #[v, .int .i64 n] w fun e w' => e = .returned (.bool true) ∧ Below w.heap.size w w' := by
  have HS := Lib.hid (sane_any w hE)
  have HE := Lib.hid hE
  have HV := Lib.hid hv
  obtain ⟨av, cv, hve, -⟩ := hv
  subst hve
  clear hE
  go_enter Tryz.func5, Tryz.ntmps5
  go_wp2_with (first
    | (go_at_call 12; (with_reducible (refine HS.out.mono ?_)); rintro e w1 ⟨rfl, hb⟩; have HB1 := Lib.hid hb; clear hb; have HPS := Lib.hid (lawParts_any _ x w1 (HV.out.below HB1.out)))
    | (go_at_call 15; (with_reducible (refine HPS.out.mono ?_)); rintro e w2 ⟨u, P, rfl, hP, hPv, hP1, hP6, hb⟩)
    | fail)
  have HB2 := Lib.hid (bthen HB1.out hb)
  obtain ⟨l, hl⟩ : ∃ l, P.map (·.1) = l := ⟨_, rfl⟩
  have hlen : l.length = P.length := by rw [← hl, List.length_map]
  have hvoc : ∀ p ∈ l, VocP p := fun p hp => by
    rw [← hl] at hp
    obtain ⟨y, hy, rfl⟩ := List.mem_map.1 hp
    exact hPv y hy
  have hPA := hP.at
  rw [hl] at hPA
  obtain ⟨au, cu, hue, -⟩ := hPA.at
  subst hue
  have hok : ∀ p ∈ l, okPrt p := fun p hp => (hvoc p hp).ok
  have h1 : 1 ≤ l.length := by omega
  have h8 : l.length ≤ 8 := by omega
  have hfl := form_len hvoc h8
  have hw : ∀ p ∈ l, p.words.length ≤ 1000 := fun p hp => by have := (hvoc p hp).few; omega
  have HPA := Lib.hid hPA
  have HOK := Lib.hid hok
  have HW := Lib.hid hw
  have HH1 := Lib.hid h1
  have HH8 := Lib.hid h8
  have HPF : Hid (parseP (formL l) = some l) := Lib.hid (parse_voc hvoc h1 h8)
  have HPD : Hid (∀ t, Deco (formL l) t → t.length ≤ 300 → parseP t = some l) := Lib.hid (fun t ht h3 => parse_deco hok h1 h8 ht h3)
  have HDL : Hid (∀ t, Deco (formL l) t → (formL l).length ≤ t.length ∧ t.length ≤ 2 * (formL l).length) := Lib.hid (fun t ht => ht.len)
  have HPR := Lib.hid (print_any _ l w2 HPA.out hok h1 h8 (by omega) (HE.out.below HB2.out))
  obtain ⟨F, hF⟩ : ∃ F, formL l = F := ⟨_, rfl⟩
  have HF := Lib.hid hF
  rw [hF] at HPF HPR HPD HDL hfl
  clear hF hw hok hPA hvoc hlen hl hP hPv hP1 hP6 hb HB1 HPS HS HV h1 h8
  go_wp2_with (first
    | (go_at_call 27; (with_reducible (refine HPR.out.mono ?_)); rintro e w3 ⟨rfl, hb⟩; have HB3 := Lib.hid (bthen HB2.out hb); have HPA3 := Lib.hid (HPA.out.below hb); clear hb; have HSO := Lib.hid (source_any _ l n hn w3 HPA3.out HOK.out HH8.out))
    | (go_at_call 14; (with_reducible (refine HSO.out.mono ?_)); rintro e w4 ⟨t, ht, rfl, hb⟩; rw [HF.out] at ht; have HT := Lib.hid ht; have HB4 := Lib.hid (bthen HB3.out hb); have HPA4 := Lib.hid (HPA3.out.below hb); clear hb ht; have HPS4 := Lib.hid (parse_law F (by omega) w4 (HE.out.below HB4.out)))
    | (go_at_call 16; (with_reducible (refine HPS4.out.mono ?_)); rintro e w5 ⟨hb, am, km, cm, Em, rfl, hm⟩; rw [HPF.out] at hm; obtain ⟨rfl, rfl, hm3⟩ := hm; have HM5 := Lib.hid hm3; have HB5 := Lib.hid (bthen HB4.out hb); have HPA5 := Lib.hid (HPA4.out.below hb); clear hb hm3; have hFt : (F.length : Int) ≤ (t.length : Int) := (by have := (HDL.out t HT.out).1; omega))
    | (go_at_call 16; (with_reducible (refine (parse_law t (by have := (HDL.out t HT.out).2; omega) w5 (HE.out.below HB5.out)).mono ?_)); rintro e w6 ⟨hb, ak, kk, ck, Ek, rfl, hk⟩; rw [HPD.out t HT.out (by omega)] at hk; obtain ⟨rfl, rfl, hk3⟩ := hk; have HK6 := Lib.hid hk3; have HB6 := Lib.hid (bthen HB5.out hb); have HPA6 := Lib.hid (HPA5.out.below hb); have HM6 := Lib.hid (HM5.out.below hb); clear hb hk3)
    | (go_at_call 18; (with_reducible (refine (sameParts_true _ _ l w7 (HPA7.out) (HK7.out) HW.out).mono ?_)); rintro e w8 ⟨rfl, hb⟩; have HB8 := Lib.hid (bthen HB7.out hb); clear hb)
    | (go_at_call 18; (with_reducible (refine (sameParts_true _ _ l w6 (HPA6.out) (HM6.out) HW.out).mono ?_)); rintro e w7 ⟨rfl, hb⟩; have HB7 := Lib.hid (bthen HB6.out hb); have HPA7 := Lib.hid (HPA6.out.below hb); have HK7 := Lib.hid (HK6.out.below hb); clear hb)
    | (go_at_call 18; (with_reducible (refine (sameParts_true _ _ l w5 (HPA5.out) (HM5.out) HW.out).mono ?_)); rintro e w6 ⟨rfl, hb⟩; have HB6 := Lib.hid (bthen HB5.out hb); clear hb)
    | fail)
  · go_ret
    exact ⟨rfl, HB6.out⟩
  · go_ret
    exact ⟨rfl, HB8.out⟩
end Go.Proofs.YtogjgibaolppfaaGreatDoor

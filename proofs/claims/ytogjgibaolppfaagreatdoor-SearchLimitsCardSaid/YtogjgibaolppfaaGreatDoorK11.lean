/- Facts and contracts for the laws of the sender, part 11. Conditions: those that each theorem names. -/
import Derived.Test.YtogjgibaolppfaaGreatDoorK06
import Derived.Test.YtogjgibaolppfaaGreatDoorK10
import Derived.Test.YtogjgibaolppfaaGreatDoorK05
import Derived.BigQuiet
/- The reference's Put. -/
namespace Go.Proofs.YtogjgibaolppfaaGreatDoor
open Go.RowKit Go.Sort Go.Proofs Go.Maps

theorem add_plain (b off i : Nat) : (⟨b, off, none⟩ : Addr).add i = ⟨b, off + i, none⟩ := by unfold Addr.add; by_cases h0 : i = 0 <;> simp [h0]
theorem pds_cells {T : Nat → Prop} {w : World} {ad : Addr} {n c : Nat} {P : List Pd} (h : PdsT T w (.slice (some ad) n c) P) (hne : P ≠ []) : ∃ b off, ad = ⟨b, off, none⟩ ∧ ∀ j u, (P.flatMap pdC)[j]? = some u → w.cell? ⟨b, off + j, none⟩ = some u := by
  obtain ⟨a, c', e, -, -, hc⟩ := h
  injection e with e1 _ _
  subst e1
  obtain ⟨b, off, e, -⟩ := hc 0 (List.length_pos_iff.2 hne)
  injection e with e
  refine ⟨b, off, e, fun j u hu => ?_⟩
  rw [flatMap_at pdC 2 (by decide) (fun _ => rfl)] at hu
  cases hp : P[j / 2]? with
  | none => rw [hp] at hu; cases hu
  | some p =>
    rw [hp] at hu
    obtain ⟨hj, hpe⟩ := List.getElem?_eq_some_iff.1 hp
    obtain ⟨b', off', e', -, h1, h2⟩ := hc (j / 2) hj
    injection e' with e'
    rw [e] at e'
    injection e' with e1 e2
    subst e1; subst e2
    rw [hpe] at h1 h2
    have hu : (pdC p)[j % 2]? = some u := hu
    rcases Nat.mod_two_eq_zero_or_one j with hm | hm
    · rw [hm] at hu
      cases hu
      rw [show off + j = off + j / 2 * 2 by omega]; exact h1
    · rw [hm] at hu
      cases hu
      rw [show off + j = off + j / 2 * 2 + 1 by omega]; exact h2
theorem pds_src_upto {T : Nat → Prop} {w : World} {a : Option Addr} {n c : Nat} {P : List Pd} (h : PdsT T w (.slice a n c) P) {k : Nat} (hk : k ≤ P.length) : Src w 2 a k ((P.take k).flatMap pdC) := by
  refine ⟨by rw [pdC_len, List.length_take, Nat.min_eq_left hk], fun e => ?_, fun ad e j u hu => ?_⟩
  · obtain ⟨a', c', e', -, -, hc⟩ := h
    rcases Nat.eq_zero_or_pos k with h0 | h0
    · exact h0
    · obtain ⟨b, off, e2, -⟩ := hc 0 (by omega)
      injection e' with e1 _ _
      rw [← e1, e] at e2; cases e2
  · subst e
    by_cases hne : P = []
    · subst hne; simp at hu
    · obtain ⟨b, off, rfl, hc⟩ := pds_cells h hne
      rw [add_plain]
      refine hc j u ?_
      rw [← List.take_append_drop k P, List.flatMap_append]
      exact List.getElem?_append_left (List.getElem?_eq_some_iff.1 hu).1 |>.trans hu
theorem pds_src_from {T : Nat → Prop} {w : World} {a : Option Addr} {n c : Nat} {P : List Pd} (h : PdsT T w (.slice a n c) P) {k : Nat} (hk : k ≤ P.length) : ∃ a', sliced a k n c 2 = .slice a' (n - k) (c - k) ∧ Src w 2 a' (n - k) ((P.drop k).flatMap pdC) := by
  have hh := h
  obtain ⟨a0, c0, e0, hle, -, hc⟩ := hh
  injection e0 with e1 e2 e3
  subst e1; subst e2; subst e3
  refine ⟨_, rfl, by rw [pdC_len, List.length_drop], fun e => ?_, fun ad e j u hu => ?_⟩
  · rcases Nat.lt_or_ge k P.length with h0 | h0
    · obtain ⟨b, off, e2, -⟩ := hc 0 (by omega)
      subst e2
      split at e <;> cases e
    · omega
  · rcases Nat.lt_or_ge k P.length with h0 | h0
    · rw [if_neg (by omega)] at e
      obtain ⟨b0, off0, e2, -⟩ := hc 0 (by omega)
      subst e2
      obtain ⟨b, off, e3, hcc⟩ := pds_cells h (fun e => by subst e; simp at h0)
      injection e3 with e3 e4
      subst e3; subst e4
      simp only [Option.map_some, Option.some.injEq] at e
      subst e
      rw [add_plain, add_plain, Nat.add_assoc]
      refine hcc _ u ?_
      rw [← List.take_append_drop k P, List.flatMap_append, List.getElem?_append_right (by rw [pdC_len, List.length_take]; omega), pdC_len, List.length_take, Nat.min_eq_left hk]
      rw [show k * 2 + j - k * 2 = j by omega]
      exact hu
    · rw [List.drop_of_length_le h0] at hu; simp at hu
theorem run_upto_p {a : Option Addr} {n c k : Nat} (hk : k ≤ c) (W : World) : (Instr.slice 77 (.slice a n c) none (some (.int .i64 k)) none).run Tryz.prog W = .ok (.slice a k c) W := by
  have ht : Tryz.prog.underlying 77 = some (.slice (Tryz.prog.elem 77)) := by kernel_rfl
  have he : Tryz.prog.elem 77 = 120 := by kernel_rfl
  rw [run_slice_h W 77 a n c ht .i64 k (by omega) (by omega), he]
  have : (Go.sizeOf 120).run Tryz.prog W = .ok 2 W := Tryz.sizeOf120 W
  rw [this]
  simp only [Result.andThen]
  have h0 : (if c = 0 then a else a.map (·.add (0 * 2))) = a := by
    split
    · rfl
    · cases a with
      | none => rfl
      | some ad => simp [Addr.add]
  show Result.ok (Value.slice (if c = 0 then a else a.map (·.add (0 * 2))) (k - 0) (c - 0)) W = _
  rw [h0]; rfl
theorem run_from_p {a : Option Addr} {n c k : Nat} {V : Value} (hk : k ≤ n) (h : sliced a k n c 2 = V) (W : World) : (Instr.slice 77 (.slice a n c) (some (.int .i64 k)) none none).run Tryz.prog W = .ok V W := by
  have ht : Tryz.prog.underlying 77 = some (.slice (Tryz.prog.elem 77)) := by kernel_rfl
  have he : Tryz.prog.elem 77 = 120 := by kernel_rfl
  rw [run_slice_l W 77 a n c ht .i64 k (by omega) (by omega), he]
  have : (Go.sizeOf 120).run Tryz.prog W = .ok 2 W := Tryz.sizeOf120 W
  rw [this]
  simp only [Result.andThen]
  rw [← h]
  rfl
/-- where the documents below an ID end -/
theorem atD_of {P : List Pd} {id : Int} {k : Nat} (hk : k ≤ P.length) (hlt : ∀ j (h : j < P.length), j < k → P[j].1.1 < id) (hend : ∀ h : k < P.length, ¬ P[k].1.1 < id) : k = atD (P.map (·.1)) id := by
  have key : ∀ (l : List Pd) (k : Nat), k ≤ l.length → (∀ j (h : j < l.length), j < k → l[j].1.1 < id) → (∀ h : k < l.length, ¬ l[k].1.1 < id) → k = ((l.map (·.1)).takeWhile fun d => decide (d.1 < id)).length := by
    intro l
    induction l with
    | nil => intro k hk _ _; simp at hk; simp [hk]
    | cons x l ih =>
      intro k hk h1 h2
      rw [List.map_cons, List.takeWhile_cons]
      cases k with
      | zero =>
        have := h2 (by simp)
        simp only [List.getElem_cons_zero] at this
        simp [this]
      | succ k =>
        have hx := h1 0 (by simp) (by omega)
        simp only [List.getElem_cons_zero] at hx
        simp only [hx, decide_true, if_true, List.length_cons]
        rw [← ih k (by simpa using hk) (fun j hj hjk => by
          have := h1 (j + 1) (by simp; omega) (by omega)
          simpa using this) (fun h => by
          have := h2 (by simp; omega)
          simpa using this)]
  exact key P k hk hlt hend

theorem strsT_of_row {w : World} {base B : Nat} {v : Value} {l : List Wd} (h : w.ownsRow base 9 1 v l.length (l.map encW)) (hb : B ≤ base) (hl : l.length ≤ 1000) : StrsT (fun j => B ≤ j ∧ j < w.heap.size) w v l := by
  have hlt := h.lt
  obtain ⟨a, c, e, h1, h2, h3⟩ := strsAt_of_owns h (by omega)
  refine ⟨a, c, e, h1, hl, fun j hj => ?_⟩
  obtain ⟨b, off, e1, h4⟩ := h3 j hj
  have hob : v.ownBlock = some b := by rw [e, e1]; rfl
  have := hlt b hob
  exact ⟨b, off, e1, ⟨by omega, this.2⟩, h4⟩
theorem refPut_refused {y : Nat} (w : World) (id : Int) (s : List UInt8) (hr : id < 1 ∨ 256 < id) :
    Calls Tryz.prog 42 #[.pointer (some ⟨y, 0, none⟩), .int .i64 id, .string ⟨s.toArray⟩] w fun e w' => e = .returned (.int .i64 170) ∧ w' = w := by
  rcases hr with hr | hr
  · go_enter Tryz.func42, Tryz.ntmps42
    go_wp2
    go_ret
    exact ⟨rfl, rfl⟩
  · have h1 : ¬ id < 1 := by omega
    go_enter Tryz.func42, Tryz.ntmps42
    go_wp2
    go_ret
    exact ⟨rfl, rfl⟩

set_option maxRecDepth 100000 in
set_option maxHeartbeats 4000000 in
theorem refPut_any {T : Nat → Prop} {y : Nat} {D : List Dc} (w : World) (h : RefAt T w y D) (hA : Asc D) (hI : Ids D) (id : Int) (hi1 : 1 ≤ id) (hi2 : id ≤ 256) (s : List UInt8) (hs : s.length ≤ 1000) (hwl : (wordsOf s).length ≤ 400) :
    Calls Tryz.prog 42 #[.pointer (some ⟨y, 0, none⟩), .int .i64 id, .string ⟨s.toArray⟩] w fun e w' => e = .returned (.int .i64 0) ∧ ∃ T' : Nat → Prop, RefAt T' w' y (putD D id (wordsOf s)) ∧ But (fun k => k = y) w.heap.size w w' ∧ ∀ k, T' k → T k ∨ w.heap.size ≤ k := by
  obtain ⟨i0, hi, hz0, hz1, hz2⟩ := info_parts infoDoc
  have hpl : (putD D id (wordsOf s)).length ≤ 256 := docs_le (hA.put id _) (hI.put hi1 hi2 _)
  have hps : ∀ d ∈ putD D id (wordsOf s), d.2.length ≤ 1000 := fun d hd => by
    rcases mem_put.1 hd with e | e
    · subst e; simp only; omega
    · exact h.small d e.1
  have HR := Lib.hid (refRemove_any w h id)
  have hy0 := h.ylt
  have HPS := Lib.hid hps
  have hsz : (⟨s.toArray⟩ : ByteArray).size ≤ 1099511627775 := by simp [ByteArray.size]; omega
  have HWD := Lib.hid (fun W => refWords_any ⟨s.toArray⟩ hsz W)
  have hput : ∀ (P : List Pd) (u : Value) (k : Nat), P.map (·.1) = remD D id → k = atD (P.map (·.1)) id → putD D id (wordsOf s) = ((P.take k ++ [((id, wordsOf s), u)]) ++ P.drop k).map (·.1) := fun P u k h1 h2 => by
    unfold putD insD
    rw [← h1]
    simp only
    rw [← h2, List.map_append, List.map_append, List.map_take, List.map_drop]
    simp
  have HPUT := Lib.hid hput
  clear h hps hput
  have hsl : ¬ 65536 < ((s.length : Nat) : Int) := by omega
  go_enter Tryz.func42, Tryz.ntmps42
  go_wp2_with fail
  refine HR.out.mono ?_
  rintro e w1 ⟨rfl, T1, hR1, hb1, ht1⟩
  have HR1 := Lib.hid hR1; have HB1 := Lib.hid hb1; have HT1 := Lib.hid ht1
  obtain ⟨v, P, hD, hy, hv, hP⟩ := hR1.parts
  have hl1 := hR1.len
  have hP256 : P.length ≤ 256 := by rw [hD, List.length_map] at hl1; exact hl1
  have HV := Lib.hid hv
  have HPs := Lib.hid hP
  have HD := Lib.hid hD
  obtain ⟨a, c, rfl, hle, hcm, hc⟩ := hv
  have HC := Lib.hid hc
  have cy : w1.cell? ⟨y, 0, none⟩ = some (.slice a P.length c) := by rw [Lib.cell_of_heap hy]; rfl
  have cfy : w1.frozen? ⟨y, 0, none⟩ = false := Lib.frozen_of_heap hy 0
  have hyl := hR1.ylt
  clear hR1 hb1 ht1 hD hy hc hP hl1 HR
  go_wp2
  go_loop [7] (fun i => ∃ k : Nat, i = .int .i64 k ∧ k ≤ P.length ∧ Hid (∀ j (h : j < P.length), j < k → P[j].1.1 < id)) (fun i => P.length - (intOf i).toNat)
  case atStart => exact ⟨0, rfl, by omega, Lib.hid (fun j _ hj => by omega)⟩
  case round =>
    obtain ⟨k, rfl, hk, HLT⟩ := hrel
    have hstop : k < P.length ∧ (∃ b off, a = some ⟨b, off, none⟩ ∧ w1.cell? ⟨b, off + k * 2, none⟩ = some (.int .i64 (P[k]!).1.1)) ∨ ¬ k < P.length := by
      by_cases hkl : k < P.length
      · obtain ⟨b, off, e, hT, k1, k2⟩ := HC.out k hkl
        exact .inl ⟨hkl, b, off, e, by rw [getElem!_pos P k hkl]; exact k1⟩
      · exact .inr hkl
    by_cases hgo : k < P.length ∧ (P[k]!).1.1 < id
    · obtain ⟨hkl, hlt⟩ := hgo
      have hki : (k : Int) < (P.length : Int) := by omega
      have g0 : decide ((k : Int) < (P.length : Int)) = true := by simp; omega
      rcases hstop with ⟨-, b, off, rfl, k1⟩ | h0
      · have HLT2 : Hid (∀ j (h : j < P.length), j < k + 1 → P[j].1.1 < id) := Lib.hid (fun j hj hjk => by
          by_cases e : j = k
          · subst e; rw [getElem!_pos P j hj] at hlt; exact hlt
          · exact HLT.out j hj (by omega))
        obtain ⟨i1, hi1'⟩ : ∃ i, (P[k]!).1.1 = i := ⟨_, rfl⟩
        rw [hi1'] at k1 hlt
        have g1 : decide (i1 < id) = true := by simpa using hlt
        clear HLT hi1'
        go_wp2
        go_round
        case rel => exact ⟨k + 1, by go_num, by omega, HLT2⟩
        case measure => simp [intOf]; omega
      · exact absurd hkl h0
    · have hat : k = atD (P.map (·.1)) id := atD_of hk HLT.out fun h hlt => hgo ⟨h, by rw [getElem!_pos P k h]; exact hlt⟩
      have HAT := Lib.hid hat
      have hsrc1 := fun W (hb : Below w1.heap.size w1 W) => pds_src_upto (HV.out.kept fun k hk => hb.block k (HR1.out.lt k hk)) hk
      have HS1 := Lib.hid (hsrc1 w1 (Below.refl _ _))
      obtain ⟨a', hsl', hs2⟩ := pds_src_from HV.out hk
      have HS2 : Hid (∀ W, Below w1.heap.size w1 W → Src W 2 a' (P.length - k) ((P.drop k).flatMap pdC)) := Lib.hid (fun W hb => by
        obtain ⟨a2, h1, h2⟩ := pds_src_from (HV.out.kept (w' := W) fun k hk => hb.block k (HR1.out.lt k hk)) hk
        rw [hsl'] at h1
        injection h1 with h1 _ _
        subst h1; exact h2)
      have hone : ∀ l : List Pd, (∀ p ∈ l, p ∈ P) → ∀ u ∈ l.flatMap pdC, u.oneCell' = true := fun l hl u hu => by
        obtain ⟨p, hp, hup⟩ := List.mem_flatMap.1 hu
        obtain ⟨a3, c3, e3, -⟩ := HPs.out p (hl p hp)
        simp only [pdC, List.mem_cons, List.not_mem_nil, or_false] at hup
        rcases hup with rfl | rfl
        · rfl
        · rw [e3]; rfl
      have HO1 := Lib.hid (hone (P.take k) fun p hp => List.mem_of_mem_take hp)
      have HO2 := Lib.hid (hone (P.drop k) fun p hp => List.mem_of_mem_drop hp)
      have hru := fun W => run_upto_p (a := a) (n := P.length) (c := c) (k := k) (by omega) W
      have hrf := fun W => run_from_p (a := a) (n := P.length) (c := c) (k := k) hk hsl' W
      have hlen1 : (P.take k).length = k := by rw [List.length_take]; omega
      have hstop2 : (k < P.length → ∃ b off i1, a = some ⟨b, off, none⟩ ∧ w1.cell? ⟨b, off + k * 2, none⟩ = some (.int .i64 i1) ∧ ¬ i1 < id) := fun hkl => by
        rcases hstop with ⟨-, b, off, e, k1⟩ | h0
        · exact ⟨b, off, _, e, k1, fun hlt => hgo ⟨hkl, hlt⟩⟩
        · exact absurd hkl h0
      clear hgo hstop HLT hat hsrc1 hs2 hone hsl'
      have HFIN : Hid (∀ (W : World) (u0 V : Value) , Below w1.heap.size w1 W → PdR w1.heap.size W V ((P.take k ++ [((id, wordsOf s), u0)]) ++ P.drop k) → StrsT (fun j => w1.heap.size ≤ j ∧ j < W.heap.size) W u0 (wordsOf s) →
          ∃ T' : Nat → Prop, RefAt T' (W.setCell ⟨y, 0, none⟩ V) y (putD D id (wordsOf s)) ∧ But (fun k => k = y) w.heap.size w (W.setCell ⟨y, 0, none⟩ V) ∧ ∀ k, T' k → T k ∨ w.heap.size ≤ k) := Lib.hid (fun W u0 V hb hr hu => by
        have h1 := HR1.out.stored hb hr (HPUT.out P u0 k HD.out.symm HAT.out) hpl HPS.out (fun p hp => by
          rw [List.append_assoc] at hp
          rcases List.mem_append.1 hp with hp | hp
          · exact ((HPs.out p (List.mem_of_mem_take hp)).kept fun k hT => hb.block k (HR1.out.lt k hT)).more fun k hk => .inl hk
          · rcases List.mem_append.1 hp with hp | hp
            · rw [List.mem_singleton.1 hp]; exact hu.more fun k hk => .inr hk
            · exact ((HPs.out p (List.mem_of_mem_drop hp)).kept fun k hT => hb.block k (HR1.out.lt k hT)).more fun k hk => .inl hk)
        refine ⟨_, h1.1, HB1.out.trans (h1.2.mono HB1.out.size), fun j hj => ?_⟩
        rcases hj with hj | hj
        · exact HT1.out j hj
        · exact .inr (Nat.le_trans HB1.out.size hj.1))
      obtain ⟨m, hm⟩ : ∃ m, P.length - k = m := ⟨_, rfl⟩
      rw [hm] at hrf HS2
      have hm256 : m ≤ 256 := by omega
      have HM := Lib.hid hm
      clear hm
      refine (Nat.lt_or_ge k P.length).elim ?more ?last
      case' more =>
        intro hkl
        have hki : (k : Int) < (P.length : Int) := by omega
        have g0 : decide ((k : Int) < (P.length : Int)) = true := by simp; omega
        obtain ⟨b, off, i1, rfl, k1, hni⟩ := hstop2 hkl
        have g1 : decide (i1 < id) = false := by simp; omega
        clear hstop2
      case' last =>
        intro hkl
        have g0 : decide ((k : Int) < (P.length : Int)) = false := by simp; omega
        clear hstop2
      all_goals
        go_wp2_with (at_builtin; refine wpList_append_src _ rfl _ _ 77 rfl w1.heap.size 120 i0 _ 2 32 Tryz.underlying77 hi hz0 hz1 hz2 rfl (by decide) (.slice none 0 0) 0 [] rfl (World.ownsRow_nil _ _ _ _) _ k _ _ rfl HS1.out HO1.out (by unfold maxLen; omega) (by omega) (Nat.le_refl _) ?_)
        intro v2 w2 ho2 hg2
        have hb2 : Below w1.heap.size w1 w2 := (Below.refl _ w1).grown hg2 (Nat.le_refl _) (fun j e => by cases e)
        have HB2 := Lib.hid hb2
        obtain ⟨a2, c2, rfl⟩ := row_form ho2
        have HO2r := Lib.hid ho2
        clear ho2 hg2 hb2
        go_wp2_with fail
        refine (HWD.out _).mono ?_
        rintro e w3 ⟨vw, rfl, how, hb3⟩
        rw [show (⟨s.toArray⟩ : ByteArray).data.toList = s from by simp] at how
        have HB3 := Lib.hid (HB2.out.trans (hb3.mono HB2.out.size))
        obtain ⟨aw, cw, rfl⟩ := row_form how
        have HOW := Lib.hid how
        have ho3 := row_stay HO2r.out fun j hj => hb3.block j (HO2r.out.lt j hj).2
        have HS23 := Lib.hid hb3.size
        clear hb3 how HO2r
        go_wp2_with (at_builtin; refine wpList_append_own _ rfl _ _ 77 rfl w1.heap.size 120 i0 _ 2 32 Tryz.underlying77 hi hz0 hz1 hz2 rfl (by decide) _ _ _ rfl (ho3.alloc _) ⟨w3.heap.size, 0, none⟩ 1 1 (pdC ((id, wordsOf s), .slice aw (wordsOf s).length cw)) rfl rfl (World.news_of_block (cs := (pdC ((id, wordsOf s), .slice aw (wordsOf s).length cw)).toArray) (t := 120) (fr := (0, 0)) (heap_alloc_new w3 _)) (by simp [Value.oneCell', pdC]) (by unfold maxLen; omega) (by omega) (by have := HB3.out.size; first | omega | (simp; omega)) ?_)
        intro v4 w4 ho4 hg4 _
        have hb4 : Below w1.heap.size w1 w4 := ((HB3.out.alloc HB3.out.size _).grown hg4 (by have := HB3.out.size; simp; omega) (fun j e => (ho3.lt j e).1))
        have HB4 := Lib.hid hb4
        have how4 := row_grown (HOW.out.alloc _) (ho3.alloc _) (by decide) hg4
        clear hb4 hg4 ho3
        obtain ⟨a4, c4, rfl⟩ := row_form ho4
        have cy4 := cell_same (HB4.out.block y hyl) cy
        have HS4 := Lib.hid (HS2.out w4 HB4.out)
        have hw14 := HB4.out.size
        have HO4 := Lib.hid ho4
        have HW4 := Lib.hid how4
        clear ho4 how4
        go_wp2_with (at_builtin; refine wpList_append_src _ rfl _ _ 77 rfl w1.heap.size 120 i0 _ 2 32 Tryz.underlying77 hi hz0 hz1 hz2 rfl (by decide) _ (k + 1) _ rfl HO4.out _ m _ _ rfl HS4.out HO2.out (by unfold maxLen; omega) (by omega) hw14 ?_)
        intro v6 w6 ho6 hg6
        obtain ⟨a6, c6, rfl⟩ := row_form ho6
        have HB6 := Lib.hid (HB4.out.grown hg6 hw14 (fun j e => (HO4.out.lt j e).1))
        have HW6 := Lib.hid (row_grown HW4.out HO4.out (by decide) hg6)
        have HO6 := Lib.hid ho6
        have cfy6 : w6.frozen? ⟨y, 0, none⟩ = false := by rw [← cfy]; exact World.frozen?_of_block (a := ⟨y, 0, none⟩) (HB6.out.block y hyl)
        have cy6 := cell_same (HB6.out.block y hyl) cy
        clear ho6 hg6 cy4
        go_wp2
        go_ret
        refine ⟨rfl, HFIN.out w6 (.slice aw (wordsOf s).length cw) _ HB6.out ?_ (strsT_of_row HW6.out HB2.out.size (by omega))⟩
        have e1 : ((P.take k ++ [((id, wordsOf s), Value.slice aw (wordsOf s).length cw)]) ++ P.drop k).length = k + 1 + m := by have := HM.out; simp; omega
        unfold PdR
        rw [e1, List.flatMap_append, List.flatMap_append]
        simpa using HO6.out
end Go.Proofs.YtogjgibaolppfaaGreatDoor
/- merged: two ascending lists into one. -/
namespace Go.Proofs.YtogjgibaolppfaaGreatDoor
open Go.RowKit Go.Sort Go.Proofs

theorem src_of_strs {w : World} {a : Option Addr} {n c : Nat} {xs : List Wd} (h : StrsAt w (.slice a n c) xs) : Src w 1 a xs.length (xs.map encW) := by
  obtain ⟨a', c', e, hle, hl, hc⟩ := h
  injection e with e1 e2 e3
  subst e1
  refine ⟨by simp, fun e => ?_, fun ad e j u hu => ?_⟩
  · cases hx : xs with
    | nil => rfl
    | cons y l => obtain ⟨b, off, h1, _⟩ := hc 0 (by rw [hx]; simp); rw [e] at h1; cases h1
  · rw [List.getElem?_map] at hu
    cases hj : xs[j]? with
    | none => rw [hj] at hu; cases hu
    | some x =>
      rw [hj] at hu; cases hu
      obtain ⟨hjl, rfl⟩ := List.getElem?_eq_some_iff.1 hj
      obtain ⟨b, off, h1, h2⟩ := hc j hjl
      rw [e] at h1; cases h1
      show w.cell? ((⟨b, off, none⟩ : Addr).add j) = _
      rw [← h2]
      unfold Addr.add
      by_cases hj0 : j = 0
      · subst hj0; rfl
      · rw [if_neg hj0]

theorem infoStr' : (Tryz.prog.info? 9).map (fun i => (i.zero, i.size, i.bytes)) = some (some (.string ⟨#[]⟩), 1, 16) := by kernel_rfl
def lenV : Value → Nat
  | .slice _ n _ => n
  | _ => 0
theorem mergeW_len : ∀ (a b : List Wd), (mergeW a b).length = a.length + b.length
  | [], b => by simp [mergeW]
  | x :: a, [] => by simp [mergeW]
  | x :: a, y :: b => by
    unfold mergeW
    split
    · rw [List.length_cons, mergeW_len a (y :: b)]; simp; omega
    · rw [List.length_cons, mergeW_len (x :: a) b]; simp; omega
termination_by a b => a.length + b.length

theorem mergeW_lt {x y : Wd} {a b : List Wd} (h : x < y) : mergeW (x :: a) (y :: b) = x :: mergeW a (y :: b) := by rw [mergeW, if_pos h]
theorem mergeW_ge {x y : Wd} {a b : List Wd} (h : ¬ x < y) : mergeW (x :: a) (y :: b) = y :: mergeW (x :: a) b := by rw [mergeW, if_neg h]
theorem run_tail {a : Option Addr} {n c : Nat} {V : Value} (h : sliced a 1 (n + 1) c 1 = V) (W : World) : (Instr.slice 28 (.slice a (n + 1) c) (some (.int .i64 1)) none none).run Tryz.prog W = .ok V W := by
  have ht : Tryz.prog.underlying 28 = some (.slice (Tryz.prog.elem 28)) := by kernel_rfl
  have he : Tryz.prog.elem 28 = 9 := by kernel_rfl
  rw [run_slice_l W 28 a (n + 1) c ht .i64 1 (by decide) (by omega), he]
  have : (Go.sizeOf 9).run Tryz.prog W = .ok 1 W := Tryz.sizeOf9 W
  rw [this]
  simp only [Result.andThen]
  rw [← h]
  rfl
theorem strs_tail {w : World} {b off n c : Nat} {x : Wd} {l : List Wd} (h : StrsAt w (.slice (some ⟨b, off, none⟩) (n + 1) c) (x :: l)) : ∃ A C, (sliced (some ⟨b, off, none⟩) 1 (n + 1) c 1) = .slice A n C ∧ StrsAt w (.slice A n C) l := by
  obtain ⟨a', c', e, hle, hl, hc⟩ := h
  injection e with e1 e2 e3
  subst e1; subst e3
  simp only [List.length_cons] at e2 hle hl
  obtain rfl : n = l.length := by omega
  refine ⟨_, _, rfl, _, _, rfl, by omega, by omega, fun j hj => ?_⟩
  obtain ⟨b', off', h1, h2⟩ := hc (j + 1) (by simp; omega)
  cases h1
  have hc1 : c ≠ 1 := by omega
  refine ⟨b, off + 1, by simp [hc1, Addr.add], ?_⟩
  rw [show off + 1 + j = off + (j + 1) by omega]
  simpa using h2

set_option maxRecDepth 100000 in
set_option maxHeartbeats 2000000 in
theorem merged_any (va vb : Value) (A B : List Wd) (w : World) (h1 : StrsAt w va A) (h2 : StrsAt w vb B) (hA : A.length ≤ 1000000) (hB : B.length ≤ 1000000) :
    Calls Tryz.prog 60 #[va, vb] w fun e w' => ∃ v, e = .returned v ∧ OwnsStrs w' w.heap.size v (mergeW A B) ∧ Below w.heap.size w w' := by
  obtain ⟨i0, hi, hz0, hz1, hz2⟩ := info_parts infoStr'
  have H1 := Lib.hid h1; have H2 := Lib.hid h2
  obtain ⟨a1, c1, rfl, hle1, hl1, hc1⟩ := h1
  obtain ⟨a2, c2, rfl, hle2, hl2, hc2⟩ := h2
  have HL0 := Lib.hid (mergeW_len A B)
  obtain ⟨R, HR⟩ : ∃ R, Hid (mergeW A B = R) := ⟨_, Lib.hid rfl⟩
  rw [HR.out]
  clear hc1 hc2
  obtain ⟨nA, hnA⟩ : ∃ n, A.length = n := ⟨_, rfl⟩
  obtain ⟨nB, hnB⟩ : ∃ n, B.length = n := ⟨_, rfl⟩
  rw [hnA] at hle1 hl1 hA HL0 ⊢
  rw [hnB] at hle2 hl2 hB HL0 ⊢
  have HNA := Lib.hid hnA; have HNB := Lib.hid hnB
  clear hnA hnB
  have hwr : Go.RowKit.wrap64 ((nA : Int) + nB) = (nA : Int) + nB := IntWalk.wrap64_in _ (by omega)
  go_enter Tryz.func60, Tryz.ntmps60
  go_wp2_with (at_make; refine wpList_make_own _ rfl _ _ 28 rfl w.heap.size 9 i0 _ 1 Tryz.underlying28 hi hz0 hz1 .i64 .i64 _ (nA + nB) rfl rfl (by first | omega | (rw [hwr]; omega)) ?b2 ?b3 ?b4 ?_)
  case b2 => rw [hz2]; omega
  case b3 => unfold maxLen; omega
  case b4 => omega
  intro w1 ho1 hg1
  have hb1 : Below w.heap.size w w1 := (Below.refl _ w).grown hg1 (Nat.le_refl _) (fun j hj => by cases hj)
  go_wp2
  go_loopw [0, 1, 5] (fun u0 u1 u5 wr => ∃ (a b : List Wd) (pre : List Wd), Hid (StrsAt w u0 a) ∧ Hid (StrsAt w u1 b) ∧ Hid (pre ++ mergeW a b = R) ∧ Hid (OwnsStrs wr w.heap.size u5 pre) ∧ pre.length ≤ nA + nB ∧ Hid (Below w.heap.size w wr)) (fun u0 u1 _ _ => lenV u0 + lenV u1)
  case atStart => exact ⟨A, B, [], Lib.hid (by rw [← HNA.out]; exact H1.out), Lib.hid (by rw [← HNB.out]; exact H2.out), Lib.hid HR.out, Lib.hid ho1, by simp, Lib.hid hb1⟩
  case round =>
    obtain ⟨a, b, pre, HS1, HS2, HE, HO, hpl, HB⟩ := hrel
    have h1 := HS1.out.below HB.out
    have h2 := HS2.out.below HB.out
    have hlenR : Hid (pre.length + (a.length + b.length) = nA + nB) := Lib.hid (by
      have e1 := congrArg List.length HE.out
      rw [List.length_append, mergeW_len] at e1
      have e2 := congrArg List.length HR.out
      rw [HL0.out] at e2
      omega)
    have hbs := HB.out.size
    have hbase := hbs
    by_cases hgo : a = [] ∨ b = []
    · -- the rest of one
      obtain ⟨a1', c1', e1, q1, m1, -⟩ := h1
      obtain ⟨a2', c2', e2, q2, m2, -⟩ := h2
      subst e1; subst e2
      have hs1 := src_of_strs (HS1.out.below HB.out)
      have hL := hlenR.out
      have HR9 : Hid (pre ++ a ++ b = R) := Lib.hid (by
        rw [← HE.out, List.append_assoc]
        rcases hgo with rfl | rfl
        · simp [mergeW]
        · rw [mergeW_nil, List.append_nil])
      have HG0 : Hid ((decide ((0 : Int) < (a.length : Int)) && decide ((0 : Int) < (b.length : Int))) = false) := Lib.hid (by
        rcases hgo with rfl | rfl <;> simp)
      have h1c : ∀ (l : List Wd), ∀ u ∈ l.map encW, u.oneCell' = true := fun l u hu => by
        obtain ⟨z, _, rfl⟩ := List.mem_map.1 hu; rfl
      obtain ⟨na, hna⟩ : ∃ n, a.length = n := ⟨_, rfl⟩
      obtain ⟨nb, hnb⟩ : ∃ n, b.length = n := ⟨_, rfl⟩
      have HNa := Lib.hid hna; have HNb := Lib.hid hnb
      have HO' : wr.ownsRow w.heap.size 9 1 u5 pre.length (pre.map encW) := HO.out
      rw [hna] at hs1 hL HS1 q1 m1 HG0 ⊢
      rw [hnb] at hL HS2 q2 m2 HG0 ⊢
      clear hna hnb hgo
      by_cases hna0 : na = 0
      · subst hna0
        go_wp2_with (at_builtin; refine wpList_append_src _ rfl _ _ 28 rfl w.heap.size 9 i0 _ 1 16 Tryz.underlying28 hi hz0 hz1 hz2 rfl (by decide) _ _ _ rfl HO' _ _ _ _ rfl hs1 (h1c a) ?c3 ?c4 ?c5 ?_)
        case c3 => unfold maxLen; omega
        case c4 => omega
        case c5 => omega
        intro v1 w2 ho2 hg2
        have hb2 := HB.out.grown hg2 hbs (fun j e => (HO'.lt j e).1)
        have hs2 : Src w2 1 a2' nb (b.map encW) := by
          have := src_of_strs (HS2.out.below hb2)
          rw [HNb.out] at this
          exact this
        have HB2 := Lib.hid hb2
        have hbs2 := hb2.size
        clear hg2 hb2
        go_wp2_with (at_builtin; refine wpList_append_src _ rfl _ _ 28 rfl w.heap.size 9 i0 _ 1 16 Tryz.underlying28 hi hz0 hz1 hz2 rfl (by decide) _ _ _ rfl ho2 _ _ _ _ rfl hs2 (h1c b) ?d3 ?d4 ?d5 ?_)
        case d3 => unfold maxLen; omega
        case d4 => omega
        case d5 => omega
        intro v3 w3 ho3 hg3
        have hb3 := HB2.out.grown hg3 hbs2 (fun j e => (ho2.lt j e).1)
        clear hg3
        go_wp2
        go_ret
        refine ⟨_, rfl, ?_, hb3⟩
        rw [← HR9.out]
        unfold OwnsStrs
        simpa [List.append_assoc, HNa.out, HNb.out] using ho3
      · obtain rfl : nb = 0 := by
          have := HG0.out
          simp at this
          omega
        have hga : decide ((0 : Int) < (na : Int)) = true := by simp; omega
        go_wp2_with (at_builtin; refine wpList_append_src _ rfl _ _ 28 rfl w.heap.size 9 i0 _ 1 16 Tryz.underlying28 hi hz0 hz1 hz2 rfl (by decide) _ _ _ rfl HO' _ _ _ _ rfl hs1 (h1c a) ?c3 ?c4 ?c5 ?_)
        case c3 => unfold maxLen; omega
        case c4 => omega
        case c5 => omega
        intro v1 w2 ho2 hg2
        have hb2 := HB.out.grown hg2 hbs (fun j e => (HO'.lt j e).1)
        have hs2 : Src w2 1 a2' 0 (b.map encW) := by
          have := src_of_strs (HS2.out.below hb2)
          rw [HNb.out] at this
          exact this
        have HB2 := Lib.hid hb2
        have hbs2 := hb2.size
        clear hg2 hb2
        go_wp2_with (at_builtin; refine wpList_append_src _ rfl _ _ 28 rfl w.heap.size 9 i0 _ 1 16 Tryz.underlying28 hi hz0 hz1 hz2 rfl (by decide) _ _ _ rfl ho2 _ _ _ _ rfl hs2 (h1c b) ?d3 ?d4 ?d5 ?_)
        case d3 => unfold maxLen; omega
        case d4 => omega
        case d5 => omega
        intro v3 w3 ho3 hg3
        have hb3 := HB2.out.grown hg3 hbs2 (fun j e => (ho2.lt j e).1)
        clear hg3
        go_wp2
        go_ret
        refine ⟨_, rfl, ?_, hb3⟩
        rw [← HR9.out]
        unfold OwnsStrs
        simpa [List.append_assoc, HNa.out, HNb.out] using ho3
    · obtain ⟨x, a, rfl⟩ : ∃ x l, a = x :: l := by
        cases a with
        | nil => exact absurd (.inl rfl) hgo
        | cons x l => exact ⟨_, _, rfl⟩
      obtain ⟨y, b, rfl⟩ : ∃ x l, b = x :: l := by
        cases b with
        | nil => exact absurd (.inr rfl) hgo
        | cons x l => exact ⟨_, _, rfl⟩
      obtain ⟨a1', c1', e1, hn1, hm1, hq1⟩ := h1
      obtain ⟨a2', c2', e2, hn2, hm2, hq2⟩ := h2
      subst e1; subst e2
      obtain ⟨ba, oa, rfl, ka⟩ := hq1 0 (by simp)
      obtain ⟨bb, ob, rfl, kb⟩ := hq2 0 (by simp)
      simp only [List.length_cons, List.getElem_cons_zero, Nat.add_zero, encW] at ka kb hn1 hn2 HS1 HS2 ⊢
      clear hq1 hq2 hm1 hm2 hgo
      obtain ⟨Aa, Ca, ea, ta⟩ := strs_tail HS1.out
      obtain ⟨Ab, Cb, eb, tb⟩ := strs_tail HS2.out
      have hra := run_tail ea; have hrb := run_tail eb
      have HTa := Lib.hid ta; have HTb := Lib.hid tb
      have HO' : wr.ownsRow w.heap.size 9 1 u5 pre.length (pre.map encW) := HO.out
      have hL := hlenR.out
      simp only [List.length_cons] at hL
      clear ta tb ea eb
      by_cases hxy : x < y
      · have g1 : Op.bytesLess x y = true := by rw [bytesLess_eq]; simpa using hxy
        have HE2 : Hid ((pre ++ [x]) ++ mergeW a (y :: b) = R) := Lib.hid (by rw [← HE.out, mergeW_lt hxy, List.append_assoc]; rfl)
        clear hxy
        go_upto_region 3 with fail
        go_quiet (fail)
        go_wp2_with (at_builtin; refine wpList_append_own _ rfl _ _ 28 rfl w.heap.size 9 i0 _ 1 16 Tryz.underlying28 hi hz0 hz1 hz2 rfl (by decide) _ _ _ rfl (HO'.alloc _) ⟨wr.heap.size, 0, none⟩ 1 1 [.string ⟨x.toArray⟩] rfl rfl (World.news_of_block (cs := #[.string ⟨x.toArray⟩]) (t := 9) (fr := (0, 0)) (heap_alloc_new wr _)) (by simp [Value.oneCell']) ?c3 ?c4 ?c5 ?_)
        case c3 => unfold maxLen; omega
        case c4 => omega
        case c5 => simp; omega
        intro v' w2 ho2 hg2 _
        have HO2 : Hid (OwnsStrs w2 w.heap.size v' (pre ++ [x])) := Lib.hid (by unfold OwnsStrs; simpa [encW] using ho2)
        have HB2 : Hid (Below w.heap.size w w2) := Lib.hid (((HB.out.drewN _).alloc hbs _).grown hg2 (by simp; omega) (fun j e => (HO'.lt j e).1))
        clear ho2 hg2
        go_wp2
        go_roundw
        case rel => exact ⟨a, y :: b, pre ++ [x], HTa, HS2, HE2, HO2, by simp; omega, HB2⟩
        case measure => simp [lenV]
      · have g1 : Op.bytesLess x y = false := by rw [bytesLess_eq]; simpa using hxy
        have HE2 : Hid ((pre ++ [y]) ++ mergeW (x :: a) b = R) := Lib.hid (by rw [← HE.out, mergeW_ge hxy, List.append_assoc]; rfl)
        clear hxy
        go_upto_region 3 with fail
        go_quiet (fail)
        go_wp2_with (at_builtin; refine wpList_append_own _ rfl _ _ 28 rfl w.heap.size 9 i0 _ 1 16 Tryz.underlying28 hi hz0 hz1 hz2 rfl (by decide) _ _ _ rfl (HO'.alloc _) ⟨wr.heap.size, 0, none⟩ 1 1 [.string ⟨y.toArray⟩] rfl rfl (World.news_of_block (cs := #[.string ⟨y.toArray⟩]) (t := 9) (fr := (0, 0)) (heap_alloc_new wr _)) (by simp [Value.oneCell']) ?c3 ?c4 ?c5 ?_)
        case c3 => unfold maxLen; omega
        case c4 => omega
        case c5 => simp; omega
        intro v' w2 ho2 hg2 _
        have HO2 : Hid (OwnsStrs w2 w.heap.size v' (pre ++ [y])) := Lib.hid (by unfold OwnsStrs; simpa [encW] using ho2)
        have HB2 : Hid (Below w.heap.size w w2) := Lib.hid (((HB.out.drewN _).alloc hbs _).grown hg2 (by simp; omega) (fun j e => (HO'.lt j e).1))
        clear ho2 hg2
        go_wp2
        go_roundw
        case rel => exact ⟨x :: a, b, pre ++ [y], HS1, HTb, HE2, HO2, by simp; omega, HB2⟩
        case measure => simp [lenV]
end Go.Proofs.YtogjgibaolppfaaGreatDoor

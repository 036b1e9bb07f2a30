import Derived.Test.YtmfnhfkgkdibfaaGreatTokB
import Derived.Test.YtmfnhfkgkdibfaaGreatTokS
import Derived.RangeFuncNested
import Derived.Deep.DeepCutAuto
import Derived.Lib.Hide
import Derived.RangeFuncBound
import Derived.RangeFuncCalls
import Derived.Shelf.Abstract
import Derived.OwnWalkIn
import Derived.TacticsInMore
import Derived.LoopNIn
import Derived.LoopIn
import Derived.Laws.IdiomStrings
namespace Go.Proofs.YtmfnhfkgkdibfaaGreat
open Go.RowKit Go.Shelf

attribute [local go_sem] Oper.semAt_some



theorem addr_add (b j : Nat) : (⟨b, 0, none⟩ : Addr).add j = ⟨b, j, none⟩ := by unfold Addr.add; split <;> simp_all
theorem word_len : Tryz.prog.arrayLen 102 = 30 := by kernel_rfl
theorem word_elem : Tryz.prog.elem 102 = 5 := by kernel_rfl
theorem slice_word (b n : Nat) (h : n ≤ 30) (w : World) : (Instr.sliceAt 102 (.pointer (some ⟨b, 0, none⟩)) none (some (.int .i64 (n : Int))) none).run Tryz.prog w = .ok (.slice (some ⟨b, 0, none⟩) n 30) w := by
  have hz : (sizeOf 5).run Tryz.prog w = .ok 1 w := by kernel_rfl
  rw [run_sliceAt_array_h w 102 ⟨b, 0, none⟩ (by rw [word_len, word_elem]; exact Tryz.underlying102) .i64 n (by omega) (by rw [word_len]; omega), word_len, word_elem, hz]
  simp [Result.andThen, slicedAt, Addr.add]

theorem drop_byte (s : ByteArray) (k : Nat) (h : k < s.size) : s.data.toList.drop k = s[k] :: s.data.toList.drop (k + 1) := by
  rw [List.drop_eq_getElem_cons (by simpa using h)]; rfl
def WordCells (C : Array Value) (cur : List UInt8) : Prop := C.size = 30 ∧ (∀ j (h : j < cur.length), C[j]? = some (.int .u8 (cur[j].toNat : Int))) ∧ cur.length ≤ 30
theorem wordCells_nil {C : Array Value} (h : C.size = 30 := by rfl) : WordCells C [] := ⟨h, by simp, by simp⟩
theorem wordCells_push {C : Array Value} {cur : List UInt8} (h : WordCells C cur) (hf : cur.length < 30) (c : UInt8) : WordCells (C.setIfInBounds cur.length (.int .u8 (c.toNat : Int))) (cur ++ [c]) := by
  refine ⟨by simp [h.1], fun j hj => ?_, by simp; omega⟩
  rw [Array.getElem?_setIfInBounds]
  by_cases e : cur.length = j
  · subst e; simp [h.1, hf]
  · simp at hj
    have hj' : j < cur.length := by omega
    rw [if_neg e, h.2.1 j hj', List.getElem_append_left hj']

set_option maxRecDepth 100000 in
set_option maxHeartbeats 400000 in
theorem words1_in (n l Bs : Nat) (hn : 1 ≤ n) (s : ByteArray) (hsz : s.size ≤ 1099511627776) (J Jx : List (List UInt8) → World → Prop) (W : World) (hJ : AbidesFrom W.heap.size J) (hBs : Bs < W.heap.size)
    (hY : ∀ pre x W, J pre W → pre.length < (wordsOf s.data.toList).length → YieldAt Fence.wide (n - 1) Tryz.prog l #[encW x] W fun e W' =>
      (e = .returned (.bool true) ∧ J (pre ++ [x]) W' ∧ KeepsAt Bs W W') ∨ (e = .returned (.bool false) ∧ Jx (pre ++ [x]) W'))
    (hBn : W.cell? ⟨Bs, 0, none⟩ = some (.string s)) (h0 : J [] W) :
    CallsIn Fence.wide n Tryz.prog 71 #[.func (.yield l) #[] #[], .pointer (some ⟨Bs, 0, none⟩)] W fun e W' => (∃ v, e = .returned v) ∧
      ((∃ ys, ys = wordsOf s.data.toList ∧ J ys W') ∨ (∃ pre, pre <+: wordsOf s.data.toList ∧ Jx pre W')) := by
  refine callsIn_wide.2 ?_
  have HY := Lib.hid hY; clear hY
  have HJ := Lib.hid hJ; clear hJ
  go_enter Tryz.func71, Tryz.ntmps71
  go_step3
  go_wp2
  go_step3
  go_wp2
  have hWl : wordsOf s.data.toList = [] ++ wordsGo [] (s.data.toList.drop 0) := rfl
  go_loopw [3] (fun p wr => ∃ (k : Nat) (pre : List (List UInt8)), p = .int .i64 k ∧ k ≤ s.size + 1 ∧ Hid (wordsOf s.data.toList = pre ++ wordsGo [] (s.data.toList.drop k)) ∧ KeepsAt Bs W wr ∧ J pre wr)
    (fun p _ => s.size + 1 - (intOf p).toNat)
  case atStart => exact ⟨0, [], rfl, by omega, Lib.hid hWl, KeepsAt.refl _ _, h0⟩
  case round =>
    clear h0
    obtain ⟨k0, pre, rfl, hk0, hw, hB, hJp⟩ := hrel
    have hcs : wr.cell? ⟨Bs, 0, none⟩ = some (.string s) := hB.cell.trans hBn
    have hS := hB.1
    have hBw : Bs < wr.heap.size := by omega
    clear hBn
    obtain ⟨wo, rfl⟩ : ∃ wo : World, wo = wr := ⟨_, rfl⟩
    by_cases hlt : k0 < s.size
    · go_wp2
      go_loopw [3, 5] (fun p q wi => ∃ (k : Nat) (cur : List UInt8) (C : Array Value), p = .int .i64 k ∧ q = .int .i64 cur.length ∧ wi = wo.alloc (.cells C 102) ∧ WordCells C cur ∧ k0 ≤ k ∧ k ≤ s.size ∧ Hid (wordsGo [] (s.data.toList.drop k0) = wordsGo cur (s.data.toList.drop k)) ∧ (cur ≠ [] → k0 < k))
        (fun p _ _ => s.size - (intOf p).toNat)
      case atStart => exact ⟨k0, [], _, rfl, rfl, rfl, wordCells_nil, Nat.le_refl _, by omega, Lib.hid rfl, by simp⟩
      case round =>
        obtain ⟨k, cur, C, rfl, rfl, rfl, hC, hk, hks, hg, hne⟩ := hrel
        have h30 := hC.2.2
        by_cases hlt : k < s.size
        · have hdr : s.data.toList.drop k = s[k] :: s.data.toList.drop (k + 1) := drop_byte s k hlt
          have HD := Lib.hid hdr; clear hdr
          by_cases hp : isPart s[k] = true
          · by_cases hf : cur.length < 30
            · obtain ⟨v0, hv0⟩ : ∃ v, C[cur.length]? = some v := ⟨_, Array.getElem?_eq_getElem (by rw [hC.1]; exact hf)⟩
              go_wp2_with (go_at_call 72; refine (small_yes _ hp _).mono ?_; rintro e w' ⟨rfl, rfl⟩)
              go_roundw
              case rel => exact ⟨k + 1, cur ++ [low s[k]], _, by go_num, by rw [List.length_append]; go_num, rfl, wordCells_push hC hf _, by omega, by omega, Lib.hid (by rw [hg.out, HD.out, wordsGo_part hp hf]), fun _ => by omega⟩
              case measure => simp [intOf]; omega
            · go_wp2_with (go_at_call 72; refine (small_yes _ hp _).mono ?_; rintro e w' ⟨rfl, rfl⟩)
              go_roundw
              case rel => exact ⟨k + 1, cur, _, by go_num, rfl, rfl, hC, by omega, by omega, Lib.hid (by rw [hg.out, HD.out, wordsGo_full hp hf]), fun _ => by omega⟩
              case measure => simp [intOf]; omega
          · have hp' : isPart s[k] = false := by simpa using hp
            have hov : ∀ c r', s.data.toList.drop k = c :: r' → isPart c = false := fun c r' e => by rw [HD.out] at e; cases e; exact hp'
            have HO := Lib.hid hov; clear hov hp
            have HC := Lib.hid hC
            by_cases hcur : cur = []
            · obtain rfl : cur = [] := hcur
              go_wp2_with (go_at_call 72; refine (small_no _ hp' _).mono ?_; rintro e w' ⟨rfl, rfl⟩)
              go_roundw
              case rel => exact ⟨k + 1, pre, by go_num, by omega, Lib.hid (by rw [hw.out, hg.out, wordsGo_skip HO.out, List.drop_drop]), hB.alloc (by omega) _, HJ.out _ _ _ none hJp (World.grownBy_alloc _ _ _) (by simp)⟩
              case measure => simp [intOf]; omega
            · have hlen : 0 < cur.length := List.length_pos_iff.2 hcur
              have hkk := hne hcur
              have HQ := Lib.hid (by rw [hw.out, hg.out, wordsGo_over HO.out hcur] : wordsOf s.data.toList = pre ++ cur :: wordsGo [] (s.data.toList.drop k))
              have hn0 : ((cur.length : Int) == 0) = false := by rw [beq_eq_false_iff_ne]; omega
              clear hcur hne hg hw HO
              go_upto_region 13 with (go_at_call 72; refine (small_no _ hp' _).mono ?_; rintro e w' ⟨rfl, rfl⟩)
              refine (wpIn_wide (n := n)).1 ?_
              have hJ1 : J pre (wo.alloc (.cells C 102)) := HJ.out _ _ _ none hJp (World.grownBy_alloc _ _ _) (by simp)
              have hconv : (convert 61 9 (.slice (some ⟨wo.heap.size, 0, none⟩) cur.length 30)).run Tryz.prog (wo.alloc (.cells C 102)) = .ok (.string ⟨cur.toArray⟩) (wo.alloc (.cells C 102)) :=
                run_convert_bytes_back _ 61 9 5 ⟨wo.heap.size, 0, none⟩ 30 cur Tryz.underlying61 Tryz.underlying5 Tryz.underlying9 (fun j hj => by
                  rw [addr_add]
                  exact (World.cell?_alloc_new wo C _ j).trans (HC.out.2.1 j hj))
              have hsl := slice_word wo.heap.size cur.length h30 (wo.alloc (.cells C 102))
              obtain ⟨fn, tmps, assign, body, hy, hR⟩ := HY.out pre cur _ hJ1 (by rw [HQ.out]; simp)
              dsimp only [encW] at hy
              gi_wp2
              refine hR.mono ?_
              rintro e W3 (⟨rfl, hJ3, hk3⟩ | ⟨rfl, hJx3⟩)
              · gi_wp2
                go_wp2
                go_roundw
                case rel => exact ⟨k, pre ++ [cur], rfl, by omega, Lib.hid (by rw [HQ.out]; simp), (hB.alloc (by omega) _).trans hk3, hJ3⟩
                case measure => simp [intOf]; omega
              · gi_wp2
                go_wp2
                rw [Exit.noGoto_normal]
                go_end0
                exact ⟨⟨_, rfl⟩, .inr ⟨pre ++ [cur], ⟨wordsGo [] (s.data.toList.drop k), by rw [HQ.out]; simp⟩, hJx3⟩⟩
        · have hov : ∀ c r', s.data.toList.drop k = c :: r' → isPart c = false := fun c r' e => by rw [List.drop_eq_nil_of_le (by simp; omega)] at e; cases e
          have HO := Lib.hid hov; clear hov
          have HC := Lib.hid hC
          by_cases hcur : cur = []
          · obtain rfl : cur = [] := hcur
            go_wp2
            go_roundw
            case rel => exact ⟨k + 1, pre, by go_num, by omega, Lib.hid (by rw [hw.out, hg.out, wordsGo_skip HO.out, List.drop_drop]), hB.alloc (by omega) _, HJ.out _ _ _ none hJp (World.grownBy_alloc _ _ _) (by simp)⟩
            case measure => simp [intOf]; omega
          · have hlen : 0 < cur.length := List.length_pos_iff.2 hcur
            have hkk := hne hcur
            have HQ := Lib.hid (by rw [hw.out, hg.out, wordsGo_over HO.out hcur] : wordsOf s.data.toList = pre ++ cur :: wordsGo [] (s.data.toList.drop k))
            have hn0 : ((cur.length : Int) == 0) = false := by rw [beq_eq_false_iff_ne]; omega
            clear hcur hne hg hw HO
            go_upto_region 13 with (fail)
            refine (wpIn_wide (n := n)).1 ?_
            have hJ1 : J pre (wo.alloc (.cells C 102)) := HJ.out _ _ _ none hJp (World.grownBy_alloc _ _ _) (by simp)
            have hconv : (convert 61 9 (.slice (some ⟨wo.heap.size, 0, none⟩) cur.length 30)).run Tryz.prog (wo.alloc (.cells C 102)) = .ok (.string ⟨cur.toArray⟩) (wo.alloc (.cells C 102)) :=
              run_convert_bytes_back _ 61 9 5 ⟨wo.heap.size, 0, none⟩ 30 cur Tryz.underlying61 Tryz.underlying5 Tryz.underlying9 (fun j hj => by
                rw [addr_add]
                exact (World.cell?_alloc_new wo C _ j).trans (HC.out.2.1 j hj))
            have hsl := slice_word wo.heap.size cur.length h30 (wo.alloc (.cells C 102))
            obtain ⟨fn, tmps, assign, body, hy, hR⟩ := HY.out pre cur _ hJ1 (by rw [HQ.out]; simp)
            dsimp only [encW] at hy
            gi_wp2
            refine hR.mono ?_
            rintro e W3 (⟨rfl, hJ3, hk3⟩ | ⟨rfl, hJx3⟩)
            · gi_wp2
              go_wp2
              go_roundw
              case rel => exact ⟨k, pre ++ [cur], rfl, by omega, Lib.hid (by rw [HQ.out]; simp), (hB.alloc (by omega) _).trans hk3, hJ3⟩
              case measure => simp [intOf]; omega
            · gi_wp2
              go_wp2
              rw [Exit.noGoto_normal]
              go_end0
              exact ⟨⟨_, rfl⟩, .inr ⟨pre ++ [cur], ⟨wordsGo [] (s.data.toList.drop k), by rw [HQ.out]; simp⟩, hJx3⟩⟩
    · have hfin : wordsOf s.data.toList = pre := by rw [hw.out, List.drop_eq_nil_of_le (by simp; omega)]; simp [wordsGo]
      have HF := Lib.hid hfin; clear hfin
      go_wp2
      rw [Exit.noGoto_normal]
      go_end0
      exact ⟨⟨_, rfl⟩, .inl ⟨pre, HF.out.symm, hJp⟩⟩

theorem words_stops (n : Nat) (hn : 1 ≤ n) (Bs : Nat) (s : ByteArray) (hsz : s.size ≤ 1099511627776) (w : World) (hBs : Bs < w.heap.size) (hc : w.cell? ⟨Bs, 0, none⟩ = some (.string s)) :
    SeqStopsK Fence.wide n Tryz.prog 71 #[.pointer (some ⟨Bs, 0, none⟩)] (fun x => #[encW x]) (KeepsAt Bs) (fun ys => ys = wordsOf s.data.toList) (fun pre => pre <+: wordsOf s.data.toList) (wordsOf s.data.toList).length w :=
  fun l J Jx W hW hJ _ hY h0 => words1_in n l Bs hn s hsz J Jx W hJ (by have := hW.size; omega) hY ((hW.cell (p := ⟨Bs, 0, none⟩) hBs).trans hc) h0
end Go.Proofs.YtmfnhfkgkdibfaaGreat

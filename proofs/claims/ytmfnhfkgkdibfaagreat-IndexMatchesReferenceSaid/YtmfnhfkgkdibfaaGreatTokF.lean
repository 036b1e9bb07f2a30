import Derived.Lib.Strings
import Derived.Test.YtmfnhfkgkdibfaaGreatTokD
namespace Go.Proofs.YtmfnhfkgkdibfaaGreat
open Go.RowKit

theorem byte_cases (c : UInt8) : (isPart c = true ∧ (65 : Int) ≤ c.toNat ∧ (c.toNat : Int) ≤ 90) ∨ (isPart c = true ∧ (97 : Int) ≤ c.toNat ∧ (c.toNat : Int) ≤ 122) ∨ (isPart c = true ∧ (48 : Int) ≤ c.toNat ∧ (c.toNat : Int) ≤ 57) ∨
    (isPart c = false ∧ ((c.toNat : Int) < 48 ∨ ((57 : Int) < c.toNat ∧ (c.toNat : Int) < 65) ∨ ((90 : Int) < c.toNat ∧ (c.toNat : Int) < 97) ∨ (122 : Int) < c.toNat)) := by
  by_cases h : isPart c = true
  · have := (isPart_iff c).1 h
    simp only [h, true_and, reduceCtorEq, false_and, or_false]; omega
  · have h' : isPart c = false := by simpa using h
    have := mt (isPart_iff c).2 h
    simp only [h', true_and, reduceCtorEq, false_and, false_or]; omega

theorem conv_one (w : World) (n : Int) (c : UInt8) (h : (c.toNat : Int) = n) :
    (convert 61 9 (.slice (some ⟨w.heap.size, 0, none⟩) 1 1)).run Tryz.prog (w.alloc (.cells #[.int .u8 n] 5)) = .ok (.string ⟨[c].toArray⟩) (w.alloc (.cells #[.int .u8 n] 5)) := by
  subst h
  exact run_convert_bytes_back _ 61 9 5 ⟨w.heap.size, 0, none⟩ 1 [c] Tryz.underlying61 Tryz.underlying5 Tryz.underlying9 (fun j hj => by
    obtain rfl : j = 0 := by simpa using hj
    rw [addr_add]; simp)

theorem str_add (x y : List UInt8) : (⟨x.toArray⟩ : ByteArray) ++ ⟨y.toArray⟩ = ⟨(x ++ y).toArray⟩ := by
  apply ByteArray.ext; simp

set_option maxRecDepth 100000 in
set_option maxHeartbeats 1000000 in
theorem refWords_any (s : ByteArray) (hsz : s.size ≤ 1099511627775) (w : World) :
    Calls Tryz.prog 42 #[.string s] w (WordsPost s w) := by
  obtain ⟨i0, hi, hz0, hz1, hz2⟩ := info_parts infoStr
  go_enter Tryz.func42, Tryz.ntmps42
  go_wp2
  go_loopw [3, 4, 5] (fun v c p wr => ∃ (k : Nat) (cur : List UInt8) (ws : List (List UInt8)), p = .int .i64 k ∧ k ≤ s.size + 1 ∧ c = .string ⟨cur.toArray⟩ ∧ cur.length ≤ 30 ∧ OwnsStrs wr w.heap.size v ws ∧ ws.length ≤ k ∧ Below w.heap.size w wr ∧ Hid (wordsOf s.data.toList = ws ++ wordsGo cur (s.data.toList.drop k)) ∧ Hid (k = s.size + 1 → cur = []))
    (fun _ _ p _ => s.size + 1 - (intOf p).toNat)
  case atStart => exact ⟨0, [], [], rfl, by omega, rfl, by simp, World.ownsRow_nil _ _ _ _, by simp, Below.refl _ _, Lib.hid rfl, Lib.hid (by simp)⟩
  case round =>
    obtain ⟨k, cur, ws, rfl, hk, rfl, h30, hown, hwk, hB, hw, hend⟩ := hrel
    have HO := Lib.hid hown
    clear hown
    by_cases hlt : k < s.size
    · have HD := Lib.hid (drop_byte s k hlt)
      clear hend
      rcases byte_cases s[k] with ⟨hp, hc1, hc2⟩ | ⟨hp, hc1, hc2⟩ | ⟨hp, hc1, hc2⟩ | ⟨hp, hc⟩
      · have HP := Lib.hid hp; clear hp
        by_cases hf : cur.length < 30
        · have hcv := conv_one wr (↑s[k].toNat - 65 + 97) (low s[k]) (low_big (by omega))
          go_wp2
          go_roundw
          case rel => exact ⟨k + 1, cur ++ [low s[k]], ws, by go_num, by omega, by rw [str_add], by simp; omega, HO.out.alloc _, by omega, hB.alloc hB.size _, Lib.hid (by rw [hw.out, HD.out, wordsGo_part HP.out hf]), Lib.hid (by omega)⟩
          case measure => simp [intOf]; omega
        · go_wp2
          go_roundw
          case rel => exact ⟨k + 1, cur, ws, by go_num, by omega, rfl, h30, HO.out, by omega, hB, Lib.hid (by rw [hw.out, HD.out, wordsGo_full HP.out hf]), Lib.hid (by omega)⟩
          case measure => simp [intOf]; omega
      · have HP := Lib.hid hp; clear hp
        by_cases hf : cur.length < 30
        · have hcv := conv_one wr ↑s[k].toNat (low s[k]) (by rw [low_small (by omega)])
          go_wp2
          go_roundw
          case rel => exact ⟨k + 1, cur ++ [low s[k]], ws, by go_num, by omega, by rw [str_add], by simp; omega, HO.out.alloc _, by omega, hB.alloc hB.size _, Lib.hid (by rw [hw.out, HD.out, wordsGo_part HP.out hf]), Lib.hid (by omega)⟩
          case measure => simp [intOf]; omega
        · go_wp2
          go_roundw
          case rel => exact ⟨k + 1, cur, ws, by go_num, by omega, rfl, h30, HO.out, by omega, hB, Lib.hid (by rw [hw.out, HD.out, wordsGo_full HP.out hf]), Lib.hid (by omega)⟩
          case measure => simp [intOf]; omega
      · have HP := Lib.hid hp; clear hp
        by_cases hf : cur.length < 30
        · have hcv := conv_one wr ↑s[k].toNat (low s[k]) (by rw [low_small (by omega)])
          go_wp2
          go_roundw
          case rel => exact ⟨k + 1, cur ++ [low s[k]], ws, by go_num, by omega, by rw [str_add], by simp; omega, HO.out.alloc _, by omega, hB.alloc hB.size _, Lib.hid (by rw [hw.out, HD.out, wordsGo_part HP.out hf]), Lib.hid (by omega)⟩
          case measure => simp [intOf]; omega
        · go_wp2
          go_roundw
          case rel => exact ⟨k + 1, cur, ws, by go_num, by omega, rfl, h30, HO.out, by omega, hB, Lib.hid (by rw [hw.out, HD.out, wordsGo_full HP.out hf]), Lib.hid (by omega)⟩
          case measure => simp [intOf]; omega
      · have HP := Lib.hid hp; clear hp
        rcases hc with hc | hc | hc | hc
        · have hov : ∀ c r', s.data.toList.drop k = c :: r' → isPart c = false := fun c r' e => by rw [HD.out] at e; cases e; exact HP.out
          have HV := Lib.hid hov; clear hov
          by_cases hcur : cur = []
          · obtain rfl : cur = [] := hcur
            have HQ := Lib.hid (by rw [hw.out, wordsGo_skip HV.out, List.drop_drop] : wordsOf s.data.toList = ws ++ wordsGo [] (s.data.toList.drop (k + 1)))
            clear hw HV
            go_wp2
            go_roundw
            case rel => exact ⟨k + 1, [], ws, by go_num, by omega, rfl, by simp, HO.out, by omega, hB, HQ, Lib.hid (by simp)⟩
            case measure => simp [intOf]; omega
          · have hne : (!cur.isEmpty) = true := by simp [hcur]
            have HQ := Lib.hid (by rw [hw.out, wordsGo_over HV.out hcur, wordsGo_skip HV.out, List.drop_drop] : wordsOf s.data.toList = ws ++ cur :: wordsGo [] (s.data.toList.drop (k + 1)))
            clear hw HV hcur
            have h63 : ws.length + 1 ≤ maxLen := by unfold maxLen; omega
            have hby : (ws.length + 1) * 16 ≤ 140737488355328 := by omega
            have h1c : ∀ u ∈ [Value.string ⟨cur.toArray⟩], u.oneCell' = true := by simp [Value.oneCell']
            have hbs : w.heap.size ≤ (wr.alloc (.cells #[.string ⟨cur.toArray⟩] 9)).heap.size := by have := hB.size; simp; omega
            go_wp2_with (at_builtin; refine wpList_append_own _ rfl _ _ 23 rfl w.heap.size 9 i0 (.string .empty) 1 16 Tryz.underlying23 hi hz0 hz1 hz2 rfl (by decide) u3 ws.length (ws.map encW) rfl (HO.out.alloc _) ⟨wr.heap.size, 0, none⟩ 1 1 [.string ⟨cur.toArray⟩] rfl rfl (cell_one_new _ _ _) h1c h63 hby hbs ?_; intro v' w1 hown' hgrow _)
            go_roundw
            case rel => exact ⟨k + 1, [], ws ++ [cur], by go_num, by omega, rfl, by simp, by simpa [OwnsStrs, encW] using hown', by simp; omega, (hB.alloc hB.size _).grown hgrow hbs (fun j e => (HO.out.lt j e).1), Lib.hid (by rw [HQ.out]; simp), Lib.hid (by simp)⟩
            case measure => simp [intOf]; omega
        · have hov : ∀ c r', s.data.toList.drop k = c :: r' → isPart c = false := fun c r' e => by rw [HD.out] at e; cases e; exact HP.out
          have HV := Lib.hid hov; clear hov
          by_cases hcur : cur = []
          · obtain rfl : cur = [] := hcur
            have HQ := Lib.hid (by rw [hw.out, wordsGo_skip HV.out, List.drop_drop] : wordsOf s.data.toList = ws ++ wordsGo [] (s.data.toList.drop (k + 1)))
            clear hw HV
            go_wp2
            go_roundw
            case rel => exact ⟨k + 1, [], ws, by go_num, by omega, rfl, by simp, HO.out, by omega, hB, HQ, Lib.hid (by simp)⟩
            case measure => simp [intOf]; omega
          · have hne : (!cur.isEmpty) = true := by simp [hcur]
            have HQ := Lib.hid (by rw [hw.out, wordsGo_over HV.out hcur, wordsGo_skip HV.out, List.drop_drop] : wordsOf s.data.toList = ws ++ cur :: wordsGo [] (s.data.toList.drop (k + 1)))
            clear hw HV hcur
            have h63 : ws.length + 1 ≤ maxLen := by unfold maxLen; omega
            have hby : (ws.length + 1) * 16 ≤ 140737488355328 := by omega
            have h1c : ∀ u ∈ [Value.string ⟨cur.toArray⟩], u.oneCell' = true := by simp [Value.oneCell']
            have hbs : w.heap.size ≤ (wr.alloc (.cells #[.string ⟨cur.toArray⟩] 9)).heap.size := by have := hB.size; simp; omega
            go_wp2_with (at_builtin; refine wpList_append_own _ rfl _ _ 23 rfl w.heap.size 9 i0 (.string .empty) 1 16 Tryz.underlying23 hi hz0 hz1 hz2 rfl (by decide) u3 ws.length (ws.map encW) rfl (HO.out.alloc _) ⟨wr.heap.size, 0, none⟩ 1 1 [.string ⟨cur.toArray⟩] rfl rfl (cell_one_new _ _ _) h1c h63 hby hbs ?_; intro v' w1 hown' hgrow _)
            go_roundw
            case rel => exact ⟨k + 1, [], ws ++ [cur], by go_num, by omega, rfl, by simp, by simpa [OwnsStrs, encW] using hown', by simp; omega, (hB.alloc hB.size _).grown hgrow hbs (fun j e => (HO.out.lt j e).1), Lib.hid (by rw [HQ.out]; simp), Lib.hid (by simp)⟩
            case measure => simp [intOf]; omega
        · have hov : ∀ c r', s.data.toList.drop k = c :: r' → isPart c = false := fun c r' e => by rw [HD.out] at e; cases e; exact HP.out
          have HV := Lib.hid hov; clear hov
          by_cases hcur : cur = []
          · obtain rfl : cur = [] := hcur
            have HQ := Lib.hid (by rw [hw.out, wordsGo_skip HV.out, List.drop_drop] : wordsOf s.data.toList = ws ++ wordsGo [] (s.data.toList.drop (k + 1)))
            clear hw HV
            go_wp2
            go_roundw
            case rel => exact ⟨k + 1, [], ws, by go_num, by omega, rfl, by simp, HO.out, by omega, hB, HQ, Lib.hid (by simp)⟩
            case measure => simp [intOf]; omega
          · have hne : (!cur.isEmpty) = true := by simp [hcur]
            have HQ := Lib.hid (by rw [hw.out, wordsGo_over HV.out hcur, wordsGo_skip HV.out, List.drop_drop] : wordsOf s.data.toList = ws ++ cur :: wordsGo [] (s.data.toList.drop (k + 1)))
            clear hw HV hcur
            have h63 : ws.length + 1 ≤ maxLen := by unfold maxLen; omega
            have hby : (ws.length + 1) * 16 ≤ 140737488355328 := by omega
            have h1c : ∀ u ∈ [Value.string ⟨cur.toArray⟩], u.oneCell' = true := by simp [Value.oneCell']
            have hbs : w.heap.size ≤ (wr.alloc (.cells #[.string ⟨cur.toArray⟩] 9)).heap.size := by have := hB.size; simp; omega
            go_wp2_with (at_builtin; refine wpList_append_own _ rfl _ _ 23 rfl w.heap.size 9 i0 (.string .empty) 1 16 Tryz.underlying23 hi hz0 hz1 hz2 rfl (by decide) u3 ws.length (ws.map encW) rfl (HO.out.alloc _) ⟨wr.heap.size, 0, none⟩ 1 1 [.string ⟨cur.toArray⟩] rfl rfl (cell_one_new _ _ _) h1c h63 hby hbs ?_; intro v' w1 hown' hgrow _)
            go_roundw
            case rel => exact ⟨k + 1, [], ws ++ [cur], by go_num, by omega, rfl, by simp, by simpa [OwnsStrs, encW] using hown', by simp; omega, (hB.alloc hB.size _).grown hgrow hbs (fun j e => (HO.out.lt j e).1), Lib.hid (by rw [HQ.out]; simp), Lib.hid (by simp)⟩
            case measure => simp [intOf]; omega
        · have hov : ∀ c r', s.data.toList.drop k = c :: r' → isPart c = false := fun c r' e => by rw [HD.out] at e; cases e; exact HP.out
          have HV := Lib.hid hov; clear hov
          by_cases hcur : cur = []
          · obtain rfl : cur = [] := hcur
            have HQ := Lib.hid (by rw [hw.out, wordsGo_skip HV.out, List.drop_drop] : wordsOf s.data.toList = ws ++ wordsGo [] (s.data.toList.drop (k + 1)))
            clear hw HV
            go_wp2
            go_roundw
            case rel => exact ⟨k + 1, [], ws, by go_num, by omega, rfl, by simp, HO.out, by omega, hB, HQ, Lib.hid (by simp)⟩
            case measure => simp [intOf]; omega
          · have hne : (!cur.isEmpty) = true := by simp [hcur]
            have HQ := Lib.hid (by rw [hw.out, wordsGo_over HV.out hcur, wordsGo_skip HV.out, List.drop_drop] : wordsOf s.data.toList = ws ++ cur :: wordsGo [] (s.data.toList.drop (k + 1)))
            clear hw HV hcur
            have h63 : ws.length + 1 ≤ maxLen := by unfold maxLen; omega
            have hby : (ws.length + 1) * 16 ≤ 140737488355328 := by omega
            have h1c : ∀ u ∈ [Value.string ⟨cur.toArray⟩], u.oneCell' = true := by simp [Value.oneCell']
            have hbs : w.heap.size ≤ (wr.alloc (.cells #[.string ⟨cur.toArray⟩] 9)).heap.size := by have := hB.size; simp; omega
            go_wp2_with (at_builtin; refine wpList_append_own _ rfl _ _ 23 rfl w.heap.size 9 i0 (.string .empty) 1 16 Tryz.underlying23 hi hz0 hz1 hz2 rfl (by decide) u3 ws.length (ws.map encW) rfl (HO.out.alloc _) ⟨wr.heap.size, 0, none⟩ 1 1 [.string ⟨cur.toArray⟩] rfl rfl (cell_one_new _ _ _) h1c h63 hby hbs ?_; intro v' w1 hown' hgrow _)
            go_roundw
            case rel => exact ⟨k + 1, [], ws ++ [cur], by go_num, by omega, rfl, by simp, by simpa [OwnsStrs, encW] using hown', by simp; omega, (hB.alloc hB.size _).grown hgrow hbs (fun j e => (HO.out.lt j e).1), Lib.hid (by rw [HQ.out]; simp), Lib.hid (by simp)⟩
            case measure => simp [intOf]; omega
    · by_cases hle : k = s.size
      · have hle2 : k ≤ s.size := by omega
        clear hle hend
        have hov : ∀ c r', s.data.toList.drop k = c :: r' → isPart c = false := fun c r' e => by rw [List.drop_eq_nil_of_le (by simp; omega)] at e; cases e
        have HV := Lib.hid hov; clear hov
        by_cases hcur : cur = []
        · obtain rfl : cur = [] := hcur
          have HQ := Lib.hid (by rw [hw.out, wordsGo_skip HV.out, List.drop_drop] : wordsOf s.data.toList = ws ++ wordsGo [] (s.data.toList.drop (k + 1)))
          clear hw HV
          go_wp2
          go_roundw
          case rel => exact ⟨k + 1, [], ws, by go_num, by omega, rfl, by simp, HO.out, by omega, hB, HQ, Lib.hid (by simp)⟩
          case measure => simp [intOf]; omega
        · have hne : (!cur.isEmpty) = true := by simp [hcur]
          have HQ := Lib.hid (by rw [hw.out, wordsGo_over HV.out hcur, wordsGo_skip HV.out, List.drop_drop] : wordsOf s.data.toList = ws ++ cur :: wordsGo [] (s.data.toList.drop (k + 1)))
          clear hw HV hcur
          have h63 : ws.length + 1 ≤ maxLen := by unfold maxLen; omega
          have hby : (ws.length + 1) * 16 ≤ 140737488355328 := by omega
          have h1c : ∀ u ∈ [Value.string ⟨cur.toArray⟩], u.oneCell' = true := by simp [Value.oneCell']
          have hbs : w.heap.size ≤ (wr.alloc (.cells #[.string ⟨cur.toArray⟩] 9)).heap.size := by have := hB.size; simp; omega
          go_wp2_with (at_builtin; refine wpList_append_own _ rfl _ _ 23 rfl w.heap.size 9 i0 (.string .empty) 1 16 Tryz.underlying23 hi hz0 hz1 hz2 rfl (by decide) u3 ws.length (ws.map encW) rfl (HO.out.alloc _) ⟨wr.heap.size, 0, none⟩ 1 1 [.string ⟨cur.toArray⟩] rfl rfl (cell_one_new _ _ _) h1c h63 hby hbs ?_; intro v' w1 hown' hgrow _)
          go_roundw
          case rel => exact ⟨k + 1, [], ws ++ [cur], by go_num, by omega, rfl, by simp, by simpa [OwnsStrs, encW] using hown', by simp; omega, (hB.alloc hB.size _).grown hgrow hbs (fun j e => (HO.out.lt j e).1), Lib.hid (by rw [HQ.out]; simp), Lib.hid (by simp)⟩
          case measure => simp [intOf]; omega
      · have hw2 : wordsOf s.data.toList = ws := by
          rw [hw.out, hend.out (by omega), List.drop_eq_nil_of_le (by simp; omega)]; simp [wordsGo]
        have HW := Lib.hid hw2
        clear hw2 hend hw
        go_wp2
        go_ret
        exact ⟨_, rfl, by rw [HW.out]; exact HO.out, hB⟩
end Go.Proofs.YtmfnhfkgkdibfaaGreat

/- Facts and contracts for the laws of the sender, part 8. Conditions: those that each theorem names. -/
import Derived.Test.YtogjgibaolppfaaGreatDoorK05
import Derived.Test.YtogjgibaolppfaaGreatDoorK07
import Derived.Test.YtogjgibaolppfaaGreatDoorK01
import Derived.Test.YtogjgibaolppfaaGreatDoorK03
import Derived.Shelf.SlSortCmp.NoneTotal
import Derived.Lib.Strings
/- ordered: a row of the call's own, sorted. -/
namespace Go.Proofs.YtogjgibaolppfaaGreatDoor
open Go.RowKit Go.Sort Go.Proofs Go.Shelf
theorem ownsRow_grow1 {w : World} {base : Nat} {e : TypeId} {size : Nat} {v : Value} {n : Nat} {xs : List Value} {os : Array Obj} (h : w.ownsRow base e size v n xs) : (grow w os).ownsRow base e size v n xs := by
  refine ⟨h.1, ?_⟩
  rcases h.2 with h0 | ⟨g, cap, cur, hv, hb, hg, r⟩
  · exact .inl h0
  · have hlt : g < w.heap.size := (Array.getElem?_eq_some_iff.1 hg).1
    exact .inr ⟨g, cap, cur, hv, hb, by simp only [grow]; rw [Array.getElem?_append_left hlt]; exact hg, r⟩

set_option maxRecDepth 100000 in
set_option maxHeartbeats 1000000 in
theorem ordered_hits (l : List (Int × Nat)) (v : Value) (base : Nat) (w : World) (ho : w.ownsRow base 64 2 v l.length (l.flatMap hitC)) (hlen : l.length ≤ 1000000) :
    Calls Tryz.prog 105 #[v, .func (.func 106) #[] #[]] w fun e w' => e = .returned v ∧ ∃ l' : List (Int × Nat), l'.Perm l ∧ l'.Pairwise (fun a b => ltOf (fun x y : Int × Nat => Lib.compareInt x.1 y.1) b a = false) ∧ w'.ownsRow base 64 2 v l'.length (l'.flatMap hitC) ∧ Below base w w' := by
  have eg : ∀ args w, (callFunc 106 args).run Tryz.prog w = .ok (.enter 106 args) w := enters_of Tryz.func106 (by kernel_rfl) rfl
  by_cases hl : l = []
  · subst hl
    obtain ⟨p, cap, rfl⟩ : ∃ p cap, v = .slice p 0 cap := by
      rcases ho.2 with ⟨rfl, _⟩ | ⟨g, cap, cur, rfl, _⟩
      · exact ⟨_, _, rfl⟩
      · exact ⟨_, _, rfl⟩
    have hcon := fun W => AnyF.slices_SortFunc_none (P := Tryz.prog) { Tryz.sortH with } p cap (.func (.func 106) #[] #[]) W
    change ∀ W, Calls Tryz.prog 47 _ _ _ at hcon
    have HO := Lib.hid ho
    clear ho
    go_enter Tryz.func105, Tryz.ntmps105
    go_wp2_with (go_at_call 47; refine (hcon _).mono ?_; rintro e w' ⟨rfl, rfl⟩)
    go_ret
    exact ⟨rfl, [], .nil, .nil, HO.out, Below.refl _ _⟩
  · have hv : v ≠ .slice none 0 0 := by
      rintro rfl
      rcases ho.2 with ⟨_, h0⟩ | ⟨g, cap, cur, e, _⟩
      · exact hl (List.length_eq_zero_iff.1 h0)
      · cases e
    obtain ⟨g, cap, rfl, hb, hlt, hn, hH⟩ := raw_of_ownsRow ho hv
    have hH' : HoldsK hitC 2 w g 0 l.toArray := by unfold HoldsK; rw [flatK_flatMap hitC 2 (by decide) (fun _ => rfl)]; exact hH
    have hcon := AnyQ.slices_SortFunc Tryz.sortH 2 Tryz.isAgg64 Tryz.sizeOf64 hitC (fun _ => rfl) (fun x v hv => by simp [hitC] at hv; rcases hv with rfl | rfl <;> rfl) (fun x y : Int × Nat => Lib.compareInt x.1 y.1) swoH 106 #[] g 0 cap l.toArray w eg (fun _ _ _ _ x y => hits_cmp x y _) hH' hlt (by simp; omega)
    change Calls Tryz.prog 47 _ _ _ at hcon
    have hcon' : Calls Tryz.prog 47 #[.slice (some ⟨g, 0, none⟩) l.length cap, .func (.func 106) #[] #[]] w fun e w' => e = .returned (.tuple #[]) ∧ ∃ l' : List (Int × Nat), l'.Perm l ∧ l'.Pairwise (fun a b => ltOf (fun x y : Int × Nat => Lib.compareInt x.1 y.1) b a = false) ∧ w'.ownsRow base 64 2 (.slice (some ⟨g, 0, none⟩) l.length cap) l.length (l'.flatMap hitC) ∧ Below base w w' := by
      refine hcon.mono ?_
      rintro e w' ⟨rfl, d', n, os, hp, hs, rfl⟩
      obtain ⟨h1, h2, h3⟩ := sorted_list hp hs
      have hd : d' = d'.toList.toArray := by simp
      refine ⟨rfl, d'.toList, by simpa using h1, h2, ?_, below_put hb hlt⟩
      unfold sortWorldK putRowK
      rw [hd, flatK_flatMap hitC 2 (by decide) (fun _ => rfl)]
      have := ownsRow_put (q := n) (os := os) (ys := d'.toList.flatMap hitC) ho (by
        have e1 : ∀ L : List (Int × Nat), (L.flatMap hitC).length = L.length * 2 := fun L => by induction L with | nil => rfl | cons x L ih => rw [List.flatMap_cons, List.length_append, ih]; simp [hitC]; omega
        rw [e1]; simp [h3])
      simpa using this
    have HC := Lib.hid hcon'
    clear hcon hcon' hH hH' ho hn
    go_enter Tryz.func105, Tryz.ntmps105
    go_wp2_with (go_at_call 47; refine HC.out.mono ?_; rintro e w' ⟨rfl, l', h1, h2, h3, h4⟩)
    go_ret
    exact ⟨rfl, l', h1, h2, by rw [h1.length_eq]; exact h3, h4⟩

set_option maxRecDepth 100000 in
set_option maxHeartbeats 1000000 in
theorem ordered_terms (l : List (Wd × Nat)) (v : Value) (base : Nat) (w : World) (ho : w.ownsRow base 92 2 v l.length (l.flatMap termC)) (hlen : l.length ≤ 1000000) :
    Calls Tryz.prog 89 #[v, .func (.func 90) #[] #[]] w fun e w' => e = .returned v ∧ ∃ l' : List (Wd × Nat), l'.Perm l ∧ l'.Pairwise (fun a b => ltOf cmpT b a = false) ∧ w'.ownsRow base 92 2 v l'.length (l'.flatMap termC) ∧ Below base w w' := by
  have eg : ∀ args w, (callFunc 90 args).run Tryz.prog w = .ok (.enter 90 args) w := enters_of Tryz.func90 (by kernel_rfl) rfl
  by_cases hl : l = []
  · subst hl
    obtain ⟨p, cap, rfl⟩ : ∃ p cap, v = .slice p 0 cap := by
      rcases ho.2 with ⟨rfl, _⟩ | ⟨g, cap, cur, rfl, _⟩
      · exact ⟨_, _, rfl⟩
      · exact ⟨_, _, rfl⟩
    have hcon := fun W => AnyF.slices_SortFunc_none (P := Tryz.prog) { Tryz.sortT with } p cap (.func (.func 90) #[] #[]) W
    change ∀ W, Calls Tryz.prog 134 _ _ _ at hcon
    have HO := Lib.hid ho
    clear ho
    go_enter Tryz.func89, Tryz.ntmps89
    go_wp2_with (go_at_call 134; refine (hcon _).mono ?_; rintro e w' ⟨rfl, rfl⟩)
    go_ret
    exact ⟨rfl, [], .nil, .nil, HO.out, Below.refl _ _⟩
  · have hv : v ≠ .slice none 0 0 := by
      rintro rfl
      rcases ho.2 with ⟨_, h0⟩ | ⟨g, cap, cur, e, _⟩
      · exact hl (List.length_eq_zero_iff.1 h0)
      · cases e
    obtain ⟨g, cap, rfl, hb, hlt, hn, hH⟩ := raw_of_ownsRow ho hv
    have hH' : HoldsK termC 2 w g 0 l.toArray := by unfold HoldsK; rw [flatK_flatMap termC 2 (by decide) (fun _ => rfl)]; exact hH
    have hcon := AnyQ.slices_SortFunc Tryz.sortT 2 Tryz.isAgg92 Tryz.sizeOf92 termC (fun _ => rfl) (fun x v hv => by simp [termC] at hv; rcases hv with rfl | rfl <;> rfl) cmpT swoT 90 #[] g 0 cap l.toArray w eg (fun _ _ _ _ x y => terms_cmp x y _) hH' hlt (by simp; omega)
    change Calls Tryz.prog 134 _ _ _ at hcon
    have hcon' : Calls Tryz.prog 134 #[.slice (some ⟨g, 0, none⟩) l.length cap, .func (.func 90) #[] #[]] w fun e w' => e = .returned (.tuple #[]) ∧ ∃ l' : List (Wd × Nat), l'.Perm l ∧ l'.Pairwise (fun a b => ltOf cmpT b a = false) ∧ w'.ownsRow base 92 2 (.slice (some ⟨g, 0, none⟩) l.length cap) l.length (l'.flatMap termC) ∧ Below base w w' := by
      refine hcon.mono ?_
      rintro e w' ⟨rfl, d', n, os, hp, hs, rfl⟩
      obtain ⟨h1, h2, h3⟩ := sorted_list hp hs
      have hd : d' = d'.toList.toArray := by simp
      refine ⟨rfl, d'.toList, by simpa using h1, h2, ?_, below_put hb hlt⟩
      unfold sortWorldK putRowK
      rw [hd, flatK_flatMap termC 2 (by decide) (fun _ => rfl)]
      have := ownsRow_put (q := n) (os := os) (ys := d'.toList.flatMap termC) ho (by
        have e1 : ∀ L : List (Wd × Nat), (L.flatMap termC).length = L.length * 2 := fun L => by induction L with | nil => rfl | cons x L ih => rw [List.flatMap_cons, List.length_append, ih]; simp [termC]; omega
        rw [e1]; simp [h3])
      simpa using this
    have HC := Lib.hid hcon'
    clear hcon hcon' hH hH' ho hn
    go_enter Tryz.func89, Tryz.ntmps89
    go_wp2_with (go_at_call 134; refine HC.out.mono ?_; rintro e w' ⟨rfl, l', h1, h2, h3, h4⟩)
    go_ret
    exact ⟨rfl, l', h1, h2, by rw [h1.length_eq]; exact h3, h4⟩

set_option maxRecDepth 100000 in
set_option maxHeartbeats 1000000 in
theorem ordered_ints (l : List Int) (v : Value) (base : Nat) (w : World) (ho : w.ownsRow base 3 1 v l.length (l.map (Value.int .i64))) (hlen : l.length ≤ 1000000) :
    Calls Tryz.prog 78 #[v, .func (.func 50) #[] #[]] w fun e w' => e = .returned v ∧ ∃ l' : List Int, l'.Perm l ∧ l'.Pairwise (fun a b => ltOf Lib.compareInt b a = false) ∧ w'.ownsRow base 3 1 v l'.length (l'.map (Value.int .i64)) ∧ Below base w w' := by
  have eg : ∀ args w, (callFunc 50 args).run Tryz.prog w = .ok (.enter 50 args) w := enters_of Tryz.func50 (by kernel_rfl) rfl
  by_cases hl : l = []
  · subst hl
    obtain ⟨p, cap, rfl⟩ : ∃ p cap, v = .slice p 0 cap := by
      rcases ho.2 with ⟨rfl, _⟩ | ⟨g, cap, cur, rfl, _⟩
      · exact ⟨_, _, rfl⟩
      · exact ⟨_, _, rfl⟩
    have hcon := fun W => AnyF.slices_SortFunc_none (P := Tryz.prog) { Tryz.sortI with } p cap (.func (.func 50) #[] #[]) W
    change ∀ W, Calls Tryz.prog 115 _ _ _ at hcon
    have HO := Lib.hid ho
    clear ho
    go_enter Tryz.func78, Tryz.ntmps78
    go_wp2_with (go_at_call 115; refine (hcon _).mono ?_; rintro e w' ⟨rfl, rfl⟩)
    go_ret
    exact ⟨rfl, [], .nil, .nil, HO.out, Below.refl _ _⟩
  · have hv : v ≠ .slice none 0 0 := by
      rintro rfl
      rcases ho.2 with ⟨_, h0⟩ | ⟨g, cap, cur, e, _⟩
      · exact hl (List.length_eq_zero_iff.1 h0)
      · cases e
    obtain ⟨g, cap, rfl, hb, hlt, hn, hm, -, hH⟩ := Lib.holds_of_ownsRow ho hv
    have hcon := Any.slices_SortFunc Tryz.sortI (Value.int .i64) (fun _ => rfl) Lib.compareInt swoI 50 #[] g 0 cap l.toArray w eg (fun _ _ _ _ x y => (cmp_int x y _).mono fun _ _ ⟨he, hw⟩ => ⟨he, 0, #[], by rw [hw, grow_empty]; rfl⟩) hH hlt (by simp; omega)
    change Calls Tryz.prog 115 _ _ _ at hcon
    have hcon' : Calls Tryz.prog 115 #[.slice (some ⟨g, 0, none⟩) l.length cap, .func (.func 50) #[] #[]] w fun e w' => e = .returned (.tuple #[]) ∧ ∃ l' : List Int, l'.Perm l ∧ l'.Pairwise (fun a b => ltOf Lib.compareInt b a = false) ∧ w'.ownsRow base 3 1 (.slice (some ⟨g, 0, none⟩) l.length cap) l.length (l'.map (Value.int .i64)) ∧ Below base w w' := by
      refine hcon.mono ?_
      rintro e w' ⟨rfl, d', n, os, hp, hs, rfl⟩
      obtain ⟨h1, h2, h3⟩ := sorted_list hp hs
      have hd : d' = d'.toList.toArray := by simp
      refine ⟨rfl, d'.toList, by simpa using h1, h2, ?_, below_put hb hlt⟩
      have hlen2 : d'.toList.length = l.length := by simpa using h3
      have := ownsRow_grow1 (os := os) (Lib.ownsRow_putRow (q := n) (k := l.length) ho hlen2 (Nat.le_refl _))
      rw [List.take_of_length_le (by omega)] at this
      unfold sortWorld
      simpa using this
    have HC := Lib.hid hcon'
    clear hcon hcon' hH ho hn
    go_enter Tryz.func78, Tryz.ntmps78
    go_wp2_with (go_at_call 115; refine HC.out.mono ?_; rintro e w' ⟨rfl, l', h1, h2, h3, h4⟩)
    go_ret
    exact ⟨rfl, l', h1, h2, by rw [h1.length_eq]; exact h3, h4⟩

/-- all but v's row lies as it lay -/
def But0 (v : Value) (w w' : World) : Prop := ∀ k, k < w.heap.size → v.ownBlock ≠ some k → w'.heap[k]? = w.heap[k]?
theorem but_put {α : Type} [Inhabited α] {enc : α → Value} {w : World} {g q k : Nat} {d : Array α} {os : Array Obj} (hk : k < w.heap.size) (hne : g ≠ k) : (grow (putRow enc (Sort.ahead w q) g 0 d) os).heap[k]? = w.heap[k]? := by
  have hk2 : k < (putRow enc (Sort.ahead w q) g 0 d).heap.size := by simp [putRow, mapBlock, Sort.ahead]; omega
  simp only [grow]
  rw [Array.getElem?_append_left hk2]
  simp [putRow, mapBlock, Sort.ahead, Array.getElem?_modify, hne]
set_option maxRecDepth 100000 in
set_option maxHeartbeats 1000000 in
theorem ordered_strs2 (l : List Wd) (v : Value) (base : Nat) (w : World) (ho : w.ownsRow base 9 1 v l.length (l.map (fun x : Wd => Value.string ⟨x.toArray⟩))) (hlen : l.length ≤ 1000000) :
    Calls Tryz.prog 61 #[v, .func (.func 62) #[] #[]] w fun e w' => e = .returned v ∧ ∃ l' : List Wd, l'.Perm l ∧ l'.Pairwise (fun a b => ltOf cmpS b a = false) ∧ w'.ownsRow base 9 1 v l'.length (l'.map (fun x : Wd => Value.string ⟨x.toArray⟩)) ∧ Below base w w' ∧ But0 v w w' := by
  have eg : ∀ args w, (callFunc 62 args).run Tryz.prog w = .ok (.enter 62 args) w := enters_of Tryz.func62 (by kernel_rfl) rfl
  by_cases hl : l = []
  · subst hl
    obtain ⟨p, cap, rfl⟩ : ∃ p cap, v = .slice p 0 cap := by
      rcases ho.2 with ⟨rfl, _⟩ | ⟨g, cap, cur, rfl, _⟩
      · exact ⟨_, _, rfl⟩
      · exact ⟨_, _, rfl⟩
    have hcon := fun W => AnyF.slices_SortFunc_none (P := Tryz.prog) { Tryz.sortS with } p cap (.func (.func 62) #[] #[]) W
    change ∀ W, Calls Tryz.prog 103 _ _ _ at hcon
    have HO := Lib.hid ho
    clear ho
    go_enter Tryz.func61, Tryz.ntmps61
    go_wp2_with (go_at_call 103; refine (hcon _).mono ?_; rintro e w' ⟨rfl, rfl⟩)
    go_ret
    exact ⟨rfl, [], .nil, .nil, HO.out, Below.refl _ _, fun _ _ _ => rfl⟩
  · have hv : v ≠ .slice none 0 0 := by
      rintro rfl
      rcases ho.2 with ⟨_, h0⟩ | ⟨g, cap, cur, e, _⟩
      · exact hl (List.length_eq_zero_iff.1 h0)
      · cases e
    obtain ⟨g, cap, rfl, hb, hlt, hn, hm, -, hH⟩ := Lib.holds_of_ownsRow ho hv
    have hcon := Any.slices_SortFunc Tryz.sortS (fun x : Wd => Value.string ⟨x.toArray⟩) (fun _ => rfl) cmpS swoS 62 #[] g 0 cap l.toArray w eg (fun _ _ _ _ x y => (cmp_str x y _).mono fun _ _ ⟨he, hw⟩ => ⟨he, 0, #[], by rw [hw, grow_empty]; rfl⟩) hH hlt (by simp; omega)
    change Calls Tryz.prog 103 _ _ _ at hcon
    have hcon' : Calls Tryz.prog 103 #[.slice (some ⟨g, 0, none⟩) l.length cap, .func (.func 62) #[] #[]] w fun e w' => e = .returned (.tuple #[]) ∧ ∃ l' : List Wd, l'.Perm l ∧ l'.Pairwise (fun a b => ltOf cmpS b a = false) ∧ w'.ownsRow base 9 1 (.slice (some ⟨g, 0, none⟩) l.length cap) l.length (l'.map (fun x : Wd => Value.string ⟨x.toArray⟩)) ∧ Below base w w' ∧ But0 (.slice (some ⟨g, 0, none⟩) l.length cap) w w' := by
      refine hcon.mono ?_
      rintro e w' ⟨rfl, d', n, os, hp, hs, rfl⟩
      obtain ⟨h1, h2, h3⟩ := sorted_list hp hs
      have hd : d' = d'.toList.toArray := by simp
      refine ⟨rfl, d'.toList, by simpa using h1, h2, ?_, below_put hb hlt, fun k hk hne => but_put hk fun e => hne (by rw [← e]; rfl)⟩
      have hlen2 : d'.toList.length = l.length := by simpa using h3
      have := ownsRow_grow1 (os := os) (Lib.ownsRow_putRow (q := n) (k := l.length) ho hlen2 (Nat.le_refl _))
      rw [List.take_of_length_le (by omega)] at this
      unfold sortWorld
      simpa using this
    have HC := Lib.hid hcon'
    clear hcon hcon' hH ho hn
    go_enter Tryz.func61, Tryz.ntmps61
    go_wp2_with (go_at_call 103; refine HC.out.mono ?_; rintro e w' ⟨rfl, l', h1, h2, h3, h4, h5⟩)
    go_ret
    exact ⟨rfl, l', h1, h2, by rw [h1.length_eq]; exact h3, h4, h5⟩

theorem ordered_strs (l : List Wd) (v : Value) (base : Nat) (w : World) (ho : w.ownsRow base 9 1 v l.length (l.map (fun x : Wd => Value.string ⟨x.toArray⟩))) (hlen : l.length ≤ 1000000) :
    Calls Tryz.prog 61 #[v, .func (.func 62) #[] #[]] w fun e w' => e = .returned v ∧ ∃ l' : List Wd, l'.Perm l ∧ l'.Pairwise (fun a b => ltOf cmpS b a = false) ∧ w'.ownsRow base 9 1 v l'.length (l'.map (fun x : Wd => Value.string ⟨x.toArray⟩)) ∧ Below base w w' :=
  (ordered_strs2 l v base w ho hlen).mono fun _ _ ⟨a, l', b, c, d, e, _⟩ => ⟨a, l', b, c, d, e⟩
end Go.Proofs.YtogjgibaolppfaaGreatDoor
namespace Go.Proofs.YtogjgibaolppfaaGreatDoor
open Go.RowKit

theorem byte_cases (c : UInt8) : (isPart c = true ∧ (65 : Int) ≤ c.toNat ∧ (c.toNat : Int) ≤ 90) ∨ (isPart c = true ∧ (97 : Int) ≤ c.toNat ∧ (c.toNat : Int) ≤ 122) ∨ (isPart c = true ∧ (48 : Int) ≤ c.toNat ∧ (c.toNat : Int) ≤ 57) ∨
    (isPart c = false ∧ ((c.toNat : Int) < 48 ∨ ((57 : Int) < c.toNat ∧ (c.toNat : Int) < 65) ∨ ((90 : Int) < c.toNat ∧ (c.toNat : Int) < 97) ∨ (122 : Int) < c.toNat)) := by
  by_cases h : isPart c = true
  · have := (isPart_iff c).1 h
    simp only [h, true_and, reduceCtorEq, false_and, or_false]; omega
  · have h' : isPart c = false := by simpa using h
    have := mt (isPart_iff c).2 h
    simp only [h', true_and, reduceCtorEq, false_and, false_or]; omega

theorem conv_one (w : World) (n : Int) (c : UInt8) (h : (c.toNat : Int) = n) :
    (convert 70 9 (.slice (some ⟨w.heap.size, 0, none⟩) 1 1)).run Tryz.prog (w.alloc (.cells #[.int .u8 n] 5)) = .ok (.string ⟨[c].toArray⟩) (w.alloc (.cells #[.int .u8 n] 5)) := by
  subst h
  exact run_convert_bytes_back _ 70 9 5 ⟨w.heap.size, 0, none⟩ 1 [c] Tryz.underlying70 Tryz.underlying5 Tryz.underlying9 (fun j hj => by
    obtain rfl : j = 0 := by simpa using hj
    rw [addr_add]; simp)

theorem str_add (x y : List UInt8) : (⟨x.toArray⟩ : ByteArray) ++ ⟨y.toArray⟩ = ⟨(x ++ y).toArray⟩ := by
  apply ByteArray.ext; simp

set_option maxRecDepth 100000 in
set_option maxHeartbeats 1000000 in
theorem refWords_any (s : ByteArray) (hsz : s.size ≤ 1099511627775) (w : World) :
    Calls Tryz.prog 76 #[.string s] w (WordsPost s w) := by
  obtain ⟨i0, hi, hz0, hz1, hz2⟩ := info_parts infoStr
  go_enter Tryz.func76, Tryz.ntmps76
  go_wp2
  go_loopw [3, 4, 5] (fun v c p wr => ∃ (k : Nat) (cur : List UInt8) (ws : List (List UInt8)), p = .int .i64 k ∧ k ≤ s.size + 1 ∧ c = .string ⟨cur.toArray⟩ ∧ cur.length ≤ 30 ∧ OwnsStrs wr w.heap.size v ws ∧ ws.length ≤ k ∧ Below w.heap.size w wr ∧ Hid (wordsOf s.data.toList = ws ++ wordsGo cur (s.data.toList.drop k)) ∧ Hid (k = s.size + 1 → cur = []))
    (fun _ _ p _ => s.size + 1 - (intOf p).toNat)
  case atStart => exact ⟨0, [], [], rfl, by omega, rfl, by simp, World.ownsRow_nil _ _ _ _, by simp, Below.refl _ _, Lib.hid rfl, Lib.hid (by simp)⟩
  case round =>
    obtain ⟨k, cur, ws, rfl, hk, rfl, h30, hown, hwk, hB, hw, hend⟩ := hrel
    have HO := Lib.hid hown
    clear hown
    by_cases hlt : k < s.size
    · have HD := Lib.hid (drop_byte s k hlt)
      clear hend
      rcases byte_cases s[k] with ⟨hp, hc1, hc2⟩ | ⟨hp, hc1, hc2⟩ | ⟨hp, hc1, hc2⟩ | ⟨hp, hc⟩
      · have HP := Lib.hid hp; clear hp
        by_cases hf : cur.length < 30
        · have hcv := conv_one wr (↑s[k].toNat - 65 + 97) (low s[k]) (low_big (by omega))
          go_wp2
          go_roundw
          case rel => exact ⟨k + 1, cur ++ [low s[k]], ws, by go_num, by omega, by rw [str_add], by simp; omega, HO.out.alloc _, by omega, hB.alloc hB.size _, Lib.hid (by rw [hw.out, HD.out, wordsGo_part HP.out hf]), Lib.hid (by omega)⟩
          case measure => simp [intOf]; omega
        · go_wp2
          go_roundw
          case rel => exact ⟨k + 1, cur, ws, by go_num, by omega, rfl, h30, HO.out, by omega, hB, Lib.hid (by rw [hw.out, HD.out, wordsGo_full HP.out hf]), Lib.hid (by omega)⟩
          case measure => simp [intOf]; omega
      · have HP := Lib.hid hp; clear hp
        by_cases hf : cur.length < 30
        · have hcv := conv_one wr ↑s[k].toNat (low s[k]) (by rw [low_small (by omega)])
          go_wp2
          go_roundw
          case rel => exact ⟨k + 1, cur ++ [low s[k]], ws, by go_num, by omega, by rw [str_add], by simp; omega, HO.out.alloc _, by omega, hB.alloc hB.size _, Lib.hid (by rw [hw.out, HD.out, wordsGo_part HP.out hf]), Lib.hid (by omega)⟩
          case measure => simp [intOf]; omega
        · go_wp2
          go_roundw
          case rel => exact ⟨k + 1, cur, ws, by go_num, by omega, rfl, h30, HO.out, by omega, hB, Lib.hid (by rw [hw.out, HD.out, wordsGo_full HP.out hf]), Lib.hid (by omega)⟩
          case measure => simp [intOf]; omega
      · have HP := Lib.hid hp; clear hp
        by_cases hf : cur.length < 30
        · have hcv := conv_one wr ↑s[k].toNat (low s[k]) (by rw [low_small (by omega)])
          go_wp2
          go_roundw
          case rel => exact ⟨k + 1, cur ++ [low s[k]], ws, by go_num, by omega, by rw [str_add], by simp; omega, HO.out.alloc _, by omega, hB.alloc hB.size _, Lib.hid (by rw [hw.out, HD.out, wordsGo_part HP.out hf]), Lib.hid (by omega)⟩
          case measure => simp [intOf]; omega
        · go_wp2
          go_roundw
          case rel => exact ⟨k + 1, cur, ws, by go_num, by omega, rfl, h30, HO.out, by omega, hB, Lib.hid (by rw [hw.out, HD.out, wordsGo_full HP.out hf]), Lib.hid (by omega)⟩
          case measure => simp [intOf]; omega
      · have HP := Lib.hid hp; clear hp
        rcases hc with hc | hc | hc | hc
        · have hov : ∀ c r', s.data.toList.drop k = c :: r' → isPart c = false := fun c r' e => by rw [HD.out] at e; cases e; exact HP.out
          have HV := Lib.hid hov; clear hov
          by_cases hcur : cur = []
          · obtain rfl : cur = [] := hcur
            have HQ := Lib.hid (by rw [hw.out, wordsGo_skip HV.out, List.drop_drop] : wordsOf s.data.toList = ws ++ wordsGo [] (s.data.toList.drop (k + 1)))
            clear hw HV
            go_wp2
            go_roundw
            case rel => exact ⟨k + 1, [], ws, by go_num, by omega, rfl, by simp, HO.out, by omega, hB, HQ, Lib.hid (by simp)⟩
            case measure => simp [intOf]; omega
          · have hne : (!cur.isEmpty) = true := by simp [hcur]
            have HQ := Lib.hid (by rw [hw.out, wordsGo_over HV.out hcur, wordsGo_skip HV.out, List.drop_drop] : wordsOf s.data.toList = ws ++ cur :: wordsGo [] (s.data.toList.drop (k + 1)))
            clear hw HV hcur
            have h63 : ws.length + 1 ≤ maxLen := by unfold maxLen; omega
            have hby : (ws.length + 1) * 16 ≤ 140737488355328 := by omega
            have h1c : ∀ u ∈ [Value.string ⟨cur.toArray⟩], u.oneCell' = true := by simp [Value.oneCell']
            have hbs : w.heap.size ≤ (wr.alloc (.cells #[.string ⟨cur.toArray⟩] 9)).heap.size := by have := hB.size; simp; omega
            go_wp2_with (at_builtin; refine wpList_append_own _ rfl _ _ 28 rfl w.heap.size 9 i0 (.string .empty) 1 16 Tryz.underlying28 hi hz0 hz1 hz2 rfl (by decide) u3 ws.length (ws.map encW) rfl (HO.out.alloc _) ⟨wr.heap.size, 0, none⟩ 1 1 [.string ⟨cur.toArray⟩] rfl rfl (cell_one_new _ _ _) h1c h63 hby hbs ?_; intro v' w1 hown' hgrow _)
            go_roundw
            case rel => exact ⟨k + 1, [], ws ++ [cur], by go_num, by omega, rfl, by simp, by simpa [OwnsStrs, encW] using hown', by simp; omega, (hB.alloc hB.size _).grown hgrow hbs (fun j e => (HO.out.lt j e).1), Lib.hid (by rw [HQ.out]; simp), Lib.hid (by simp)⟩
            case measure => simp [intOf]; omega
        · have hov : ∀ c r', s.data.toList.drop k = c :: r' → isPart c = false := fun c r' e => by rw [HD.out] at e; cases e; exact HP.out
          have HV := Lib.hid hov; clear hov
          by_cases hcur : cur = []
          · obtain rfl : cur = [] := hcur
            have HQ := Lib.hid (by rw [hw.out, wordsGo_skip HV.out, List.drop_drop] : wordsOf s.data.toList = ws ++ wordsGo [] (s.data.toList.drop (k + 1)))
            clear hw HV
            go_wp2
            go_roundw
            case rel => exact ⟨k + 1, [], ws, by go_num, by omega, rfl, by simp, HO.out, by omega, hB, HQ, Lib.hid (by simp)⟩
            case measure => simp [intOf]; omega
          · have hne : (!cur.isEmpty) = true := by simp [hcur]
            have HQ := Lib.hid (by rw [hw.out, wordsGo_over HV.out hcur, wordsGo_skip HV.out, List.drop_drop] : wordsOf s.data.toList = ws ++ cur :: wordsGo [] (s.data.toList.drop (k + 1)))
            clear hw HV hcur
            have h63 : ws.length + 1 ≤ maxLen := by unfold maxLen; omega
            have hby : (ws.length + 1) * 16 ≤ 140737488355328 := by omega
            have h1c : ∀ u ∈ [Value.string ⟨cur.toArray⟩], u.oneCell' = true := by simp [Value.oneCell']
            have hbs : w.heap.size ≤ (wr.alloc (.cells #[.string ⟨cur.toArray⟩] 9)).heap.size := by have := hB.size; simp; omega
            go_wp2_with (at_builtin; refine wpList_append_own _ rfl _ _ 28 rfl w.heap.size 9 i0 (.string .empty) 1 16 Tryz.underlying28 hi hz0 hz1 hz2 rfl (by decide) u3 ws.length (ws.map encW) rfl (HO.out.alloc _) ⟨wr.heap.size, 0, none⟩ 1 1 [.string ⟨cur.toArray⟩] rfl rfl (cell_one_new _ _ _) h1c h63 hby hbs ?_; intro v' w1 hown' hgrow _)
            go_roundw
            case rel => exact ⟨k + 1, [], ws ++ [cur], by go_num, by omega, rfl, by simp, by simpa [OwnsStrs, encW] using hown', by simp; omega, (hB.alloc hB.size _).grown hgrow hbs (fun j e => (HO.out.lt j e).1), Lib.hid (by rw [HQ.out]; simp), Lib.hid (by simp)⟩
            case measure => simp [intOf]; omega
        · have hov : ∀ c r', s.data.toList.drop k = c :: r' → isPart c = false := fun c r' e => by rw [HD.out] at e; cases e; exact HP.out
          have HV := Lib.hid hov; clear hov
          by_cases hcur : cur = []
          · obtain rfl : cur = [] := hcur
            have HQ := Lib.hid (by rw [hw.out, wordsGo_skip HV.out, List.drop_drop] : wordsOf s.data.toList = ws ++ wordsGo [] (s.data.toList.drop (k + 1)))
            clear hw HV
            go_wp2
            go_roundw
            case rel => exact ⟨k + 1, [], ws, by go_num, by omega, rfl, by simp, HO.out, by omega, hB, HQ, Lib.hid (by simp)⟩
            case measure => simp [intOf]; omega
          · have hne : (!cur.isEmpty) = true := by simp [hcur]
            have HQ := Lib.hid (by rw [hw.out, wordsGo_over HV.out hcur, wordsGo_skip HV.out, List.drop_drop] : wordsOf s.data.toList = ws ++ cur :: wordsGo [] (s.data.toList.drop (k + 1)))
            clear hw HV hcur
            have h63 : ws.length + 1 ≤ maxLen := by unfold maxLen; omega
            have hby : (ws.length + 1) * 16 ≤ 140737488355328 := by omega
            have h1c : ∀ u ∈ [Value.string ⟨cur.toArray⟩], u.oneCell' = true := by simp [Value.oneCell']
            have hbs : w.heap.size ≤ (wr.alloc (.cells #[.string ⟨cur.toArray⟩] 9)).heap.size := by have := hB.size; simp; omega
            go_wp2_with (at_builtin; refine wpList_append_own _ rfl _ _ 28 rfl w.heap.size 9 i0 (.string .empty) 1 16 Tryz.underlying28 hi hz0 hz1 hz2 rfl (by decide) u3 ws.length (ws.map encW) rfl (HO.out.alloc _) ⟨wr.heap.size, 0, none⟩ 1 1 [.string ⟨cur.toArray⟩] rfl rfl (cell_one_new _ _ _) h1c h63 hby hbs ?_; intro v' w1 hown' hgrow _)
            go_roundw
            case rel => exact ⟨k + 1, [], ws ++ [cur], by go_num, by omega, rfl, by simp, by simpa [OwnsStrs, encW] using hown', by simp; omega, (hB.alloc hB.size _).grown hgrow hbs (fun j e => (HO.out.lt j e).1), Lib.hid (by rw [HQ.out]; simp), Lib.hid (by simp)⟩
            case measure => simp [intOf]; omega
        · have hov : ∀ c r', s.data.toList.drop k = c :: r' → isPart c = false := fun c r' e => by rw [HD.out] at e; cases e; exact HP.out
          have HV := Lib.hid hov; clear hov
          by_cases hcur : cur = []
          · obtain rfl : cur = [] := hcur
            have HQ := Lib.hid (by rw [hw.out, wordsGo_skip HV.out, List.drop_drop] : wordsOf s.data.toList = ws ++ wordsGo [] (s.data.toList.drop (k + 1)))
            clear hw HV
            go_wp2
            go_roundw
            case rel => exact ⟨k + 1, [], ws, by go_num, by omega, rfl, by simp, HO.out, by omega, hB, HQ, Lib.hid (by simp)⟩
            case measure => simp [intOf]; omega
          · have hne : (!cur.isEmpty) = true := by simp [hcur]
            have HQ := Lib.hid (by rw [hw.out, wordsGo_over HV.out hcur, wordsGo_skip HV.out, List.drop_drop] : wordsOf s.data.toList = ws ++ cur :: wordsGo [] (s.data.toList.drop (k + 1)))
            clear hw HV hcur
            have h63 : ws.length + 1 ≤ maxLen := by unfold maxLen; omega
            have hby : (ws.length + 1) * 16 ≤ 140737488355328 := by omega
            have h1c : ∀ u ∈ [Value.string ⟨cur.toArray⟩], u.oneCell' = true := by simp [Value.oneCell']
            have hbs : w.heap.size ≤ (wr.alloc (.cells #[.string ⟨cur.toArray⟩] 9)).heap.size := by have := hB.size; simp; omega
            go_wp2_with (at_builtin; refine wpList_append_own _ rfl _ _ 28 rfl w.heap.size 9 i0 (.string .empty) 1 16 Tryz.underlying28 hi hz0 hz1 hz2 rfl (by decide) u3 ws.length (ws.map encW) rfl (HO.out.alloc _) ⟨wr.heap.size, 0, none⟩ 1 1 [.string ⟨cur.toArray⟩] rfl rfl (cell_one_new _ _ _) h1c h63 hby hbs ?_; intro v' w1 hown' hgrow _)
            go_roundw
            case rel => exact ⟨k + 1, [], ws ++ [cur], by go_num, by omega, rfl, by simp, by simpa [OwnsStrs, encW] using hown', by simp; omega, (hB.alloc hB.size _).grown hgrow hbs (fun j e => (HO.out.lt j e).1), Lib.hid (by rw [HQ.out]; simp), Lib.hid (by simp)⟩
            case measure => simp [intOf]; omega
    · by_cases hle : k = s.size
      · have hle2 : k ≤ s.size := by omega
        clear hle hend
        have hov : ∀ c r', s.data.toList.drop k = c :: r' → isPart c = false := fun c r' e => by rw [List.drop_eq_nil_of_le (by simp; omega)] at e; cases e
        have HV := Lib.hid hov; clear hov
        by_cases hcur : cur = []
        · obtain rfl : cur = [] := hcur
          have HQ := Lib.hid (by rw [hw.out, wordsGo_skip HV.out, List.drop_drop] : wordsOf s.data.toList = ws ++ wordsGo [] (s.data.toList.drop (k + 1)))
          clear hw HV
          go_wp2
          go_roundw
          case rel => exact ⟨k + 1, [], ws, by go_num, by omega, rfl, by simp, HO.out, by omega, hB, HQ, Lib.hid (by simp)⟩
          case measure => simp [intOf]; omega
        · have hne : (!cur.isEmpty) = true := by simp [hcur]
          have HQ := Lib.hid (by rw [hw.out, wordsGo_over HV.out hcur, wordsGo_skip HV.out, List.drop_drop] : wordsOf s.data.toList = ws ++ cur :: wordsGo [] (s.data.toList.drop (k + 1)))
          clear hw HV hcur
          have h63 : ws.length + 1 ≤ maxLen := by unfold maxLen; omega
          have hby : (ws.length + 1) * 16 ≤ 140737488355328 := by omega
          have h1c : ∀ u ∈ [Value.string ⟨cur.toArray⟩], u.oneCell' = true := by simp [Value.oneCell']
          have hbs : w.heap.size ≤ (wr.alloc (.cells #[.string ⟨cur.toArray⟩] 9)).heap.size := by have := hB.size; simp; omega
          go_wp2_with (at_builtin; refine wpList_append_own _ rfl _ _ 28 rfl w.heap.size 9 i0 (.string .empty) 1 16 Tryz.underlying28 hi hz0 hz1 hz2 rfl (by decide) u3 ws.length (ws.map encW) rfl (HO.out.alloc _) ⟨wr.heap.size, 0, none⟩ 1 1 [.string ⟨cur.toArray⟩] rfl rfl (cell_one_new _ _ _) h1c h63 hby hbs ?_; intro v' w1 hown' hgrow _)
          go_roundw
          case rel => exact ⟨k + 1, [], ws ++ [cur], by go_num, by omega, rfl, by simp, by simpa [OwnsStrs, encW] using hown', by simp; omega, (hB.alloc hB.size _).grown hgrow hbs (fun j e => (HO.out.lt j e).1), Lib.hid (by rw [HQ.out]; simp), Lib.hid (by simp)⟩
          case measure => simp [intOf]; omega
      · have hw2 : wordsOf s.data.toList = ws := by
          rw [hw.out, hend.out (by omega), List.drop_eq_nil_of_le (by simp; omega)]; simp [wordsGo]
        have HW := Lib.hid hw2
        clear hw2 hend hw
        go_wp2
        go_ret
        exact ⟨_, rfl, by rw [HW.out]; exact HO.out, hB⟩
end Go.Proofs.YtogjgibaolppfaaGreatDoor
/- The word for which an argument stands. -/
namespace Go.Proofs.YtogjgibaolppfaaGreatDoor
open Go.RowKit

theorem ret_int {k : IntKind} {a b : Int} (h : a = b) : Ending.returned (.int k a) = .returned (.int k b) := by rw [h]
theorem words_count_le (l : List UInt8) : (wordsOf l).length ≤ 2 * l.length := by have := words_lens l; omega
theorem Words_any (s : ByteArray) (hsz : s.size ≤ 274877906944) (w : World) : Calls Tryz.prog 58 #[.string s] w (WordsPost s w) :=
  callsIn_wide.1 (Words_in 3 (by omega) s (by omega) (by have := words_count_le s.data.toList; simp at this; omega) w)
theorem WordsPost.strs {s : ByteArray} {w w' : World} {e : Ending} (h : WordsPost s w e w') (hsz : s.size ≤ 274877906944) : ∃ v, e = .returned v ∧ StrsAt w' v (wordsOf s.data.toList) ∧ Below w.heap.size w w' := by
  obtain ⟨v, he, ho, hb⟩ := h
  exact ⟨v, he, strsAt_of_owns ho (by have := words_count_le s.data.toList; simp at this; omega), hb⟩

def wordOf (s : List UInt8) : Option Wd := match wordsOf s with | [x] => some x | _ => none
theorem wordOf_some {s x : List UInt8} : wordOf s = some x ↔ wordsOf s = [x] := by
  unfold wordOf
  constructor
  · intro h
    split at h
    · rename_i y hy; cases h; exact hy
    · cases h
  · intro h; rw [h]
theorem wordOf_none {s : List UInt8} (h : (wordsOf s).length ≠ 1) : wordOf s = none := by
  cases hw : wordOf s with
  | none => rfl
  | some x => rw [wordOf_some] at hw; rw [hw] at h; simp at h
theorem wordOf_len {s x : List UInt8} (h : wordOf s = some x) : x ≠ [] ∧ x.length ≤ 30 := by
  rw [wordOf_some] at h
  have := words_ok s x (by rw [h]; simp)
  exact ⟨this.1, this.2.1⟩
/-- a word stands for itself -/
theorem wordOf_word {x : List UInt8} (h : okWord x) : wordOf x = some x := by
  rw [wordOf_some]
  have h1 := wordsGo_word x [] [] h.2.2 (by simpa using h.2.1)
  rw [List.append_nil, List.nil_append] at h1
  unfold wordsOf
  rw [h1, wordsGo_over (fun c r' hr => by cases hr) h.1]
  rfl

set_option maxRecDepth 100000 in
theorem word_any (s : List UInt8) (hsz : s.length ≤ 274877906944) (w : World) :
    Calls Tryz.prog 63 #[.string ⟨s.toArray⟩] w fun e w' => e = .returned (.tuple #[.string ⟨((wordOf s).getD []).toArray⟩, .bool (wordOf s).isSome]) ∧ Below w.heap.size w w' := by
  have hs : (⟨s.toArray⟩ : ByteArray).size ≤ 274877906944 := by simpa [ByteArray.size] using hsz
  have HW := Lib.hid ((Words_any ⟨s.toArray⟩ hs w).mono fun e w' h => h.strs hs)
  have hn := fun h => wordOf_none (s := s) h
  obtain ⟨R, hR⟩ : ∃ R, wordOf s = R := ⟨_, rfl⟩
  rw [hR] at hn ⊢
  have HR := Lib.hid hR; have HN := Lib.hid hn
  clear hR hn
  go_enter Tryz.func63, Tryz.ntmps63
  go_wp2_with fail
  refine HW.out.mono ?_
  rintro e w1 ⟨v, rfl, ⟨a, c, rfl, hc, hl, hcell⟩, hb⟩
  have HB := Lib.hid hb
  clear hb HW
  by_cases h1 : (wordsOf s).length = 1
  · obtain ⟨x, hx⟩ := List.length_eq_one_iff.1 h1
    obtain ⟨b, off, rfl, ck⟩ := hcell 0 (by simp [hx])
    have hx0 : (wordsOf s)[0]'(by simp [hx]) = x := by simp [hx]
    have HX : Hid (R = some x) := Lib.hid (by rw [← HR.out, wordOf_some]; exact hx)
    rw [hx0, Nat.add_zero] at ck
    unfold encW at ck
    clear hx hx0
    rw [h1] at hc hl ⊢
    clear h1
    go_wp2
    go_ret2
    exact ⟨by rw [HX.out]; rfl, HB.out⟩
  · have hn1 : decide (((wordsOf s).length : Int) = 1) = false := by rw [decide_eq_false_iff_not]; omega
    have hn2 : ((((wordsOf s).length : Int)) != 1) = true := by simp only [bne_iff_ne, ne_eq]; omega
    have HX := Lib.hid (HN.out h1)
    go_wp2
    go_ret2
    exact ⟨by rw [HX.out]; rfl, HB.out⟩

set_option maxRecDepth 100000 in
theorem refWord_any (s : List UInt8) (hsz : s.length ≤ 274877906944) (w : World) :
    Calls Tryz.prog 91 #[.string ⟨s.toArray⟩] w fun e w' => e = .returned (.string ⟨((wordOf s).getD []).toArray⟩) ∧ Below w.heap.size w w' := by
  have hs : (⟨s.toArray⟩ : ByteArray).size ≤ 274877906944 := by simpa [ByteArray.size] using hsz
  have HW := Lib.hid ((refWords_any ⟨s.toArray⟩ (by omega) w).mono fun e w' h => h.strs hs)
  have hn := fun h => wordOf_none (s := s) h
  obtain ⟨R, hR⟩ : ∃ R, wordOf s = R := ⟨_, rfl⟩
  rw [hR] at hn ⊢
  have HR := Lib.hid hR; have HN := Lib.hid hn
  clear hR hn
  go_enter Tryz.func91, Tryz.ntmps91
  go_wp2_with fail
  refine HW.out.mono ?_
  rintro e w1 ⟨v, rfl, ⟨a, c, rfl, hc, hl, hcell⟩, hb⟩
  have HB := Lib.hid hb
  clear hb HW
  by_cases h1 : (wordsOf s).length = 1
  · obtain ⟨x, hx⟩ := List.length_eq_one_iff.1 h1
    obtain ⟨b, off, rfl, ck⟩ := hcell 0 (by simp [hx])
    have hx0 : (wordsOf s)[0]'(by simp [hx]) = x := by simp [hx]
    have HX : Hid (R = some x) := Lib.hid (by rw [← HR.out, wordOf_some]; exact hx)
    rw [hx0, Nat.add_zero] at ck
    unfold encW at ck
    clear hx hx0
    rw [h1] at hc hl ⊢
    clear h1
    go_wp2
    go_ret
    exact ⟨by rw [HX.out]; rfl, HB.out⟩
  · have hn1 : decide (((wordsOf s).length : Int) = 1) = false := by rw [decide_eq_false_iff_not]; omega
    have hn2 : ((((wordsOf s).length : Int)) != 1) = true := by simp only [bne_iff_ne, ne_eq]; omega
    have HX := Lib.hid (HN.out h1)
    go_wp2
    go_ret
    exact ⟨by rw [HX.out]; rfl, HB.out⟩
end Go.Proofs.YtogjgibaolppfaaGreatDoor

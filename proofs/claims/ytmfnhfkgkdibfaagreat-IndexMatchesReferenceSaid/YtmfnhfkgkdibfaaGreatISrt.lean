/- ordered: a row of the call's own, sorted. -/
import Derived.Test.YtmfnhfkgkdibfaaGreatISrA
import Derived.Test.YtmfnhfkgkdibfaaGreatShelf
import Derived.Shelf.SlSortCmp.NoneTotal
namespace Go.Proofs.YtmfnhfkgkdibfaaGreat
open Go.RowKit Go.Sort Go.Proofs Go.Shelf
theorem ownsRow_grow1 {w : World} {base : Nat} {e : TypeId} {size : Nat} {v : Value} {n : Nat} {xs : List Value} {os : Array Obj} (h : w.ownsRow base e size v n xs) : (grow w os).ownsRow base e size v n xs := by
  refine ⟨h.1, ?_⟩
  rcases h.2 with h0 | ⟨g, cap, cur, hv, hb, hg, r⟩
  · exact .inl h0
  · have hlt : g < w.heap.size := (Array.getElem?_eq_some_iff.1 hg).1
    exact .inr ⟨g, cap, cur, hv, hb, by simp only [grow]; rw [Array.getElem?_append_left hlt]; exact hg, r⟩

set_option maxRecDepth 100000 in
set_option maxHeartbeats 1000000 in
theorem ordered_hits (l : List (Int × Nat)) (v : Value) (base : Nat) (w : World) (ho : w.ownsRow base 53 2 v l.length (l.flatMap hitC)) (hlen : l.length ≤ 1000000) :
    Calls Tryz.prog 64 #[v, .func (.func 65) #[] #[]] w fun e w' => e = .returned v ∧ ∃ l' : List (Int × Nat), l'.Perm l ∧ l'.Pairwise (fun a b => ltOf (fun x y : Int × Nat => Lib.compareInt x.1 y.1) b a = false) ∧ w'.ownsRow base 53 2 v l'.length (l'.flatMap hitC) ∧ Below base w w' := by
  have eg : ∀ args w, (callFunc 65 args).run Tryz.prog w = .ok (.enter 65 args) w := enters_of Tryz.func65 (by kernel_rfl) rfl
  by_cases hl : l = []
  · subst hl
    obtain ⟨p, cap, rfl⟩ : ∃ p cap, v = .slice p 0 cap := by
      rcases ho.2 with ⟨rfl, _⟩ | ⟨g, cap, cur, rfl, _⟩
      · exact ⟨_, _, rfl⟩
      · exact ⟨_, _, rfl⟩
    have hcon := fun W => AnyF.slices_SortFunc_none (P := Tryz.prog) { Tryz.sortH with } p cap (.func (.func 65) #[] #[]) W
    change ∀ W, Calls Tryz.prog 76 _ _ _ at hcon
    have HO := Lib.hid ho
    clear ho
    go_enter Tryz.func64, Tryz.ntmps64
    go_wp2_with (go_at_call 76; refine (hcon _).mono ?_; rintro e w' ⟨rfl, rfl⟩)
    go_ret
    exact ⟨rfl, [], .nil, .nil, HO.out, Below.refl _ _⟩
  · have hv : v ≠ .slice none 0 0 := by
      rintro rfl
      rcases ho.2 with ⟨_, h0⟩ | ⟨g, cap, cur, e, _⟩
      · exact hl (List.length_eq_zero_iff.1 h0)
      · cases e
    obtain ⟨g, cap, rfl, hb, hlt, hn, hH⟩ := raw_of_ownsRow ho hv
    have hH' : HoldsK hitC 2 w g 0 l.toArray := by unfold HoldsK; rw [flatK_flatMap hitC 2 (by decide) (fun _ => rfl)]; exact hH
    have hcon := AnyQ.slices_SortFunc Tryz.sortH 2 Tryz.isAgg53 Tryz.sizeOf53 hitC (fun _ => rfl) (fun x v hv => by simp [hitC] at hv; rcases hv with rfl | rfl <;> rfl) (fun x y : Int × Nat => Lib.compareInt x.1 y.1) swoH 65 #[] g 0 cap l.toArray w eg (fun _ _ _ _ x y => hits_cmp x y _) hH' hlt (by simp; omega)
    change Calls Tryz.prog 76 _ _ _ at hcon
    have hcon' : Calls Tryz.prog 76 #[.slice (some ⟨g, 0, none⟩) l.length cap, .func (.func 65) #[] #[]] w fun e w' => e = .returned (.tuple #[]) ∧ ∃ l' : List (Int × Nat), l'.Perm l ∧ l'.Pairwise (fun a b => ltOf (fun x y : Int × Nat => Lib.compareInt x.1 y.1) b a = false) ∧ w'.ownsRow base 53 2 (.slice (some ⟨g, 0, none⟩) l.length cap) l.length (l'.flatMap hitC) ∧ Below base w w' := by
      refine hcon.mono ?_
      rintro e w' ⟨rfl, d', n, os, hp, hs, rfl⟩
      obtain ⟨h1, h2, h3⟩ := sorted_list hp hs
      have hd : d' = d'.toList.toArray := by simp
      refine ⟨rfl, d'.toList, by simpa using h1, h2, ?_, below_put hb hlt⟩
      unfold sortWorldK putRowK
      rw [hd, flatK_flatMap hitC 2 (by decide) (fun _ => rfl)]
      have := ownsRow_put (q := n) (os := os) (ys := d'.toList.flatMap hitC) ho (by
        have e1 : ∀ L : List (Int × Nat), (L.flatMap hitC).length = L.length * 2 := fun L => by induction L with | nil => rfl | cons x L ih => rw [List.flatMap_cons, List.length_append, ih]; simp [hitC]; omega
        rw [e1]; simp [h3])
      simpa using this
    have HC := Lib.hid hcon'
    clear hcon hcon' hH hH' ho hn
    go_enter Tryz.func64, Tryz.ntmps64
    go_wp2_with (go_at_call 76; refine HC.out.mono ?_; rintro e w' ⟨rfl, l', h1, h2, h3, h4⟩)
    go_ret
    exact ⟨rfl, l', h1, h2, by rw [h1.length_eq]; exact h3, h4⟩

set_option maxRecDepth 100000 in
set_option maxHeartbeats 1000000 in
theorem ordered_terms (l : List (Wd × Nat)) (v : Value) (base : Nat) (w : World) (ho : w.ownsRow base 56 2 v l.length (l.flatMap termC)) (hlen : l.length ≤ 1000000) :
    Calls Tryz.prog 51 #[v, .func (.func 52) #[] #[]] w fun e w' => e = .returned v ∧ ∃ l' : List (Wd × Nat), l'.Perm l ∧ l'.Pairwise (fun a b => ltOf cmpT b a = false) ∧ w'.ownsRow base 56 2 v l'.length (l'.flatMap termC) ∧ Below base w w' := by
  have eg : ∀ args w, (callFunc 52 args).run Tryz.prog w = .ok (.enter 52 args) w := enters_of Tryz.func52 (by kernel_rfl) rfl
  by_cases hl : l = []
  · subst hl
    obtain ⟨p, cap, rfl⟩ : ∃ p cap, v = .slice p 0 cap := by
      rcases ho.2 with ⟨rfl, _⟩ | ⟨g, cap, cur, rfl, _⟩
      · exact ⟨_, _, rfl⟩
      · exact ⟨_, _, rfl⟩
    have hcon := fun W => AnyF.slices_SortFunc_none (P := Tryz.prog) { Tryz.sortT with } p cap (.func (.func 52) #[] #[]) W
    change ∀ W, Calls Tryz.prog 70 _ _ _ at hcon
    have HO := Lib.hid ho
    clear ho
    go_enter Tryz.func51, Tryz.ntmps51
    go_wp2_with (go_at_call 70; refine (hcon _).mono ?_; rintro e w' ⟨rfl, rfl⟩)
    go_ret
    exact ⟨rfl, [], .nil, .nil, HO.out, Below.refl _ _⟩
  · have hv : v ≠ .slice none 0 0 := by
      rintro rfl
      rcases ho.2 with ⟨_, h0⟩ | ⟨g, cap, cur, e, _⟩
      · exact hl (List.length_eq_zero_iff.1 h0)
      · cases e
    obtain ⟨g, cap, rfl, hb, hlt, hn, hH⟩ := raw_of_ownsRow ho hv
    have hH' : HoldsK termC 2 w g 0 l.toArray := by unfold HoldsK; rw [flatK_flatMap termC 2 (by decide) (fun _ => rfl)]; exact hH
    have hcon := AnyQ.slices_SortFunc Tryz.sortT 2 Tryz.isAgg56 Tryz.sizeOf56 termC (fun _ => rfl) (fun x v hv => by simp [termC] at hv; rcases hv with rfl | rfl <;> rfl) cmpT swoT 52 #[] g 0 cap l.toArray w eg (fun _ _ _ _ x y => terms_cmp x y _) hH' hlt (by simp; omega)
    change Calls Tryz.prog 70 _ _ _ at hcon
    have hcon' : Calls Tryz.prog 70 #[.slice (some ⟨g, 0, none⟩) l.length cap, .func (.func 52) #[] #[]] w fun e w' => e = .returned (.tuple #[]) ∧ ∃ l' : List (Wd × Nat), l'.Perm l ∧ l'.Pairwise (fun a b => ltOf cmpT b a = false) ∧ w'.ownsRow base 56 2 (.slice (some ⟨g, 0, none⟩) l.length cap) l.length (l'.flatMap termC) ∧ Below base w w' := by
      refine hcon.mono ?_
      rintro e w' ⟨rfl, d', n, os, hp, hs, rfl⟩
      obtain ⟨h1, h2, h3⟩ := sorted_list hp hs
      have hd : d' = d'.toList.toArray := by simp
      refine ⟨rfl, d'.toList, by simpa using h1, h2, ?_, below_put hb hlt⟩
      unfold sortWorldK putRowK
      rw [hd, flatK_flatMap termC 2 (by decide) (fun _ => rfl)]
      have := ownsRow_put (q := n) (os := os) (ys := d'.toList.flatMap termC) ho (by
        have e1 : ∀ L : List (Wd × Nat), (L.flatMap termC).length = L.length * 2 := fun L => by induction L with | nil => rfl | cons x L ih => rw [List.flatMap_cons, List.length_append, ih]; simp [termC]; omega
        rw [e1]; simp [h3])
      simpa using this
    have HC := Lib.hid hcon'
    clear hcon hcon' hH hH' ho hn
    go_enter Tryz.func51, Tryz.ntmps51
    go_wp2_with (go_at_call 70; refine HC.out.mono ?_; rintro e w' ⟨rfl, l', h1, h2, h3, h4⟩)
    go_ret
    exact ⟨rfl, l', h1, h2, by rw [h1.length_eq]; exact h3, h4⟩

set_option maxRecDepth 100000 in
set_option maxHeartbeats 1000000 in
theorem ordered_ints (l : List Int) (v : Value) (base : Nat) (w : World) (ho : w.ownsRow base 3 1 v l.length (l.map (Value.int .i64))) (hlen : l.length ≤ 1000000) :
    Calls Tryz.prog 43 #[v, .func (.func 44) #[] #[]] w fun e w' => e = .returned v ∧ ∃ l' : List Int, l'.Perm l ∧ l'.Pairwise (fun a b => ltOf Lib.compareInt b a = false) ∧ w'.ownsRow base 3 1 v l'.length (l'.map (Value.int .i64)) ∧ Below base w w' := by
  have eg : ∀ args w, (callFunc 44 args).run Tryz.prog w = .ok (.enter 44 args) w := enters_of Tryz.func44 (by kernel_rfl) rfl
  by_cases hl : l = []
  · subst hl
    obtain ⟨p, cap, rfl⟩ : ∃ p cap, v = .slice p 0 cap := by
      rcases ho.2 with ⟨rfl, _⟩ | ⟨g, cap, cur, rfl, _⟩
      · exact ⟨_, _, rfl⟩
      · exact ⟨_, _, rfl⟩
    have hcon := fun W => AnyF.slices_SortFunc_none (P := Tryz.prog) { Tryz.sortI with } p cap (.func (.func 44) #[] #[]) W
    change ∀ W, Calls Tryz.prog 62 _ _ _ at hcon
    have HO := Lib.hid ho
    clear ho
    go_enter Tryz.func43, Tryz.ntmps43
    go_wp2_with (go_at_call 62; refine (hcon _).mono ?_; rintro e w' ⟨rfl, rfl⟩)
    go_ret
    exact ⟨rfl, [], .nil, .nil, HO.out, Below.refl _ _⟩
  · have hv : v ≠ .slice none 0 0 := by
      rintro rfl
      rcases ho.2 with ⟨_, h0⟩ | ⟨g, cap, cur, e, _⟩
      · exact hl (List.length_eq_zero_iff.1 h0)
      · cases e
    obtain ⟨g, cap, rfl, hb, hlt, hn, hm, -, hH⟩ := Lib.holds_of_ownsRow ho hv
    have hcon := Any.slices_SortFunc Tryz.sortI (Value.int .i64) (fun _ => rfl) Lib.compareInt swoI 44 #[] g 0 cap l.toArray w eg (fun _ _ _ _ x y => (cmp_int x y _).mono fun _ _ ⟨he, hw⟩ => ⟨he, 0, #[], by rw [hw, grow_empty]; rfl⟩) hH hlt (by simp; omega)
    change Calls Tryz.prog 62 _ _ _ at hcon
    have hcon' : Calls Tryz.prog 62 #[.slice (some ⟨g, 0, none⟩) l.length cap, .func (.func 44) #[] #[]] w fun e w' => e = .returned (.tuple #[]) ∧ ∃ l' : List Int, l'.Perm l ∧ l'.Pairwise (fun a b => ltOf Lib.compareInt b a = false) ∧ w'.ownsRow base 3 1 (.slice (some ⟨g, 0, none⟩) l.length cap) l.length (l'.map (Value.int .i64)) ∧ Below base w w' := by
      refine hcon.mono ?_
      rintro e w' ⟨rfl, d', n, os, hp, hs, rfl⟩
      obtain ⟨h1, h2, h3⟩ := sorted_list hp hs
      have hd : d' = d'.toList.toArray := by simp
      refine ⟨rfl, d'.toList, by simpa using h1, h2, ?_, below_put hb hlt⟩
      have hlen2 : d'.toList.length = l.length := by simpa using h3
      have := ownsRow_grow1 (os := os) (Lib.ownsRow_putRow (q := n) (k := l.length) ho hlen2 (Nat.le_refl _))
      rw [List.take_of_length_le (by omega)] at this
      unfold sortWorld
      simpa using this
    have HC := Lib.hid hcon'
    clear hcon hcon' hH ho hn
    go_enter Tryz.func43, Tryz.ntmps43
    go_wp2_with (go_at_call 62; refine HC.out.mono ?_; rintro e w' ⟨rfl, l', h1, h2, h3, h4⟩)
    go_ret
    exact ⟨rfl, l', h1, h2, by rw [h1.length_eq]; exact h3, h4⟩

/-- all but v's row lies as it lay -/
def But0 (v : Value) (w w' : World) : Prop := ∀ k, k < w.heap.size → v.ownBlock ≠ some k → w'.heap[k]? = w.heap[k]?
theorem but_put {α : Type} [Inhabited α] {enc : α → Value} {w : World} {g q k : Nat} {d : Array α} {os : Array Obj} (hk : k < w.heap.size) (hne : g ≠ k) : (grow (putRow enc (Sort.ahead w q) g 0 d) os).heap[k]? = w.heap[k]? := by
  have hk2 : k < (putRow enc (Sort.ahead w q) g 0 d).heap.size := by simp [putRow, mapBlock, Sort.ahead]; omega
  simp only [grow]
  rw [Array.getElem?_append_left hk2]
  simp [putRow, mapBlock, Sort.ahead, Array.getElem?_modify, hne]
set_option maxRecDepth 100000 in
set_option maxHeartbeats 1000000 in
theorem ordered_strs2 (l : List Wd) (v : Value) (base : Nat) (w : World) (ho : w.ownsRow base 9 1 v l.length (l.map (fun x : Wd => Value.string ⟨x.toArray⟩))) (hlen : l.length ≤ 1000000) :
    Calls Tryz.prog 40 #[v, .func (.func 41) #[] #[]] w fun e w' => e = .returned v ∧ ∃ l' : List Wd, l'.Perm l ∧ l'.Pairwise (fun a b => ltOf cmpS b a = false) ∧ w'.ownsRow base 9 1 v l'.length (l'.map (fun x : Wd => Value.string ⟨x.toArray⟩)) ∧ Below base w w' ∧ But0 v w w' := by
  have eg : ∀ args w, (callFunc 41 args).run Tryz.prog w = .ok (.enter 41 args) w := enters_of Tryz.func41 (by kernel_rfl) rfl
  by_cases hl : l = []
  · subst hl
    obtain ⟨p, cap, rfl⟩ : ∃ p cap, v = .slice p 0 cap := by
      rcases ho.2 with ⟨rfl, _⟩ | ⟨g, cap, cur, rfl, _⟩
      · exact ⟨_, _, rfl⟩
      · exact ⟨_, _, rfl⟩
    have hcon := fun W => AnyF.slices_SortFunc_none (P := Tryz.prog) { Tryz.sortS with } p cap (.func (.func 41) #[] #[]) W
    change ∀ W, Calls Tryz.prog 60 _ _ _ at hcon
    have HO := Lib.hid ho
    clear ho
    go_enter Tryz.func40, Tryz.ntmps40
    go_wp2_with (go_at_call 60; refine (hcon _).mono ?_; rintro e w' ⟨rfl, rfl⟩)
    go_ret
    exact ⟨rfl, [], .nil, .nil, HO.out, Below.refl _ _, fun _ _ _ => rfl⟩
  · have hv : v ≠ .slice none 0 0 := by
      rintro rfl
      rcases ho.2 with ⟨_, h0⟩ | ⟨g, cap, cur, e, _⟩
      · exact hl (List.length_eq_zero_iff.1 h0)
      · cases e
    obtain ⟨g, cap, rfl, hb, hlt, hn, hm, -, hH⟩ := Lib.holds_of_ownsRow ho hv
    have hcon := Any.slices_SortFunc Tryz.sortS (fun x : Wd => Value.string ⟨x.toArray⟩) (fun _ => rfl) cmpS swoS 41 #[] g 0 cap l.toArray w eg (fun _ _ _ _ x y => (cmp_str x y _).mono fun _ _ ⟨he, hw⟩ => ⟨he, 0, #[], by rw [hw, grow_empty]; rfl⟩) hH hlt (by simp; omega)
    change Calls Tryz.prog 60 _ _ _ at hcon
    have hcon' : Calls Tryz.prog 60 #[.slice (some ⟨g, 0, none⟩) l.length cap, .func (.func 41) #[] #[]] w fun e w' => e = .returned (.tuple #[]) ∧ ∃ l' : List Wd, l'.Perm l ∧ l'.Pairwise (fun a b => ltOf cmpS b a = false) ∧ w'.ownsRow base 9 1 (.slice (some ⟨g, 0, none⟩) l.length cap) l.length (l'.map (fun x : Wd => Value.string ⟨x.toArray⟩)) ∧ Below base w w' ∧ But0 (.slice (some ⟨g, 0, none⟩) l.length cap) w w' := by
      refine hcon.mono ?_
      rintro e w' ⟨rfl, d', n, os, hp, hs, rfl⟩
      obtain ⟨h1, h2, h3⟩ := sorted_list hp hs
      have hd : d' = d'.toList.toArray := by simp
      refine ⟨rfl, d'.toList, by simpa using h1, h2, ?_, below_put hb hlt, fun k hk hne => but_put hk fun e => hne (by rw [← e]; rfl)⟩
      have hlen2 : d'.toList.length = l.length := by simpa using h3
      have := ownsRow_grow1 (os := os) (Lib.ownsRow_putRow (q := n) (k := l.length) ho hlen2 (Nat.le_refl _))
      rw [List.take_of_length_le (by omega)] at this
      unfold sortWorld
      simpa using this
    have HC := Lib.hid hcon'
    clear hcon hcon' hH ho hn
    go_enter Tryz.func40, Tryz.ntmps40
    go_wp2_with (go_at_call 60; refine HC.out.mono ?_; rintro e w' ⟨rfl, l', h1, h2, h3, h4, h5⟩)
    go_ret
    exact ⟨rfl, l', h1, h2, by rw [h1.length_eq]; exact h3, h4, h5⟩

theorem ordered_strs (l : List Wd) (v : Value) (base : Nat) (w : World) (ho : w.ownsRow base 9 1 v l.length (l.map (fun x : Wd => Value.string ⟨x.toArray⟩))) (hlen : l.length ≤ 1000000) :
    Calls Tryz.prog 40 #[v, .func (.func 41) #[] #[]] w fun e w' => e = .returned v ∧ ∃ l' : List Wd, l'.Perm l ∧ l'.Pairwise (fun a b => ltOf cmpS b a = false) ∧ w'.ownsRow base 9 1 v l'.length (l'.map (fun x : Wd => Value.string ⟨x.toArray⟩)) ∧ Below base w w' :=
  (ordered_strs2 l v base w ho hlen).mono fun _ _ ⟨a, l', b, c, d, e, _⟩ => ⟨a, l', b, c, d, e⟩
end Go.Proofs.YtmfnhfkgkdibfaaGreat

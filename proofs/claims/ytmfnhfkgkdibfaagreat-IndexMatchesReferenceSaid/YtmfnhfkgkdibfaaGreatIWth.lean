/- with: the words with a beginning. -/
import Derived.Test.YtmfnhfkgkdibfaaGreatIMrg
import Derived.Test.YtmfnhfkgkdibfaaGreatShelf
import Derived.Shelf.SlSorted.Search
namespace Go.Proofs.YtmfnhfkgkdibfaaGreat
open Go.RowKit Go.Sort Go.Proofs Go.Shelf

theorem sub_len {β : Type} [DecidableEq β] : ∀ (m l : List β), l.Nodup → (∀ x ∈ l, x ∈ m) → l.length ≤ m.length
  | [], l, _, h => by
    cases l with
    | nil => simp
    | cons x l => have := h x (by simp); simp at this
  | a :: m, l, hn, h => by
    have h1 := sub_len m (l.erase a) (hn.erase _) fun x hx => by
      have h2 := h x (List.mem_of_mem_erase hx)
      rcases List.mem_cons.1 h2 with rfl | h3
      · exact absurd hx (List.Nodup.not_mem_erase hn)
      · exact h3
    by_cases hm : a ∈ l
    · rw [List.length_erase_of_mem hm] at h1; simp; omega
    · rw [List.erase_of_not_mem hm] at h1; simp; omega
theorem vocab_nodup (D : List Dc) : (vocab D).Nodup := (vocab_asc D).imp fun h e => by subst e; exact List.lt_irrefl _ h
theorem flat_len (D : List Dc) (h : ∀ d ∈ D, d.2.length ≤ 1000) : (D.flatMap (·.2)).length ≤ 1000 * D.length := by
  induction D with
  | nil => simp
  | cons d D ih =>
    have h1 := ih fun x hx => h x (List.mem_cons_of_mem _ hx)
    have h2 := h d (by simp)
    rw [List.flatMap_cons, List.length_append, List.length_cons]
    omega
theorem vocab_len {D : List Dc} (hA : Asc D) (hI : Ids D) (h : ∀ d ∈ D, d.2.length ≤ 1000) : (vocab D).length ≤ 256000 := by
  have h1 := sub_len (D.flatMap (·.2)) (vocab D) (vocab_nodup D) fun x hx => by
    obtain ⟨d, hd, hxd⟩ := mem_vocab.1 hx
    exact List.mem_flatMap.2 ⟨d, hd, hxd⟩
  have h2 := flat_len D h
  have h3 := docs_le hA hI
  omega

theorem hasPrefixL (x y : Wd) (w : World) : Calls Tryz.prog 77 #[.string ⟨x.toArray⟩, .string ⟨y.toArray⟩] w fun e w' => e = .returned (.bool (y.isPrefixOf x)) ∧ w' = w := by
  have hR : y.isPrefixOf x = (decide (y.length ≤ x.length) && (x.take y.length == y)) := by
    rw [Bool.eq_iff_iff, List.isPrefixOf_iff_prefix, List.prefix_iff_eq_take, Bool.and_eq_true, decide_eq_true_eq, beq_iff_eq]
    constructor
    · intro h
      refine ⟨?_, h.symm⟩
      have := congrArg List.length h
      rw [List.length_take] at this
      omega
    · exact fun h => h.2.symm
  rw [hR]
  clear hR
  by_cases hl : y.length ≤ x.length
  · have g0 : decide ((y.length : Int) ≤ (x.length : Int)) = true := by simp; omega
    rw [decide_eq_true hl, Bool.true_and]
    go_enter Tryz.func77, Tryz.ntmps77
    go_wp2
    go_ret
    have hx : (ByteArray.extract ⟨x.toArray⟩ 0 y.length).toList = x.take y.length := by
      rw [Lib.toList_data, ByteArray.data_extract]
      simp
    show Ending.returned (.bool ((ByteArray.extract ⟨x.toArray⟩ 0 y.length).toList == y)) = _ ∧ _
    rw [hx]
    exact ⟨rfl, rfl⟩
  · have g0 : decide ((y.length : Int) ≤ (x.length : Int)) = false := by simp; omega
    rw [decide_eq_false hl, Bool.false_and]
    go_enter Tryz.func77, Tryz.ntmps77
    go_wp2
    go_ret
    exact ⟨rfl, rfl⟩
theorem hasPrefix_any (x y : Wd) (w : World) : Calls Tryz.prog 69 #[.string ⟨x.toArray⟩, .string ⟨y.toArray⟩] w fun e w' => e = .returned (.bool (y.isPrefixOf x)) ∧ w' = w := by
  have hc := fun W => hasPrefixL x y W
  generalize y.isPrefixOf x = R at hc ⊢
  go_enter Tryz.func69, Tryz.ntmps69
  go_wp2_with (go_at_call 77; refine (hc _).mono ?_; rintro e w' ⟨rfl, rfl⟩)
  go_ret
  exact ⟨rfl, rfl⟩

set_option maxRecDepth 100000 in
theorem with1 (i n c p B1 B2 : Nat) (b off : Nat) (x y : Wd) (W : World) (hi : i < n) (h1 : W.cell? ⟨B1, 0, none⟩ = some (.pointer (some ⟨p, 0, none⟩))) (h2 : W.cell? ⟨p, 2, none⟩ = some (.slice (some ⟨b, off, none⟩) n c)) (h3 : W.cell? ⟨B2, 0, none⟩ = some (.string ⟨y.toArray⟩)) (h4 : W.cell? ⟨b, off + i, none⟩ = some (.string ⟨x.toArray⟩)) :
    Calls Tryz.prog 67 (#[.int .i64 i] ++ #[.pointer (some ⟨B1, 0, none⟩), .pointer (some ⟨B2, 0, none⟩)]) W fun e w' => e = .returned (.bool (decide (y ≤ x))) ∧ ∃ q os, w' = grow (W.drewN q) os := by
  have hiz : (i : Int) < (n : Int) := by omega
  have hR : (!Op.bytesLess x y) = decide (y ≤ x) := by
    rw [bytesLess_eq]
    by_cases h : x < y
    · have : ¬ y ≤ x := List.not_le.2 h
      simp [h, this]
    · have : y ≤ x := List.not_lt.1 h
      simp [h, this]
  rw [← hR]
  generalize hg : Op.bytesLess x y = R
  have HG := Lib.hid hR
  clear hR HG
  go_enter Tryz.func67, Tryz.ntmps67
  go_upto_region 1 with fail
  go_quiet (fail)
  go_wp2
  go_ret
  exact ⟨rfl, nq, #[], by rw [grow_empty]⟩

set_option maxRecDepth 100000 in
theorem with2 (i n c B1 B2 : Nat) (b off : Nat) (x y : Wd) (W : World) (hi : i < n) (h1 : W.cell? ⟨B1, 0, none⟩ = some (.slice (some ⟨b, off, none⟩) n c)) (h3 : W.cell? ⟨B2, 0, none⟩ = some (.string ⟨y.toArray⟩)) (h4 : W.cell? ⟨b, off + i, none⟩ = some (.string ⟨x.toArray⟩)) :
    Calls Tryz.prog 68 (#[.int .i64 i] ++ #[.pointer (some ⟨B1, 0, none⟩), .pointer (some ⟨B2, 0, none⟩)]) W fun e w' => e = .returned (.bool (!y.isPrefixOf x)) ∧ ∃ q os, w' = grow (W.drewN q) os := by
  have hiz : (i : Int) < (n : Int) := by omega
  have hc := fun W => hasPrefix_any x y W
  generalize y.isPrefixOf x = R at hc ⊢
  go_enter Tryz.func68, Tryz.ntmps68
  go_upto_region 1 with fail
  go_quiet ((go_at_call 69; refine (hc _).mono ?_; rintro e w' ⟨rfl, rfl⟩; exact ⟨rfl, _, rfl⟩))
  go_wp2
  go_ret
  exact ⟨rfl, nq, #[], by rw [grow_empty]⟩

theorem strs_from {w : World} {a : Option Addr} {n c : Nat} {l : List Wd} (h : StrsAt w (.slice a n c) l) {k : Nat} (hk : k ≤ l.length) : ∃ A C, (sliced a k n c 1) = .slice A (l.drop k).length C ∧ StrsAt w (.slice A (l.drop k).length C) (l.drop k) := by
  obtain ⟨a', c', e, hle, hl, hc⟩ := h
  injection e with e1 e2 e3
  subst e1; subst e3; subst e2
  refine ⟨_, _, by rw [List.length_drop]; rfl, _, _, rfl, by rw [List.length_drop]; omega, by rw [List.length_drop]; omega, fun j hj => ?_⟩
  rw [List.length_drop] at hj
  obtain ⟨b, off, h1, h2⟩ := hc (k + j) (by omega)
  subst h1
  have hne : c ≠ k := by omega
  refine ⟨b, off + k, ?_, ?_⟩
  · rw [if_neg hne]
    unfold Addr.add
    simp only [Option.map_some, Nat.mul_one]
    by_cases h0 : k = 0
    · subst h0; rfl
    · rw [if_neg h0]
  · rw [Nat.add_assoc, List.getElem_drop]; exact h2
theorem sliced_block {a A : Option Addr} {k n c m C : Nat} (h : sliced a k n c 1 = .slice A m C) {ad : Addr} (hA : A = some ad) : ∃ a0, a = some a0 ∧ a0.block = ad.block := by
  unfold sliced at h
  injection h with h1 _ _
  rw [hA] at h1
  split at h1
  · exact ⟨ad, h1, rfl⟩
  · cases a with
    | none => cases h1
    | some a0 =>
      refine ⟨a0, rfl, ?_⟩
      simp only [Option.map_some, Option.some.injEq] at h1
      rw [← h1]
      unfold Addr.add
      split <;> rfl
theorem run_from {a : Option Addr} {n c k : Nat} {V : Value} (hk : k ≤ n) (h : sliced a k n c 1 = V) (W : World) : (Instr.slice 23 (.slice a n c) (some (.int .i64 k)) none none).run Tryz.prog W = .ok V W := by
  have ht : Tryz.prog.underlying 23 = some (.slice (Tryz.prog.elem 23)) := by kernel_rfl
  have he : Tryz.prog.elem 23 = 9 := by kernel_rfl
  rw [run_slice_l W 23 a n c ht .i64 k (by omega) (by omega), he]
  have : (Go.sizeOf 9).run Tryz.prog W = .ok 1 W := Tryz.sizeOf9 W
  rw [this]
  simp only [Result.andThen]
  rw [← h]
  rfl
theorem run_upto {a : Option Addr} {n c k : Nat} (hk : k ≤ c) (W : World) : (Instr.slice 23 (.slice a n c) none (some (.int .i64 k)) none).run Tryz.prog W = .ok (.slice a k c) W := by
  have ht : Tryz.prog.underlying 23 = some (.slice (Tryz.prog.elem 23)) := by kernel_rfl
  have he : Tryz.prog.elem 23 = 9 := by kernel_rfl
  rw [run_slice_h W 23 a n c ht .i64 k (by omega) (by omega), he]
  have : (Go.sizeOf 9).run Tryz.prog W = .ok 1 W := Tryz.sizeOf9 W
  rw [this]
  simp only [Result.andThen]
  have h0 : (if c = 0 then a else a.map (·.add (0 * 1))) = a := by
    split
    · rfl
    · cases a with
      | none => rfl
      | some ad => simp [Addr.add]
  show Result.ok (Value.slice (if c = 0 then a else a.map (·.add (0 * 1))) (k - 0) (c - 0)) W = _
  rw [h0]; rfl
theorem strs_upto {w : World} {a : Option Addr} {n c : Nat} {l : List Wd} (h : StrsAt w (.slice a n c) l) {k : Nat} (hk : k ≤ l.length) : k ≤ c ∧ StrsAt w (.slice a k c) (l.take k) := by
  obtain ⟨a', c', e, hle, hl, hc⟩ := h
  injection e with e1 e2 e3
  subst e1; subst e3; subst e2
  refine ⟨by omega, _, _, by rw [List.length_take, Nat.min_eq_left hk], by rw [List.length_take]; omega, by rw [List.length_take]; omega, fun j hj => ?_⟩
  rw [List.length_take] at hj
  obtain ⟨b, off, h1, h2⟩ := hc j (by omega)
  exact ⟨b, off, h1, by rw [List.getElem_take]; exact h2⟩
theorem rest_ge {v : List Wd} (h : WAsc v) (p : Wd) : ∀ z ∈ v.drop (v.countP fun x => !decide (p ≤ x)), p ≤ z := by
  have d1 : Down (fun x : Wd => !decide (p ≤ x)) v := h.imp fun {a b} hab hb => by
    simp only [Bool.not_eq_true', decide_eq_false_iff_not] at hb ⊢
    exact fun e => hb (List.le_trans e (List.le_of_lt hab))
  rw [(down_take d1).2]
  intro z hz
  simpa using (List.mem_filter.1 hz).2
theorem strs_below {w w' : World} {v : Value} {l : List Wd} (h : StrsAt w v l) {B : Nat} (hb : Below B w w') (hB : w.heap.size ≤ B) : StrsAt w' v l := h.below (hb.mono hB)

set_option maxRecDepth 100000 in
set_option maxHeartbeats 4000000 in
theorem with_any {S Q : Nat → Prop} {N : Nat} {p : Nat} {D : List Dc} (w : World) (h : IdxAt S Q N w p D) (x : Wd) :
    Calls Tryz.prog 50 #[.pointer (some ⟨p, 0, none⟩), .string ⟨x.toArray⟩] w fun e w' => ∃ v, e = .returned v ∧ StrsAt w' v ((vocab D).filter x.isPrefixOf) ∧ (∀ ad n c, v = .slice (some ad) n c → S ad.block) ∧ Below w.heap.size w w' := by
  obtain ⟨b1, b2, v, tx, g, hp, hne, hT, hF, hR⟩ := h.parts
  have hplt := h.lt p h.own
  have hvl := vocab_len h.asc h.ids h.small
  have HW := Lib.hid (with_eq (vocab_asc D) x)
  have hasc := vocab_asc D
  have hp2 : w.cell? ⟨p, 2, none⟩ = some v := by rw [Lib.cell_of_heap hp]; rfl
  obtain ⟨base, ho⟩ := hR.1
  have hst := strsAt_of_owns ho (by omega)
  have hown : ∀ a n c, v = .slice (some a) n c → S a.block := fun a n c e => hR.2 _ (by rw [e]; rfl)
  clear hp hT hF hR ho h
  obtain ⟨l, hl⟩ : ∃ l, vocab D = l := ⟨_, rfl⟩
  rw [hl] at HW hst hvl hasc ⊢
  clear hl
  have HS := Lib.hid hst
  obtain ⟨a, c, rfl, hle, hm, hc⟩ := hst
  -- the world with the two boxes
  obtain ⟨W0, hW0⟩ : ∃ W0, (w.alloc (.cells #[.pointer (some ⟨p, 0, none⟩)] 26)).alloc (.cells #[.string ⟨x.toArray⟩] 9) = W0 := ⟨_, rfl⟩
  have hsize : W0.heap.size = w.heap.size + 2 := by rw [← hW0]; simp
  have hB0 : Below w.heap.size w W0 := by rw [← hW0]; exact ((Below.refl _ w).alloc (Nat.le_refl _) _).alloc (by simp) _
  have ca : W0.cell? ⟨w.heap.size, 0, none⟩ = some (.pointer (some ⟨p, 0, none⟩)) := by rw [← hW0]; exact Lib.cell?_alloc_some _ (by simp)
  have cb : W0.cell? ⟨w.heap.size + 1, 0, none⟩ = some (.string ⟨x.toArray⟩) := by rw [← hW0]; have := World.cell?_alloc_new (w.alloc (.cells #[.pointer (some ⟨p, 0, none⟩)] 26)) #[.string ⟨x.toArray⟩] 9; simp
  have cp : W0.cell? ⟨p, 2, none⟩ = some (.slice a l.length c) := (hB0.cell hplt).trans hp2
  have eg1 : ∀ args w, (callFunc 67 args).run Tryz.prog w = .ok (.enter 67 args) w := enters_of Tryz.func67 (by kernel_rfl) rfl
  have eg2 : ∀ args w, (callFunc 68 args).run Tryz.prog w = .ok (.enter 68 args) w := enters_of Tryz.func68 (by kernel_rfl) rfl
  have hS := Any.sort_Search Tryz.search 67 #[.pointer (some ⟨w.heap.size, 0, none⟩), .pointer (some ⟨w.heap.size + 1, 0, none⟩)] l.length (fun i => decide (x ≤ l.toArray[i]!)) W0 eg1 (by omega)
    (fun m os i hi => by
      obtain ⟨b, off, rfl, ck⟩ := hc i hi
      have hblk := World.block_lt_of_cell? w _ ck
      have he : l.toArray[i]! = l[i] := by rw [getElem!_pos l.toArray i (by simpa using hi)]; simp
      rw [he]
      exact (with1 i l.length c p w.heap.size (w.heap.size + 1) b off l[i] x _ hi (cell_grown (by simp [hsize]) ca m os) (cell_grown (by simp [hsize]; omega) cp m os) (cell_grown (by simp [hsize]) cb m os) (cell_grown (by simp [hsize]; exact Nat.lt_of_lt_of_le hblk (by omega)) ((hB0.cell hblk).trans ck) m os)))
    (fun a b hab hb hx => by
      have ha : a < l.length := by omega
      rw [getElem!_pos l.toArray a (by simpa using ha)] at hx
      rw [getElem!_pos l.toArray b (by simpa using hb)]
      simp only [List.getElem_toArray, decide_eq_true_eq] at hx ⊢
      rcases Nat.lt_or_eq_of_le hab with h | h
      · exact List.le_trans hx (List.le_of_lt (List.pairwise_iff_getElem.1 hasc a b ha hb h))
      · subst h; exact hx)
  have hcr := Lib.countP_range l.toArray (fun y => !decide (x ≤ y))
  simp only [List.size_toArray] at hcr
  rw [hcr] at hS
  change Calls Tryz.prog 66 _ _ _ at hS
  have hge := rest_ge hasc x
  obtain ⟨low, hlow⟩ : ∃ n, l.countP (fun y => !decide (x ≤ y)) = n := ⟨_, rfl⟩
  have hlowle : low ≤ l.length := by rw [← hlow]; exact List.countP_le_length
  rw [hlow] at hS HW hge
  obtain ⟨A2, C2, e2, hst2⟩ := strs_from HS.out hlowle
  have HOwn : Hid (∀ ad, A2 = some ad → S ad.block) := Lib.hid (fun ad e1 => by
    obtain ⟨a0, h1, h2⟩ := sliced_block e2 e1
    rw [← h2]
    exact hown a0 _ _ (by rw [h1]))
  clear hown
  have hrun2 := run_from hlowle e2
  have hasc2 : WAsc (l.drop low) := List.Pairwise.sublist (List.drop_sublist _ _) hasc
  obtain ⟨r, hr⟩ : ∃ r, l.drop low = r := ⟨_, rfl⟩
  have hrl : r.length ≤ 256000 := by rw [← hr, List.length_drop]; omega
  rw [hr] at hst2 hrun2 hasc2 HW hge
  have HST2 := Lib.hid hst2
  obtain ⟨a', c', ee, hle2, -, hc2⟩ := hst2
  injection ee with ea _ ec
  subst ea; subst ec
  have HW0 := Lib.hid hW0
  clear hcr hlow hr e2 hasc hp2 hc eg1 hne
  go_enter Tryz.func50, Tryz.ntmps50
  go_wp2_with fail
  refine hS.mono ?_
  rintro e W1 ⟨rfl, q, os, hW1⟩
  have hb1 : Below W0.heap.size W0 W1 := by rw [hW1]; exact below_grown_sl _ W0 q os (Nat.le_refl _)
  have hB1 : Below w.heap.size w W1 := hB0.trans (hb1.mono hB0.size)
  have hs1 := hb1.size
  have d1 : W1.cell? ⟨w.heap.size, 0, none⟩ = some (.pointer (some ⟨p, 0, none⟩)) := (hb1.cell (p := ⟨w.heap.size, 0, none⟩) (by simp only [hsize]; omega)).trans ca
  have d2 : W1.cell? ⟨w.heap.size + 1, 0, none⟩ = some (.string ⟨x.toArray⟩) := (hb1.cell (p := ⟨w.heap.size + 1, 0, none⟩) (by simp only [hsize]; omega)).trans cb
  have d3 : W1.cell? ⟨p, 2, none⟩ = some (.slice a l.length c) := (hb1.cell (p := ⟨p, 2, none⟩) (by simp only [hsize]; omega)).trans cp
  clear hW1 ca cb cp hS hb1
  obtain ⟨W2, hW2⟩ : ∃ W2, W1.alloc (.cells #[.slice A2 r.length C2] 23) = W2 := ⟨_, rfl⟩
  have hsz2 : W2.heap.size = W1.heap.size + 1 := by rw [← hW2]; simp
  have hB2 : Below w.heap.size w W2 := by rw [← hW2]; exact hB1.alloc (by omega) _
  have k1 : W2.cell? ⟨W1.heap.size, 0, none⟩ = some (.slice A2 r.length C2) := by rw [← hW2]; simp
  have k2 : W2.cell? ⟨w.heap.size + 1, 0, none⟩ = some (.string ⟨x.toArray⟩) := by rw [← hW2]; exact Lib.cell?_alloc_some _ d2
  have hmono2 : ∀ i j (hi : i < r.length) (hj : j < r.length), i ≤ j → x.isPrefixOf r[j] = true → x.isPrefixOf r[i] = true := fun i j hi hj hij hp => by
    rcases Nat.lt_or_eq_of_le hij with h | h
    · rw [List.isPrefixOf_iff_prefix] at hp ⊢
      exact prefix_between (hge _ (List.getElem_mem hi)) (List.le_of_lt (List.pairwise_iff_getElem.1 hasc2 i j hi hj h)) hp
    · subst h; exact hp
  have hS2 : ∀ k, Calls Tryz.prog 66 #[.int .i64 r.length, .func (.func 68) #[] #[.pointer (some ⟨W1.heap.size, 0, none⟩), .pointer (some ⟨w.heap.size + 1, 0, none⟩)]] (W2.drewN k) fun e w' => e = .returned (.int .i64 (r.countP x.isPrefixOf : Nat)) ∧ Below W2.heap.size W2 w' ∧ w'.cell? ⟨W1.heap.size, 0, none⟩ = some (.slice A2 r.length C2) := fun k => by
    have hS := Any.sort_Search Tryz.search 68 #[.pointer (some ⟨W1.heap.size, 0, none⟩), .pointer (some ⟨w.heap.size + 1, 0, none⟩)] r.length (fun i => !x.isPrefixOf r.toArray[i]!) (W2.drewN k) (fun a w => eg2 a w) (by omega)
      (fun m os i hi => by
        obtain ⟨b, off, rfl, ck⟩ := hc2 i hi
        have hblk := World.block_lt_of_cell? w _ ck
        have he : r.toArray[i]! = r[i] := by rw [getElem!_pos r.toArray i (by simpa using hi)]; simp
        rw [he]
        exact (with2 i r.length C2 W1.heap.size (w.heap.size + 1) b off r[i] x _ hi (cell_grown (by show W1.heap.size < W2.heap.size; omega) k1 m os) (cell_grown (by show w.heap.size + 1 < W2.heap.size; omega) k2 m os) (cell_grown (by show b < W2.heap.size; have hb3 : b < w.heap.size := hblk; omega) ((hB2.cell hblk).trans ck) m os)))
      (fun a b hab hb hx => by
        have ha : a < r.length := by omega
        rw [getElem!_pos r.toArray a (by simpa using ha)] at hx
        rw [getElem!_pos r.toArray b (by simpa using hb)]
        simp only [List.getElem_toArray, Bool.not_eq_true'] at hx ⊢
        cases hp : x.isPrefixOf r[b] with
        | false => rfl
        | true => rw [hmono2 a b ha hb hab hp] at hx; cases hx)
    have hcr := Lib.countP_range r.toArray (fun y => !x.isPrefixOf y)
    simp only [List.size_toArray] at hcr
    have hcr2 := Lib.countP_range r.toArray (fun y => !(!x.isPrefixOf y))
    simp only [List.size_toArray, Bool.not_not] at hcr2
    simp only [Bool.not_not] at hS
    rw [hcr2] at hS
    refine hS.mono ?_
    rintro e w' ⟨rfl, q, os, rfl⟩
    have hbb : Below W2.heap.size W2 (grow ((W2.drewN k).drewN q) os) := ((Below.refl _ W2).drewN k).trans (below_grown_sl _ (W2.drewN k) q os (Nat.le_refl _))
    exact ⟨rfl, hbb, (hbb.cell (p := ⟨W1.heap.size, 0, none⟩) (by simp only [hsz2]; omega)).trans k1⟩
  obtain ⟨n2, hn2⟩ : ∃ n, r.countP x.isPrefixOf = n := ⟨_, rfl⟩
  have hn2l : n2 ≤ r.length := by rw [← hn2]; exact List.countP_le_length
  rw [hn2] at hS2 HW
  obtain ⟨hn2c, hst3⟩ := strs_upto HST2.out hn2l
  have hrun3 := fun W => run_upto (a := A2) (n := r.length) hn2c W
  rw [HW.out] at hst3
  have HST3 := Lib.hid hst3
  have HB2 := Lib.hid hB2
  have HW2 := Lib.hid hW2
  clear hn2 hst3 hmono2 hc2 hasc2 hge hB2
  go_upto_region 3 with fail
  go_region_held3 (fun w' => w'.cell? ⟨W1.heap.size, 0, none⟩ = some (.slice A2 r.length C2)) (first | assumption | go_keep) (first | (go_at_call 66; refine (hS2 1).mono ?_; rintro e w9 ⟨rfl, hb9, hk9⟩) | fail)
  all_goals (go_wp2; go_ret; exact ⟨_, rfl, HST3.out.below (HB2.out.trans (hb9.mono HB2.out.size)), (fun ad n c e => by injection e with e1 e2 e3; exact HOwn.out ad e1), HB2.out.trans (hb9.mono HB2.out.size)⟩)
end Go.Proofs.YtmfnhfkgkdibfaaGreat

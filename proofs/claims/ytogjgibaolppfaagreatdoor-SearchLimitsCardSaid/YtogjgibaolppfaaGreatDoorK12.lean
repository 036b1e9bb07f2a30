/- Facts and contracts for the laws of the sender, part 12. Conditions: those that each theorem names. -/
import Derived.Test.YtogjgibaolppfaaGreatDoorK11
import Derived.Test.YtogjgibaolppfaaGreatDoorK07
import Derived.Shelf.SlSorted.Search
import Derived.Carry
/- with: the words with a beginning. -/
namespace Go.Proofs.YtogjgibaolppfaaGreatDoor
open Go.RowKit Go.Sort Go.Proofs Go.Shelf

theorem sub_len {β : Type} [DecidableEq β] : ∀ (m l : List β), l.Nodup → (∀ x ∈ l, x ∈ m) → l.length ≤ m.length
  | [], l, _, h => by
    cases l with
    | nil => simp
    | cons x l => have := h x (by simp); simp at this
  | a :: m, l, hn, h => by
    have h1 := sub_len m (l.erase a) (hn.erase _) fun x hx => by
      have h2 := h x (List.mem_of_mem_erase hx)
      rcases List.mem_cons.1 h2 with rfl | h3
      · exact absurd hx (List.Nodup.not_mem_erase hn)
      · exact h3
    by_cases hm : a ∈ l
    · rw [List.length_erase_of_mem hm] at h1; simp; omega
    · rw [List.erase_of_not_mem hm] at h1; simp; omega
theorem vocab_nodup (D : List Dc) : (vocab D).Nodup := (vocab_asc D).imp fun h e => by subst e; exact List.lt_irrefl _ h
theorem flat_len (D : List Dc) (h : ∀ d ∈ D, d.2.length ≤ 1000) : (D.flatMap (·.2)).length ≤ 1000 * D.length := by
  induction D with
  | nil => simp
  | cons d D ih =>
    have h1 := ih fun x hx => h x (List.mem_cons_of_mem _ hx)
    have h2 := h d (by simp)
    rw [List.flatMap_cons, List.length_append, List.length_cons]
    omega
theorem vocab_len {D : List Dc} (hA : Asc D) (hI : Ids D) (h : ∀ d ∈ D, d.2.length ≤ 1000) : (vocab D).length ≤ 256000 := by
  have h1 := sub_len (D.flatMap (·.2)) (vocab D) (vocab_nodup D) fun x hx => by
    obtain ⟨d, hd, hxd⟩ := mem_vocab.1 hx
    exact List.mem_flatMap.2 ⟨d, hd, hxd⟩
  have h2 := flat_len D h
  have h3 := docs_le hA hI
  omega

theorem hasPrefixL (x y : Wd) (w : World) : Calls Tryz.prog 143 #[.string ⟨x.toArray⟩, .string ⟨y.toArray⟩] w fun e w' => e = .returned (.bool (y.isPrefixOf x)) ∧ w' = w := by
  have hR : y.isPrefixOf x = (decide (y.length ≤ x.length) && (x.take y.length == y)) := by
    rw [Bool.eq_iff_iff, List.isPrefixOf_iff_prefix, List.prefix_iff_eq_take, Bool.and_eq_true, decide_eq_true_eq, beq_iff_eq]
    constructor
    · intro h
      refine ⟨?_, h.symm⟩
      have := congrArg List.length h
      rw [List.length_take] at this
      omega
    · exact fun h => h.2.symm
  rw [hR]
  clear hR
  by_cases hl : y.length ≤ x.length
  · have g0 : decide ((y.length : Int) ≤ (x.length : Int)) = true := by simp; omega
    rw [decide_eq_true hl, Bool.true_and]
    go_enter Tryz.func143, Tryz.ntmps143
    go_wp2
    go_ret
    have hx : (ByteArray.extract ⟨x.toArray⟩ 0 y.length).toList = x.take y.length := by
      rw [Lib.toList_data, ByteArray.data_extract]
      simp
    show Ending.returned (.bool ((ByteArray.extract ⟨x.toArray⟩ 0 y.length).toList == y)) = _ ∧ _
    rw [hx]
    exact ⟨rfl, rfl⟩
  · have g0 : decide ((y.length : Int) ≤ (x.length : Int)) = false := by simp; omega
    rw [decide_eq_false hl, Bool.false_and]
    go_enter Tryz.func143, Tryz.ntmps143
    go_wp2
    go_ret
    exact ⟨rfl, rfl⟩
theorem hasPrefix_any (x y : Wd) (w : World) : Calls Tryz.prog 133 #[.string ⟨x.toArray⟩, .string ⟨y.toArray⟩] w fun e w' => e = .returned (.bool (y.isPrefixOf x)) ∧ w' = w := by
  have hc := fun W => hasPrefixL x y W
  generalize y.isPrefixOf x = R at hc ⊢
  go_enter Tryz.func133, Tryz.ntmps133
  go_wp2_with (go_at_call 143; refine (hc _).mono ?_; rintro e w' ⟨rfl, rfl⟩)
  go_ret
  exact ⟨rfl, rfl⟩

set_option maxRecDepth 100000 in
theorem with1 (i n c p B1 B2 : Nat) (b off : Nat) (x y : Wd) (W : World) (hi : i < n) (h1 : W.cell? ⟨B1, 0, none⟩ = some (.pointer (some ⟨p, 0, none⟩))) (h2 : W.cell? ⟨p, 2, none⟩ = some (.slice (some ⟨b, off, none⟩) n c)) (h3 : W.cell? ⟨B2, 0, none⟩ = some (.string ⟨y.toArray⟩)) (h4 : W.cell? ⟨b, off + i, none⟩ = some (.string ⟨x.toArray⟩)) :
    Calls Tryz.prog 131 (#[.int .i64 i] ++ #[.pointer (some ⟨B1, 0, none⟩), .pointer (some ⟨B2, 0, none⟩)]) W fun e w' => e = .returned (.bool (decide (y ≤ x))) ∧ ∃ q os, w' = grow (W.drewN q) os := by
  have hiz : (i : Int) < (n : Int) := by omega
  have hR : (!Op.bytesLess x y) = decide (y ≤ x) := by
    rw [bytesLess_eq]
    by_cases h : x < y
    · have : ¬ y ≤ x := List.not_le.2 h
      simp [h, this]
    · have : y ≤ x := List.not_lt.1 h
      simp [h, this]
  rw [← hR]
  generalize hg : Op.bytesLess x y = R
  have HG := Lib.hid hR
  clear hR HG
  go_enter Tryz.func131, Tryz.ntmps131
  go_upto_region 1 with fail
  go_quiet (fail)
  go_wp2
  go_ret
  exact ⟨rfl, nq, #[], by rw [grow_empty]⟩

set_option maxRecDepth 100000 in
theorem with2 (i n c B1 B2 : Nat) (b off : Nat) (x y : Wd) (W : World) (hi : i < n) (h1 : W.cell? ⟨B1, 0, none⟩ = some (.slice (some ⟨b, off, none⟩) n c)) (h3 : W.cell? ⟨B2, 0, none⟩ = some (.string ⟨y.toArray⟩)) (h4 : W.cell? ⟨b, off + i, none⟩ = some (.string ⟨x.toArray⟩)) :
    Calls Tryz.prog 132 (#[.int .i64 i] ++ #[.pointer (some ⟨B1, 0, none⟩), .pointer (some ⟨B2, 0, none⟩)]) W fun e w' => e = .returned (.bool (!y.isPrefixOf x)) ∧ ∃ q os, w' = grow (W.drewN q) os := by
  have hiz : (i : Int) < (n : Int) := by omega
  have hc := fun W => hasPrefix_any x y W
  generalize y.isPrefixOf x = R at hc ⊢
  go_enter Tryz.func132, Tryz.ntmps132
  go_upto_region 1 with fail
  go_quiet ((go_at_call 133; refine (hc _).mono ?_; rintro e w' ⟨rfl, rfl⟩; exact ⟨rfl, _, rfl⟩))
  go_wp2
  go_ret
  exact ⟨rfl, nq, #[], by rw [grow_empty]⟩

theorem strs_from {w : World} {a : Option Addr} {n c : Nat} {l : List Wd} (h : StrsAt w (.slice a n c) l) {k : Nat} (hk : k ≤ l.length) : ∃ A C, (sliced a k n c 1) = .slice A (l.drop k).length C ∧ StrsAt w (.slice A (l.drop k).length C) (l.drop k) := by
  obtain ⟨a', c', e, hle, hl, hc⟩ := h
  injection e with e1 e2 e3
  subst e1; subst e3; subst e2
  refine ⟨_, _, by rw [List.length_drop]; rfl, _, _, rfl, by rw [List.length_drop]; omega, by rw [List.length_drop]; omega, fun j hj => ?_⟩
  rw [List.length_drop] at hj
  obtain ⟨b, off, h1, h2⟩ := hc (k + j) (by omega)
  subst h1
  have hne : c ≠ k := by omega
  refine ⟨b, off + k, ?_, ?_⟩
  · rw [if_neg hne]
    unfold Addr.add
    simp only [Option.map_some, Nat.mul_one]
    by_cases h0 : k = 0
    · subst h0; rfl
    · rw [if_neg h0]
  · rw [Nat.add_assoc, List.getElem_drop]; exact h2
theorem sliced_block {a A : Option Addr} {k n c m C : Nat} (h : sliced a k n c 1 = .slice A m C) {ad : Addr} (hA : A = some ad) : ∃ a0, a = some a0 ∧ a0.block = ad.block := by
  unfold sliced at h
  injection h with h1 _ _
  rw [hA] at h1
  split at h1
  · exact ⟨ad, h1, rfl⟩
  · cases a with
    | none => cases h1
    | some a0 =>
      refine ⟨a0, rfl, ?_⟩
      simp only [Option.map_some, Option.some.injEq] at h1
      rw [← h1]
      unfold Addr.add
      split <;> rfl
theorem run_from {a : Option Addr} {n c k : Nat} {V : Value} (hk : k ≤ n) (h : sliced a k n c 1 = V) (W : World) : (Instr.slice 28 (.slice a n c) (some (.int .i64 k)) none none).run Tryz.prog W = .ok V W := by
  have ht : Tryz.prog.underlying 28 = some (.slice (Tryz.prog.elem 28)) := by kernel_rfl
  have he : Tryz.prog.elem 28 = 9 := by kernel_rfl
  rw [run_slice_l W 28 a n c ht .i64 k (by omega) (by omega), he]
  have : (Go.sizeOf 9).run Tryz.prog W = .ok 1 W := Tryz.sizeOf9 W
  rw [this]
  simp only [Result.andThen]
  rw [← h]
  rfl
theorem run_upto {a : Option Addr} {n c k : Nat} (hk : k ≤ c) (W : World) : (Instr.slice 28 (.slice a n c) none (some (.int .i64 k)) none).run Tryz.prog W = .ok (.slice a k c) W := by
  have ht : Tryz.prog.underlying 28 = some (.slice (Tryz.prog.elem 28)) := by kernel_rfl
  have he : Tryz.prog.elem 28 = 9 := by kernel_rfl
  rw [run_slice_h W 28 a n c ht .i64 k (by omega) (by omega), he]
  have : (Go.sizeOf 9).run Tryz.prog W = .ok 1 W := Tryz.sizeOf9 W
  rw [this]
  simp only [Result.andThen]
  have h0 : (if c = 0 then a else a.map (·.add (0 * 1))) = a := by
    split
    · rfl
    · cases a with
      | none => rfl
      | some ad => simp [Addr.add]
  show Result.ok (Value.slice (if c = 0 then a else a.map (·.add (0 * 1))) (k - 0) (c - 0)) W = _
  rw [h0]; rfl
theorem strs_upto {w : World} {a : Option Addr} {n c : Nat} {l : List Wd} (h : StrsAt w (.slice a n c) l) {k : Nat} (hk : k ≤ l.length) : k ≤ c ∧ StrsAt w (.slice a k c) (l.take k) := by
  obtain ⟨a', c', e, hle, hl, hc⟩ := h
  injection e with e1 e2 e3
  subst e1; subst e3; subst e2
  refine ⟨by omega, _, _, by rw [List.length_take, Nat.min_eq_left hk], by rw [List.length_take]; omega, by rw [List.length_take]; omega, fun j hj => ?_⟩
  rw [List.length_take] at hj
  obtain ⟨b, off, h1, h2⟩ := hc j (by omega)
  exact ⟨b, off, h1, by rw [List.getElem_take]; exact h2⟩
theorem rest_ge {v : List Wd} (h : WAsc v) (p : Wd) : ∀ z ∈ v.drop (v.countP fun x => !decide (p ≤ x)), p ≤ z := by
  have d1 : Down (fun x : Wd => !decide (p ≤ x)) v := h.imp fun {a b} hab hb => by
    simp only [Bool.not_eq_true', decide_eq_false_iff_not] at hb ⊢
    exact fun e => hb (List.le_trans e (List.le_of_lt hab))
  rw [(down_take d1).2]
  intro z hz
  simpa using (List.mem_filter.1 hz).2
theorem strs_below {w w' : World} {v : Value} {l : List Wd} (h : StrsAt w v l) {B : Nat} (hb : Below B w w') (hB : w.heap.size ≤ B) : StrsAt w' v l := h.below (hb.mono hB)

set_option maxRecDepth 100000 in
set_option maxHeartbeats 4000000 in
theorem with_any {S Q : Nat → Prop} {N : Nat} {p : Nat} {D : List Dc} (w : World) (h : IdxAt S Q N w p D) (x : Wd) :
    Calls Tryz.prog 88 #[.pointer (some ⟨p, 0, none⟩), .string ⟨x.toArray⟩] w fun e w' => ∃ v, e = .returned v ∧ StrsAt w' v ((vocab D).filter x.isPrefixOf) ∧ (∀ ad n c, v = .slice (some ad) n c → S ad.block) ∧ Below w.heap.size w w' := by
  obtain ⟨b1, b2, v, tx, g, hp, hne, hT, hF, hR⟩ := h.parts
  have hplt := h.lt p h.own
  have hvl := vocab_len h.asc h.ids h.small
  have HW := Lib.hid (with_eq (vocab_asc D) x)
  have hasc := vocab_asc D
  have hp2 : w.cell? ⟨p, 2, none⟩ = some v := by rw [Lib.cell_of_heap hp]; rfl
  obtain ⟨base, ho⟩ := hR.1
  have hst := strsAt_of_owns ho (by omega)
  have hown : ∀ a n c, v = .slice (some a) n c → S a.block := fun a n c e => hR.2 _ (by rw [e]; rfl)
  clear hp hT hF hR ho h
  obtain ⟨l, hl⟩ : ∃ l, vocab D = l := ⟨_, rfl⟩
  rw [hl] at HW hst hvl hasc ⊢
  clear hl
  have HS := Lib.hid hst
  obtain ⟨a, c, rfl, hle, hm, hc⟩ := hst
  -- the world with the two boxes
  obtain ⟨W0, hW0⟩ : ∃ W0, (w.alloc (.cells #[.pointer (some ⟨p, 0, none⟩)] 35)).alloc (.cells #[.string ⟨x.toArray⟩] 9) = W0 := ⟨_, rfl⟩
  have hsize : W0.heap.size = w.heap.size + 2 := by rw [← hW0]; simp
  have hB0 : Below w.heap.size w W0 := by rw [← hW0]; exact ((Below.refl _ w).alloc (Nat.le_refl _) _).alloc (by simp) _
  have ca : W0.cell? ⟨w.heap.size, 0, none⟩ = some (.pointer (some ⟨p, 0, none⟩)) := by rw [← hW0]; exact Lib.cell?_alloc_some _ (by simp)
  have cb : W0.cell? ⟨w.heap.size + 1, 0, none⟩ = some (.string ⟨x.toArray⟩) := by rw [← hW0]; have := World.cell?_alloc_new (w.alloc (.cells #[.pointer (some ⟨p, 0, none⟩)] 35)) #[.string ⟨x.toArray⟩] 9; simp
  have cp : W0.cell? ⟨p, 2, none⟩ = some (.slice a l.length c) := (hB0.cell hplt).trans hp2
  have eg1 : ∀ args w, (callFunc 131 args).run Tryz.prog w = .ok (.enter 131 args) w := enters_of Tryz.func131 (by kernel_rfl) rfl
  have eg2 : ∀ args w, (callFunc 132 args).run Tryz.prog w = .ok (.enter 132 args) w := enters_of Tryz.func132 (by kernel_rfl) rfl
  have hS := Any.sort_Search Tryz.search 131 #[.pointer (some ⟨w.heap.size, 0, none⟩), .pointer (some ⟨w.heap.size + 1, 0, none⟩)] l.length (fun i => decide (x ≤ l.toArray[i]!)) W0 eg1 (by omega)
    (fun m os i hi => by
      obtain ⟨b, off, rfl, ck⟩ := hc i hi
      have hblk := World.block_lt_of_cell? w _ ck
      have he : l.toArray[i]! = l[i] := by rw [getElem!_pos l.toArray i (by simpa using hi)]; simp
      rw [he]
      exact (with1 i l.length c p w.heap.size (w.heap.size + 1) b off l[i] x _ hi (cell_grown (by simp [hsize]) ca m os) (cell_grown (by simp [hsize]; omega) cp m os) (cell_grown (by simp [hsize]) cb m os) (cell_grown (by simp [hsize]; exact Nat.lt_of_lt_of_le hblk (by omega)) ((hB0.cell hblk).trans ck) m os)))
    (fun a b hab hb hx => by
      have ha : a < l.length := by omega
      rw [getElem!_pos l.toArray a (by simpa using ha)] at hx
      rw [getElem!_pos l.toArray b (by simpa using hb)]
      simp only [List.getElem_toArray, decide_eq_true_eq] at hx ⊢
      rcases Nat.lt_or_eq_of_le hab with h | h
      · exact List.le_trans hx (List.le_of_lt (List.pairwise_iff_getElem.1 hasc a b ha hb h))
      · subst h; exact hx)
  have hcr := Lib.countP_range l.toArray (fun y => !decide (x ≤ y))
  simp only [List.size_toArray] at hcr
  rw [hcr] at hS
  change Calls Tryz.prog 130 _ _ _ at hS
  have hge := rest_ge hasc x
  obtain ⟨low, hlow⟩ : ∃ n, l.countP (fun y => !decide (x ≤ y)) = n := ⟨_, rfl⟩
  have hlowle : low ≤ l.length := by rw [← hlow]; exact List.countP_le_length
  rw [hlow] at hS HW hge
  obtain ⟨A2, C2, e2, hst2⟩ := strs_from HS.out hlowle
  have HOwn : Hid (∀ ad, A2 = some ad → S ad.block) := Lib.hid (fun ad e1 => by
    obtain ⟨a0, h1, h2⟩ := sliced_block e2 e1
    rw [← h2]
    exact hown a0 _ _ (by rw [h1]))
  clear hown
  have hrun2 := run_from hlowle e2
  have hasc2 : WAsc (l.drop low) := List.Pairwise.sublist (List.drop_sublist _ _) hasc
  obtain ⟨r, hr⟩ : ∃ r, l.drop low = r := ⟨_, rfl⟩
  have hrl : r.length ≤ 256000 := by rw [← hr, List.length_drop]; omega
  rw [hr] at hst2 hrun2 hasc2 HW hge
  have HST2 := Lib.hid hst2
  obtain ⟨a', c', ee, hle2, -, hc2⟩ := hst2
  injection ee with ea _ ec
  subst ea; subst ec
  have HW0 := Lib.hid hW0
  clear hcr hlow hr e2 hasc hp2 hc eg1 hne
  go_enter Tryz.func88, Tryz.ntmps88
  go_wp2_with fail
  refine hS.mono ?_
  rintro e W1 ⟨rfl, q, os, hW1⟩
  have hb1 : Below W0.heap.size W0 W1 := by rw [hW1]; exact below_grown_sl _ W0 q os (Nat.le_refl _)
  have hB1 : Below w.heap.size w W1 := hB0.trans (hb1.mono hB0.size)
  have hs1 := hb1.size
  have d1 : W1.cell? ⟨w.heap.size, 0, none⟩ = some (.pointer (some ⟨p, 0, none⟩)) := (hb1.cell (p := ⟨w.heap.size, 0, none⟩) (by simp only [hsize]; omega)).trans ca
  have d2 : W1.cell? ⟨w.heap.size + 1, 0, none⟩ = some (.string ⟨x.toArray⟩) := (hb1.cell (p := ⟨w.heap.size + 1, 0, none⟩) (by simp only [hsize]; omega)).trans cb
  have d3 : W1.cell? ⟨p, 2, none⟩ = some (.slice a l.length c) := (hb1.cell (p := ⟨p, 2, none⟩) (by simp only [hsize]; omega)).trans cp
  clear hW1 ca cb cp hS hb1
  obtain ⟨W2, hW2⟩ : ∃ W2, W1.alloc (.cells #[.slice A2 r.length C2] 28) = W2 := ⟨_, rfl⟩
  have hsz2 : W2.heap.size = W1.heap.size + 1 := by rw [← hW2]; simp
  have hB2 : Below w.heap.size w W2 := by rw [← hW2]; exact hB1.alloc (by omega) _
  have k1 : W2.cell? ⟨W1.heap.size, 0, none⟩ = some (.slice A2 r.length C2) := by rw [← hW2]; simp
  have k2 : W2.cell? ⟨w.heap.size + 1, 0, none⟩ = some (.string ⟨x.toArray⟩) := by rw [← hW2]; exact Lib.cell?_alloc_some _ d2
  have hmono2 : ∀ i j (hi : i < r.length) (hj : j < r.length), i ≤ j → x.isPrefixOf r[j] = true → x.isPrefixOf r[i] = true := fun i j hi hj hij hp => by
    rcases Nat.lt_or_eq_of_le hij with h | h
    · rw [List.isPrefixOf_iff_prefix] at hp ⊢
      exact prefix_between (hge _ (List.getElem_mem hi)) (List.le_of_lt (List.pairwise_iff_getElem.1 hasc2 i j hi hj h)) hp
    · subst h; exact hp
  have hS2 : ∀ k, Calls Tryz.prog 130 #[.int .i64 r.length, .func (.func 132) #[] #[.pointer (some ⟨W1.heap.size, 0, none⟩), .pointer (some ⟨w.heap.size + 1, 0, none⟩)]] (W2.drewN k) fun e w' => e = .returned (.int .i64 (r.countP x.isPrefixOf : Nat)) ∧ Below W2.heap.size W2 w' ∧ w'.cell? ⟨W1.heap.size, 0, none⟩ = some (.slice A2 r.length C2) := fun k => by
    have hS := Any.sort_Search Tryz.search 132 #[.pointer (some ⟨W1.heap.size, 0, none⟩), .pointer (some ⟨w.heap.size + 1, 0, none⟩)] r.length (fun i => !x.isPrefixOf r.toArray[i]!) (W2.drewN k) (fun a w => eg2 a w) (by omega)
      (fun m os i hi => by
        obtain ⟨b, off, rfl, ck⟩ := hc2 i hi
        have hblk := World.block_lt_of_cell? w _ ck
        have he : r.toArray[i]! = r[i] := by rw [getElem!_pos r.toArray i (by simpa using hi)]; simp
        rw [he]
        exact (with2 i r.length C2 W1.heap.size (w.heap.size + 1) b off r[i] x _ hi (cell_grown (by show W1.heap.size < W2.heap.size; omega) k1 m os) (cell_grown (by show w.heap.size + 1 < W2.heap.size; omega) k2 m os) (cell_grown (by show b < W2.heap.size; have hb3 : b < w.heap.size := hblk; omega) ((hB2.cell hblk).trans ck) m os)))
      (fun a b hab hb hx => by
        have ha : a < r.length := by omega
        rw [getElem!_pos r.toArray a (by simpa using ha)] at hx
        rw [getElem!_pos r.toArray b (by simpa using hb)]
        simp only [List.getElem_toArray, Bool.not_eq_true'] at hx ⊢
        cases hp : x.isPrefixOf r[b] with
        | false => rfl
        | true => rw [hmono2 a b ha hb hab hp] at hx; cases hx)
    have hcr := Lib.countP_range r.toArray (fun y => !x.isPrefixOf y)
    simp only [List.size_toArray] at hcr
    have hcr2 := Lib.countP_range r.toArray (fun y => !(!x.isPrefixOf y))
    simp only [List.size_toArray, Bool.not_not] at hcr2
    simp only [Bool.not_not] at hS
    rw [hcr2] at hS
    refine hS.mono ?_
    rintro e w' ⟨rfl, q, os, rfl⟩
    have hbb : Below W2.heap.size W2 (grow ((W2.drewN k).drewN q) os) := ((Below.refl _ W2).drewN k).trans (below_grown_sl _ (W2.drewN k) q os (Nat.le_refl _))
    exact ⟨rfl, hbb, (hbb.cell (p := ⟨W1.heap.size, 0, none⟩) (by simp only [hsz2]; omega)).trans k1⟩
  obtain ⟨n2, hn2⟩ : ∃ n, r.countP x.isPrefixOf = n := ⟨_, rfl⟩
  have hn2l : n2 ≤ r.length := by rw [← hn2]; exact List.countP_le_length
  rw [hn2] at hS2 HW
  obtain ⟨hn2c, hst3⟩ := strs_upto HST2.out hn2l
  have hrun3 := fun W => run_upto (a := A2) (n := r.length) hn2c W
  rw [HW.out] at hst3
  have HST3 := Lib.hid hst3
  have HB2 := Lib.hid hB2
  have HW2 := Lib.hid hW2
  clear hn2 hst3 hmono2 hc2 hasc2 hge hB2
  go_upto_region 3 with fail
  go_region_held3 (fun w' => w'.cell? ⟨W1.heap.size, 0, none⟩ = some (.slice A2 r.length C2)) (first | assumption | go_keep) (first | (go_at_call 130; refine (hS2 1).mono ?_; rintro e w9 ⟨rfl, hb9, hk9⟩) | fail)
  all_goals (go_wp2; go_ret; exact ⟨_, rfl, HST3.out.below (HB2.out.trans (hb9.mono HB2.out.size)), (fun ad n c e => by injection e with e1 e2 e3; exact HOwn.out ad e1), HB2.out.trans (hb9.mono HB2.out.size)⟩)
end Go.Proofs.YtogjgibaolppfaaGreatDoor
/- Prefix. -/
namespace Go.Proofs.YtogjgibaolppfaaGreatDoor
open Go.RowKit Go.Sort Go.Proofs Go.Maps Go.ChangeMaps Go.WideMaps

theorem sum_count (f : Wd → Bool) : ∀ (l V : List Wd), V.Nodup → (∀ x ∈ l, f x = true → x ∈ V) → (∀ x ∈ V, f x = true) → (V.map fun x => l.count x).sum = l.countP f
  | [], V, _, _, _ => by
    induction V with
    | nil => rfl
    | cons x V ih => simp_all
  | a :: l, V, hn, h1, h2 => by
    have ih := sum_count f l V hn (fun x hx => h1 x (List.mem_cons_of_mem _ hx)) h2
    have hs : ∀ V : List Wd, (V.map fun x => (a :: l).count x).sum = (V.map fun x => l.count x).sum + V.count a := fun V => by
      induction V with
      | nil => rfl
      | cons x V ih =>
        have e1 : (a :: l).count x = l.count x + (if a == x then 1 else 0) := List.count_cons
        have e2 : (x :: V).count a = V.count a + (if x == a then 1 else 0) := List.count_cons
        rw [List.map_cons, List.sum_cons, ih, List.map_cons, List.sum_cons, e1, e2]
        by_cases hax : a = x
        · subst hax; simp; omega
        · have : ¬ x = a := fun e => hax e.symm
          simp [hax, this]; omega
    rw [hs, ih, hn.count, List.countP_cons]
    by_cases hf : f a = true
    · rw [if_pos (h1 a (by simp) hf), if_pos hf]
    · have : a ∉ V := fun hm => hf (h2 a hm)
      rw [if_neg this, if_neg hf]

/-- how often the words of a list are in a document -/
def sumC (D : List Dc) (ws : List Wd) (id : Int) : Nat := (ws.map fun x => cntD D x id).sum
theorem sumC_succ (D : List Dc) (ws : List Wd) (k : Nat) (h : k < ws.length) (id : Int) : sumC D (ws.take (k + 1)) id = sumC D (ws.take k) id + cntD D ws[k] id := by
  unfold sumC
  rw [List.take_succ_eq_append_getElem h, List.map_append, List.sum_append]
  simp
theorem sumC_pref {D : List Dc} (hA : Asc D) (p : Wd) (id : Int) : sumC D ((vocab D).filter p.isPrefixOf) id = docsF D (fun l => l.countP p.isPrefixOf) id := by
  unfold sumC cntD docsF
  cases hw : wordsAt D id with
  | none =>
    simp only [Option.map_none, Option.getD_none]
    generalize (vocab D).filter p.isPrefixOf = V
    induction V with
    | nil => rfl
    | cons x V ih => simp_all
  | some l =>
    simp only [Option.map_some, Option.getD_some]
    exact sum_count p.isPrefixOf l _ ((vocab_nodup D).filter _) (fun x hx hf => List.mem_filter.2 ⟨mem_vocab.2 ⟨_, (wordsAt_some hA).1 hw, hx⟩, hf⟩) (fun x hx => (List.mem_filter.1 hx).2)
theorem sumC_le {D : List Dc} (h : ∀ x id, cntD D x id ≤ 1000) (ws : List Wd) (id : Int) : sumC D ws id ≤ 1000 * ws.length := by
  unfold sumC
  induction ws with
  | nil => simp
  | cons x ws ih =>
    have := h x id
    simp only [List.map_cons, List.sum_cons, List.length_cons]
    omega

theorem docsF_le {D : List Dc} (hA : Asc D) (hs : ∀ d ∈ D, d.2.length ≤ 1000) {f : List Wd → Nat} (hf : ∀ l, f l ≤ l.length) (id : Int) : docsF D f id ≤ 1000 := by
  unfold docsF
  cases hw : wordsAt D id with
  | none => simp
  | some l =>
    have := hs _ ((wordsAt_some hA).1 hw)
    have h2 := hf l
    simp only [Option.map_some, Option.getD_some] at this ⊢
    omega
/-- what Prefix answers -/
def prefQ (D : List Dc) (s : List UInt8) : List (Int × Nat) := match wordOf s with | none => [] | some x => prefD D x

def addD (base c : Int → Nat) (done : List Int) (id : Int) : Nat := base id + if id ∈ done then c id else 0
theorem cntM_getD (f : Int → Nat) (x : Int) : (cntM f x).getD (.int .i64 0) = .int .i64 (f x : Int) := by
  unfold cntM
  split
  · rfl
  · have : f x = 0 := by omega
    rw [this]; rfl
theorem addD_put {base c : Int → Nat} {done : List Int} {x : Int} (hx : x ∉ done) (hc : 0 < c x) : (fun y => if y = x then some (.int .i64 ((base x : Int) + (c x : Int))) else cntM (addD base c done) y) = cntM (addD base c (done ++ [x])) := by
  funext y
  by_cases h : y = x
  · subst h
    simp only [↓reduceIte, cntM, addD, List.mem_append, List.mem_singleton, or_true]
    rw [if_pos (by omega)]
    simp
  · simp only [cntM, addD, List.mem_append, List.mem_singleton, h, or_false, if_false]
    try rfl

set_option maxRecDepth 100000 in
set_option maxHeartbeats 4000000 in
theorem prefix_any {S Q : Nat → Prop} {N : Nat} {p : Nat} {D : List Dc} (w : World) (h : IdxAt S Q N w p D) (_hN : N ≤ 1000000) (s : List UInt8) (hs : s.length ≤ 1000000) :
    Calls Tryz.prog 79 #[.pointer (some ⟨p, 0, none⟩), .string ⟨s.toArray⟩] w fun e w' => ∃ v, e = .returned v ∧ HitsR w.heap.size w' v (prefQ D s) ∧ Below w.heap.size w w' := by
  have hcw := fun W => word_any s (by omega) W
  have HI := Lib.hid h
  have hcl := fun x id => cntD_le h x id
  have HCL := Lib.hid hcl
  have hvl := vocab_len h.asc h.ids h.small
  have HSM := Lib.hid h.small
  have HIA := Lib.hid h.asc; have HII := Lib.hid h.ids
  clear h hcl
  cases hw : wordOf s with
  | none =>
    have hR : prefQ D s = [] := by unfold prefQ; rw [hw]
    rw [hR]
    rw [hw] at hcw
    clear hR hw
    go_enter Tryz.func79, Tryz.ntmps79
    go_wp2_with (go_at_call 63; refine (hcw _).mono ?_; rintro e w1 ⟨rfl, hb1⟩)
    go_ret
    exact ⟨_, rfl, ⟨rfl, .inl ⟨rfl, rfl⟩⟩, hb1⟩
  | some x =>
    have hR : prefQ D s = hitsF (sumC D ((vocab D).filter x.isPrefixOf)) := by
      unfold prefQ; rw [hw]
      show hitsF _ = _
      congr 1
      funext id
      exact (sumC_pref HIA.out x id).symm
    rw [hR]
    rw [hw] at hcw
    have hxl := wordOf_len hw
    clear hR hw
    simp only [Option.getD_some, Option.isSome_some] at hcw
    have hcwi := fun W (h : IdxAt S Q N W p D) => with_any W h x
    have hse := fun id => sumC_pref HIA.out x id
    have hmemV : ∀ z ∈ (vocab D).filter x.isPrefixOf, z ∈ vocab D := fun z hz => (List.mem_filter.1 hz).1
    have hwl : ((vocab D).filter x.isPrefixOf).length ≤ 256000 := Nat.le_trans (List.length_filter_le _ _) hvl
    obtain ⟨ws, hws⟩ : ∃ ws, (vocab D).filter x.isPrefixOf = ws := ⟨_, rfl⟩
    rw [hws] at hcwi hmemV hwl hse ⊢
    have HSE := Lib.hid hse
    clear hse
    obtain ⟨R, HR⟩ : ∃ R, Hid (hitsF (sumC D ws) = R) := ⟨_, Lib.hid rfl⟩
    have HMV := Lib.hid hmemV
    rw [HR.out]
    clear hws hmemV
    have hmm := @run_makeMap Tryz.prog
    go_enter Tryz.func79, Tryz.ntmps79
    go_wp2_with fail
    refine (hcw _).mono ?_
    rintro e w1 ⟨rfl, hb1⟩
    have hs1 := hb1.size
    -- the map of the counts
    have hb2 : Below w.heap.size w (w1.alloc (.map #[] 0)) := hb1.alloc hs1 _
    have hM0 : IM w1.heap.size 0 (cntM fun _ => 0) (w1.alloc (.map #[] 0)) := by
      have : (cntM fun _ => 0) = fun _ => none := by funext id; simp [cntM]
      rw [this]; exact RMap.new w1
    have HB2 := Lib.hid hb2; have HM0 := Lib.hid hM0
    clear hb2 hM0 hb1
    go_wp2_with fail
    refine (hcwi _ (HI.out.below HB2.out)).mono ?_
    rintro e w3 ⟨v3, rfl, hst, hown, hb3⟩
    have HB3 := Lib.hid (bthen HB2.out hb3)
    have hM3 : IM w1.heap.size 0 (cntM (sumC D (ws.take 0))) w3 := by
      have : sumC D (ws.take 0) = fun _ => 0 := by funext id; simp [sumC]
      rw [this]
      exact HM0.out.kept (hb3.block _ (by simp))
    have HST := Lib.hid hst
    have HOW := Lib.hid (fun ad n c e => HI.out.lt _ (hown ad n c e))
    clear hown
    obtain ⟨a3, c3, rfl, hle3, hm3, hc3⟩ := hst
    have HM3 := Lib.hid hM3
    have HC3 := Lib.hid hc3
    clear hM3 hb3 hc3
    obtain ⟨bc, hbc⟩ : ∃ bc, w1.heap.size = bc := ⟨_, rfl⟩
    rw [hbc] at hs1 HM3
    go_wp2
    have HBC := Lib.hid hbc
    clear hbc
    go_loopw [28] (fun i wr => ∃ k : Nat, i = .int .i64 k ∧ k ≤ ws.length ∧ Hid (IM bc (256 * k) (cntM (sumC D (ws.take k))) wr) ∧ Hid (Below w.heap.size w wr)) (fun i _ => ws.length - (intOf i).toNat)
    case atStart => exact ⟨0, rfl, by omega, HM3, HB3⟩
    case round =>
      obtain ⟨k, rfl, hk, HM, HB⟩ := hrel
      by_cases hkl : k < ws.length
      · have hki : (k : Int) < (ws.length : Int) := by omega
        have hIw := HI.out.below HB.out
        obtain ⟨b1, b2, v, tx, g, hp, hne, hT, hF, hR⟩ := hIw.parts
        have hp1 : wr.cell? ⟨p, 1, none⟩ = some (.map (some b2)) := by rw [Lib.cell_of_heap hp]; rfl
        obtain ⟨d, hd, hyd⟩ := mem_vocab.1 (HMV.out ws[k] (List.getElem_mem hkl))
        have hyl : ws[k].length ≤ 30 := (hIw.oks d hd _ hyd).2.1
        have hget := hF.map.get strKeys (t := 97) Tryz.underlying97 (Tryz.zeroValue81 wr) (strKey (x := ws[k]) (by omega))
        obtain ⟨bi, hbi⟩ := Option.isSome_iff_exists.1 ((hF.some ws[k]).2 ⟨d.1, by
          unfold cntD docsF
          rw [(wordsAt_some hIw.asc).2 hd]
          exact List.count_pos_iff.2 hyd⟩)
        rw [hbi] at hget
        obtain ⟨i1, i2, i3, i4⟩ := hF.inner ws[k] bi hbi
        have hbiw := HI.out.lt bi i1
        obtain ⟨Di, hDi, hfi⟩ := i4
        obtain ⟨b0, off0, ha0, ck0⟩ := HC3.out k hkl
        have hb0 := HOW.out ⟨b0, off0, none⟩ _ _ (by rw [ha0])
        subst ha0
        have ck : wr.cell? ⟨b0, off0 + k, none⟩ = some (.string ⟨(ws[k]).toArray⟩) := by
          rw [HB.out.cell (p := ⟨b0, off0 + k, none⟩) hb0, ← HB3.out.cell (p := ⟨b0, off0 + k, none⟩) hb0]
          exact ck0
        have hsucc := sumC_succ D ws k hkl
        have hcl := fun id => HCL.out ws[k] id
        have hsl := fun id => sumC_le HCL.out (ws.take k) id
        have hcp := fun id (h : 0 < cntD D ws[k] id) => docsF_pos HIA.out HII.out h
        obtain ⟨y, hy⟩ : ∃ y, ws[k] = y := ⟨_, rfl⟩
        rw [hy] at hget hfi ck hsucc hcl hcp hyl
        obtain ⟨cy, hcy⟩ : ∃ f, cntD D y = f := ⟨_, rfl⟩
        rw [hcy] at hfi hsucc hcl hcp
        have HF := Lib.hid hfi; have HSU := Lib.hid hsucc; have HCY := Lib.hid hcl; have HSL := Lib.hid hsl; have HCP := Lib.hid hcp
        clear hp hT hF hR hd hyd hbi hfi hsucc hcl hcy hy hsl hcp ck0 hIw d
        have hbcl := HM.out.lt
        obtain ⟨rB, hrB⟩ : ∃ n, wr.heap.size = n := ⟨_, rfl⟩
        go_wp2_with (at_range; refine wpList_range_own _ rfl _ 81 rfl 3 3 intKeys Tryz.underlying81 _ bi N _ rfl hDi ?_; intro w4 hrg0 hg0 hs0)
        have HB4 : Hid (Below w.heap.size w w4) := Lib.hid (HB.out.grown hg0 HB.out.size (fun j hj => by cases hj))
        have HM4 : Hid (IM bc (256 * k) (cntM (sumC D (ws.take k))) w4) := Lib.hid (HM.out.kept (hg0.block _ hbcl (by simp)))
        rw [hrB] at hrg0 hbcl
        clear hg0 hs0 hrB
        go_loopw [10] (fun _ wq => ∃ (left : Lit → Bool) (cnt : Nat) (done : List Int), wq.ranges Tryz.prog 3 rawE bi rB N Di left cnt ∧ Hid (Left (Lit.int .i64) (cntM cy) left done) ∧ Hid (done.Nodup ∧ ∀ x ∈ done, 0 < cy x) ∧ Hid (IM bc (256 * k + done.length) (cntM (addD (sumC D (ws.take k)) cy done)) wq) ∧ Hid (Below w.heap.size w wq)) (fun _ wq => wq.rangeLeft bi rB)
        case atStart => exact ⟨_, _, [], hrg0, Lib.hid (Left.start HF.out), Lib.hid ⟨.nil, fun x hx => by cases hx⟩, Lib.hid (by
          have : addD (sumC D (ws.take k)) cy [] = sumC D (ws.take k) := by funext id; simp [addD]
          rw [this]; exact HM4.out), HB4⟩
        case round =>
          obtain ⟨left, cnt, done, hrg, HL, HN, HMq, HBq⟩ := hrel
          go_wp2_with (at_next; refine wpList_next_ranges _ rfl _ rfl 3 intKeys rawE (Value.int .i64) id (fun key kl hkey => by obtain ⟨x, rfl, _⟩ := Maps.keyOf_int_inv Tryz.underlying3 hkey; exact ⟨x, rfl⟩) (fun v y _ => ⟨v, rfl⟩) bi rB N _ _ _ rfl hrg ?_ ?_)
          · intro _ hl0
            have hmem : ∀ x, 0 < cy x → x ∈ done := fun x h => HL.out.done hl0 x (cntM_isSome.2 h)
            have hlen2 := done_len HN.out.1 HN.out.2 HCP.out
            have heq : addD (sumC D (ws.take k)) cy done = sumC D (ws.take (k + 1)) := by
              funext id
              rw [HSU.out id]
              unfold addD
              by_cases hm : id ∈ done
              · rw [if_pos hm]
              · rw [if_neg hm]
                cases hc : cy id with
                | zero => rfl
                | succ n => exact absurd (hmem id (by omega)) hm
            have HM5 : Hid (IM bc (256 * (k + 1)) (cntM (sumC D (ws.take (k + 1)))) wr) := Lib.hid (by rw [← heq]; exact HMq.out.mono (by omega))
            clear heq hmem
            go_wp2
            go_roundw
            case rel => exact ⟨k + 1, by go_num, by omega, HM5, HBq⟩
            case measure => simp [intOf]; omega
          · intro z cv kl y1 y2 w2 cnt2 hkey hlk hry hat hrg2 hlt hg2 hs2 hen
            obtain ⟨z', ez, rfl, hwz⟩ := Maps.keyOf_int_inv Tryz.underlying3 hkey
            cases ez
            cases hry
            obtain ⟨hcx, hnm⟩ := HL.out.value HF.out hlk hat
            obtain ⟨hc0, rfl⟩ := cntM_some hcx
            have hz := HCP.out z hc0
            have hbr : rB ≠ bi := hrg.ne
            have hMw2 : IM bc (256 * k + done.length) (cntM (addD (sumC D (ws.take k)) cy done)) w2 := HMq.out.kept (hg2.block _ HMq.out.lt (by simp; omega))
            have HB2w : Hid (Below w.heap.size w w2) := Lib.hid (HBq.out.grown hg2 HBq.out.size (fun j hj => by cases hj; omega))
            have hdl := done_len HN.out.1 HN.out.2 HCP.out
            have hold : addD (sumC D (ws.take k)) cy done z = sumC D (ws.take k) z := by unfold addD; rw [if_neg hnm]; rfl
            have hget2 := hMw2.get intKeys (t := 81) Tryz.underlying81 (Tryz.zeroValue3 w2) (intKey (i := z) (by omega) (by omega))
            obtain ⟨w5, hput, hM5, hg5⟩ := hMw2.put int_inj (by unfold maxLen; omega) intKeys (t := 81) Tryz.underlying81 (intKey (i := z) (by omega) (by omega)) (.int .i64 ((sumC D (ws.take k) z : Int) + (cy z : Int)))
            have hpd := addD_put (base := sumC D (ws.take k)) hnm hc0
            rw [hpd] at hM5
            rw [cntM_getD, hold] at hget2
            have hrg5 := hrg2.kept hg5 (by simp; omega) (by simp; omega)
            have HB5 : Hid (Below w.heap.size w w5) := Lib.hid (HB2w.out.grown hg5 HB2w.out.size (fun j hj => by cases hj; exact hs1))
            have HM5 : Hid (IM bc (256 * k + (done ++ [z]).length) (cntM (addD (sumC D (ws.take k)) cy (done ++ [z]))) w5) := Lib.hid (by
              rw [List.length_append]; exact hM5)
            have HL5 : Hid (Left (Lit.int .i64) (cntM cy) (fun q => left q && !q.sameKey (.int .i64 z)) (done ++ [z])) := Lib.hid (HL.out.next int_same z)
            have HN5 : Hid ((done ++ [z]).Nodup ∧ ∀ y ∈ done ++ [z], 0 < cy y) := Lib.hid ⟨by
                rw [List.nodup_append]; exact ⟨HN.out.1, by simp, fun a ha b hb e => by simp at hb; subst hb; exact hnm (e ▸ ha)⟩, fun y hy => by
                rcases List.mem_append.1 hy with h | h
                · exact HN.out.2 y h
                · simp at h; subst h; exact hc0⟩
            have HRE := Lib.hid hrg5.left_eq; have HRL := Lib.hid hrg.left_eq
            have hm1 := HSL.out z
            have hm2 := HCY.out z
            obtain ⟨m1, hm1e⟩ : ∃ m : Int, ((sumC D (ws.take k) z : Nat) : Int) = m := ⟨_, rfl⟩
            obtain ⟨m2, hm2e⟩ : ∃ m : Int, ((cy z : Nat) : Int) = m := ⟨_, rfl⟩
            have hb1 : 0 ≤ m1 ∧ m1 ≤ 256000000 := by
              have : (ws.take k).length ≤ 256000 := by rw [List.length_take]; omega
              omega
            have hb2 : 0 ≤ m2 ∧ m2 ≤ 1000 := by omega
            rw [hm1e] at hget2
            rw [hm1e, hm2e] at hput
            have HE2 := Lib.hid hm2e
            rw [hm2e] at hen ⊢
            clear hM5 hg5 hg2 hs2 hold hpd hMw2 hm1e hm2e hm1 hm2 hrg2 hrg
            go_wp2
            go_roundw
            case rel => exact ⟨_, _, _, hrg5, HL5, HN5, HM5, HB5⟩
            case measure => rw [HRE.out, HRL.out]; exact hlt
      · obtain rfl : k = ws.length := by omega
        have hcon := fun W hM => hits_any bc (256 * ws.length) (sumC D ws) W hM (by omega) (fun id h => by rw [HSE.out] at h; exact docsF_pos HIA.out HII.out h) (fun id => by rw [HSE.out]; have := docsF_le HIA.out HSM.out (f := fun l => l.countP x.isPrefixOf) (fun l => List.countP_le_length) id; omega)
        rw [HR.out] at hcon
        have HM9 := HM.out
        rw [List.take_length] at HM9
        go_wp2_with (go_at_call 64; refine (hcon _ HM9).mono ?_; rintro e w9 ⟨v9, rfl, hr, hb9⟩)
        go_ret
        exact ⟨_, rfl, HitsR.mono hr HB.out.size, bthen HB.out hb9⟩
end Go.Proofs.YtogjgibaolppfaaGreatDoor

/- The reference's partner: Items, keep. -/
import Derived.Test.YtnhpnipfledihaaDoorParD
namespace Go.Proofs.YtnhpnipfledihaaDoor
open Go.RowKit

theorem asc_len : ∀ (L : List Ent) (a b : Int), L.Pairwise (fun x y => x.story < y.story) → (∀ e ∈ L, a ≤ e.story ∧ e.story ≤ b) → a ≤ b + 1 → (L.length : Int) ≤ b - a + 1
  | [], a, b, _, _, h => by simp; omega
  | e :: l, a, b, hp, hr, h => by
    have hp' := List.pairwise_cons.1 hp
    have he := hr e (by simp)
    have := asc_len l (e.story + 1) b hp'.2 (fun x hx => ⟨by have := hp'.1 x hx; omega, (hr x (by simp [hx])).2⟩) (by omega)
    rw [List.length_cons]; omega
theorem Kept.len {L : List Ent} (h : Kept L) : L.length ≤ 64 := by
  have := asc_len L 1 64 h.asc h.lo (by omega); omega

theorem infoEnt : (Tryd.prog.info? 59).map (fun i => (i.zero, i.size, i.bytes)) = some (some (.agg #[.int .i64 0, .int .i64 0, .bool false, .string ⟨#[]⟩]), 4, 40) := by kernel_rfl

theorem itemsL_take {L : List Ent} {k : Nat} (h : k < L.length) : itemsL (L.take (k + 1)) = itemsL (L.take k) ++ (if L[k].has then [(L[k].story, L[k].text)] else []) := by
  unfold itemsL
  rw [List.take_succ_eq_append_getElem h, List.filterMap_append]
  congr 1
  cases hh : L[k].has <;> simp [hh]
theorem itemsL_len (L : List Ent) : (itemsL L).length ≤ L.length := by
  unfold itemsL; exact List.length_filterMap_le _ _

set_option maxRecDepth 100000 in
set_option maxHeartbeats 2000000 in
theorem ritems_any (r : Nat) (id : Int) (L : List Ent) (v : Value) (w : World) (hR : RAt r id L v w) :
    Calls Tryd.prog 22 #[.pointer (some ⟨r, 0, none⟩)] w (ItemsEnd w (itemsL L)) := by
  obtain ⟨i0, hi, hz0, hz1, hz2⟩ := info_parts infoItem
  have hL := hR.kept.len
  have hs := hR.slice
  have r1 : w.cell? ⟨r, 1, none⟩ = some v := by rw [Lib.cell_of_heap hR.cells]; rfl
  have hrl := hR.lt
  clear hR
  obtain ⟨A, cap, rfl, hlc, hcm, hce⟩ := hs
  unfold maxLen at hcm
  have HC := Lib.hid hce
  clear hce
  have R1 := Lib.hid r1
  clear r1
  go_enter Tryd.func22, Tryd.ntmps22
  go_wp2
  go_loopw [3, 4] (fun v i wr => ∃ k : Nat, i = .int .i64 k ∧ k ≤ L.length ∧ wr.ownsRow w.heap.size 67 2 v (itemsL (L.take k)).length ((itemsL (L.take k)).flatMap itemCells) ∧ Hid (Below w.heap.size w wr)) (fun _ i _ => L.length - (intOf i).toNat)
  case atStart => exact ⟨0, rfl, by omega, World.ownsRow_nil _ _ _ _, Lib.hid (Below.refl _ _)⟩
  case round =>
    obtain ⟨k, rfl, hk, hown, HB⟩ := hrel
    have r1 : wr.cell? ⟨r, 1, none⟩ = some (.slice A L.length cap) := (HB.out.cell (p := ⟨r, 1, none⟩) hrl).trans R1.out
    have hbs := HB.out.size
    by_cases hlt : k < L.length
    · obtain ⟨g, rfl, e0, e1, e2, e3⟩ := HC.out k hlt
      have hgl : g < w.heap.size := World.block_lt_of_cell? w _ e0
      have f0 := (HB.out.cell (p := ⟨g, k * 4, none⟩) hgl).trans e0
      have f2 := (HB.out.cell (p := ⟨g, k * 4 + 2, none⟩) hgl).trans e2
      have f3 := (HB.out.cell (p := ⟨g, k * 4 + 3, none⟩) hgl).trans e3
      have hsu := itemsL_take hlt
      have hln := itemsL_len (L.take k)
      rw [List.length_take, Nat.min_eq_left hk] at hln
      have k0 : (0 : Int) ≤ (k : Int) := by omega
      have k1 : (k : Int) < (L.length : Int) := by omega
      clear e0 e1 e2 e3
      cases hh : L[k].has with
      | false =>
        rw [hh] at f2 hsu
        have HSU : Hid (itemsL (L.take (k + 1)) = itemsL (L.take k)) := Lib.hid (by rw [hsu]; simp)
        clear hsu hh
        go_wp2
        go_roundw
        case rel => exact ⟨k + 1, by go_num, by omega, by rw [HSU.out]; exact hown, HB⟩
        case measure => simp [intOf]; omega
      | true =>
        rw [hh] at f2 hsu
        have HSU : Hid (itemsL (L.take (k + 1)) = itemsL (L.take k) ++ [(L[k].story, L[k].text)]) := Lib.hid (by rw [hsu]; simp)
        clear hsu hh
        generalize L[k] = en at *
        generalize itemsL (L.take k) = its at *
        have ar : u3.ownBlock ≠ some r := fun e => by have := (hown.lt _ e).1; omega
        have ag : u3.ownBlock ≠ some g := fun e => by have := (hown.lt _ e).1; omega
        go_wp2_with fail
        go_region_held3 (fun w' => w'.cell? ⟨r, 1, none⟩ = some (.slice (some ⟨g, 0, none⟩) L.length cap) ∧ w'.cell? ⟨g, k * 4, none⟩ = some (.int .i64 en.story) ∧ w'.cell? ⟨g, k * 4 + 3, none⟩ = some (.string ⟨en.text.toArray⟩))
          (first
            | go_keep
            | (refine ⟨?_, ?_, ?_⟩
               · (rw [hgrow.cell_far _ (by simp; omega) (Ne.symm ar)]; simp [*])
               · (rw [hgrow.cell_far _ (by simp; omega) (Ne.symm ag)]; simp [*])
               · (rw [hgrow.cell_far _ (by simp; omega) (Ne.symm ag)]; simp [*])))
          ((refine step_append_lies _ (by rfl) _ _ _ (by rfl) w.heap.size 67 i0 _ 2 24 Tryd.underlying40 hi hz0 hz1 hz2 rfl (by omega) u3 its.length (its.flatMap itemCells) (by rfl) ((hown.alloc _).drew)
              ⟨wr.heap.size, 0, none⟩ 1 1 [.int .i64 en.story, .string ⟨en.text.toArray⟩] (by rfl) (by rfl) (World.news_of_block (cs := #[.int .i64 en.story, .string ⟨en.text.toArray⟩]) (t := 67) (fr := (0, 0)) (heap_alloc_new wr _)) (by simp [Value.oneCell'])
              (by omega) (by unfold maxLen; omega) (by omega) (by simp; omega) (wr.heap.size + 1) (by simp) ?_; intro gg cap' w1 hown1 hgrow hat hlt'))
        have HO : Hid (w1.ownsRow w.heap.size 67 2 (.slice (some ⟨gg, 0, none⟩) (its.length + 1) cap') (itemsL (L.take (k + 1))).length ((itemsL (L.take (k + 1))).flatMap itemCells)) := Lib.hid (by rw [HSU.out]; simpa [itemCells] using hown1)
        have HB1 : Hid (Below w.heap.size w w1) := Lib.hid (((HB.out.alloc hbs _).drew).grown hgrow (by simp; omega) (fun j e => (hown.lt j e).1))
        clear hown1 hgrow hat hlt'
        go_wp2
        go_roundw
        case rel => exact ⟨k + 1, by go_num, by omega, HO.out, HB1⟩
        case measure => simp [intOf]; omega
    · obtain rfl : k = L.length := by omega
      rw [List.take_length] at hown
      go_wp2
      go_ret
      exact ⟨_, rfl, hown, HB.out⟩

theorem row_slice {w : World} {base size n : Nat} {e : TypeId} {v : Value} {xs : List Value} (h : w.ownsRow base e size v n xs) : ∃ ao nn cc, v = .slice ao nn cc := by
  rcases h.2 with ⟨h1, _⟩ | ⟨g, cap, cur, h1, _⟩
  · exact ⟨_, _, _, h1⟩
  · exact ⟨_, _, _, h1⟩

/-- what keep leaves -/
def KeepEnd (r : Nat) (id : Int) (w : World) (L : List Ent) (e : Ending) (w' : World) : Prop := e = .returned (.tuple #[]) ∧ (∃ v, RAt r id L v w') ∧ ButAt w.heap.size r w w'

theorem keepGo_len (x : Ent) : ∀ (L : List Ent) (d : Bool), (keepGo x d L).length ≤ L.length + 1
  | [], d => by cases d <;> simp [keepGo]
  | e :: l, true => by
    have := keepGo_done_len x l
    simp only [keepGo, Bool.true_or, List.length_append]
    split <;> split <;> simp <;> omega
  | e :: l, false => by
    have h1 := keepGo_done_len x l
    have h2 := keepGo_len x l false
    by_cases h0 : x.story ≤ e.story
    · by_cases he : e.story = x.story <;> simp [keepGo, h0, he] <;> omega
    · have he : ¬ e.story = x.story := by omega
      simp [keepGo, h0, he]; omega
where
  keepGo_done_len (x : Ent) : ∀ (L : List Ent), (keepGo x true L).length ≤ L.length
    | [] => by simp [keepGo]
    | e :: l => by
      have := keepGo_done_len x l
      by_cases he : e.story = x.story <;> simp [keepGo, he] <;> omega

theorem keep_step {x : Ent} {L acc : List Ent} {d : Bool} {k : Nat} (h : k < L.length) (hk : keepGo x false L = acc ++ keepGo x d (L.drop k)) :
    keepGo x false L = acc ++ (if d = false ∧ x.story ≤ L[k].story then [x] else []) ++ (if L[k].story = x.story then [] else [L[k]]) ++ keepGo x (d || decide (x.story ≤ L[k].story)) (L.drop (k + 1)) := by
  rw [hk, List.drop_eq_getElem_cons h, keepGo]
  simp only [List.append_assoc]

set_option maxRecDepth 100000 in
set_option maxHeartbeats 4000000 in
theorem keep_any (r : Nat) (id : Int) (L : List Ent) (v : Value) (x : Ent) (w : World) (h1 : 1 ≤ x.story ∧ x.story ≤ 64) (h2 : 1 ≤ x.seq ∧ x.seq ≤ 4611686018427387903) (h3 : x.has = false → x.text = []) (h4 : x.text.length ≤ 8192) (hR : RAt r id L v w) :
    Calls Tryd.prog 36 #[.pointer (some ⟨r, 0, none⟩), x.enc] w (KeepEnd r id w (keepGo x false L)) := by
  obtain ⟨i0, hi, hz0, hz1, hz2⟩ := info_parts infoEnt
  have hL := hR.kept.len
  have hs := hR.slice
  have hrl := hR.lt
  have HKP := Lib.hid (hR.kept.keep (x := x) h1 h2 h3 h4)
  have HR := Lib.hid hR
  clear hR h1 h2 h3 h4
  obtain ⟨A, cap, rfl, hlc, hcm, hce⟩ := hs
  unfold maxLen at hcm
  obtain ⟨w1, hw1⟩ : ∃ w1, w.alloc (.cells #[.int .i64 x.story, .int .i64 x.seq, .bool x.has, .string ⟨x.text.toArray⟩] 59) = w1 := ⟨_, rfl⟩
  have hx : w1.heap[w.heap.size]? = some (.cells #[.int .i64 x.story, .int .i64 x.seq, .bool x.has, .string ⟨x.text.toArray⟩] 59 (0, 0)) := by rw [← hw1]; exact heap_alloc_new _ _
  have hz : w1.heap.size = w.heap.size + 1 := by rw [← hw1]; simp
  have hb : Below w.heap.size w w1 := by rw [← hw1]; exact (Below.refl _ w).alloc (Nat.le_refl _) _
  have HX := Lib.hid hx
  have HZ := Lib.hid hz
  have HB0 := Lib.hid hb
  have HC : Hid (∀ k (hk : k < L.length), ∃ g, A = some ⟨g, 0, none⟩ ∧ g < w.heap.size ∧ ECells g k L[k] w1) := Lib.hid (fun k hk => by
    obtain ⟨g, hg, e0, e1, e2, e3⟩ := hce k hk
    have hgl : g < w.heap.size := World.block_lt_of_cell? w _ e0
    exact ⟨g, hg, hgl, (hb.cell (p := ⟨g, _, none⟩) hgl).trans e0, (hb.cell (p := ⟨g, _, none⟩) hgl).trans e1, (hb.cell (p := ⟨g, _, none⟩) hgl).trans e2, (hb.cell (p := ⟨g, _, none⟩) hgl).trans e3⟩)
  have HR1 := Lib.hid (HR.out.below hb)
  have hw1l : w.heap.size < w1.heap.size := by omega
  clear hx hz hb hce
  go_enter Tryd.func36, Tryd.ntmps36
  unfold Ent.enc
  go_wp2
  clear hw1
  go_loopw [4, 5, 6] (fun v d i wr => ∃ (k : Nat) (dn : Bool) (acc : List Ent), i = .int .i64 k ∧ d = .bool dn ∧ k ≤ L.length ∧ acc.length ≤ k + dn.toNat ∧ wr.ownsRow w1.heap.size 59 4 v acc.length (acc.flatMap Ent.cells) ∧ Hid (keepGo x false L = acc ++ keepGo x dn (L.drop k)) ∧ Hid (Below w1.heap.size w1 wr)) (fun _ _ i _ => L.length - (intOf i).toNat)
  case atStart => exact ⟨0, false, [], rfl, rfl, by omega, by simp, World.ownsRow_nil _ _ _ _, Lib.hid rfl, Lib.hid (Below.refl _ _)⟩
  case round =>
    obtain ⟨k, dn, acc, rfl, rfl, hk, hacc, hown, HK, HB⟩ := hrel
    have HOr := Lib.hid hown
    clear hown
    by_cases hlt : k < L.length
    · obtain ⟨g, rfl, hgl, e0, e1, e2, e3⟩ := HC.out k hlt
      have k0 : (0 : Int) ≤ (k : Int) := by omega
      have k1 : (k : Int) < (L.length : Int) := by omega
      have hks := keep_step hlt HK.out
      generalize L[k] = en at *
      have HF : ∀ wy, Below w1.heap.size w1 wy → Hid (wy.cell? ⟨r, 1, none⟩ = some (.slice (some ⟨g, 0, none⟩) L.length cap) ∧ wy.cell? ⟨g, k * 4, none⟩ = some (.int .i64 en.story) ∧ wy.cell? ⟨g, k * 4 + 1, none⟩ = some (.int .i64 en.seq) ∧ wy.cell? ⟨g, k * 4 + 2, none⟩ = some (.bool en.has) ∧ wy.cell? ⟨g, k * 4 + 3, none⟩ = some (.string ⟨en.text.toArray⟩) ∧
          wy.cell? ⟨w.heap.size, 0, none⟩ = some (.int .i64 x.story) ∧ wy.cell? ⟨w.heap.size, 1, none⟩ = some (.int .i64 x.seq) ∧ wy.cell? ⟨w.heap.size, 2, none⟩ = some (.bool x.has) ∧ wy.cell? ⟨w.heap.size, 3, none⟩ = some (.string ⟨x.text.toArray⟩)) := fun wy hby => Lib.hid (by
        have hcs := (HR1.out.below hby).cells
        have hxs : wy.heap[w.heap.size]? = _ := (hby.block _ hw1l).trans HX.out
        refine ⟨by rw [Lib.cell_of_heap hcs]; rfl, (hby.cell (p := ⟨g, _, none⟩) (by simp; omega)).trans e0, (hby.cell (p := ⟨g, _, none⟩) (by simp; omega)).trans e1, (hby.cell (p := ⟨g, _, none⟩) (by simp; omega)).trans e2, (hby.cell (p := ⟨g, _, none⟩) (by simp; omega)).trans e3, ?_, ?_, ?_, ?_⟩ <;> (rw [Lib.cell_of_heap hxs]; rfl))
      clear e0 e1 e2 e3
      obtain ⟨r1, f0, f1, f2, f3, x0, x1, x2, x3⟩ := (HF _ HB.out).out
      cases dn with
      | true =>
        have hacc1 : acc.length ≤ k + 1 := hacc
        clear hacc
        have HKa : Hid (keepGo x false L = acc ++ (if en.story = x.story then [] else [en]) ++ keepGo x true (L.drop (k + 1))) := Lib.hid (by rw [hks]; simp)
        clear hks
        go_wp2_with fail
        go_quiet (fail)
        obtain ⟨wa, hwa⟩ : ∃ wa, wr.drewN nq = wa := ⟨_, rfl⟩
        have HOa : Hid (wa.ownsRow w1.heap.size 59 4 _ acc.length (acc.flatMap Ent.cells)) := Lib.hid (by rw [← hwa]; exact HOr.out)
        have HBa : Hid (Below w1.heap.size w1 wa) := Lib.hid (by rw [← hwa]; exact HB.out.drewN _)
        rw [hwa]
        clear hwa r1 f0 f1 f2 f3 x0 x1 x2 x3
        obtain ⟨r1, f0, f1, f2, f3, x0, x1, x2, x3⟩ := (HF _ HBa.out).out
        by_cases heq : en.story = x.story
        · have hne : ((en.story : Int) != x.story) = false := by rw [heq]; simp
          have HK2 : Hid (keepGo x false L = (acc) ++ keepGo x true (L.drop (k + 1))) := Lib.hid (by rw [HKa.out, if_pos heq]; simp)
          clear heq
          go_wp2_with fail
          go_quiet (fail)
          go_wp2
          go_roundw
          case rel => exact ⟨k + 1, true, acc, by go_num, rfl, by omega, by (try simp); omega, HOa.out, HK2, Lib.hid (HBa.out.drewN _)⟩
          case measure => simp [intOf]; omega
        · have hne : ((en.story : Int) != x.story) = true := by rw [bne_iff_ne]; exact heq
          have HK2 : Hid (keepGo x false L = (acc ++ [en]) ++ keepGo x true (L.drop (k + 1))) := Lib.hid (by rw [HKa.out, if_neg heq])
          clear heq
          go_wp2_with fail
          go_quiet (fail)
          obtain ⟨wz, hwz⟩ : ∃ wz, wa.drewN nq = wz := ⟨_, rfl⟩
          have HOz : Hid (wz.ownsRow w1.heap.size 59 4 _ (acc).length ((acc).flatMap Ent.cells)) := Lib.hid (by rw [← hwz]; exact HOa.out)
          have HBz : Hid (Below w1.heap.size w1 wz) := Lib.hid (by rw [← hwz]; exact HBa.out.drewN _)
          rw [hwz]
          clear hwz r1 f0 f1 f2 f3 x0 x1 x2 x3
          obtain ⟨r1, f0, f1, f2, f3, x0, x1, x2, x3⟩ := (HF _ HBz.out).out
          have hal : (acc).length ≤ k + 2 := by (try simp); omega
          go_wp2_with (at_builtin; refine wpList_append_own _ rfl _ _ 55 rfl w1.heap.size 59 i0 _ 4 40 Tryd.underlying55 hi hz0 hz1 hz2 rfl (by decide) _ _ _ rfl (HOz.out.alloc _) ⟨wz.heap.size, 0, none⟩ 1 1 (Ent.cells en) rfl rfl (World.news_of_block (cs := #[.int .i64 (Ent.story en), .int .i64 (Ent.seq en), .bool (Ent.has en), .string ⟨(Ent.text en).toArray⟩]) (t := 59) (fr := (0, 0)) (heap_alloc_new wz _)) (by simp [Value.oneCell', Ent.cells]) ?c3 ?c4 ?c5 ?_)
          case c3 => unfold maxLen; omega
          case c4 => omega
          case c5 => have := HBz.out.size; simp; omega
          intro v9 w9 hown' hgrow _
          have HO9 : Hid (w9.ownsRow w1.heap.size 59 4 v9 ((acc) ++ [en]).length (((acc) ++ [en]).flatMap Ent.cells)) := Lib.hid (by simpa [List.flatMap_append] using hown')
          have HB9 : Hid (Below w1.heap.size w1 w9) := Lib.hid ((HBz.out.alloc HBz.out.size _).grown hgrow (by have := HBz.out.size; simp; omega) (fun j e => (HOz.out.lt j e).1))
          clear hown' hgrow
          go_wp2
          go_roundw
          case rel => exact ⟨k + 1, true, acc ++ [en], by go_num, rfl, by omega, by (try simp); omega, HO9.out, HK2, HB9⟩
          case measure => simp [intOf]; omega
      | false =>
        have hacc1 : acc.length ≤ k := hacc
        clear hacc
        by_cases hge : x.story ≤ en.story
        · have HKa : Hid (keepGo x false L = (acc ++ [x]) ++ (if en.story = x.story then [] else [en]) ++ keepGo x true (L.drop (k + 1))) := Lib.hid (by rw [hks]; simp [hge])
          clear hks
          go_wp2_with fail
          go_quiet (fail)
          obtain ⟨wb, hwb⟩ : ∃ wb, wr.drewN nq = wb := ⟨_, rfl⟩
          have HOb : Hid (wb.ownsRow w1.heap.size 59 4 _ acc.length (acc.flatMap Ent.cells)) := Lib.hid (by rw [← hwb]; exact HOr.out)
          have HBb : Hid (Below w1.heap.size w1 wb) := Lib.hid (by rw [← hwb]; exact HB.out.drewN _)
          rw [hwb]
          clear hwb r1 f0 f1 f2 f3 x0 x1 x2 x3
          obtain ⟨r1, f0, f1, f2, f3, x0, x1, x2, x3⟩ := (HF _ HBb.out).out
          go_wp2_with (at_builtin; refine wpList_append_own _ rfl _ _ 55 rfl w1.heap.size 59 i0 _ 4 40 Tryd.underlying55 hi hz0 hz1 hz2 rfl (by decide) _ _ _ rfl (HOb.out.alloc _) ⟨wb.heap.size, 0, none⟩ 1 1 (Ent.cells x) rfl rfl (World.news_of_block (cs := #[.int .i64 (Ent.story x), .int .i64 (Ent.seq x), .bool (Ent.has x), .string ⟨(Ent.text x).toArray⟩]) (t := 59) (fr := (0, 0)) (heap_alloc_new wb _)) (by simp [Value.oneCell', Ent.cells]) ?c3 ?c4 ?c5 ?_)
          case c3 => unfold maxLen; omega
          case c4 => omega
          case c5 => have := HBb.out.size; simp; omega
          intro va wa hown' hgrow _
          have HOa : Hid (wa.ownsRow w1.heap.size 59 4 va (acc ++ [x]).length ((acc ++ [x]).flatMap Ent.cells)) := Lib.hid (by simpa [List.flatMap_append] using hown')
          have HBa : Hid (Below w1.heap.size w1 wa) := Lib.hid ((HBb.out.alloc HBb.out.size _).grown hgrow (by have := HBb.out.size; simp; omega) (fun j e => (HOb.out.lt j e).1))
          clear hown' hgrow
          clear r1 f0 f1 f2 f3 x0 x1 x2 x3
          obtain ⟨r1, f0, f1, f2, f3, x0, x1, x2, x3⟩ := (HF _ HBa.out).out
          by_cases heq : en.story = x.story
          · have hne : ((en.story : Int) != x.story) = false := by rw [heq]; simp
            have HK2 : Hid (keepGo x false L = (acc ++ [x]) ++ keepGo x true (L.drop (k + 1))) := Lib.hid (by rw [HKa.out, if_pos heq]; simp)
            clear heq
            go_wp2_with fail
            go_quiet (fail)
            go_wp2
            go_roundw
            case rel => exact ⟨k + 1, true, acc ++ [x], by go_num, rfl, by omega, by (try simp); omega, HOa.out, HK2, Lib.hid (HBa.out.drewN _)⟩
            case measure => simp [intOf]; omega
          · have hne : ((en.story : Int) != x.story) = true := by rw [bne_iff_ne]; exact heq
            have HK2 : Hid (keepGo x false L = (acc ++ [x] ++ [en]) ++ keepGo x true (L.drop (k + 1))) := Lib.hid (by rw [HKa.out, if_neg heq])
            clear heq
            go_wp2_with fail
            go_quiet (fail)
            obtain ⟨wz, hwz⟩ : ∃ wz, wa.drewN nq = wz := ⟨_, rfl⟩
            have HOz : Hid (wz.ownsRow w1.heap.size 59 4 _ (acc ++ [x]).length ((acc ++ [x]).flatMap Ent.cells)) := Lib.hid (by rw [← hwz]; exact HOa.out)
            have HBz : Hid (Below w1.heap.size w1 wz) := Lib.hid (by rw [← hwz]; exact HBa.out.drewN _)
            rw [hwz]
            clear hwz r1 f0 f1 f2 f3 x0 x1 x2 x3
            obtain ⟨r1, f0, f1, f2, f3, x0, x1, x2, x3⟩ := (HF _ HBz.out).out
            have hal : (acc ++ [x]).length ≤ k + 2 := by (try simp); omega
            go_wp2_with (at_builtin; refine wpList_append_own _ rfl _ _ 55 rfl w1.heap.size 59 i0 _ 4 40 Tryd.underlying55 hi hz0 hz1 hz2 rfl (by decide) _ _ _ rfl (HOz.out.alloc _) ⟨wz.heap.size, 0, none⟩ 1 1 (Ent.cells en) rfl rfl (World.news_of_block (cs := #[.int .i64 (Ent.story en), .int .i64 (Ent.seq en), .bool (Ent.has en), .string ⟨(Ent.text en).toArray⟩]) (t := 59) (fr := (0, 0)) (heap_alloc_new wz _)) (by simp [Value.oneCell', Ent.cells]) ?c3 ?c4 ?c5 ?_)
            case c3 => unfold maxLen; omega
            case c4 => omega
            case c5 => have := HBz.out.size; simp; omega
            intro v9 w9 hown' hgrow _
            have HO9 : Hid (w9.ownsRow w1.heap.size 59 4 v9 ((acc ++ [x]) ++ [en]).length (((acc ++ [x]) ++ [en]).flatMap Ent.cells)) := Lib.hid (by simpa [List.flatMap_append] using hown')
            have HB9 : Hid (Below w1.heap.size w1 w9) := Lib.hid ((HBz.out.alloc HBz.out.size _).grown hgrow (by have := HBz.out.size; simp; omega) (fun j e => (HOz.out.lt j e).1))
            clear hown' hgrow
            go_wp2
            go_roundw
            case rel => exact ⟨k + 1, true, acc ++ [x] ++ [en], by go_num, rfl, by omega, by (try simp); omega, HO9.out, HK2, HB9⟩
            case measure => simp [intOf]; omega
        · have hgl2 : en.story < x.story := by omega
          have HKa : Hid (keepGo x false L = acc ++ (if en.story = x.story then [] else [en]) ++ keepGo x false (L.drop (k + 1))) := Lib.hid (by rw [hks]; simp [hge])
          clear hks
          go_wp2_with fail
          go_quiet (fail)
          obtain ⟨wa, hwa⟩ : ∃ wa, wr.drewN nq = wa := ⟨_, rfl⟩
          have HOa : Hid (wa.ownsRow w1.heap.size 59 4 _ acc.length (acc.flatMap Ent.cells)) := Lib.hid (by rw [← hwa]; exact HOr.out)
          have HBa : Hid (Below w1.heap.size w1 wa) := Lib.hid (by rw [← hwa]; exact HB.out.drewN _)
          rw [hwa]
          clear hwa r1 f0 f1 f2 f3 x0 x1 x2 x3
          obtain ⟨r1, f0, f1, f2, f3, x0, x1, x2, x3⟩ := (HF _ HBa.out).out
          by_cases heq : en.story = x.story
          · have hne : ((en.story : Int) != x.story) = false := by rw [heq]; simp
            have HK2 : Hid (keepGo x false L = (acc) ++ keepGo x false (L.drop (k + 1))) := Lib.hid (by rw [HKa.out, if_pos heq]; simp)
            clear heq
            go_wp2_with fail
            go_quiet (fail)
            go_wp2
            go_roundw
            case rel => exact ⟨k + 1, false, acc, by go_num, rfl, by omega, by (try simp); omega, HOa.out, HK2, Lib.hid (HBa.out.drewN _)⟩
            case measure => simp [intOf]; omega
          · have hne : ((en.story : Int) != x.story) = true := by rw [bne_iff_ne]; exact heq
            have HK2 : Hid (keepGo x false L = (acc ++ [en]) ++ keepGo x false (L.drop (k + 1))) := Lib.hid (by rw [HKa.out, if_neg heq])
            clear heq
            go_wp2_with fail
            go_quiet (fail)
            obtain ⟨wz, hwz⟩ : ∃ wz, wa.drewN nq = wz := ⟨_, rfl⟩
            have HOz : Hid (wz.ownsRow w1.heap.size 59 4 _ (acc).length ((acc).flatMap Ent.cells)) := Lib.hid (by rw [← hwz]; exact HOa.out)
            have HBz : Hid (Below w1.heap.size w1 wz) := Lib.hid (by rw [← hwz]; exact HBa.out.drewN _)
            rw [hwz]
            clear hwz r1 f0 f1 f2 f3 x0 x1 x2 x3
            obtain ⟨r1, f0, f1, f2, f3, x0, x1, x2, x3⟩ := (HF _ HBz.out).out
            have hal : (acc).length ≤ k + 2 := by (try simp); omega
            go_wp2_with (at_builtin; refine wpList_append_own _ rfl _ _ 55 rfl w1.heap.size 59 i0 _ 4 40 Tryd.underlying55 hi hz0 hz1 hz2 rfl (by decide) _ _ _ rfl (HOz.out.alloc _) ⟨wz.heap.size, 0, none⟩ 1 1 (Ent.cells en) rfl rfl (World.news_of_block (cs := #[.int .i64 (Ent.story en), .int .i64 (Ent.seq en), .bool (Ent.has en), .string ⟨(Ent.text en).toArray⟩]) (t := 59) (fr := (0, 0)) (heap_alloc_new wz _)) (by simp [Value.oneCell', Ent.cells]) ?c3 ?c4 ?c5 ?_)
            case c3 => unfold maxLen; omega
            case c4 => omega
            case c5 => have := HBz.out.size; simp; omega
            intro v9 w9 hown' hgrow _
            have HO9 : Hid (w9.ownsRow w1.heap.size 59 4 v9 ((acc) ++ [en]).length (((acc) ++ [en]).flatMap Ent.cells)) := Lib.hid (by simpa [List.flatMap_append] using hown')
            have HB9 : Hid (Below w1.heap.size w1 w9) := Lib.hid ((HBz.out.alloc HBz.out.size _).grown hgrow (by have := HBz.out.size; simp; omega) (fun j e => (HOz.out.lt j e).1))
            clear hown' hgrow
            go_wp2
            go_roundw
            case rel => exact ⟨k + 1, false, acc ++ [en], by go_num, rfl, by omega, by (try simp); omega, HO9.out, HK2, HB9⟩
            case measure => simp [intOf]; omega
    · have r1 : wr.cell? ⟨r, 1, none⟩ = some (.slice A L.length cap) := by
        have := (HR1.out.below HB.out).cells
        rw [Lib.cell_of_heap this]; rfl
      have HE : Hid (keepGo x false L = acc ++ (if dn then [] else [x])) := Lib.hid (by rw [HK.out, List.drop_eq_nil_of_le (by omega)]; cases dn <;> rfl)
      clear HK
      have HEND : ∀ (wy : World) (vy : Value) (l : List Ent), Below w1.heap.size w1 wy → wy.ownsRow w1.heap.size 59 4 vy l.length (l.flatMap Ent.cells) → l = keepGo x false L → Hid (wy.frozen? ⟨r, 1, none⟩ = false ∧ KeepEnd r id w (keepGo x false L) (.returned (.tuple #[])) (wy.setCell ⟨r, 1, none⟩ vy)) := fun wy vy l hby ho hl => Lib.hid (by
        have hcs := (HR1.out.below hby).cells
        subst hl
        have hnr : vy.ownBlock ≠ some r := fun e => by have := (ho.lt _ e).1; omega
        have hbut : ButAt wy.heap.size r wy (wy.setCell ⟨r, 1, none⟩ vy) := ButAt.setCell _ _
        refine ⟨Lib.frozen_of_heap hcs 1, rfl, ⟨vy, ?_, ?_, HKP.out⟩, ?_⟩
        · simp [World.setCell, Array.getElem?_modify, hcs]
        · exact (ho.kept (row := some r) ⟨hbut.os, hbut.tape, hbut.output, hbut.size, fun k hk hkr => hbut.block k hk (fun e => hkr (by rw [e]))⟩ (.inr hnr)).mono_base (by omega)
        · exact ((ButAt.of_below (HB0.out.trans (hby.mono (by omega)))).trans (ButAt.setCell _ _)))
      cases dn with
      | true =>
        obtain ⟨ao, nn, cc, rfl⟩ := row_slice HOr.out
        obtain ⟨hfz, hend⟩ := (HEND wr _ acc HB.out HOr.out (by rw [HE.out]; simp)).out
        have HEN := Lib.hid hend
        clear hend
        go_wp2
        go_end0
        exact HEN.out
      | false =>
        have hacc1 : acc.length ≤ k := hacc
        have hxr : wr.heap[w.heap.size]? = _ := (HB.out.block _ hw1l).trans HX.out
        have x0 : wr.cell? ⟨w.heap.size, 0, none⟩ = some (.int .i64 x.story) := by rw [Lib.cell_of_heap hxr]; rfl
        have x1 : wr.cell? ⟨w.heap.size, 1, none⟩ = some (.int .i64 x.seq) := by rw [Lib.cell_of_heap hxr]; rfl
        have x2 : wr.cell? ⟨w.heap.size, 2, none⟩ = some (.bool x.has) := by rw [Lib.cell_of_heap hxr]; rfl
        have x3 : wr.cell? ⟨w.heap.size, 3, none⟩ = some (.string ⟨x.text.toArray⟩) := by rw [Lib.cell_of_heap hxr]; rfl
        clear hxr hacc
        go_wp2_with (at_builtin; refine wpList_append_own _ rfl _ _ 55 rfl w1.heap.size 59 i0 _ 4 40 Tryd.underlying55 hi hz0 hz1 hz2 rfl (by decide) _ _ _ rfl (HOr.out.alloc _) ⟨wr.heap.size, 0, none⟩ 1 1 (Ent.cells x) rfl rfl (World.news_of_block (cs := #[.int .i64 (Ent.story x), .int .i64 (Ent.seq x), .bool (Ent.has x), .string ⟨(Ent.text x).toArray⟩]) (t := 59) (fr := (0, 0)) (heap_alloc_new wr _)) (by simp [Value.oneCell', Ent.cells]) ?c3 ?c4 ?c5 ?_)
        case c3 => unfold maxLen; omega
        case c4 => omega
        case c5 => have := HB.out.size; simp; omega
        intro va wa hown' hgrow _
        have HOa : Hid (wa.ownsRow w1.heap.size 59 4 va (acc ++ [x]).length ((acc ++ [x]).flatMap Ent.cells)) := Lib.hid (by simpa [List.flatMap_append] using hown')
        have HBa : Hid (Below w1.heap.size w1 wa) := Lib.hid ((HB.out.alloc HB.out.size _).grown hgrow (by have := HB.out.size; simp; omega) (fun j e => (HOr.out.lt j e).1))
        clear hown' hgrow
        obtain ⟨ao, nn, cc, rfl⟩ := row_slice HOa.out
        obtain ⟨hfz, hend⟩ := (HEND wa _ (acc ++ [x]) HBa.out HOa.out (by rw [HE.out]; simp)).out
        have HEN := Lib.hid hend
        have r2 : wa.cell? ⟨r, 1, none⟩ = some (.slice A L.length cap) := by
          have := (HR1.out.below HBa.out).cells
          rw [Lib.cell_of_heap this]; rfl
        clear hend r1 x0 x1 x2 x3
        go_wp2
        go_end0
        exact HEN.out
end Go.Proofs.YtnhpnipfledihaaDoor

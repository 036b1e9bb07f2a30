/- The program's partner: New, Text, Items. -/
import Derived.Test.YtnhpnipfledihaaDoorParB0
import Derived.OwnWalk
import Derived.Deep.AppendLies
namespace Go.Proofs.YtnhpnipfledihaaDoor
open Go.RowKit

theorem new_out (id : Int) (w : World) (h : id < 1 ∨ 8 < id) :
    Calls Tryd.prog 14 #[.int .i64 id] w fun e w' => e = .returned (.tuple #[.pointer none, .int .i64 220]) ∧ w = w' := by
  rcases h with h | h
  · go_enter Tryd.func14, Tryd.ntmps14
    go_wp2
    go_ret2
    exact ⟨rfl, rfl⟩
  · have h' : ¬ id < 1 := by omega
    go_enter Tryd.func14, Tryd.ntmps14
    go_wp2
    go_ret2
    exact ⟨rfl, rfl⟩

theorem pat_new (id : Int) (w : World) : PAt (w.heap.size + 2) w.heap.size (w.heap.size + 1) id [] 0 (((w.alloc (.map #[] 0)).alloc (.map #[] 0)).alloc (.cells #[.int .i64 id, .map (some w.heap.size), .map (some (w.heap.size + 1))] 71)) := by
  have h1 : (((w.alloc (.map #[] 0)).alloc (.map #[] 0)).alloc (.cells #[.int .i64 id, .map (some w.heap.size), .map (some (w.heap.size + 1))] 71)).heap[w.heap.size + 2]? = some (.cells #[.int .i64 id, .map (some w.heap.size), .map (some (w.heap.size + 1))] 71 (0, 0)) := by
    have := heap_alloc_new ((w.alloc (.map #[] 0)).alloc (.map #[] 0)) (.cells #[.int .i64 id, .map (some w.heap.size), .map (some (w.heap.size + 1))] 71)
    simpa using this
  refine ⟨h1, ⟨0, Nat.le_refl _, (imap_new w).kept ?_⟩, ⟨0, Nat.le_refl _, ?_⟩, by omega, kept_nil⟩
  · rw [Lib.alloc_old _ _ _ (by simp; omega), Lib.alloc_old _ _ _ (by simp)]
  · have h2 := smap_new (w.alloc (.map #[] 0))
    rw [World.size_alloc] at h2
    exact h2.kept (by rw [Lib.alloc_old _ _ _ (by simp)])

theorem new_in (id : Int) (w : World) (h1 : 1 ≤ id) (h2 : id ≤ 8) :
    Calls Tryd.prog 14 #[.int .i64 id] w fun e w' => e = .returned (.tuple #[.pointer (some ⟨w.heap.size + 2, 0, none⟩), .int .i64 0]) ∧ PAt (w.heap.size + 2) w.heap.size (w.heap.size + 1) id [] 0 w' ∧ Below w.heap.size w w' := by
  have HP := Lib.hid (pat_new id w)
  have hmm := @run_makeMap Tryd.prog
  have HB : Hid (∀ x y z, Below w.heap.size w (((w.alloc x).alloc y).alloc z)) := Lib.hid (fun x y z => (((Below.refl _ w).alloc (Nat.le_refl _) x).alloc (by simp) y).alloc (by simp; omega) z)
  go_enter Tryd.func14, Tryd.ntmps14
  go_wp2
  go_ret2
  exact ⟨rfl, HP.out, HB.out _ _ _⟩

theorem text_nil (s : Int) (w : World) :
    Calls Tryd.prog 23 #[.pointer none, .int .i64 s] w fun e w' => e = .returned (.tuple #[.string ⟨#[]⟩, .bool false]) ∧ w = w' := by
  go_enter Tryd.func23, Tryd.ntmps23
  go_wp2
  go_ret2
  exact ⟨rfl, rfl⟩

theorem text_any (p b1 b2 : Nat) (id : Int) (L : List Ent) (N : Nat) (s : Int) (w : World) (h1 : -9223372036854775808 ≤ s) (h2 : s ≤ 9223372036854775807) (hP : PAt p b1 b2 id L N w) :
    Calls Tryd.prog 23 #[.pointer (some ⟨p, 0, none⟩), .int .i64 s] w fun e w' => e = .returned (.tuple #[.string ⟨((copyF L s).getD []).toArray⟩, .bool (copyF L s).isSome]) ∧ w = w' := by
  obtain ⟨_, p1, p2⟩ := hP.half.pcells
  obtain ⟨n, hn, hC⟩ := hP.copies
  have hl := hC.get_ok h1 h2
  clear hP hC h1 h2
  generalize (copyF L s).getD [] = x at *
  generalize (copyF L s).isSome = b at *
  go_enter Tryd.func23, Tryd.ntmps23
  go_wp2
  go_ret2
  exact ⟨rfl, rfl⟩

def itemCells (x : Int × List UInt8) : List Value := [.int .i64 x.1, .string ⟨x.2.toArray⟩]
/-- v is a slice of the items its, in new memory from block n on -/
def ItemsAt (n : Nat) (v : Value) (its : List (Int × List UInt8)) (w : World) : Prop := w.ownsRow n 67 2 v its.length (its.flatMap itemCells)

theorem infoItem : (Tryd.prog.info? 67).map (fun i => (i.zero, i.size, i.bytes)) = some (some (.agg #[.int .i64 0, .string ⟨#[]⟩]), 2, 24) := by kernel_rfl

theorem itemsF_len (g : Int → Option (List UInt8)) (n : Nat) : (itemsF g n).length ≤ n := by
  unfold itemsF
  have := List.length_filterMap_le (fun (i : Nat) => (g ((i : Int) + 1)).map fun t => ((i : Int) + 1, t)) (List.range n)
  simpa using this

theorem items_nil (w : World) :
    Calls Tryd.prog 21 #[.pointer none] w fun e w' => e = .returned (.slice none 0 0) ∧ w = w' := by
  go_enter Tryd.func21, Tryd.ntmps21
  go_wp2
  go_ret
  exact ⟨rfl, rfl⟩

def ItemsEnd (w : World) (its : List (Int × List UInt8)) (e : Ending) (w' : World) : Prop := ∃ v, e = .returned v ∧ ItemsAt w.heap.size v its w' ∧ Below w.heap.size w w'

set_option maxRecDepth 100000 in
set_option maxHeartbeats 2000000 in
theorem items_any (p b1 b2 : Nat) (id : Int) (L : List Ent) (N : Nat) (w : World) (hP : PAt p b1 b2 id L N w) :
    Calls Tryd.prog 21 #[.pointer (some ⟨p, 0, none⟩)] w (ItemsEnd w (itemsL L)) := by
  obtain ⟨i0, hi, hz0, hz1, hz2⟩ := info_parts infoItem
  rw [← hP.kept.items]
  have HP := Lib.hid hP; clear hP
  go_enter Tryd.func21, Tryd.ntmps21
  go_wp2
  go_loopw [3, 9] (fun v i wr => ∃ k : Nat, i = .int .i64 k ∧ k ≤ 64 ∧ wr.ownsRow w.heap.size 67 2 v (itemsF (copyF L) k).length ((itemsF (copyF L) k).flatMap itemCells) ∧ Hid (Below w.heap.size w wr)) (fun _ i _ => 64 - (intOf i).toNat)
  case atStart => exact ⟨0, rfl, by omega, World.ownsRow_nil _ _ _ _, Lib.hid (Below.refl _ _)⟩
  case round =>
    obtain ⟨k, rfl, hk, hown, HB⟩ := hrel
    have hln := itemsF_len (copyF L) k
    by_cases hlt : k < 64
    · have HPr := Lib.hid (HP.out.below HB.out)
      obtain ⟨_, p1, p2⟩ := HPr.out.half.pcells
      obtain ⟨n, hn, hC⟩ := HPr.out.copies
      have hl := hC.get_ok (i := (k : Int) + 1) (by omega) (by omega)
      have hsu := itemsF_succ (copyF L) k
      clear hC
      cases hc : copyF L ((k : Int) + 1) with
      | none =>
        rw [hc] at hl hsu
        have HSU : Hid (itemsF (copyF L) (k + 1) = itemsF (copyF L) k) := Lib.hid (by rw [hsu]; simp)
        clear hsu hc
        simp only [Option.getD_none, Option.isSome_none] at hl
        go_wp2
        go_roundw
        case rel => exact ⟨k + 1, by go_num, by omega, by rw [HSU.out]; exact hown, HB⟩
        case measure => simp [intOf]; omega
      | some t =>
        rw [hc] at hl hsu
        have HSU : Hid (itemsF (copyF L) (k + 1) = itemsF (copyF L) k ++ [((k : Int) + 1, t)]) := Lib.hid hsu
        clear hsu hc
        simp only [Option.getD_some, Option.isSome_some] at hl
        have hbs := HB.out.size
        go_wp2_with (at_builtin; refine wpList_append_own _ rfl _ _ 40 rfl w.heap.size 67 i0 _ 2 24 Tryd.underlying40 hi hz0 hz1 hz2 rfl (by decide) _ _ _ rfl (hown.alloc _) ⟨wr.heap.size, 0, none⟩ 1 1 [.int .i64 ((k : Int) + 1), .string ⟨t.toArray⟩] rfl rfl (World.news_of_block (cs := #[.int .i64 ((k : Int) + 1), .string ⟨t.toArray⟩]) (t := 67) (fr := (0, 0)) (heap_alloc_new wr _)) (by simp [Value.oneCell']) ?c3 ?c4 ?c5 ?_)
        case c3 => unfold maxLen; omega
        case c4 => omega
        case c5 => simp; omega
        intro v' w1 hown' hgrow _
        have HO : Hid (w1.ownsRow w.heap.size 67 2 v' (itemsF (copyF L) (k + 1)).length ((itemsF (copyF L) (k + 1)).flatMap itemCells)) := Lib.hid (by rw [HSU.out]; simpa [itemCells] using hown')
        have HB1 : Hid (Below w.heap.size w w1) := Lib.hid ((HB.out.alloc hbs _).grown hgrow (by simp; omega) (fun j e => (hown.lt j e).1))
        clear hown' hgrow
        go_wp2
        go_roundw
        case rel => exact ⟨k + 1, by go_num, by omega, HO.out, HB1⟩
        case measure => simp [intOf]; omega
    · obtain rfl : k = 64 := by omega
      go_wp2
      go_ret
      exact ⟨_, rfl, hown, HB.out⟩
end Go.Proofs.YtnhpnipfledihaaDoor

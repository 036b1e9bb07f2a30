/- The words that are still found: slices.DeleteFunc. -/
import Derived.Test.YtmfnhfkgkdibfaaGreatIPat
import Derived.Test.YtmfnhfkgkdibfaaGreatShelf
import Derived.Shelf.SlicesE.DeleteFunc
import Derived.Laws.Cover3
namespace Go.Proofs.YtmfnhfkgkdibfaaGreat
open Go.RowKit Go.Sort Go.Proofs Go.Shelf Go.Lib

/-- words of at most 30 bytes -/
abbrev SWd := {x : Wd // x.length ≤ 30}
instance : Inhabited SWd := ⟨⟨[], by simp⟩⟩
def encS (x : SWd) : Value := encW x.1

theorem eqNil_map (t k e : TypeId) (m : Option Nat) (h : Tryz.prog.underlying t = some (.map k e)) (W : World) : (binOp .eql t (.map m) (.map none)).run Tryz.prog W = .ok (.bool m.isNone) W := by
  simp only [binOp]
  simp [run_equal_map_nil W t k e m h]

set_option maxRecDepth 100000 in
theorem rem_closure (p b2 B N : Nat) (g : Wd → Option Nat) (x : Wd) (hx : x.length ≤ 30) (W : World) (h1 : W.cell? ⟨B, 0, none⟩ = some (.pointer (some ⟨p, 0, none⟩))) (h2 : W.cell? ⟨p, 1, none⟩ = some (.map (some b2))) (h3 : SM b2 N (fun x => (g x).map fun b => .map (some b)) W) :
    FnGives Tryz.prog 37 #[.pointer (some ⟨B, 0, none⟩)] #[.string ⟨x.toArray⟩] (.bool (!(g x).isSome)) W := by
  show Calls Tryz.prog 37 #[.string ⟨x.toArray⟩, .pointer (some ⟨B, 0, none⟩)] W _
  have hget := h3.get strKeys (t := 64) Tryz.underlying64 (Tryz.zeroValue67 W) (strKey (x := x) (by omega))
  have heq := fun m W => eqNil_map 67 3 3 m Tryz.underlying67 W
  cases hg : g x with
  | none =>
    rw [hg] at hget
    clear hg h3
    go_enter Tryz.func37, Tryz.ntmps37
    go_wp2
    go_ret
    exact ⟨rfl, 0, rfl⟩
  | some b =>
    rw [hg] at hget
    clear hg h3
    go_enter Tryz.func37, Tryz.ntmps37
    go_wp2
    go_ret
    exact ⟨rfl, 0, rfl⟩

theorem del_any (p b2 B N base gb cap : Nat) (g : Wd → Option Nat) (l : List Wd) (w : World) (hl : ∀ x ∈ l, x.length ≤ 30) (h1 : w.cell? ⟨B, 0, none⟩ = some (.pointer (some ⟨p, 0, none⟩))) (h2 : w.cell? ⟨p, 1, none⟩ = some (.map (some b2))) (h3 : SM b2 N (fun x => (g x).map fun b => .map (some b)) w)
    (ho : w.ownsRow base 9 1 (.slice (some ⟨gb, 0, none⟩) l.length cap) l.length (l.map encW)) (n1 : B ≠ gb) (n2 : p ≠ gb) (n3 : b2 ≠ gb) :
    Calls Tryz.prog 36 #[.slice (some ⟨gb, 0, none⟩) l.length cap, .func (.func 37) #[] #[.pointer (some ⟨B, 0, none⟩)]] w fun e w' =>
      e = .returned (.slice (some ⟨gb, 0, none⟩) (l.filter fun x => (g x).isSome).length cap) ∧ w'.ownsRow base 9 1 (.slice (some ⟨gb, 0, none⟩) (l.filter fun x => (g x).isSome).length cap) (l.filter fun x => (g x).isSome).length ((l.filter fun x => (g x).isSome).map encW) ∧ But (fun k => k = gb) w.heap.size w w' := by
  have eg : ∀ args w, (callFunc 37 args).run Tryz.prog w = .ok (.enter 37 args) w := enters_of Tryz.func37 (by kernel_rfl) rfl
  -- the words as a list of short ones
  obtain ⟨ls, hls⟩ : ∃ ls : List SWd, ls.map (·.1) = l := ⟨l.attach.map fun x => ⟨x.1, hl x.1 x.2⟩, by rw [List.map_map]; simp [Function.comp_def]⟩
  have hlen : ls.length = l.length := by rw [← hls]; simp
  have hmap : l.map encW = ls.map encS := by rw [← hls, List.map_map]; rfl
  have ho' : w.ownsRow base 9 1 (.slice (some ⟨gb, 0, none⟩) ls.length cap) ls.length (ls.map encS) := by rw [hlen, ← hmap]; exact ho
  obtain ⟨gb', cap', e1, _, hlt, hcap, hmx, _, hH⟩ := Lib.holds_of_ownsRow ho' (by intro e; cases e)
  injection e1 with e2 _ e4
  injection e2 with e2
  injection e2 with e2
  subst e2; subst e4
  have hBl := World.block_lt_of_cell? w _ h1
  have hpl := World.block_lt_of_cell? w _ h2
  have hcon := AnyE.slices_DeleteFunc Tryz.del encS (fun _ => rfl) (fun x : SWd => !(g x.1).isSome) 37 #[.pointer (some ⟨B, 0, none⟩)] eg ⟨[], by simp⟩ Tryz.zeroValue9 gb 0 cap ls.toArray w
    (fun W x hb => rem_closure p b2 B N g x.1 x.2 W ((hb.cell (p := ⟨B, 0, none⟩) hBl).trans h1) ((hb.cell (p := ⟨p, 1, none⟩) hpl).trans h2) (h3.kept (hb.block _ h3.lt)))
    (fun n os dk x _ => rem_closure p b2 B N g x.1 x.2 _ (by
        unfold sortWorld
        rw [cell?_grow _ _ _ (by show B < (putRow _ _ _ _ _).heap.size; rw [size_putRow]; exact hBl), cell?_putRow_other _ _ gb 0 _ _ (Or.inl n1)]
        exact h1) (by
        unfold sortWorld
        rw [cell?_grow _ _ _ (by show p < (putRow _ _ _ _ _).heap.size; rw [size_putRow]; exact hpl), cell?_putRow_other _ _ gb 0 _ _ (Or.inl n2)]
        exact h2) (h3.kept (by
        have hk2 : b2 < (putRow encS (Sort.ahead w n) gb 0 dk).heap.size := by rw [size_putRow]; exact h3.lt
        simp only [sortWorld, grow]
        rw [Array.getElem?_append_left hk2]
        simp [putRow, mapBlock, Sort.ahead, Array.getElem?_modify, show gb ≠ b2 from fun e => n3 e.symm])))
    hH (by simp [maxLen] at hmx ⊢; omega) (by simpa using hcap)
  change Calls Tryz.prog 36 _ _ _ at hcon
  have hfil : (ls.filter fun x => (g x.1).isSome).map encS = (l.filter fun x => (g x).isSome).map encW := by
    rw [← hls, List.filter_map, List.map_map]; rfl
  have hfl : (ls.filter fun x => (g x.1).isSome).length = (l.filter fun x => (g x).isSome).length := by
    have := congrArg List.length hfil
    simpa using this
  simp only [Bool.not_not, List.size_toArray, hlen] at hcon
  rw [hfl] at hcon
  refine hcon.mono ?_
  rintro e w' ⟨rfl, q, rfl⟩
  refine ⟨rfl, ?_, ?_⟩
  · have := Lib.ownsRow_putRow (q := q) (k := (l.filter fun x => (g x).isSome).length) (ys := (ls.filter fun x => (g x.1).isSome) ++ List.replicate (l.length - (l.filter fun x => (g x).isSome).length) ⟨[], by simp⟩) ho' (by
      have hle := List.length_filter_le (fun x => (g x).isSome) l
      rw [List.length_append, List.length_replicate, hfl, hlen]; omega) (by rw [hlen]; exact List.length_filter_le _ _)
    rw [List.take_append_of_le_length (by rw [hfl]; exact Nat.le_refl _), List.take_of_length_le (by rw [hfl]; exact Nat.le_refl _), hfil] at this
    exact this
  · exact ⟨rfl, rfl, rfl, by simp [putRow, mapBlock, Sort.ahead], fun k hk hne => by
      simp [putRow, mapBlock, Sort.ahead, Array.getElem?_modify, show gb ≠ k from fun e => hne e.symm]⟩
end Go.Proofs.YtmfnhfkgkdibfaaGreat

import Derived.Test.YtmfnhfkgkdibfaaGreatTokC
namespace Go.Proofs.YtmfnhfkgkdibfaaGreat
open Go.RowKit Go.Shelf

attribute [local go_sem] Oper.semAt_some

/-- v owns the strings xs, from block 'base' on. -/
def OwnsStrs (W : World) (base : Nat) (v : Value) (xs : List (List UInt8)) : Prop := W.ownsRow base 9 1 v xs.length (xs.map encW)

def WordsPost (s : ByteArray) (w : World) (e : Ending) (W' : World) : Prop := ∃ v, e = .returned v ∧ OwnsStrs W' w.heap.size v (wordsOf s.data.toList) ∧ Below w.heap.size w W'

set_option maxRecDepth 100000 in
set_option maxHeartbeats 400000 in
theorem Words_in (n : Nat) (hn : 3 ≤ n) (s : ByteArray) (hsz : s.size ≤ 1099511627775) (hlen : (wordsOf s.data.toList).length ≤ 1099511627775) (w : World) :
    CallsIn Fence.wide n Tryz.prog 35 #[.string s] w (WordsPost s w) := by
  have h1 : 1 ≤ n := by omega
  refine callsIn_of_wp_marks Tryz.func35 rfl trivial ?_ rfl
  simp only [Tryz.ntmps35, List.size_toArray, List.length_cons, List.length_nil, Nat.reduceAdd, Nat.reduceSub, Array.replicate_succ, Array.replicate_zero, List.push_toArray, List.append_toArray, List.nil_append, List.cons_append]
  gi_wp2_with (refine ⟨trivial, ?_⟩; gi_at_call 56; refine (callsIn_wide.2 (words_any _ _)).mono ?_; rintro e w' ⟨rfl, rfl⟩)
  have bO := Boxed.new w 89 (.slice none 0 0)
  have bN := Boxed.new (w.alloc (.cells #[.slice none 0 0] 89)) 9 (.string s)
  rw [World.size_alloc] at bN
  have hB0 : Below w.heap.size w ((w.alloc (.cells #[.slice none 0 0] 89)).alloc (.cells #[.string s] 9)) := ((Below.refl _ w).alloc (Nat.le_refl _) _).alloc (by simp) _
  refine wpIn_rangeFunc_ownG rfl h1 (gf := 71) (lb := #[.pointer (some ⟨w.heap.size + 1, 0, none⟩)]) rfl trivial (enters_of Tryz.func71 (by kernel_rfl) rfl)
    (words_stops (n - 1) (by omega) (w.heap.size + 1) s (by omega) _ (by simp) bN.cell) KeepsAt.trans (KeepsAt.putObj (by simp)) (Below.refl _ _) (fun _ => rfl)
    (fun pre W => (∃ v, Boxed W w.heap.size 89 v ∧ W.ownsRow (w.heap.size + 2) 9 1 v pre.length (pre.map encW) ∧ True) ∧ Below w.heap.size w W ∧ w.heap.size + 2 ≤ W.heap.size)
    (fun _ _ _ => False)
    (OwnFrom.and (Own.from (holdsRow_own (w.heap.size + 2) w.heap.size 89 9 1 (fun pre : List (List UInt8) => pre.length) (fun pre => pre.map encW) (fun _ _ => True)) _) ?own2)
    (fun _ _ _ _ _ hs _ _ => hs)
    ?h0
    (fun x => { tmps := #[.string s, undef, .slice none 0 0, .pointer (some ⟨w.heap.size, 0, none⟩), .string ⟨x.toArray⟩, .string s, .func (.func 71) #[] #[.pointer (some ⟨w.heap.size + 1, 0, none⟩)], .string ⟨x.toArray⟩, undef, undef, undef, undef, undef], defers := [] }) ?assign ?body ?done ?stop
  case own2 => exact OwnFrom.and (ownFrom_below (Nat.le_refl _) (by simp; omega)) (fun s A B row hs hg hr => Nat.le_trans hs hg.size)
  case h0 => exact ⟨⟨_, bO.alloc _, World.ownsRow_nil _ _ _ _, trivial⟩, hB0, by simp⟩
  case assign =>
    intro l x W K hK
    gi_wp2
    exact hK
  case body =>
    rintro l pre x W ⟨⟨v, hv, hrow, _⟩, hB, hS⟩ hlt
    have hc := hv.cell
    have hvb := hv.lt
    have hbs : w.heap.size + 1 < w.heap.size + 2 := by omega
    have ha := add_any w.heap.size (w.heap.size + 2) pre.length W.heap.size v (pre.map encW) ⟨x.toArray⟩ _ (hv.alloc (.cells #[.string ⟨x.toArray⟩] 9)) (hrow.alloc _) (by simp; omega) (World.cell?_alloc_new W _ _ 0) (by omega)
    gi_wp2
    refine ⟨trivial, (fun h => by cases h), ?_⟩
    refine (CallsIn.inRound l (callsIn_wide.2 ha)).mono ?_
    rintro e w1 ⟨rfl, v', hv1, hr1, hk1, hb1⟩
    gi_wp2
    have hz := hb1.size
    simp only [World.size_alloc] at hz
    refine ⟨((KeepsOthers.alloc _ _).trans hk1).from _, ((KeepsAt.refl _ W).alloc (by omega) _).trans (hb1.keepsAt (by omega) (by omega)), ⟨v', hv1, ?_, trivial⟩, ?_, by omega⟩
    · simpa [encW] using hr1
    · exact (hB.alloc hB.size _).trans (hb1.below (by omega) (by omega))
  case done =>
    rintro D ys W hD rfl ⟨⟨v, hv, hrow, _⟩, hB, hS⟩ hK
    have hc := hv.cell
    gi_wp2
    refine ⟨by simp, .inl ⟨_, _, rfl, run_takeDeferred hK, ?_⟩⟩
    exact ⟨_, results_tmp rfl _ _ _, v, rfl, ownsRow_putObj (hrow.mono_base (by omega)) _ hK rfl, hB.trans (belowK_b (w := w) (Nat.le_refl _) W D _ _ (by simp at hD; omega) hK rfl rfl)⟩
  case stop =>
    rintro D c pre W _ _ h _
    exact h.elim
end Go.Proofs.YtmfnhfkgkdibfaaGreat

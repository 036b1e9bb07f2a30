/- Ranges over maps of raw values; hits lists counts by ascending IDs. -/
import Derived.Test.YtmfnhfkgkdibfaaGreatISrt
import Derived.Test.YtmfnhfkgkdibfaaGreatISq
import Derived.Sort.OwnSorted
import Derived.Laws.AppendOwn
import Derived.OwnWalk
import Derived.Deep.AppendLies
namespace Go.Proofs.YtmfnhfkgkdibfaaGreat
open Go.RowKit Go.Sort Go.Proofs Go.Maps Go.ChangeMaps Go.WideMaps

/-- what is still to come of a range: the keys of the map that are not in done -/
def Left {κ : Type} (K : κ → Lit) (f : κ → Option Value) (left : Lit → Bool) (done : List κ) : Prop := ∀ x, left (K x) = true ↔ (f x).isSome = true ∧ x ∉ done

theorem Left.start {κ : Type} {K : κ → Lit} {f : κ → Option Value} {D : DataW Value} (hf : ∀ x, has D (K x) = (f x).isSome ∧ ∀ v, f x = some v → ∀ zd, D.atKey (K x) zd = .held v) : Left K f (has D) [] := fun x => by rw [(hf x).1]; simp
theorem Left.next {κ : Type} {K : κ → Lit} (hK : ∀ x y, (K x).sameKey (K y) = true ↔ x = y) {f : κ → Option Value} {left : Lit → Bool} {done : List κ} (h : Left K f left done) (x : κ) : Left K f (fun z => left z && !z.sameKey (K x)) (done ++ [x]) := fun y => by
  have := hK y x
  rw [Bool.and_eq_true, h y, List.mem_append, List.mem_singleton, not_or]
  constructor
  · rintro ⟨⟨h1, h2⟩, h3⟩
    refine ⟨h1, h2, fun e => ?_⟩
    rw [this.2 e] at h3
    cases h3
  · rintro ⟨h1, h2, h3⟩
    refine ⟨⟨h1, h2⟩, ?_⟩
    cases hs : (K y).sameKey (K x) with
    | true => exact absurd (this.1 hs) h3
    | false => rfl
theorem Left.done {κ : Type} {K : κ → Lit} {f : κ → Option Value} {left : Lit → Bool} {done : List κ} (h : Left K f left done) (hl : ∀ kl, left kl = false) (x : κ) (hx : (f x).isSome = true) : x ∈ done := by
  by_cases hm : x ∈ done
  · exact hm
  · have := (h x).2 ⟨hx, hm⟩
    rw [hl] at this
    cases this
theorem Left.value {κ : Type} {K : κ → Lit} {f : κ → Option Value} {left : Lit → Bool} {done : List κ} (h : Left K f left done) {D : DataW Value} (hf : ∀ x, has D (K x) = (f x).isSome ∧ ∀ v, f x = some v → ∀ zd, D.atKey (K x) zd = .held v) {x : κ} {c : Value} (hl : left (K x) = true) (hat : ∀ zd, D.atKey (K x) zd = .held c) : f x = some c ∧ x ∉ done := by
  obtain ⟨h1, h2⟩ := (h x).1 hl
  obtain ⟨v, hv⟩ := Option.isSome_iff_exists.1 h1
  have := (hf x).2 v hv .nil
  rw [hat .nil] at this
  cases this
  exact ⟨hv, h2⟩
theorem int_same (x y : Int) : (Lit.int .i64 x).sameKey (.int .i64 y) = true ↔ x = y := by simp [Lit.sameKey]
theorem str_same (x y : List UInt8) : (Lit.string x).sameKey (.string y) = true ↔ x = y := by simp [Lit.sameKey]

/-- the keys of a counted map -/
def cntM (c : Int → Nat) (id : Int) : Option Value := if 0 < c id then some (.int .i64 (c id : Int)) else none
theorem cntM_some {c : Int → Nat} {id : Int} {v : Value} (h : cntM c id = some v) : 0 < c id ∧ v = .int .i64 (c id : Int) := by
  unfold cntM at h
  split at h
  · cases h; exact ⟨by assumption, rfl⟩
  · cases h
theorem cntM_isSome {c : Int → Nat} {id : Int} : (cntM c id).isSome = true ↔ 0 < c id := by
  unfold cntM; split <;> simp_all

/-- a slice of hits in memory of the call's own -/
def HitsR (base : Nat) (W : World) (v : Value) (l : List (Int × Nat)) : Prop := W.ownsRow base 53 2 v l.length (l.flatMap hitC)
def TermsR (base : Nat) (W : World) (v : Value) (l : List (Wd × Nat)) : Prop := W.ownsRow base 56 2 v l.length (l.flatMap termC)

theorem infoHit : (Tryz.prog.info? 53).map (fun i => (i.zero, i.size, i.bytes)) = some (some (.agg #[.int .i64 0, .int .i64 0]), 2, 16) := by kernel_rfl

theorem hits_of_done {c : Int → Nat} {done : List Int} (hn : done.Nodup) (h : ∀ x, x ∈ done ↔ 0 < c x) (hc : ∀ x, 0 < c x → 1 ≤ x ∧ x ≤ 256) {l : List (Int × Nat)} (hp : l.Perm (done.map fun x => (x, c x))) (hs : l.Pairwise fun a b => ltOf (fun x y : Int × Nat => Lib.compareInt x.1 y.1) b a = false) : l = hitsF c := by
  refine hits_unique ?_ (hitsF_asc c) fun x => ?_
  · have h1 : (l.map (·.1)).Nodup := by
      have := (hp.map (·.1)).nodup_iff.2 (by simpa [List.map_map, Function.comp_def] using hn)
      exact this
    have h2 : l.Pairwise fun a b => a.1 ≠ b.1 := by
      have := List.pairwise_map.1 h1
      exact this
    refine (hs.and h2).imp ?_
    rintro a b ⟨h3, h4⟩
    rw [ltH] at h3
    simp at h3
    omega
  · rw [hp.mem_iff, mem_hitsF, List.mem_map]
    constructor
    · rintro ⟨a, ha, rfl⟩
      have h0 := (h a).1 ha
      exact ⟨(hc a h0).1, (hc a h0).2, h0, rfl⟩
    · rintro ⟨h1, h2, h3, h4⟩
      exact ⟨x.1, (h x.1).2 (by omega), by rw [← h4]⟩

theorem nodup_len : ∀ (N : Nat) (l : List Int), l.Nodup → (∀ x ∈ l, 1 ≤ x ∧ x ≤ (N : Int)) → l.length ≤ N
  | 0, l, _, h => by
    cases l with
    | nil => simp
    | cons x l => have := h x (by simp); omega
  | N + 1, l, hn, h => by
    have h1 := nodup_len N (l.erase ((N : Int) + 1)) (hn.erase _) fun x hx => by
      have h2 := h x (List.mem_of_mem_erase hx)
      have h3 : x ≠ (N : Int) + 1 := fun e => by
        subst e
        exact (List.Nodup.not_mem_erase hn) hx
      omega
    by_cases hm : ((N : Int) + 1) ∈ l
    · rw [List.length_erase_of_mem hm] at h1; omega
    · rw [List.erase_of_not_mem hm] at h1; omega
theorem done_len {c : Int → Nat} {done : List Int} (hn : done.Nodup) (h : ∀ x ∈ done, 0 < c x) (hc : ∀ x, 0 < c x → 1 ≤ x ∧ x ≤ 256) : done.length ≤ 256 :=
  nodup_len 256 done hn fun x hx => by have := hc x (h x hx); omega

set_option maxRecDepth 100000 in
set_option maxHeartbeats 2000000 in
theorem hits_any (b n : Nat) (c : Int → Nat) (w : World) (hM : IM b n (cntM c) w) (hn : n ≤ 1000000000) (hc : ∀ x, 0 < c x → 1 ≤ x ∧ x ≤ 256) (hcb : ∀ x, c x ≤ 1000000) :
    Calls Tryz.prog 48 #[.map (some b)] w fun e w' => ∃ v, e = .returned v ∧ HitsR w.heap.size w' v (hitsF c) ∧ Below w.heap.size w w' := by
  obtain ⟨D, hD, hf⟩ := hM
  have hsz := hD.size_le
  have hlen := hD.len (t := 67) Tryz.underlying67
  obtain ⟨i0, hi, hz0, hz1, hz2⟩ := info_parts infoHit
  have HF := Lib.hid hf; have HC := Lib.hid hc; have HCB := Lib.hid hcb
  clear hf hc hcb
  go_enter Tryz.func48, Tryz.ntmps48
  go_wp2_with (at_make; refine wpList_make_own _ rfl _ _ 43 rfl w.heap.size 53 i0 _ 2 Tryz.underlying43 hi hz0 hz1 .i64 .i64 _ (Maps.size D) rfl rfl rfl ?b2 ?b3 ?b4 ?_)
  case b2 => rw [hz2]; omega
  case b3 => unfold maxLen; omega
  case b4 => omega
  intro w1 ho1 hg1
  have hD1 := hD.kept hg1 (by simp)
  go_wp2_with (at_range; refine wpList_range_own _ rfl _ 67 rfl 3 3 intKeys Tryz.underlying67 _ b n _ rfl hD1 ?_; intro w0 hrg0 hg0 hs0)
  go_frame
  have hb1 : Below w.heap.size w w1 := (Below.refl _ w).grown hg1 (Nat.le_refl _) (fun j hj => by cases hj)
  have hb0 : Below w.heap.size w w0 := hb1.grown hg0 (by simpa using hb1.size) (fun j hj => by cases hj)
  have HO0 : Hid (w0.ownsRow w.heap.size 53 2 (.slice (some ⟨w.heap.size, 0, none⟩) 0 (Maps.size D)) 0 []) := Lib.hid (ho1.kept hg0 (by simp [Value.ownBlock]))
  go_loopw [3] (fun u wr => ∃ (v : Value) (left : Lit → Bool) (cnt : Nat) (done : List Int), v = u ∧ wr.ranges Tryz.prog 3 rawE b w1.heap.size n D left cnt ∧ Hid (Left (Lit.int .i64) (cntM c) left done) ∧ Hid (done.Nodup ∧ ∀ x ∈ done, 0 < c x) ∧ Hid (HitsR w.heap.size wr v (done.map fun x => (x, c x))) ∧ Hid (Below w.heap.size w wr)) (fun _ wr => wr.rangeLeft b w1.heap.size)
  case atStart => exact ⟨_, _, _, [], rfl, hrg0, Lib.hid (Left.start HF.out), Lib.hid ⟨.nil, fun x hx => by cases hx⟩, HO0, Lib.hid hb0⟩
  case round =>
    obtain ⟨v, left, cnt, done, rfl, hrg, HL, HN, HR, HB⟩ := hrel
    go_wp2_with (at_next; refine wpList_next_ranges _ rfl _ rfl 3 intKeys rawE (Value.int .i64) id (fun key kl hkey => by obtain ⟨x, rfl, _⟩ := Maps.keyOf_int_inv Tryz.underlying3 hkey; exact ⟨x, rfl⟩) (fun v y _ => ⟨v, rfl⟩) b w1.heap.size n _ _ _ rfl hrg ?_ ?_)
    · intro _ hl0
      have hmem : ∀ x, x ∈ done ↔ 0 < c x := fun x => ⟨HN.out.2 x, fun h => HL.out.done hl0 x (cntM_isSome.2 h)⟩
      have hlen2 := done_len HN.out.1 HN.out.2 HC.out
      have hco := fun W => ordered_hits (done.map fun x => (x, c x)) v w.heap.size W
      have HM := Lib.hid hmem
      clear hmem
      obtain ⟨L, HLl⟩ : ∃ L, Hid ((done.map fun x => (x, c x)) = L) := ⟨_, Lib.hid rfl⟩
      have hLlen : L.length ≤ 1000000 := by rw [← HLl.out]; simp; omega
      rw [HLl.out] at hco HR
      go_wp2_with (go_at_call 64; refine (hco _ HR.out hLlen).mono ?_; rintro e w9 ⟨rfl, l', hp, hs, hr, hb9⟩)
      go_ret
      have hl9 : l' = hitsF c := hits_of_done HN.out.1 HM.out HC.out (by rw [← HLl.out] at hp; exact hp) hs
      rw [hl9] at hr
      exact ⟨_, rfl, hr, HB.out.trans hb9⟩
    · intro x cv kl y1 y2 w2 cnt2 hkey hlk hry hat hrg2 hlt hg2 hs2 hen
      obtain ⟨x', ex, rfl, hwx⟩ := Maps.keyOf_int_inv Tryz.underlying3 hkey
      cases ex
      cases hry
      obtain ⟨hcx, hnm⟩ := HL.out.value HF.out hlk hat
      obtain ⟨hc0, rfl⟩ := cntM_some hcx
      have hbs := HB.out.size
      have hne := row_ne_iter HR.out hrg
      have HR2 := Lib.hid (World.ownsRow.kept HR.out hg2 (.inr fun e => hne e.symm))
      have HB2 : Hid (Below w.heap.size w w2) := Lib.hid (HB.out.grown hg2 hbs (fun j hj => by cases hj; have := hb1.size; omega))
      have hbs2 := HB2.out.size
      have HCx : Hid (Left (Lit.int .i64) (cntM c) (fun z => left z && !z.sameKey (.int .i64 x)) (done ++ [x])) := Lib.hid (HL.out.next int_same x)
      have HN2 : Hid ((done ++ [x]).Nodup ∧ ∀ y ∈ done ++ [x], 0 < c y) := Lib.hid ⟨by
          rw [List.nodup_append]; exact ⟨HN.out.1, by simp, fun a ha b hb e => by simp at hb; subst hb; exact hnm (e ▸ ha)⟩, fun y hy => by
          rcases List.mem_append.1 hy with h | h
          · exact HN.out.2 y h
          · simp at h; subst h; exact hc0⟩
      have hdl := done_len HN.out.1 HN.out.2 HC.out
      obtain ⟨m, HM⟩ : ∃ m : Int, Hid (((c x : Nat) : Int) = m) := ⟨_, Lib.hid rfl⟩
      simp only [HM.out] at hen ⊢
      obtain ⟨L, HLl⟩ : ∃ L, Hid ((done.map fun x => (x, c x)) = L) := ⟨_, Lib.hid rfl⟩
      have hLlen : L.length ≤ 1000000 := by rw [← HLl.out]; simp; omega
      rw [HLl.out] at HR2
      have HR2' : w2.ownsRow w.heap.size 53 2 v L.length (L.flatMap hitC) := HR2.out
      have hrm := hrg2.left_eq
      have hrl := hrg.left_eq
      have HRM := Lib.hid hrm; have HRL := Lib.hid hrl
      clear hrm hrl hs2
      go_wp2_with (at_builtin; refine wpList_append_own _ rfl _ _ 43 rfl w.heap.size 53 i0 _ 2 16 Tryz.underlying43 hi hz0 hz1 hz2 rfl (by decide) _ _ _ rfl (HR2'.alloc _) ⟨w2.heap.size, 0, none⟩ 1 1 [.int .i64 x, .int .i64 m] rfl rfl (World.news_of_block (cs := #[.int .i64 x, .int .i64 m]) (t := 53) (fr := (0, 0)) (heap_alloc_new w2 _)) (by simp [Value.oneCell']) ?c3 ?c4 ?c5 ?_)
      case c3 => unfold maxLen; omega
      case c4 => omega
      case c5 => simp; omega
      intro v' w3 hown' hgrow _
      have hcl : L ++ [(x, c x)] = (done ++ [x]).map fun x => (x, c x) := by rw [← HLl.out]; simp
      have hbl : b < w.heap.size := hD.lt
      have HR3 : Hid (HitsR w.heap.size w3 v' ((done ++ [x]).map fun x => (x, c x))) := Lib.hid (by
        rw [← hcl]
        unfold HitsR
        simpa [List.flatMap_append, hitC, HM.out] using hown')
      have hrg3 := (hrg2.alloc (.cells #[.int .i64 x, .int .i64 m] 53 (0, 0))).kept hgrow (row_ne_low HR2' hbl) (row_ne_iter (HR2'.alloc (.cells #[.int .i64 x, .int .i64 m] 53 (0, 0))) (hrg2.alloc (.cells #[.int .i64 x, .int .i64 m] 53 (0, 0))))
      have HB3 : Hid (Below w.heap.size w w3) := Lib.hid ((HB2.out.alloc hbs2 _).grown hgrow (by simp; omega) (fun j e => (HR2'.lt j e).1))
      have HRE := Lib.hid hrg3.left_eq
      clear hown' hgrow hcl
      go_wp2
      go_roundw
      case rel => exact ⟨_, _, _, _, rfl, hrg3, HCx, HN2, HR3, HB3⟩
      case measure => rw [HRE.out, HRL.out]; exact hlt
end Go.Proofs.YtmfnhfkgkdibfaaGreat

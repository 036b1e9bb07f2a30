/- A delta that is cut off gives a beginning of the text, or nothing: plain. -/
import Derived.Test.YtfdholhfdceedaaDoorDifT
import Derived.Test.YtfdholhfdceedaaDoorDifB
namespace Go.Proofs.YtfdholhfdceedaaDoor

theorem intRest_take {l : List UInt8} {j k : Nat} {n : Int} (h : intRest (l.take j) = some (n, k)) : intRest l = some (n, k) := by
  obtain ⟨h1, h2, h3, h4, h5⟩ := put_int h
  have hkj : k ≤ j := by simp at h4; omega
  rw [List.take_take, Nat.min_eq_left hkj] at h1
  have hl : (putInt n).length = k := by rw [← h1]; simp at h4 ⊢; omega
  have := int_put h2 h3 (l.drop k)
  rw [← h1, List.take_append_drop] at this
  rw [this, h1, hl]

theorem intAt_take {d : List UInt8} {j a : Nat} {r : Int × Nat} (h : intAt (d.take j) a = some r) : intAt d a = some r := by
  unfold intAt at h ⊢
  rw [List.drop_take] at h
  cases hi : intRest ((d.drop a).take (j - a)) with
  | none => rw [hi] at h; cases h
  | some q =>
    obtain ⟨n, k⟩ := q
    rw [hi] at h
    rw [intRest_take hi]; exact h

theorem strAt_take {d x : List UInt8} {j a k2 : Nat} (h : strAt (d.take j) a = some (x, k2)) : strAt d a = some (x, k2) := by
  unfold strAt at h ⊢
  cases hi : intAt (d.take j) a with
  | none => rw [hi] at h; cases h
  | some q =>
    obtain ⟨n, k⟩ := q
    rw [hi] at h
    rw [intAt_take hi]
    simp only [] at h ⊢
    split at h
    · rename_i hn
      obtain ⟨h1, h2, h3⟩ := hn
      simp at h3
      rw [if_pos ⟨h1, h2, by omega⟩, ← h, List.drop_take, List.take_take, Nat.min_eq_left (by omega)]
    · cases h

theorem opAt_take {o d x : List UInt8} {j a k : Nat} (h : opAt o (d.take j) a = .ok (x, k)) : opAt o d a = .ok (x, k) := by
  unfold opAt at h ⊢
  cases hi : intAt (d.take j) a with
  | none => rw [hi] at h; cases h
  | some q =>
    obtain ⟨n, k1⟩ := q
    rw [hi] at h
    rw [intAt_take hi]
    simp only [] at h ⊢
    split at h
    · cases h
    · rename_i hn
      rw [if_neg hn]
      split at h
      · rename_i hz
        rw [if_pos hz]
        cases hs : strAt (d.take j) k1 with
        | none => rw [hs] at h; cases h
        | some q =>
          rw [hs] at h
          rw [strAt_take hs]; exact h
      · rename_i hz
        rw [if_neg hz]
        cases hs : intAt (d.take j) k1 with
        | none => rw [hs] at h; cases h
        | some q =>
          rw [hs] at h
          rw [intAt_take hs]; exact h

theorem applyGo_pre {o d : List UInt8} : ∀ {f a : Nat} {out t : List UInt8}, applyGo f o d a out = .ok t → out <+: t
  | 0, a, out, t, h => by rw [applyGo] at h; cases h; exact List.prefix_refl _
  | f + 1, a, out, t, h => by
    rw [applyGo] at h
    split at h
    · cases h; exact List.prefix_refl _
    · cases hop : opAt o d a with
      | error e => rw [hop] at h; cases h
      | ok q =>
        obtain ⟨x, k⟩ := q
        rw [hop] at h
        simp only [] at h
        split at h
        · exact (List.prefix_append _ _).trans (applyGo_pre h)
        · cases h

theorem applyGo_take {o d : List UInt8} {j : Nat} : ∀ {f f' a : Nat} {out t t' : List UInt8}, applyGo f o (d.take j) a out = .ok t → applyGo f' o d a out = .ok t' → d.length < a + f' → a ≤ (d.take j).length → t <+: t'
  | 0, f', a, out, t, t', h, h', _, _ => by rw [applyGo] at h; cases h; exact applyGo_pre h'
  | f + 1, f', a, out, t, t', h, h', hf, ha => by
    rw [applyGo] at h
    split at h
    · cases h; exact applyGo_pre h'
    · rename_i hlt
      cases hop : opAt o (d.take j) a with
      | error e => rw [hop] at h; cases h
      | ok q =>
        obtain ⟨x, k⟩ := q
        rw [hop] at h
        simp only [] at h
        have hle := opAt_le ha hop
        have hd : (d.take j).length ≤ d.length := by simp; omega
        obtain ⟨f', rfl⟩ : ∃ g, f' = g + 1 := ⟨f' - 1, by omega⟩
        rw [applyGo, if_neg (by omega), opAt_take hop] at h'
        simp only [] at h'
        split at h
        · rename_i hx
          rw [if_pos hx] at h'
          exact applyGo_take h h' (by omega) hle.2.1
        · cases h

/-- what a delta that Diff wrote gives of whatever base, cut off or not -/
theorem apply_cut {b o n t : List UInt8} {j : Nat} (ho : o.length ≤ 8192) (hn : n.length ≤ 8192) (h : applyD b ((diffD o n).take j) = .ok t) : crcOf b = crcOf o ∧ crcOf t = crcOf n ∧ (b = o → t <+: n) := by
  have hf := apply_diff ho hn
  have c1 := crcOf_le o
  have c2 := crcOf_le n
  obtain ⟨d, hd⟩ : ∃ d, diffD o n = d := ⟨_, rfl⟩
  have i1 : intAt d 0 = some ((crcOf o : Int), (putInt (crcOf o : Int)).length) := by
    rw [← hd]; unfold diffD; rw [if_neg (by omega), List.append_assoc]
    have h1 := intAt_put (n := (crcOf o : Int)) (by omega) (by omega) [] (putInt (crcOf n : Int) ++ opsD o (n.length + 1) n [])
    simpa using h1
  have i2 : intAt d (putInt (crcOf o : Int)).length = some ((crcOf n : Int), (putInt (crcOf o : Int)).length + (putInt (crcOf n : Int)).length) := by
    rw [← hd]; unfold diffD; rw [if_neg (by omega), List.append_assoc]
    exact intAt_put (n := (crcOf n : Int)) (by omega) (by omega) (putInt (crcOf o : Int)) (opsD o (n.length + 1) n [])
  rw [hd] at h hf
  clear hd
  unfold applyD at h hf
  rw [if_neg (by omega), i1] at hf
  simp only [] at hf
  rw [if_pos trivial, i2] at hf
  simp only [] at hf
  split at h
  · cases h
  · cases hi : intAt (d.take j) 0 with
    | none => rw [hi] at h; cases h
    | some p =>
      have e1 := intAt_take hi
      rw [i1] at e1
      cases e1
      rw [hi] at h
      simp only [] at h
      split at h
      · rename_i hsum
        cases hi2 : intAt (d.take j) (putInt (crcOf o : Int)).length with
        | none => rw [hi2] at h; cases h
        | some q =>
          have e2 := intAt_take hi2
          rw [i2] at e2
          cases e2
          rw [hi2] at h
          simp only [] at h
          cases hg : applyGo ((d.take j).length + 1) b (d.take j) ((putInt (crcOf o : Int)).length + (putInt (crcOf n : Int)).length) [] with
          | error e => rw [hg] at h; cases h
          | ok out =>
            rw [hg] at h
            simp only [] at h
            split at h
            · rename_i hw
              cases h
              refine ⟨by omega, by omega, fun hb => ?_⟩
              subst hb
              cases hg' : applyGo (d.length + 1) b d ((putInt (crcOf b : Int)).length + (putInt (crcOf n : Int)).length) [] with
              | error e => rw [hg'] at hf; cases hf
              | ok out' =>
                rw [hg'] at hf
                simp only [] at hf
                split at hf
                · cases hf
                  exact applyGo_take hg hg' (by omega) (intAt_le (by have := intAt_le (by omega) hi; omega) hi2).2.1
                · cases hf
            · cases h
      · cases h

theorem opsD_len {o : List UInt8} (ho : o.length ≤ 8192) : ∀ (f : Nat) (rest fresh : List UInt8), fresh.length + rest.length ≤ 8192 → (opsD o f rest fresh).length ≤ 18 + fresh.length + 100 * rest.length
  | 0, _, _, _ => by simp [opsD]
  | f + 1, [], fresh, h => by
    rw [opsD]
    have := insD_len (x := fresh) (by simp at h; omega)
    omega
  | f + 1, c :: t, fresh, h => by
    rw [opsD]
    simp only [List.length_cons] at h ⊢
    have hok := longD_ok o (c :: t)
    have hi := insD_len (x := fresh) (by omega)
    split
    · rename_i h8
      have hb : (longD o (c :: t)).1 ≤ t.length + 1 := by simpa using hok.1
      have lb := putInt_len (n := ((longD o (c :: t)).1 : Int)) (by omega) (by omega)
      have lo := putInt_len (n := ((longD o (c :: t)).2 : Int)) (by omega) (by omega)
      have := opsD_len ho f ((c :: t).drop (longD o (c :: t)).1) [] (by simp; omega)
      simp only [List.length_append, List.length_drop, List.length_cons, List.length_nil] at this ⊢
      omega
    · have := opsD_len ho f t (fresh ++ [c]) (by simp; omega)
      simp at this; omega

theorem diffD_len (o n : List UInt8) : (diffD o n).length ≤ 40 + 100 * n.length := by
  unfold diffD
  split
  · simp
  · have l1 := putInt_len (crcOf_int o).1 (crcOf_int o).2
    have l2 := putInt_len (crcOf_int n).1 (crcOf_int n).2
    have := opsD_len (o := o) (by omega) (n.length + 1) n [] (by simp; omega)
    simp only [List.length_append, List.length_nil] at this ⊢
    omega
end Go.Proofs.YtfdholhfdceedaaDoor

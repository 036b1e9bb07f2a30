/- Facts and contracts for the laws of the sender, part 3. Conditions: those that each theorem names. -/
import Derived.Test.YtefloieanpgnmaaDoorK02
/- Apply undoes Diff: plain. -/
namespace Go.Proofs.YtefloieanpgnmaaDoor
open Go.RowKit

theorem intAt_put {n : Int} (h1 : -4611686018427387903 ≤ n) (h2 : n ≤ 4611686018427387903) (pre r : List UInt8) : intAt (pre ++ (putInt n ++ r)) pre.length = some (n, pre.length + (putInt n).length) := by
  unfold intAt
  rw [List.drop_left, int_put h1 h2]
  rfl

theorem strAt_put {x : List UInt8} (hx : x.length ≤ 65536) (pre r : List UInt8) : strAt (pre ++ (putStr x ++ r)) pre.length = some (x, pre.length + (putStr x).length) := by
  unfold strAt putStr
  rw [List.append_assoc, intAt_put (by omega) (by omega)]
  simp only []
  have hd : (pre ++ (putInt (x.length : Int) ++ (x ++ r))).drop (pre.length + (putInt (x.length : Int)).length) = x ++ r := by
    rw [← List.append_assoc, List.drop_left' (by simp)]
  rw [if_pos (by simp; omega), hd]
  simp
  omega

theorem opAt_ins {o x : List UInt8} (hx : x.length ≤ 65536) (h0 : x ≠ []) (pre r : List UInt8) : opAt o (pre ++ (insD x ++ r)) pre.length = .ok (x, pre.length + (insD x).length) := by
  unfold opAt insD
  rw [if_neg h0, List.append_assoc, intAt_put (by decide) (by decide)]
  simp only []
  have := strAt_put hx (pre ++ putInt 0) r
  rw [List.append_assoc, List.length_append] at this
  rw [if_neg (by omega), if_pos trivial, this]
  simp only []
  rw [if_neg h0, List.length_append]
  simp
  omega

theorem opAt_copy {o : List UInt8} {b off : Nat} (ho : o.length ≤ 8192) (hb : 0 < b) (h : off + b ≤ o.length) (pre r : List UInt8) :
    opAt o (pre ++ (putInt (b : Int) ++ (putInt (off : Int) ++ r))) pre.length = .ok ((o.drop off).take b, pre.length + (putInt (b : Int)).length + (putInt (off : Int)).length) := by
  unfold opAt
  rw [intAt_put (by omega) (by omega)]
  simp only []
  have := intAt_put (n := (off : Int)) (by omega) (by omega) (pre ++ putInt (b : Int)) r
  rw [List.append_assoc, List.length_append] at this
  rw [if_neg (by omega), if_neg (by omega), this]
  simp only []
  rw [if_pos (by omega)]
  simp

theorem applyGo_step {g a k : Nat} {o d x out : List UInt8} (ha : a < d.length) (h : opAt o d a = .ok (x, k)) (hl : out.length + x.length ≤ 8192) : applyGo (g + 1) o d a out = applyGo g o d k (out ++ x) := by
  rw [applyGo, if_neg (by omega), h]
  simp only []
  rw [if_pos hl]

theorem insD_pos {x : List UInt8} (h : x ≠ []) : 0 < (insD x).length := by
  unfold insD
  rw [if_neg h, List.length_append]
  have := putInt_len (n := 0) (by decide) (by decide)
  omega

theorem applyGo_end {g a : Nat} {o d out : List UInt8} (ha : d.length ≤ a) : applyGo (g + 1) o d a out = .ok out := by
  rw [applyGo, if_pos ha]

/-- an insertion under way is read, whether it is empty or not -/
theorem applyGo_ins {g : Nat} {o fresh pre r out : List UInt8} (hf : fresh.length ≤ 8192) (hl : out.length + fresh.length ≤ 8192) (hg : (insD fresh).length + r.length < g) :
    ∃ g', r.length < g' ∧ applyGo g o (pre ++ (insD fresh ++ r)) pre.length out = applyGo g' o (pre ++ insD fresh ++ r) (pre ++ insD fresh).length (out ++ fresh) := by
  by_cases h0 : fresh = []
  · subst h0
    refine ⟨g, by simpa [insD] using hg, ?_⟩
    simp [insD]
  · have hp := insD_pos h0
    obtain ⟨g, rfl⟩ : ∃ k, g = k + 1 := ⟨g - 1, by omega⟩
    refine ⟨g, by omega, ?_⟩
    rw [applyGo_step (by simp; omega) (opAt_ins (by omega) h0 pre r) hl, List.append_assoc, List.length_append]

theorem apply_ops {o : List UInt8} (ho : o.length ≤ 8192) : ∀ (f : Nat) (rest fresh pre out : List UInt8) (g : Nat), rest.length < f → (opsD o f rest fresh).length < g → out.length + fresh.length + rest.length ≤ 8192 →
    applyGo g o (pre ++ opsD o f rest fresh) pre.length out = .ok (out ++ fresh ++ rest)
  | 0, _, _, _, _, _, h, _, _ => by omega
  | f + 1, [], fresh, pre, out, g, _, hg, hl => by
    rw [opsD] at hg ⊢
    simp only [List.length_nil, Nat.add_zero] at hl
    obtain ⟨g', hg', e⟩ := applyGo_ins (g := g) (o := o) (fresh := fresh) (pre := pre) (r := []) (out := out) (by omega) hl (by simpa using hg)
    rw [List.append_nil] at e
    rw [e]
    obtain ⟨g'', rfl⟩ : ∃ k, g' = k + 1 := ⟨g' - 1, by simp at hg'; omega⟩
    rw [applyGo_end (by simp), List.append_nil]
  | f + 1, c :: t, fresh, pre, out, g, h, hg, hl => by
    rw [opsD] at hg ⊢
    obtain ⟨b, off, hbo⟩ : ∃ b off, longD o (c :: t) = (b, off) := ⟨_, _, rfl⟩
    have hok := longAt_ok o (c :: t) o.length (Nat.le_refl _)
    have hbo' : longAt o (c :: t) o.length = (b, off) := hbo
    rw [hbo'] at hok
    rw [hbo] at hg ⊢
    simp only [] at hok hg ⊢
    simp only [List.length_cons] at hl h
    by_cases h8 : 8 ≤ b
    · rw [if_pos h8] at hg ⊢
      rw [List.append_assoc, List.append_assoc] at hg ⊢
      rw [List.length_append] at hg
      obtain ⟨g', hg', e⟩ := applyGo_ins (g := g) (o := o) (fresh := fresh) (pre := pre) (r := putInt (b : Int) ++ (putInt (off : Int) ++ opsD o f ((c :: t).drop b) [])) (out := out) (by omega) (by omega) hg
      rw [e]
      have lb := putInt_len (n := (b : Int)) (by omega) (by omega)
      obtain ⟨g'', rfl⟩ : ∃ k, g' = k + 1 := ⟨g' - 1, by omega⟩
      have hx : ((o.drop off).take b).length = b := by simp; omega
      have hb1 : b ≤ t.length + 1 := by simpa using hok.1
      rw [applyGo_step (by simp only [List.length_append]; omega) (opAt_copy ho (by omega) hok.2.1 (pre ++ insD fresh) _) (by rw [hx]; simp; omega)]
      have hd : pre ++ insD fresh ++ (putInt (b : Int) ++ (putInt (off : Int) ++ opsD o f ((c :: t).drop b) [])) = (pre ++ insD fresh ++ putInt (b : Int) ++ putInt (off : Int)) ++ opsD o f ((c :: t).drop b) [] := by simp only [List.append_assoc]
      have hn : (pre ++ insD fresh).length + (putInt (b : Int)).length + (putInt (off : Int)).length = (pre ++ insD fresh ++ putInt (b : Int) ++ putInt (off : Int)).length := by simp only [List.length_append]
      rw [hd, hn, apply_ops ho f _ [] _ _ g'' (by simp; omega) (by simp only [List.length_append] at hg'; omega) (by simp only [List.length_append, hx, List.length_drop, List.length_cons, List.length_nil]; omega)]
      rw [hok.2.2]
      have := List.take_append_drop b (c :: t)
      congr 1
      rw [List.append_nil, List.append_assoc, this]
    · rw [if_neg h8] at hg ⊢
      rw [apply_ops ho f t (fresh ++ [c]) pre out g (by omega) hg (by simp; omega)]
      simp

theorem apply_diff {o n : List UInt8} (ho : o.length ≤ 8192) (hn : n.length ≤ 8192) : applyD o (diffD o n) = .ok n := by
  have c1 := crcOf_le o
  have c2 := crcOf_le n
  unfold applyD diffD
  rw [if_neg (by omega), if_neg (by omega), List.append_assoc]
  have h1 := intAt_put (n := (crcOf o : Int)) (by omega) (by omega) [] (putInt (crcOf n : Int) ++ opsD o (n.length + 1) n [])
  simp only [List.nil_append, List.length_nil, Nat.zero_add] at h1
  rw [h1]
  simp only []
  rw [if_pos trivial]
  have h2 := intAt_put (n := (crcOf n : Int)) (by omega) (by omega) (putInt (crcOf o : Int)) (opsD o (n.length + 1) n [])
  rw [h2]
  simp only []
  have h3 : ∀ F, (opsD o (n.length + 1) n []).length < F → applyGo F o (putInt (crcOf o : Int) ++ (putInt (crcOf n : Int) ++ opsD o (n.length + 1) n [])) ((putInt (crcOf o : Int)).length + (putInt (crcOf n : Int)).length) [] = .ok n := by
    intro F hF
    have := apply_ops ho (n.length + 1) n [] (putInt (crcOf o : Int) ++ putInt (crcOf n : Int)) [] F (by omega) hF (by simp; omega)
    rw [List.append_assoc, List.length_append] at this
    exact this
  rw [h3 _ (by simp only [List.length_append]; omega)]
  simp
end Go.Proofs.YtefloieanpgnmaaDoor
/- A delta that is cut off gives a beginning of the text, or nothing: plain. -/
namespace Go.Proofs.YtefloieanpgnmaaDoor

theorem intRest_take {l : List UInt8} {j k : Nat} {n : Int} (h : intRest (l.take j) = some (n, k)) : intRest l = some (n, k) := by
  obtain ⟨h1, h2, h3, h4, h5⟩ := put_int h
  have hkj : k ≤ j := by simp at h4; omega
  rw [List.take_take, Nat.min_eq_left hkj] at h1
  have hl : (putInt n).length = k := by rw [← h1]; simp at h4 ⊢; omega
  have := int_put h2 h3 (l.drop k)
  rw [← h1, List.take_append_drop] at this
  rw [this, h1, hl]

theorem intAt_take {d : List UInt8} {j a : Nat} {r : Int × Nat} (h : intAt (d.take j) a = some r) : intAt d a = some r := by
  unfold intAt at h ⊢
  rw [List.drop_take] at h
  cases hi : intRest ((d.drop a).take (j - a)) with
  | none => rw [hi] at h; cases h
  | some q =>
    obtain ⟨n, k⟩ := q
    rw [hi] at h
    rw [intRest_take hi]; exact h

theorem strAt_take {d x : List UInt8} {j a k2 : Nat} (h : strAt (d.take j) a = some (x, k2)) : strAt d a = some (x, k2) := by
  unfold strAt at h ⊢
  cases hi : intAt (d.take j) a with
  | none => rw [hi] at h; cases h
  | some q =>
    obtain ⟨n, k⟩ := q
    rw [hi] at h
    rw [intAt_take hi]
    simp only [] at h ⊢
    split at h
    · rename_i hn
      obtain ⟨h1, h2, h3⟩ := hn
      simp at h3
      rw [if_pos ⟨h1, h2, by omega⟩, ← h, List.drop_take, List.take_take, Nat.min_eq_left (by omega)]
    · cases h

theorem opAt_take {o d x : List UInt8} {j a k : Nat} (h : opAt o (d.take j) a = .ok (x, k)) : opAt o d a = .ok (x, k) := by
  unfold opAt at h ⊢
  cases hi : intAt (d.take j) a with
  | none => rw [hi] at h; cases h
  | some q =>
    obtain ⟨n, k1⟩ := q
    rw [hi] at h
    rw [intAt_take hi]
    simp only [] at h ⊢
    split at h
    · cases h
    · rename_i hn
      rw [if_neg hn]
      split at h
      · rename_i hz
        rw [if_pos hz]
        cases hs : strAt (d.take j) k1 with
        | none => rw [hs] at h; cases h
        | some q =>
          rw [hs] at h
          rw [strAt_take hs]; exact h
      · rename_i hz
        rw [if_neg hz]
        cases hs : intAt (d.take j) k1 with
        | none => rw [hs] at h; cases h
        | some q =>
          rw [hs] at h
          rw [intAt_take hs]; exact h

theorem applyGo_pre {o d : List UInt8} : ∀ {f a : Nat} {out t : List UInt8}, applyGo f o d a out = .ok t → out <+: t
  | 0, a, out, t, h => by rw [applyGo] at h; cases h; exact List.prefix_refl _
  | f + 1, a, out, t, h => by
    rw [applyGo] at h
    split at h
    · cases h; exact List.prefix_refl _
    · cases hop : opAt o d a with
      | error e => rw [hop] at h; cases h
      | ok q =>
        obtain ⟨x, k⟩ := q
        rw [hop] at h
        simp only [] at h
        split at h
        · exact (List.prefix_append _ _).trans (applyGo_pre h)
        · cases h

theorem applyGo_take {o d : List UInt8} {j : Nat} : ∀ {f f' a : Nat} {out t t' : List UInt8}, applyGo f o (d.take j) a out = .ok t → applyGo f' o d a out = .ok t' → d.length < a + f' → a ≤ (d.take j).length → t <+: t'
  | 0, f', a, out, t, t', h, h', _, _ => by rw [applyGo] at h; cases h; exact applyGo_pre h'
  | f + 1, f', a, out, t, t', h, h', hf, ha => by
    rw [applyGo] at h
    split at h
    · cases h; exact applyGo_pre h'
    · rename_i hlt
      cases hop : opAt o (d.take j) a with
      | error e => rw [hop] at h; cases h
      | ok q =>
        obtain ⟨x, k⟩ := q
        rw [hop] at h
        simp only [] at h
        have hle := opAt_le ha hop
        have hd : (d.take j).length ≤ d.length := by simp; omega
        obtain ⟨f', rfl⟩ : ∃ g, f' = g + 1 := ⟨f' - 1, by omega⟩
        rw [applyGo, if_neg (by omega), opAt_take hop] at h'
        simp only [] at h'
        split at h
        · rename_i hx
          rw [if_pos hx] at h'
          exact applyGo_take h h' (by omega) hle.2.1
        · cases h

/-- what a delta that Diff wrote gives of whatever base, cut off or not -/
theorem apply_cut {b o n t : List UInt8} {j : Nat} (ho : o.length ≤ 8192) (hn : n.length ≤ 8192) (h : applyD b ((diffD o n).take j) = .ok t) : crcOf b = crcOf o ∧ crcOf t = crcOf n ∧ (b = o → t <+: n) := by
  have hf := apply_diff ho hn
  have c1 := crcOf_le o
  have c2 := crcOf_le n
  obtain ⟨d, hd⟩ : ∃ d, diffD o n = d := ⟨_, rfl⟩
  have i1 : intAt d 0 = some ((crcOf o : Int), (putInt (crcOf o : Int)).length) := by
    rw [← hd]; unfold diffD; rw [if_neg (by omega), List.append_assoc]
    have h1 := intAt_put (n := (crcOf o : Int)) (by omega) (by omega) [] (putInt (crcOf n : Int) ++ opsD o (n.length + 1) n [])
    simpa using h1
  have i2 : intAt d (putInt (crcOf o : Int)).length = some ((crcOf n : Int), (putInt (crcOf o : Int)).length + (putInt (crcOf n : Int)).length) := by
    rw [← hd]; unfold diffD; rw [if_neg (by omega), List.append_assoc]
    exact intAt_put (n := (crcOf n : Int)) (by omega) (by omega) (putInt (crcOf o : Int)) (opsD o (n.length + 1) n [])
  rw [hd] at h hf
  clear hd
  unfold applyD at h hf
  rw [if_neg (by omega), i1] at hf
  simp only [] at hf
  rw [if_pos trivial, i2] at hf
  simp only [] at hf
  split at h
  · cases h
  · cases hi : intAt (d.take j) 0 with
    | none => rw [hi] at h; cases h
    | some p =>
      have e1 := intAt_take hi
      rw [i1] at e1
      cases e1
      rw [hi] at h
      simp only [] at h
      split at h
      · rename_i hsum
        cases hi2 : intAt (d.take j) (putInt (crcOf o : Int)).length with
        | none => rw [hi2] at h; cases h
        | some q =>
          have e2 := intAt_take hi2
          rw [i2] at e2
          cases e2
          rw [hi2] at h
          simp only [] at h
          cases hg : applyGo ((d.take j).length + 1) b (d.take j) ((putInt (crcOf o : Int)).length + (putInt (crcOf n : Int)).length) [] with
          | error e => rw [hg] at h; cases h
          | ok out =>
            rw [hg] at h
            simp only [] at h
            split at h
            · rename_i hw
              cases h
              refine ⟨by omega, by omega, fun hb => ?_⟩
              subst hb
              cases hg' : applyGo (d.length + 1) b d ((putInt (crcOf b : Int)).length + (putInt (crcOf n : Int)).length) [] with
              | error e => rw [hg'] at hf; cases hf
              | ok out' =>
                rw [hg'] at hf
                simp only [] at hf
                split at hf
                · cases hf
                  exact applyGo_take hg hg' (by omega) (intAt_le (by have := intAt_le (by omega) hi; omega) hi2).2.1
                · cases hf
            · cases h
      · cases h

theorem opsD_len {o : List UInt8} (ho : o.length ≤ 8192) : ∀ (f : Nat) (rest fresh : List UInt8), fresh.length + rest.length ≤ 8192 → (opsD o f rest fresh).length ≤ 18 + fresh.length + 100 * rest.length
  | 0, _, _, _ => by simp [opsD]
  | f + 1, [], fresh, h => by
    rw [opsD]
    have := insD_len (x := fresh) (by simp at h; omega)
    omega
  | f + 1, c :: t, fresh, h => by
    rw [opsD]
    simp only [List.length_cons] at h ⊢
    have hok := longD_ok o (c :: t)
    have hi := insD_len (x := fresh) (by omega)
    split
    · rename_i h8
      have hb : (longD o (c :: t)).1 ≤ t.length + 1 := by simpa using hok.1
      have lb := putInt_len (n := ((longD o (c :: t)).1 : Int)) (by omega) (by omega)
      have lo := putInt_len (n := ((longD o (c :: t)).2 : Int)) (by omega) (by omega)
      have := opsD_len ho f ((c :: t).drop (longD o (c :: t)).1) [] (by simp; omega)
      simp only [List.length_append, List.length_drop, List.length_cons, List.length_nil] at this ⊢
      omega
    · have := opsD_len ho f t (fresh ++ [c]) (by simp; omega)
      simp at this; omega

theorem diffD_len (o n : List UInt8) : (diffD o n).length ≤ 40 + 100 * n.length := by
  unfold diffD
  split
  · simp
  · have l1 := putInt_len (crcOf_int o).1 (crcOf_int o).2
    have l2 := putInt_len (crcOf_int n).1 (crcOf_int n).2
    have := opsD_len (o := o) (by omega) (n.length + 1) n [] (by simp; omega)
    simp only [List.length_append, List.length_nil] at this ⊢
    omega
end Go.Proofs.YtefloieanpgnmaaDoor
/- Plain: what a sender keeps stays well. -/
namespace Go.Proofs.YtefloieanpgnmaaDoor

theorem SenOk.tgt {S : Sen} (h : SenOk S) (i : Nat) (now : Int) : (S.tgt i now).txt.length ≤ 8192 ∧ S.tgt i now ≠ .unk := by
  unfold Sen.tgt
  split
  · exact ⟨by simp [Kn.txt], by simp⟩
  · exact h.wanted i
/-- one story is replaced -/
theorem SenOk.upd1 {S : Sen} (h : SenOk S) (i : Nat) (x : Sto) (c : Int) (hc : S.counter ≤ c ∧ c ≤ 4611686018427387903) (hw : x.wanted.txt.length ≤ 8192 ∧ x.wanted ≠ .unk) (hh : x.held.txt.length ≤ 8192) (ho : ∀ o, x.out = some o → 1 ≤ o.msg.seq ∧ o.msg.seq ≤ c ∧ o.text.txt.length ≤ 8192 ∧ o.msg.data.length ≤ 1000000 ∧ (-9223372036854775808 ≤ o.tm ∧ o.tm ≤ 9223372036854775807))
    (ha : ∀ m, x.acked = some m → m.data.length ≤ 1000000) (hd : ∀ o, x.out = some o → ∀ j o', j ≠ i → (S.st j).out = some o' → o.msg.seq ≠ o'.msg.seq) : SenOk { S with counter := c, st := upd S.st i x } := by
  have hcc := h.counter
  have hst : ∀ j, upd S.st i x j = if j = i then x else S.st j := fun j => rfl
  refine ⟨h.partner, h.lease, ⟨by simp only; omega, by simp only; omega⟩, h.audit, fun j => ?_, fun j => ?_, fun j o hj => ?_, fun j m hj => ?_, fun j k o o' h1 h2 h3 => ?_⟩
  · simp only [hst]
    split
    · exact hw
    · exact h.wanted j
  · simp only [hst]
    split
    · exact hh
    · exact h.held j
  · simp only [hst] at hj
    simp only
    split at hj
    · exact ho o hj
    · have := h.outs j o hj
      exact ⟨this.1, by omega, this.2.2⟩
  · simp only [hst] at hj
    split at hj
    · exact ha m hj
    · exact h.acked j m hj
  · simp only [hst] at h1 h2
    by_cases e1 : j = i
    · by_cases e2 : k = i
      · rw [e1, e2]
      · rw [if_pos e1] at h1
        rw [if_neg e2] at h2
        exact absurd h3 (hd o h1 k o' e2 h2)
    · by_cases e2 : k = i
      · rw [if_neg e1] at h1
        rw [if_pos e2] at h2
        exact absurd h3.symm (hd o' h2 j o e1 h1)
      · rw [if_neg e1] at h1
        rw [if_neg e2] at h2
        exact h.apart j k o o' h1 h2 h3
/-- a story loses its message -/
theorem SenOk.lose {S : Sen} (h : SenOk S) (i : Nat) (k : Kn) (a : Option Msg) (c : Int) (hc : S.counter ≤ c ∧ c ≤ 4611686018427387903) (hk : k.txt.length ≤ 8192) (ha : ∀ m, a = some m → m.data.length ≤ 1000000) : SenOk { S with counter := c, st := upd S.st i { S.st i with held := k, out := none, acked := a } } :=
  h.upd1 i _ c hc (h.wanted i) hk (fun o ho => by cases ho) ha (fun o ho => by cases ho)
theorem baseOf_some {k : Kn} {h : List UInt8} (e : baseOf k = some h) : k = .pres h ∧ crcOf h ≠ 0 := by
  unfold baseOf at e
  split at e
  · rename_i x
    split at e
    · cases e
    · rename_i hx
      cases e
      exact ⟨rfl, hx⟩
  · cases e
theorem nextMsg_seq (S : Sen) (i : Nat) (t : Kn) : (nextMsg S i t).seq = S.counter + 1 := by
  unfold nextMsg
  split
  · split <;> rfl
  · rfl
theorem nextMsg_data {S : Sen} (i : Nat) {t : Kn} (ht : t.txt.length ≤ 8192) : (nextMsg S i t).data.length ≤ 1000000 := by
  unfold nextMsg
  split
  · rename_i x
    simp only [Kn.txt] at ht
    split
    · rename_i h _
      have := diffD_len h x
      simp only; omega
    · have := diffD_len [] x
      simp only; omega
  · simp
theorem SenOk.outNew {S : Sen} (h : SenOk S) (now : Int) (i : Nat) (hc : S.counter < 4611686018427387903) : SenOk (outNew S now i) := by
  have hcc := h.counter
  refine h.upd1 i _ (S.counter + 1) ⟨by omega, by omega⟩ (h.wanted i) (h.held i) (fun o ho => ?_) (h.acked i) fun o ho j o' hj ho' => ?_
  · cases ho
    simp only
    rw [nextMsg_seq]
    exact ⟨by omega, by omega, (h.tgt i now).1, nextMsg_data i (h.tgt i now).1, by decide, by decide⟩
  · cases ho
    simp only
    rw [nextMsg_seq]
    have := (h.outs j o' ho').2.1
    omega
theorem SenOk.fill1 {S : Sen} (h : SenOk S) (now : Int) (c n i : Nat) : SenOk (fill1 now c (S, n) i).1 := by
  unfold Proofs.YtefloieanpgnmaaDoor.fill1
  split
  · exact h
  · rename_i hs
    refine h.outNew now i (Decidable.byContradiction fun hn => hs ?_)
    have hm : decide (maxI ≤ S.counter) = true := by rw [decide_eq_true_iff]; unfold maxI; omega
    unfold skips
    simp only
    rw [hm, Bool.or_true]
theorem SenOk.drop {S : Sen} (h : SenOk S) (now : Int) (k : Nat) : SenOk (S.drops now k) := by
  have hst : ∀ j, ((S.drops now k).st j).wanted = (S.st j).wanted ∧ ((S.drops now k).st j).acked = (S.st j).acked ∧ (((S.drops now k).st j).held = (S.st j).held ∨ ((S.drops now k).st j).held = .unk) ∧ (∀ o, ((S.drops now k).st j).out = some o → (S.st j).out = some o) := by
    intro j
    unfold Sen.drops
    simp only
    split
    · unfold drop1
      cases ho : (S.st j).out with
      | none => exact ⟨rfl, rfl, .inl rfl, fun o h => by have h : (S.st j).out = some o := h; rw [ho] at h; cases h⟩
      | some o =>
        simp only
        split
        · exact ⟨rfl, rfl, .inl rfl, fun o' h => by have h : (S.st j).out = some o' := h; rw [ho] at h; exact h⟩
        · refine ⟨rfl, rfl, ?_, fun o' h => by cases h⟩
          simp only
          split
          · exact .inr rfl
          · exact .inl rfl
    · exact ⟨rfl, rfl, .inl rfl, fun o h => h⟩
  refine ⟨h.partner, h.lease, h.counter, h.audit, fun i => by rw [(hst i).1]; exact h.wanted i, fun i => ?_, fun i o ho => h.outs i o ((hst i).2.2.2 o ho), fun i m hm => h.acked i m (by rw [← (hst i).2.1]; exact hm), fun i j o o' h1 h2 h3 => h.apart i j o o' ((hst i).2.2.2 o h1) ((hst j).2.2.2 o' h2) h3⟩
  rcases (hst i).2.2.1 with e | e
  · rw [e]; exact h.held i
  · rw [e]; simp [Kn.txt]
end Go.Proofs.YtefloieanpgnmaaDoor
/- Plain: how many messages are out. -/
namespace Go.Proofs.YtefloieanpgnmaaDoor

theorem sel_len (S : Sen) : (S.sel (fun _ => true)).length = S.outs := by
  unfold Sen.sel Sen.outs
  rw [List.length_mergeSort, List.countP_eq_length_filter]
  congr 1
  refine List.filter_congr fun i _ => ?_
  cases (S.st i).out <;> rfl
theorem outs_le (S : Sen) : S.outs ≤ 64 := by
  unfold Sen.outs
  have := List.countP_le_length (p := fun i => (S.st i).out.isSome) (l := List.range 64)
  simpa using this
theorem fillC_zero (now : Int) (c : Nat) (X : Sen × Nat) : fillC now c X 0 = X := rfl
theorem fillK_zero (now : Int) (X : Sen × Nat) : fillK now X 0 = X := rfl
theorem fill1_skip {now : Int} {c : Nat} {X : Sen × Nat} {i : Nat} (h : skips now c X i = true) : fill1 now c X i = X := by unfold fill1; rw [if_pos h]
theorem fill1_new {now : Int} {c : Nat} {X : Sen × Nat} {i : Nat} (h : skips now c X i = false) : fill1 now c X i = (outNew X.1 now i, X.2 + 1) := by unfold fill1; rw [if_neg (by rw [h]; decide)]
theorem skips_false {now : Int} {c : Nat} {X : Sen × Nat} {i : Nat} (h : skips now c X i = false) : (X.1.st i).out = none ∧ (X.1.st i).held.is (X.1.tgt i now) = false ∧ cls c (X.1.st i).held (X.1.tgt i now) = true ∧ X.2 < 16 ∧ X.1.counter < 4611686018427387903 := by
  unfold skips at h
  simp only [Bool.or_eq_false_iff, decide_eq_false_iff_not, maxI] at h
  obtain ⟨⟨⟨⟨h1, h2⟩, h3⟩, h4⟩, h5⟩ := h
  exact ⟨by simpa using h1, h2, by simpa using h3, by omega, by unfold maxI at h5; have := of_decide_eq_false h5; omega⟩
end Go.Proofs.YtefloieanpgnmaaDoor
/- The law's world: a network that loses, repeats and reorders, and the partner: plain definitions. -/
namespace Go.Proofs.YtefloieanpgnmaaDoor

def txtHead : List UInt8 := [84, 104, 101, 32, 116, 101, 120, 116, 32, 119, 105, 116, 104, 32, 110, 117, 109, 98, 101, 114, 32]
def txtTail : List UInt8 := [32, 111, 102, 32, 116, 104, 101, 32, 115, 116, 111, 114, 121, 32, 105, 115, 32, 108, 111, 110, 103, 32, 101, 110, 111, 117, 103, 104, 32, 116, 111, 32, 98, 101, 32, 99, 111, 112, 105, 101, 100, 46]
def txtOf (i : Nat) : List UInt8 := txtHead ++ [UInt8.ofNat (48 + i / 10), UInt8.ofNat (48 + i % 10)] ++ txtTail
theorem txt_len (i : Nat) : (txtOf i).length = 65 := by simp [txtOf, txtHead, txtTail]
theorem txt_crc : (((List.range 100).map fun i => crcOf (txtOf i)).Nodup ∧ (0 : Nat) ∉ (List.range 100).map fun i => crcOf (txtOf i)) := by decide +kernel

def updF {α : Type} (f : Nat → α) (i : Nat) (x : α) : Nat → α := fun j => if j = i then x else f j
theorem updF_same {α : Type} (f : Nat → α) (i : Nat) (x : α) : updF f i x i = x := by simp [updF]
theorem updF_ne {α : Type} {f : Nat → α} {i j : Nat} {x : α} (h : j ≠ i) : updF f i x j = f j := by simp [updF, h]

structure Peer where
  seq : Nat → Int
  has : Nat → Bool
  text : Nat → List UInt8
def peer0 : Peer := ⟨fun _ => 0, fun _ => false, fun _ => []⟩
def Peer.sum (p : Peer) (i : Nat) : Int := if p.has i then (crcOf (p.text i) : Int) else 0
def ackOf (m : Msg) (q v : Int) : Msg := ⟨3, m.partner, q, m.story, 0, v, []⟩
def rejOf (m : Msg) (q b : Int) : Msg := ⟨4, m.partner, q, m.story, b, 0, []⟩
def Peer.take (p : Peer) (i : Nat) (q : Int) (h : Bool) (t : List UInt8) : Peer := ⟨updF p.seq i q, updF p.has i h, updF p.text i t⟩
/-- what the delivery m makes of the copy -/
def Peer.made (p : Peer) (m : Msg) : Option (List UInt8) :=
  match applyD (if m.base = 0 then [] else p.text m.story.toNat) m.data with
  | .ok t => if (crcOf (if m.base = 0 then [] else p.text m.story.toNat) : Int) = m.base ∧ (crcOf t : Int) = m.version then some t else none
  | .error _ => none
def Peer.answer (p : Peer) (m : Msg) : Msg × Peer :=
  if m.story < 1 ∨ 64 < m.story then (ackOf m m.seq 0, p)
  else if m.seq ≤ p.seq m.story.toNat then
    (if m.seq = p.seq m.story.toNat then ackOf m (p.seq m.story.toNat) (p.sum m.story.toNat) else rejOf m (p.seq m.story.toNat) (p.sum m.story.toNat), p)
  else if m.kind = 1 then
    match p.made m with
    | some t => (ackOf m m.seq m.version, p.take m.story.toNat m.seq true t)
    | none => (rejOf m m.seq (p.sum m.story.toNat), p)
  else (ackOf m m.seq 0, p.take m.story.toNat m.seq false [])

/-- the world of the law -/
structure Wld where
  now : Int
  lease : Int
  wanted : Nat → Nat
  flight : List Msg
  answers : List Msg
  p : Peer
def wld0 : Wld := ⟨100, 1000, fun _ => 0, [], [], peer0⟩
def Wld.items (W : Wld) : List (Int × List UInt8) := (List.range 64).filterMap fun i => if W.wanted (i + 1) = 0 then none else some ((i : Int) + 1, txtOf (W.wanted (i + 1) - 1))

inductive Cal where
  | none : Cal
  | want (now : Int) (l : List (Int × List UInt8)) : Cal
  | lease (u : Int) : Cal
  | recv (now : Int) (m : Msg) : Cal
  | tick (now : Int) : Cal
def pickD (c n : Int) : Int := if c < 0 then (-(c + 1)) % n else c % n
structure Op3 where
  kind : Int
  story : Int
  n : Int
def Wld.next (W : Wld) (o : Op3) : Cal × Wld :=
  if pickD o.kind 11 ≤ 1 then
    let W' := { W with wanted := updF W.wanted ((if pickD o.kind 22 < 11 then 1 + pickD o.story 6 else 1 + pickD o.story 64).toNat) (pickD o.n 101).toNat }
    (.want W.now W'.items, W')
  else if pickD o.kind 11 = 2 then (.lease (W.now + pickD o.n 40 - 5), { W with lease := W.now + pickD o.n 40 - 5 })
  else if pickD o.kind 11 ≤ 4 then (.tick (W.now + pickD o.n 5), { W with now := W.now + pickD o.n 5 })
  else if pickD o.kind 11 = 5 then (.tick (W.now - pickD o.n 30), { W with now := W.now - pickD o.n 30 })
  else if pickD o.kind 11 ≤ 7 then
    match W.flight[(pickD o.story W.flight.length).toNat]? with
    | some m => (.none, { W with answers := W.answers ++ [(W.p.answer m).1], p := (W.p.answer m).2, flight := if 0 < pickD o.n 3 then W.flight.eraseIdx (pickD o.story W.flight.length).toNat else W.flight })
    | none => (.none, W)
  else if pickD o.kind 11 = 8 then (.none, { W with flight := W.flight.eraseIdx (pickD o.story W.flight.length).toNat })
  else
    match W.answers[(pickD o.story W.answers.length).toNat]? with
    | some m => (.recv W.now m, { W with answers := if 0 < pickD o.n 3 then W.answers.eraseIdx (pickD o.story W.answers.length).toNat else W.answers })
    | none => (.none, W)
def Cal.perform (c : Cal) (S : Sen) : List Msg × Sen := match c with
  | .none => ([], S)
  | .want now l => ([], S.want now l)
  | .lease u => ([], { S with lease := u })
  | .recv now m => ([], S.recv now m)
  | .tick now => S.tick now
def trimF (l : List Msg) : List Msg := if 200 < l.length then l.drop 100 else l
/-- a step; t: is what is on its way trimmed -/
def step1 (t : Bool) (X : Wld × Sen) (o : Op3) : Wld × Sen :=
  ({ (X.1.next o).2 with flight := (if t then trimF ((X.1.next o).2.flight ++ ((X.1.next o).1.perform X.2).1) else (X.1.next o).2.flight ++ ((X.1.next o).1.perform X.2).1) }, ((X.1.next o).1.perform X.2).2)
def runD (t : Bool) (X : Wld × Sen) (l : List Op3) : Wld × Sen := l.foldl (step1 t) X
/-- a message is sent, answered, and the answer received -/
def give1 (now : Int) (X : Peer × Sen) (m : Msg) : Peer × Sen := ((X.1.answer m).2, X.2.recv now (X.1.answer m).1)
def beat (X : Wld × Sen) : Wld × Sen :=
  let t := X.2.tick (X.1.now + 1)
  let g := t.1.foldl (give1 (X.1.now + 1)) (X.1.p, t.2)
  ({ X.1 with now := X.1.now + 1, p := g.1 }, g.2)
def settleD (X : Wld × Sen) : Nat → Wld × Sen
  | 0 => if X.1.now ≤ X.1.lease then ({ X.1 with lease := X.1.now + 1000 }, { X.2 with lease := X.1.now + 1000 }) else X
  | n + 1 => beat (settleD X n)
def startS : Sen := newS 2 1000
/-- is the sender settled, and has it and the partner exactly the target texts -/
def wantL (W : Wld) : List (Int × List UInt8) := if W.now ≤ W.lease then W.items else []
def completeD (W : Wld) (S : Sen) : Bool :=
  decide (S.heldL = wantL W) && S.settled W.now && (wantL W).all (fun x => W.p.has x.1.toNat && decide (W.p.text x.1.toNat = x.2)) && decide (((List.range 64).countP fun i => W.p.has (i + 1)) = (wantL W).length)
end Go.Proofs.YtefloieanpgnmaaDoor

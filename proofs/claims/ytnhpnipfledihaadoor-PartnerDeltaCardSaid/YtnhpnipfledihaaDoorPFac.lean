/- Plain facts about what a partner keeps: deliveries against the copy, against another text; what is kept of one story depends on its messages alone. -/
import Derived.Test.YtnhpnipfledihaaDoorPLawD
import Derived.Test.YtnhpnipfledihaaDoorPLaw4
namespace Go.Proofs.YtnhpnipfledihaaDoor
open Go.RowKit

theorem applied_old (id seq story : Int) {o n : List UInt8} (ho : InW o) (hn : InW n) : applied (deliverOf id seq story o n) o = some n := by
  have h1 := ho.len
  have h2 := hn.len
  have key : (if (crcOf o : Int) = 0 then [] else o) = o := by
    by_cases h : (crcOf o : Int) = 0
    · rw [if_pos h]; exact (words_inj ho inW_nil (by rw [crcOf_nil]; omega)).symm
    · rw [if_neg h]
  unfold applied deliverOf
  simp only [key, if_true]
  rw [apply_diff (by omega) (by omega)]
  simp

theorem applied_wrong (id seq story : Int) {x o n : List UInt8} (hx : InW x) (ho : InW o) : applied (deliverOf id seq story (x ++ [63]) n) o = none := by
  have h0 := words_ask hx inW_nil
  have h1 := words_ask hx ho
  rw [crcOf_nil] at h0
  unfold applied deliverOf
  have e1 : (if (crcOf (x ++ [63]) : Int) = 0 then [] else o) = o := if_neg (by omega)
  simp only [e1]
  rw [if_neg (by omega)]

theorem deliver_valid {id seq story : Int} {o n : List UInt8} (hn : n.length ≤ 132) (h1 : 1 ≤ id) (h2 : id ≤ 8) (h3 : 1 ≤ seq) (h4 : seq ≤ 3001) (h5 : 1 ≤ story) (h6 : story ≤ 64) : (deliverOf id seq story o n).valid = true := by
  have hd := diffD_len o n
  have c1 := crcOf_le o
  have c2 := crcOf_le n
  rw [Msg.valid_iff]; simp [deliverOf]; omega

theorem recv_acc {id : Int} {L : List Ent} {m : Msg} {n : List UInt8} (hv : m.valid = true) (hp : m.partner = id) (hk : m.kind = 1) (hs : (entOf L m.story).seq < m.seq) (ha : applied m (entOf L m.story).text = some n) :
    recv id L m = ([ackOf id m.seq m.story m.version], keepGo ⟨m.story, m.seq, true, n⟩ false L) := by
  unfold recv
  rw [if_pos ⟨hv, hp, .inl hk⟩]
  simp only []
  rw [if_neg (by omega), if_neg (by omega), if_neg (by omega), ha]
theorem recv_rej {id : Int} {L : List Ent} {m : Msg} (hv : m.valid = true) (hp : m.partner = id) (hk : m.kind = 1) (hs : (entOf L m.story).seq < m.seq) (ha : applied m (entOf L m.story).text = none) :
    recv id L m = ([rejOf id m.seq m.story (crcOf (entOf L m.story).text)], L) := by
  unfold recv
  rw [if_pos ⟨hv, hp, .inl hk⟩]
  simp only []
  rw [if_neg (by omega), if_neg (by omega), if_neg (by omega), ha]

theorem copy_kept (s q : Int) (n : List UInt8) (L : List Ent) : copyF (keepGo ⟨s, q, true, n⟩ false L) s = some n := by
  rw [copyF_keep]; simp

/-- a delivery with the next number that applies to the copy -/
theorem recv_next {id s : Int} {L : List Ent} {o n : List UInt8} (hK : Kept L) (hT : TextsOk L) (h1 : 1 ≤ id) (h2 : id ≤ 8) (h5 : 1 ≤ s) (h6 : s ≤ 64) (hn : InW n)
    (ha : applied (deliverOf id ((entOf L s).seq + 1) s o n) (entOf L s).text = some n) :
    ∃ L', recv id L (deliverOf id ((entOf L s).seq + 1) s o n) = ([ackOf id ((entOf L s).seq + 1) s (crcOf n)], L') ∧ copyF L' s = some n :=
  ⟨_, recv_acc (m := deliverOf id ((entOf L s).seq + 1) s o n) (deliver_valid hn.len h1 h2 (by have := (hK.ent s).1; omega) (by have := (hT s).2; omega) h5 h6) rfl rfl (by show (entOf L s).seq < (entOf L s).seq + 1; omega) ha, copy_kept _ _ _ _⟩
theorem recv_delta {id s : Int} {L : List Ent} {n : List UInt8} (hK : Kept L) (hT : TextsOk L) (h1 : 1 ≤ id) (h2 : id ≤ 8) (h5 : 1 ≤ s) (h6 : s ≤ 64) (hn : InW n) :
    ∃ L', recv id L (deliverOf id ((entOf L s).seq + 1) s (entOf L s).text n) = ([ackOf id ((entOf L s).seq + 1) s (crcOf n)], L') ∧ copyF L' s = some n :=
  recv_next hK hT h1 h2 h5 h6 hn (applied_old _ _ _ (hT s).1 hn)
theorem recv_fresh {id s : Int} {L : List Ent} {n : List UInt8} (hK : Kept L) (hT : TextsOk L) (h1 : 1 ≤ id) (h2 : id ≤ 8) (h5 : 1 ≤ s) (h6 : s ≤ 64) (hn : InW n) :
    ∃ L', recv id L (deliverOf id ((entOf L s).seq + 1) s [] n) = ([ackOf id ((entOf L s).seq + 1) s (crcOf n)], L') ∧ copyF L' s = some n :=
  recv_next hK hT h1 h2 h5 h6 hn (applied_fresh _ _ _ (by have := hn.len; omega) _)
theorem recv_wrong {id s : Int} {L : List Ent} {x n : List UInt8} (hK : Kept L) (hT : TextsOk L) (h1 : 1 ≤ id) (h2 : id ≤ 8) (h5 : 1 ≤ s) (h6 : s ≤ 64) (hx : InW x) (hn : InW n) :
    recv id L (deliverOf id ((entOf L s).seq + 1) s (x ++ [63]) n) = ([rejOf id ((entOf L s).seq + 1) s (crcOf (entOf L s).text)], L) :=
  recv_rej (m := deliverOf id ((entOf L s).seq + 1) s (x ++ [63]) n) (deliver_valid hn.len h1 h2 (by have := (hK.ent s).1; omega) (by have := (hT s).2; omega) h5 h6) rfl rfl (by show (entOf L s).seq < (entOf L s).seq + 1; omega) (applied_wrong _ _ _ hx (hT s).1)

/-- the answer depends on what is kept of the story alone -/
theorem recv_local {id : Int} {L M : List Ent} {m : Msg} (h : entOf L m.story = entOf M m.story) : (recv id L m).1 = (recv id M m).1 ∧ entOf (recv id L m).2 m.story = entOf (recv id M m).2 m.story := by
  unfold recv
  split
  · simp only [h]
    split
    · exact ⟨rfl, h⟩
    · split
      · exact ⟨rfl, h⟩
      · split
        · refine ⟨rfl, ?_⟩
          have e1 := entOf_keep_same ⟨m.story, m.seq, false, []⟩ L
          have e2 := entOf_keep_same ⟨m.story, m.seq, false, []⟩ M
          simp only [] at e1 e2 ⊢
          rw [e1, e2]
        · cases applied m (entOf M m.story).text with
          | none => exact ⟨rfl, h⟩
          | some t =>
            refine ⟨rfl, ?_⟩
            have e1 := entOf_keep_same ⟨m.story, m.seq, true, t⟩ L
            have e2 := entOf_keep_same ⟨m.story, m.seq, true, t⟩ M
            simp only [] at e1 e2 ⊢
            rw [e1, e2]
  · exact ⟨rfl, h⟩
/-- of the other stories the same is kept -/
theorem recv_other {id s : Int} {L : List Ent} {m : Msg} (h : s ≠ m.story) : entOf (recv id L m).2 s = entOf L s := by
  unfold recv
  split
  · simp only []
    split
    · rfl
    · split
      · rfl
      · split
        · exact entOf_keep_other ⟨m.story, m.seq, false, []⟩ L s h
        · split
          · exact entOf_keep_other ⟨m.story, m.seq, true, _⟩ L s h
          · rfl
  · rfl

/-- of one story at most one is listed -/
theorem items_one {L : List Ent} {s : Int} (hK : Kept L) (h5 : 1 ≤ s) (h6 : s ≤ 64) (h : ∀ j, j ≠ s → copyF L j = none) : itemsL L = match copyF L s with | some t => [(s, t)] | none => [] := by
  rw [← hK.items]
  have key : ∀ n : Nat, itemsF (copyF L) n = if s ≤ (n : Int) then (match copyF L s with | some t => [(s, t)] | none => []) else [] := by
    intro n
    induction n with
    | zero => rw [if_neg (by omega)]; rfl
    | succ n ih =>
      rw [itemsF_succ, ih]
      by_cases h1 : s ≤ (n : Int)
      · rw [if_pos h1, if_pos (by omega), h ((n : Int) + 1) (by omega)]; simp
      · rw [if_neg h1]
        by_cases h2 : s = (n : Int) + 1
        · subst h2; rw [if_pos (by omega)]; cases copyF L ((n : Int) + 1) <;> rfl
        · rw [if_neg (by omega), h ((n : Int) + 1) (by omega)]; rfl
  rw [key 64, if_pos (by omega)]

theorem copy_out {L : List Ent} (hK : Kept L) {s : Int} (h : s < 1 ∨ 64 < s) : copyF L s = none := by
  unfold copyF
  rw [entOf_out (fun e he => by have := hK.lo e he; omega)]
  rfl
end Go.Proofs.YtnhpnipfledihaaDoor

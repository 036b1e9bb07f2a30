/- The program's partner: what it keeps, in memory. -/
import Derived.Test.YtnhpnipfledihaaDoorParA
namespace Go.Proofs.YtnhpnipfledihaaDoor
open Go.RowKit

/-- Below n₀ all but blocks b1 and b2 lies as it lay. -/
structure ButTwo (n₀ b1 b2 : Nat) (w w' : World) : Prop where
  os : w'.os = w.os
  tape : w'.tape = w.tape
  output : w'.output = w.output
  size : w.heap.size ≤ w'.heap.size
  block : ∀ k, k < n₀ → k ≠ b1 → k ≠ b2 → w'.heap[k]? = w.heap[k]?

theorem ButTwo.of_below {n b1 b2 : Nat} {w w' : World} (h : Below n w w') : ButTwo n b1 b2 w w' := ⟨h.os, h.tape, h.output, h.size, fun k hk _ _ => h.block k hk⟩
theorem ButTwo.trans {n b1 b2 : Nat} {a b c : World} (h : ButTwo n b1 b2 a b) (k : ButTwo n b1 b2 b c) : ButTwo n b1 b2 a c :=
  ⟨k.os.trans h.os, k.tape.trans h.tape, k.output.trans h.output, Nat.le_trans h.size k.size, fun i hi h1 h2 => (k.block i hi h1 h2).trans (h.block i hi h1 h2)⟩
theorem ButTwo.below {n m b1 b2 : Nat} {w w' : World} (h : ButTwo n b1 b2 w w') (hm : m ≤ n) (h1 : m ≤ b1) (h2 : m ≤ b2) : Below m w w' := ⟨h.os, h.tape, h.output, h.size, fun k hk => h.block k (by omega) (by omega) (by omega)⟩
theorem ButTwo.mono {n m b1 b2 : Nat} {w w' : World} (h : ButTwo n b1 b2 w w') (hm : m ≤ n) : ButTwo m b1 b2 w w' := ⟨h.os, h.tape, h.output, h.size, fun k hk => h.block k (by omega)⟩
theorem ButTwo.one {n b1 b2 : Nat} {w w' : World} (h : w.grownBy w' (some b1)) (hn : n ≤ w.heap.size) : ButTwo n b1 b2 w w' :=
  ⟨h.os, h.tape, h.output, h.size, fun k hk h1 _ => h.block k (by omega) (fun e => h1 (by cases e; rfl))⟩
theorem ButTwo.two {n b1 b2 : Nat} {w w' : World} (h : w.grownBy w' (some b2)) (hn : n ≤ w.heap.size) : ButTwo n b1 b2 w w' :=
  ⟨h.os, h.tape, h.output, h.size, fun k hk _ h2 => h.block k (by omega) (fun e => h2 (by cases e; rfl))⟩

theorem IMap.obj {b n : Nat} {f : Int → Int} {w : World} (h : IMap b n f w) : ∃ es c, w.heap[b]? = some (.map es c) := by
  obtain ⟨D, ⟨es, clock, hb, r⟩, hf⟩ := h
  exact ⟨es, clock, hb⟩
theorem SMap.obj {b n : Nat} {f : Int → Option (List UInt8)} {w : World} (h : SMap b n f w) : ∃ es c, w.heap[b]? = some (.map es c) := by
  obtain ⟨D, ⟨es, clock, hb, r⟩, hf⟩ := h
  exact ⟨es, clock, hb⟩

/-- a partner of the program in block p, with its maps in b1 and b2: it keeps L -/
structure PAt (p b1 b2 : Nat) (id : Int) (L : List Ent) (N : Nat) (w : World) : Prop where
  cells : w.heap[p]? = some (.cells #[.int .i64 id, .map (some b1), .map (some b2)] 71 (0, 0))
  seqs : ∃ n, n ≤ N ∧ IMap b1 n (seqF L) w
  copies : ∃ n, n ≤ N ∧ SMap b2 n (copyF L) w
  ne : b1 ≠ b2
  kept : Kept L

theorem PAt.keep {p b1 b2 N : Nat} {id : Int} {L : List Ent} {w w' : World} (h : PAt p b1 b2 id L N w) (hp : w'.heap[p]? = w.heap[p]?) (h1 : w'.heap[b1]? = w.heap[b1]?) (h2 : w'.heap[b2]? = w.heap[b2]?) : PAt p b1 b2 id L N w' := by
  obtain ⟨hc, ⟨n1, hn1, hs⟩, ⟨n2, hn2, hcp⟩, hne, hk⟩ := h
  exact ⟨hp.trans hc, ⟨n1, hn1, hs.kept h1⟩, ⟨n2, hn2, hcp.kept h2⟩, hne, hk⟩
theorem PAt.lts {p b1 b2 N : Nat} {id : Int} {L : List Ent} {w : World} (h : PAt p b1 b2 id L N w) : p < w.heap.size ∧ b1 < w.heap.size ∧ b2 < w.heap.size := by
  obtain ⟨hc, ⟨n1, hn1, hs⟩, ⟨n2, hn2, hcp⟩, hne, hk⟩ := h
  exact ⟨some_lt hc, hs.lt, hcp.lt⟩
theorem PAt.below {p b1 b2 N : Nat} {id : Int} {L : List Ent} {w w' : World} (h : PAt p b1 b2 id L N w) (hb : Below w.heap.size w w') : PAt p b1 b2 id L N w' :=
  h.keep (hb.block _ h.lts.1) (hb.block _ h.lts.2.1) (hb.block _ h.lts.2.2)
theorem PAt.mono {p b1 b2 N M : Nat} {id : Int} {L : List Ent} {w : World} (h : PAt p b1 b2 id L N w) (hm : N ≤ M) : PAt p b1 b2 id L M w := by
  obtain ⟨hc, ⟨n1, hn1, hs⟩, ⟨n2, hn2, hcp⟩, hne, hk⟩ := h
  exact ⟨hc, ⟨n1, by omega, hs⟩, ⟨n2, by omega, hcp⟩, hne, hk⟩

theorem copyF_kill (s q : Int) (L : List Ent) : (fun j => if j = s then none else copyF L j) = copyF (keepGo ⟨s, q, false, []⟩ false L) := by rw [copyF_keep]; rfl
theorem seqF_put (s q : Int) (h : Bool) (x : List UInt8) (L : List Ent) : (fun j => if j = s then q else seqF L j) = seqF (keepGo ⟨s, q, h, x⟩ false L) := by rw [seqF_keep]
theorem copyF_put (s q : Int) (x : List UInt8) (L : List Ent) : (fun j => if j = s then some x else copyF L j) = copyF (keepGo ⟨s, q, true, x⟩ false L) := by rw [copyF_keep]; rfl

/-- the same, by what the maps hold -/
structure PHalf (p b1 b2 : Nat) (id : Int) (f : Int → Int) (g : Int → Option (List UInt8)) (N M : Nat) (w : World) : Prop where
  cells : w.heap[p]? = some (.cells #[.int .i64 id, .map (some b1), .map (some b2)] 71 (0, 0))
  seqs : ∃ n, n ≤ N ∧ IMap b1 n f w
  copies : ∃ n, n ≤ M ∧ SMap b2 n g w
  ne : b1 ≠ b2

theorem PAt.half {p b1 b2 N : Nat} {id : Int} {L : List Ent} {w : World} (h : PAt p b1 b2 id L N w) : PHalf p b1 b2 id (seqF L) (copyF L) N N w := ⟨h.cells, h.seqs, h.copies, h.ne⟩
theorem PHalf.at {p b1 b2 N M : Nat} {id : Int} {f : Int → Int} {g : Int → Option (List UInt8)} {L : List Ent} {w : World} (h : PHalf p b1 b2 id f g N M w) (hf : f = seqF L) (hg : g = copyF L) (hk : Kept L) {K : Nat} (hN : N ≤ K) (hM : M ≤ K) : PAt p b1 b2 id L K w := by
  subst hf hg
  obtain ⟨h1, ⟨n, hn, h2⟩, ⟨n', hn', h3⟩, h4⟩ := h
  exact ⟨h1, ⟨n, by omega, h2⟩, ⟨n', by omega, h3⟩, h4, hk⟩
theorem PHalf.other {p b1 b2 N M k : Nat} {id : Int} {f : Int → Int} {g : Int → Option (List UInt8)} {w : World} {c : Array Value} {t : TypeId} {fr : Nat × Nat} (h : PHalf p b1 b2 id f g N M w) (hk : w.heap[k]? = some (.cells c t fr)) : k ≠ b1 ∧ k ≠ b2 := by
  obtain ⟨h1, ⟨n1, _, h2⟩, ⟨n2, _, h3⟩, h4⟩ := h
  obtain ⟨e1, x1, o1⟩ := h2.obj
  obtain ⟨e2, x2, o2⟩ := h3.obj
  constructor
  · rintro rfl; rw [o1] at hk; cases hk
  · rintro rfl; rw [o2] at hk; cases hk
theorem PHalf.keep {p b1 b2 N M : Nat} {id : Int} {f : Int → Int} {g : Int → Option (List UInt8)} {w w' : World} (h : PHalf p b1 b2 id f g N M w) (hp : w'.heap[p]? = w.heap[p]?) (h1 : w'.heap[b1]? = w.heap[b1]?) (h2 : w'.heap[b2]? = w.heap[b2]?) : PHalf p b1 b2 id f g N M w' := by
  obtain ⟨hc, ⟨n1, hn1, hs⟩, ⟨n2, hn2, hcp⟩, hne⟩ := h
  exact ⟨hp.trans hc, ⟨n1, hn1, hs.kept h1⟩, ⟨n2, hn2, hcp.kept h2⟩, hne⟩
theorem PHalf.drew {p b1 b2 N M : Nat} {id : Int} {f : Int → Int} {g : Int → Option (List UInt8)} {w : World} (h : PHalf p b1 b2 id f g N M w) : PHalf p b1 b2 id f g N M w.drew := h.keep rfl rfl rfl
theorem PHalf.lts {p b1 b2 N M : Nat} {id : Int} {f : Int → Int} {g : Int → Option (List UInt8)} {w : World} (h : PHalf p b1 b2 id f g N M w) : p < w.heap.size ∧ b1 < w.heap.size ∧ b2 < w.heap.size := by
  obtain ⟨hc, ⟨n1, hn1, hs⟩, ⟨n2, hn2, hcp⟩, hne⟩ := h
  exact ⟨some_lt hc, hs.lt, hcp.lt⟩

theorem PHalf.del {p b1 b2 N M : Nat} {id : Int} {f : Int → Int} {g : Int → Option (List UInt8)} {w : World} (h : PHalf p b1 b2 id f g N M w) {i : Int} (h1 : 1 ≤ i) (h2 : i ≤ 64) (ty : TypeId) :
    ∃ w', (Builtin.delete_ #[69, 3] ty #[.map (some b2), .int .i64 i]).run Tryd.prog w = .ok (.tuple #[]) w' ∧ PHalf p b1 b2 id f (fun j => if j = i then none else g j) N M w' ∧ ButTwo w.heap.size b1 b2 w w' := by
  have ho := h.other h.cells
  obtain ⟨hc, ⟨n1, hn1, hs⟩, ⟨n2, hn2, hcp⟩, hne⟩ := h
  obtain ⟨w', hr, hm, hg⟩ := hcp.del (i := i) (by omega) (by omega) ty
  have hb : ∀ k, k < w.heap.size → k ≠ b2 → w'.heap[k]? = w.heap[k]? := fun k hk hk2 => hg.block k hk (fun e => hk2 (by cases e; rfl))
  exact ⟨w', hr, ⟨(hb _ (some_lt hc) ho.2).trans hc, ⟨n1, hn1, hs.kept (hb _ hs.lt hne)⟩, ⟨n2, hn2, hm⟩, hne⟩, ButTwo.two hg (Nat.le_refl _)⟩

theorem PHalf.putc {p b1 b2 N M : Nat} {id : Int} {f : Int → Int} {g : Int → Option (List UInt8)} {w : World} (h : PHalf p b1 b2 id f g N M w) (hM : M ≤ 1000) {i : Int} {x : List UInt8} (h1 : 1 ≤ i) (h2 : i ≤ 64) (hx : x.length ≤ 8192) :
    ∃ w', (Instr.mapUpdate 69 (.map (some b2)) (.int .i64 i) (.string ⟨x.toArray⟩)).run Tryd.prog w = .ok () w' ∧ PHalf p b1 b2 id f (fun j => if j = i then some x else g j) N (M + 1) w' ∧ ButTwo w.heap.size b1 b2 w w' := by
  have ho := h.other h.cells
  obtain ⟨hc, ⟨n1, hn1, hs⟩, ⟨n2, hn2, hcp⟩, hne⟩ := h
  obtain ⟨w', hr, hm, hg⟩ := hcp.put (by unfold maxLen; omega) (i := i) (x := x) (by omega) (by omega) (by unfold maxLen; omega)
  have hb : ∀ k, k < w.heap.size → k ≠ b2 → w'.heap[k]? = w.heap[k]? := fun k hk hk2 => hg.block k hk (fun e => hk2 (by cases e; rfl))
  exact ⟨w', hr, ⟨(hb _ (some_lt hc) ho.2).trans hc, ⟨n1, hn1, hs.kept (hb _ hs.lt hne)⟩, ⟨n2 + 1, by omega, hm⟩, hne⟩, ButTwo.two hg (Nat.le_refl _)⟩

theorem PHalf.puts {p b1 b2 N M : Nat} {id : Int} {f : Int → Int} {g : Int → Option (List UInt8)} {w : World} (h : PHalf p b1 b2 id f g N M w) (hN : N ≤ 1000) {i v : Int} (h1 : 1 ≤ i) (h2 : i ≤ 64) (h3 : 1 ≤ v) (h4 : v ≤ 4611686018427387903) :
    ∃ w', (Instr.mapUpdate 68 (.map (some b1)) (.int .i64 i) (.int .i64 v)).run Tryd.prog w = .ok () w' ∧ PHalf p b1 b2 id (fun j => if j = i then v else f j) g (N + 1) M w' ∧ ButTwo w.heap.size b1 b2 w w' := by
  have ho := h.other h.cells
  obtain ⟨hc, ⟨n1, hn1, hs⟩, ⟨n2, hn2, hcp⟩, hne⟩ := h
  obtain ⟨w', hr, hm, hg⟩ := hs.put (by unfold maxLen; omega) (i := i) (v := v) (by omega) (by omega) (by omega) (by omega)
  have hb : ∀ k, k < w.heap.size → k ≠ b1 → w'.heap[k]? = w.heap[k]? := fun k hk hk2 => hg.block k hk (fun e => hk2 (by cases e; rfl))
  exact ⟨w', hr, ⟨(hb _ (some_lt hc) ho.1).trans hc, ⟨n1 + 1, by omega, hm⟩, ⟨n2, hn2, hcp.kept (hb _ hcp.lt (fun e => hne e.symm))⟩, hne⟩, ButTwo.one hg (Nat.le_refl _)⟩

theorem PHalf.msg {p b1 b2 N M k : Nat} {id : Int} {f : Int → Int} {g : Int → Option (List UInt8)} {m : Msg} {w w' : World} (h : PHalf p b1 b2 id f g N M w) (hm : MAt k m w) (hb : ButTwo w.heap.size b1 b2 w w') : MAt k m w' :=
  hm.kept (hb.block _ hm.lt (h.other hm).1 (h.other hm).2)
theorem PHalf.pcells {p b1 b2 N M : Nat} {id : Int} {f : Int → Int} {g : Int → Option (List UInt8)} {w : World} (h : PHalf p b1 b2 id f g N M w) : w.cell? ⟨p, 0, none⟩ = some (.int .i64 id) ∧ w.cell? ⟨p, 1, none⟩ = some (.map (some b1)) ∧ w.cell? ⟨p, 2, none⟩ = some (.map (some b2)) := by
  refine ⟨?_, ?_, ?_⟩ <;> (rw [Lib.cell_of_heap h.cells]; rfl)
theorem ButTwo.drew {n b1 b2 : Nat} (w : World) : ButTwo n b1 b2 w w.drew := ButTwo.of_below ((Below.refl n w).drew)
theorem ButTwo.then {b1 b2 : Nat} {a b c : World} (h : ButTwo a.heap.size b1 b2 a b) (k : ButTwo b.heap.size b1 b2 b c) : ButTwo a.heap.size b1 b2 a c := h.trans (k.mono h.size)

theorem valid_held (p M : Nat) (id : Int) (m : Msg) (w : World) (hd : m.data.length ≤ 9223372036854775000)
    (h : w.cell? ⟨p, 0, none⟩ = some (.int .i64 id) ∧ w.cell? ⟨M, 0, none⟩ = some (.int .i64 m.kind) ∧ w.cell? ⟨M, 1, none⟩ = some (.int .i64 m.partner) ∧ w.cell? ⟨M, 2, none⟩ = some (.int .i64 m.seq) ∧ w.cell? ⟨M, 3, none⟩ = some (.int .i64 m.story) ∧ w.cell? ⟨M, 4, none⟩ = some (.int .i64 m.base) ∧ w.cell? ⟨M, 5, none⟩ = some (.int .i64 m.version) ∧ w.cell? ⟨M, 6, none⟩ = some (.string ⟨m.data.toArray⟩)) :
    Calls Tryd.prog 31 #[m.enc] w fun e w' => e = .returned (.bool m.valid) ∧ Below w.heap.size w w' ∧
      (w'.cell? ⟨p, 0, none⟩ = some (.int .i64 id) ∧ w'.cell? ⟨M, 0, none⟩ = some (.int .i64 m.kind) ∧ w'.cell? ⟨M, 1, none⟩ = some (.int .i64 m.partner) ∧ w'.cell? ⟨M, 2, none⟩ = some (.int .i64 m.seq) ∧ w'.cell? ⟨M, 3, none⟩ = some (.int .i64 m.story) ∧ w'.cell? ⟨M, 4, none⟩ = some (.int .i64 m.base) ∧ w'.cell? ⟨M, 5, none⟩ = some (.int .i64 m.version) ∧ w'.cell? ⟨M, 6, none⟩ = some (.string ⟨m.data.toArray⟩)) := by
  refine (valid_any m w hd).mono ?_
  rintro e w' ⟨rfl, hb⟩
  have hk : ∀ (b o : Nat) (v : Value), w.cell? ⟨b, o, none⟩ = some v → w'.cell? ⟨b, o, none⟩ = some v := fun b o v h => (hb.cell (p := ⟨b, o, none⟩) (World.block_lt_of_cell? w _ h)).trans h
  exact ⟨rfl, hb, hk _ _ _ h.1, hk _ _ _ h.2.1, hk _ _ _ h.2.2.1, hk _ _ _ h.2.2.2.1, hk _ _ _ h.2.2.2.2.1, hk _ _ _ h.2.2.2.2.2.1, hk _ _ _ h.2.2.2.2.2.2.1, hk _ _ _ h.2.2.2.2.2.2.2⟩

/-- what Receive leaves -/
def RecEnd (p b1 b2 : Nat) (id : Int) (N : Nat) (w : World) (ms : List Msg) (L : List Ent) (e : Ending) (w' : World) : Prop :=
  ∃ v, e = .returned v ∧ MsgsAt w.heap.size v ms w' ∧ PAt p b1 b2 id L (N + 1) w' ∧ ButTwo w.heap.size b1 b2 w w'

theorem RecEnd.idle {p b1 b2 N : Nat} {id : Int} {L L' : List Ent} {ms : List Msg} {w w2 : World} (hP : PAt p b1 b2 id L N w2) (hB : Below w.heap.size w w2) (hR : ([], L) = (ms, L')) : RecEnd p b1 b2 id N w ms L' (.returned (.slice none 0 0)) w2 := by
  cases hR
  exact ⟨_, rfl, .inl ⟨rfl, rfl⟩, hP.mono (Nat.le_succ N), ButTwo.of_below hB⟩
theorem RecEnd.ans {p b1 b2 N : Nat} {id : Int} {L' : List Ent} {ms : List Msg} {a : Msg} {w w3 w4 : World} (hP : PAt p b1 b2 id L' (N + 1) w3) (hB : ButTwo w.heap.size b1 b2 w w3) (hA : MAt w3.heap.size a w4) (hb : Below w3.heap.size w3 w4) (hR : [a] = ms) :
    RecEnd p b1 b2 id N w ms L' (.returned (.slice (some ⟨w3.heap.size, 0, none⟩) 1 1)) w4 := by
  subst hR
  exact ⟨_, rfl, .inr ⟨a, _, rfl, rfl, hB.size, hA⟩, hP.below hb, hB.trans (ButTwo.of_below (hb.mono hB.size))⟩

end Go.Proofs.YtnhpnipfledihaaDoor

/- 'append(v, src...)' in a region that draws its order; slices of hits and of operations. -/
import Derived.Test.YtmfnhfkgkdibfaaGreatIInP
import Derived.Test.YtmfnhfkgkdibfaaGreatIL8
import Derived.Test.YtmfnhfkgkdibfaaGreatTokW
namespace Go.Proofs.YtmfnhfkgkdibfaaGreat
open Go.RowKit

theorem step_append_src {P : Program} {ops : Array Oper} {o : Oper} {a : Act} {w : World} {K : Act → World → Prop} {Q : Exit → Act → World → Prop} {E : Prop} (hgd : o.guard = none) (s x : Operand) (t : TypeId)
    (ho : o.op = .call { callee := .builtin .append, args := #[s, x], argTypes := #[t, t] })
    (base : Nat) (e : TypeId) (i : TypeInfo) (z : Value) (size bytes : Nat) (ht : P.underlying t = some (.slice e)) (hi : P.info? e = some i) (hz : i.zero = some z)
    (hsize : i.size = size) (hby : i.bytes = bytes) (hzs : z.cells.size = size) (hsz : 0 < size)
    (v : Value) (n : Nat) (xs : List Value) (hs : a.eval s = v) (hown : w.ownsRow base e size v n xs)
    (A : Option Addr) (m c : Nat) (news : List Value) (hx : a.eval x = .slice A m c) (hr : Src w size A m news) (h1 : ∀ u ∈ news, u.oneCell' = true)
    (h63 : n + m ≤ maxLen) (hbytes : (n + m) * bytes ≤ 140737488355328) (hbase : base ≤ w.heap.size)
    (h : ∀ v' w', w'.ownsRow base e size v' (n + m) (xs ++ news) → w.grownBy w' v.ownBlock → K (a.put o.dst v') w') :
    if Region.wanted o (yielded ops a.tmps) = true then Oper.wp P o a w K Q else E := by
  have hw : Region.wanted o (yielded ops a.tmps) = true := by simp [Region.wanted, hgd]
  rw [if_pos hw]
  obtain ⟨v', w', hrun, h2, h3⟩ := run_append_src (P := P) w base t o.type e i z size bytes ht hi hz hsize hby hzs hsz v n xs hown A m c news hr h1 h63 hbytes hbase
  unfold Oper.wp execOp
  simp only [ho, resolve, invoke, builtin, Sem.run_bind, Sem.run_pure, Result.andThen_ok, List.map_toArray, List.map_cons, List.map_nil, hs, hx, hrun]
  exact h v' w' h2 h3

theorem HitsR.below {base : Nat} {w w' : World} {v : Value} {l : List (Int × Nat)} (h : HitsR base w v l) (hb : Below w.heap.size w w') : HitsR base w' v l := row_kept h fun j hj => hb.block j (h.lt j hj).2
theorem hits_cells1 (l : List (Int × Nat)) : ∀ u ∈ l.flatMap hitC, u.oneCell' = true := fun u hu => by
  obtain ⟨x, _, hx⟩ := List.mem_flatMap.1 hu
  simp only [hitC, List.mem_cons, List.not_mem_nil, or_false] at hx
  rcases hx with rfl | rfl <;> rfl
theorem hits_clen (l : List (Int × Nat)) : (l.flatMap hitC).length = l.length * 2 := by
  induction l with
  | nil => rfl
  | cons x l ih => rw [List.flatMap_cons, List.length_append, ih]; simp [hitC]; omega
/-- hits as the source of an append -/
theorem hits_src {base : Nat} {w : World} {v : Value} {l : List (Int × Nat)} (h : HitsR base w v l) : ∃ A c, v = .slice A l.length c ∧ Src w 2 A l.length (l.flatMap hitC) := by
  rcases h.2 with ⟨rfl, h0⟩ | ⟨g, cap, cur, rfl, _, _⟩
  · have : l = [] := List.length_eq_zero_iff.1 h0
    subst this
    exact ⟨_, _, rfl, rfl, fun _ => rfl, fun ad e => by cases e⟩
  · refine ⟨_, _, rfl, hits_clen l, (fun e => by cases e), fun ad e j u hu => ?_⟩
    injection e with e
    subst e
    exact World.ownsRow.cells h rfl j u hu
theorem hits_app {base : Nat} {w : World} {v : Value} {l l' : List (Int × Nat)} (h : w.ownsRow base 53 2 v (l.length + l'.length) (l.flatMap hitC ++ l'.flatMap hitC)) : HitsR base w v (l ++ l') := by
  unfold HitsR
  rw [List.length_append, List.flatMap_append]
  exact h
/-- what stays of a cell below the base, at an append -/
theorem s_grown {a b c : World} {p : Addr} {v vv : Value} {base : Nat} {l : List (Int × Nat)} (h : HitsR base b vv l) (hba : a.heap.size ≤ base) (hp : p.block < a.heap.size) (hg : b.grownBy c vv.ownBlock) (k : b.cell? p = some v ∧ Below a.heap.size a b) : c.cell? p = some v ∧ Below a.heap.size a c := by
  have hb : Below a.heap.size a c := k.2.grown hg k.2.size (fun j e => Nat.le_trans hba (h.lt j e).1)
  refine ⟨?_, hb⟩
  rw [← k.1]
  have e1 := k.2.cell hp
  have e2 := hb.cell hp
  rw [e2, e1]
/-- x[k:k+1] of operations -/
theorem run_window_o {b off n c k : Nat} (hk : k < c) (W : World) : (Instr.slice 22 (.slice (some ⟨b, off, none⟩) n c) (some (.int .i64 (k : Int))) (some (.int .i64 ((k : Int) + 1))) none).run Tryz.prog W = .ok (.slice (some ⟨b, off + k * 3, none⟩) 1 (c - k)) W := by
  have ht : Tryz.prog.underlying 22 = some (.slice (Tryz.prog.elem 22)) := by kernel_rfl
  have he : Tryz.prog.elem 22 = 33 := by kernel_rfl
  rw [run_slice_lh W 22 _ n c ht .i64 .i64 k ((k : Int) + 1) (by omega) (by omega) (by omega), he]
  have : (Go.sizeOf 33).run Tryz.prog W = .ok 3 W := Tryz.sizeOf33 W
  rw [this]
  have hne : ¬ c = k := by omega
  have e1 : ((k : Int) + 1).toNat = k + 1 := by omega
  simp [Result.andThen, sliced, Addr.add, hne, e1]
theorem ops_window {W : World} {b off c : Nat} {l : List Op3} (h : OpsAt W (.slice (some ⟨b, off, none⟩) l.length c) l) (k : Nat) (hk : k < l.length) : OpsAt W (.slice (some ⟨b, off + k * 3, none⟩) 1 (c - k)) [l[k]] := by
  obtain ⟨a', c', e, h1, h2, h3⟩ := h
  injection e with e1 e2 e3
  subst e1; subst e3
  refine ⟨_, _, rfl, by simp; omega, by simp, fun j hj => ?_⟩
  have hj0 : j = 0 := by simpa using hj
  subst hj0
  obtain ⟨b', off', e, h4, h5, h6⟩ := h3 k hk
  injection e with e
  injection e with e1 e2
  subst e1; subst e2
  exact ⟨_, _, rfl, by simpa using h4, by simpa using h5, by simpa using h6⟩
end Go.Proofs.YtmfnhfkgkdibfaaGreat

/- Facts and contracts for the laws of the sender, part 17. Conditions: those that each theorem names. -/
import Derived.Test.YtogjgibaolppfaaGreatDoorK16
import Derived.Test.YtogjgibaolppfaaGreatDoorK07
/- Put. -/
namespace Go.Proofs.YtogjgibaolppfaaGreatDoor
open Go.RowKit Go.Sort Go.Proofs Go.Maps Go.ChangeMaps Go.WideMaps

theorem clone_any (s : List UInt8) (hs : s.length ≤ 1000000) (w : World) : Calls Tryz.prog 59 #[.string ⟨s.toArray⟩] w fun e w' => e = .returned (.string ⟨s.toArray⟩) ∧ Below w.heap.size w w' := by
  have hc := fun W => Tryz.stringslite_Clone ⟨s.toArray⟩ W (by simp [ByteArray.size]; omega)
  go_enter Tryz.func59, Tryz.ntmps59
  go_wp2_with (go_at_call 102; refine (hc _).mono ?_; rintro e w' ⟨rfl, hb⟩)
  go_ret
  exact ⟨rfl, hb⟩

set_option maxRecDepth 100000 in
set_option maxHeartbeats 2000000 in
theorem put_refused {S Q : Nat → Prop} {N : Nat} {p : Nat} {D : List Dc} (w : World) (h : IdxAt S Q N w p D) (id : Int) (s : List UInt8) (hr : id < 1 ∨ 256 < id ∨ 65536 < s.length) :
    Calls Tryz.prog 34 #[.pointer (some ⟨p, 0, none⟩), .int .i64 id, .string ⟨s.toArray⟩] w fun e w' => e = .returned (.int .i64 170) ∧ w' = w := by
  obtain ⟨b1, b2, v, tx, g, hp⟩ := h.pat
  have cp0 : w.cell? ⟨p, 0, none⟩ = some (.map (some b1)) := by rw [Lib.cell_of_heap hp.cells]; rfl
  have heq := fun m W => eqNil_map 96 3 28 m Tryz.underlying96 W
  obtain ⟨n, hn⟩ : ∃ n : Int, ((s.length : Nat) : Int) = n := ⟨_, rfl⟩
  have hr' : (decide (id < 1) || decide (256 < id) || decide (65536 < n)) = true := by
    rw [← hn]; rcases hr with h | h | h
    · simp [h]
    · simp [h]
    · have : (65536 : Int) < (s.length : Int) := by omega
      simp [this]
  clear hp h hr
  by_cases h1 : id < 1
  · have g1 : decide (id < 1) = true := by simpa using h1
    clear h1 hr'
    go_enter Tryz.func34, Tryz.ntmps34
    go_wp2
    go_ret
    exact ⟨rfl, rfl⟩
  · have g1 : decide (id < 1) = false := by simpa using h1
    by_cases h2 : 256 < id
    · have g2 : decide (256 < id) = true := by simpa using h2
      clear h1 h2 hr'
      go_enter Tryz.func34, Tryz.ntmps34
      go_wp2
      go_ret
      exact ⟨rfl, rfl⟩
    · have g2 : decide (256 < id) = false := by simpa using h2
      have g3 : decide (65536 < n) = true := by rw [g1, g2] at hr'; simpa using hr'
      clear h1 h2 hr'
      go_enter Tryz.func34, Tryz.ntmps34
      go_wp2
      go_ret
      exact ⟨rfl, rfl⟩

/-- the counts when the first k words of a new document are laid -/
def addW (D : List Dc) (l : List Wd) (id : Int) (k : Nat) (x : Wd) (i : Int) : Nat := cntD D x i + if i = id then (l.take k).count x else 0
theorem addW_zero (D : List Dc) (l : List Wd) (id : Int) : addW D l id 0 = cntD D := by funext x i; simp [addW]
theorem addW_succ (D : List Dc) (l : List Wd) (id : Int) (k : Nat) (h : k < l.length) : setC (addW D l id k) l[k] id (addW D l id k l[k] id + 1) = addW D l id (k + 1) := by
  funext y i
  unfold setC addW
  rw [List.take_succ_eq_append_getElem h, List.count_append]
  by_cases h1 : i = id
  · subst h1
    by_cases h2 : y = l[k]
    · subst h2; simp; omega
    · have : (l[k] == y) = false := by simpa using fun e => h2 e.symm
      simp [h2, List.count_cons, this]
  · simp [h1]
theorem rem_rem (D : List Dc) (id : Int) : remD (remD D id) id = remD D id := by unfold remD; rw [List.filter_filter]; simp
theorem put_rem (D : List Dc) (id : Int) (l : List Wd) : putD (remD D id) id l = putD D id l := by unfold putD; rw [rem_rem]
theorem addW_end {D : List Dc} (hA : Asc D) (l : List Wd) (id : Int) : addW (remD D id) l id l.length = cntD (putD D id l) := by
  funext x i
  unfold addW cntD docsF
  rw [List.take_length, wordsAt_rem hA, wordsAt_put hA]
  by_cases h : i = id
  · simp [h]
  · simp [h]
theorem addW_ex {D : List Dc} (hA : Asc D) {l : List Wd} {id : Int} {k : Nat} {x : Wd} : (∃ i, 0 < addW D l id k x i) ↔ x ∈ vocab D ∨ x ∈ l.take k := by
  rw [mem_vocab, ← cntD_ex hA]
  unfold addW
  constructor
  · rintro ⟨i, hi⟩
    by_cases h : 0 < cntD D x i
    · exact .inl ⟨i, h⟩
    · right
      by_cases h2 : i = id
      · rw [if_pos h2] at hi; exact List.count_pos_iff.1 (by omega)
      · rw [if_neg h2] at hi; omega
  · rintro (⟨i, hi⟩ | hx)
    · exact ⟨i, by omega⟩
    · exact ⟨id, by rw [if_pos rfl]; have := List.count_pos_iff.2 hx; omega⟩

/-- which blocks are whose, while a document is laid -/
structure Owns (S Q S' Q' : Nat → Prop) (H : Nat) (g : Wd → Option Nat) : Prop where
  up : ∀ j, S j → S' j
  down : ∀ j, S' j → S j ∨ (H ≤ j ∧ ∃ y, g y = some j)
  qup : ∀ j, Q j → Q' j
  qdown : ∀ j, Q' j → Q j ∨ H ≤ j
  rest : ∀ j, H ≤ j → (¬ ∃ y, g y = some j) → Q' j

theorem row_block {w : World} {base : Nat} {v : Value} {n : Nat} {xs : List Value} {e : TypeId} {size : Nat} (h : w.ownsRow base e size v n xs) {j : Nat} (hj : v.ownBlock = some j) : base ≤ j ∧ ∃ cs t fr, w.heap[j]? = some (.cells cs t fr) := by
  rcases h.2 with ⟨e0, _⟩ | ⟨g, cap, cur, e0, hb, hg, _⟩
  · rw [e0] at hj; cases hj
  · rw [e0] at hj
    have : g = j := by simpa [Value.ownBlock] using hj
    subst this
    exact ⟨hb, _, _, _, hg⟩
theorem row_kept {w w' : World} {base : Nat} {v : Value} {n : Nat} {xs : List Value} {e : TypeId} {size : Nat} (h : w.ownsRow base e size v n xs) (hk : ∀ j, v.ownBlock = some j → w'.heap[j]? = w.heap[j]?) : w'.ownsRow base e size v n xs := by
  refine ⟨h.1, ?_⟩
  rcases h.2 with h0 | ⟨g, cap, cur, e0, hb, hg, r⟩
  · exact .inl h0
  · exact .inr ⟨g, cap, cur, e0, hb, (hk g (by rw [e0]; rfl)).trans hg, r⟩

set_option maxRecDepth 100000 in
set_option maxHeartbeats 8000000 in
theorem put_any {S Q : Nat → Prop} {N : Nat} {p : Nat} {D : List Dc} (w : World) (h : IdxAt S Q N w p D) (hN : N ≤ 500000) (hQ : ∀ k, Q k → k < w.heap.size) (id : Int) (hi1 : 1 ≤ id) (hi2 : id ≤ 256) (s : List UInt8) (hs : s.length ≤ 1000) (hwl : (wordsOf s).length ≤ 400) :
    Calls Tryz.prog 34 #[.pointer (some ⟨p, 0, none⟩), .int .i64 id, .string ⟨s.toArray⟩] w fun e w' => e = .returned (.int .i64 0) ∧ ∃ S', IdxAt S' Q (N + 1000) w' p (putD D id (wordsOf s)) ∧ But S w.heap.size w w' ∧ ∀ k, S' k → S k ∨ w.heap.size ≤ k := by
  have hA := h.asc
  have HA := Lib.hid hA
  have HQ := Lib.hid hQ
  have HSlt := Lib.hid h.lt
  have hok := words_ok s
  have HOK := Lib.hid hok
  have HFin : Hid (∀ (S' : Nat → Prop) M b1 b2 v tx g w', PAt S' Q M p b1 b2 v tx g (putD D id (wordsOf s)) (cntD (putD D id (wordsOf s))) (vocab (putD D id (wordsOf s))) w' → IdxAt S' Q M w' p (putD D id (wordsOf s))) := Lib.hid (fun S' M b1 b2 v tx g w' hp => hp.idx (hA.put id _) (h.ids.put hi1 hi2 _) (fun d hd => by
      rcases mem_put.1 hd with rfl | ⟨hd, _⟩
      · exact hok
      · exact h.oks d hd) (fun d hd => by
      rcases mem_put.1 hd with rfl | ⟨hd, _⟩
      · show (wordsOf s).length ≤ 1000; omega
      · exact h.small d hd))
  have hrem := fun W (hW : IdxAt S Q N W p D) => remove_any W hW id (by omega) (by omega)
  have hvl0 : Hid ((vocab (remD D id)).length ≤ 256000) := Lib.hid (vocab_len (hA.rem id) (h.ids.rem id) (fun d hd => h.small d (mem_rem.1 hd).1))
  obtain ⟨c1, c2, cv, ctx, cg, cpat⟩ := h.pat
  have cp0 : w.cell? ⟨p, 0, none⟩ = some (.map (some c1)) := by rw [Lib.cell_of_heap cpat.cells]; rfl
  have heq := fun m W => eqNil_map 96 3 28 m Tryz.underlying96 W
  have heq2 := fun m W => eqNil_map 81 3 3 m Tryz.underlying81 W
  have hcl := fun W => clone_any s (by omega) W
  have hwd := fun W => (Words_any ⟨s.toArray⟩ (by simp [ByteArray.size]; omega) W)
  have hmm := @run_makeMap Tryz.prog
  have g1 : decide (id < 1) = false := by simp; omega
  have g2 : decide (256 < id) = false := by simp; omega
  obtain ⟨n, hn⟩ : ∃ n : Int, ((s.length : Nat) : Int) = n := ⟨_, rfl⟩
  have g3 : decide (65536 < n) = false := by rw [← hn]; simp; omega
  have HI := Lib.hid h
  obtain ⟨l, hl⟩ : ∃ l, wordsOf s = l := ⟨_, rfl⟩
  rw [hl] at hwl HOK HFin ⊢
  have HL := Lib.hid hl
  clear cpat h hA hQ hok hl
  go_enter Tryz.func34, Tryz.ntmps34
  go_wp2_with fail
  refine (hrem _ HI.out).mono ?_
  rintro e w1 ⟨rfl, hI1, hb1⟩
  go_wp2_with fail
  refine (hcl _).mono ?_
  rintro e w2 ⟨rfl, hb2⟩
  go_wp2_with fail
  refine (hwd _).mono ?_
  rintro e w3 ⟨vt, rfl, hot, hb3⟩
  have hot' : OwnsStrs w3 w2.heap.size vt l := by rw [← HL.out]; exact hot
  have hb13 := bthen hb2 hb3
  have hI3 := hI1.below hb13
  have HB03 : Hid (But S w.heap.size w w3) := Lib.hid (hb1.trans ((But.of_below hb13).mono hb1.size))
  have hsz12 := hb2.size
  have hsz01 := hb1.size
  have hsz23 := hb3.size
  have hA0 := HA.out.rem id
  have HA0 := Lib.hid hA0
  obtain ⟨b1, b2, v, tx, g, hp3⟩ := hI3.pat
  obtain ⟨H, hH⟩ : ∃ H, w3.heap.size = H := ⟨_, rfl⟩
  -- the new text's row
  have hvtS : ∀ j, vt.ownBlock = some j → w.heap.size ≤ j ∧ j < H := fun j hj => by
    obtain ⟨h1, cs, t, fr, h2⟩ := row_block hot' hj
    exact ⟨by omega, by rw [← hH]; exact (Array.getElem?_eq_some_iff.1 h2).1⟩
  have hst3 := strsAt_of_owns hot' (by omega)
  obtain ⟨at_, ct, rfl, hlet, -, hct⟩ := hst3
  have HVT := Lib.hid hvtS
  have HCT := Lib.hid hct
  have hP0 : PAt S (fun k => Q k ∨ H ≤ k) N p b1 b2 v tx g (remD D id) (addW (remD D id) l id 0) (vocab (remD D id)) w3 := by
    rw [addW_zero]
    exact (hp3.x.change (S' := S) (Q' := fun k => Q k ∨ H ≤ k) (fun _ h => h) hp3.lt (fun k hk hq => by
      rcases hq with hq | hq
      · exact hp3.out k hk hq
      · have := hp3.lt k hk; omega) (fun k hk => by
      rcases hk with hk | hk | hk
      · exact .inl (.inl hk)
      · exact .inl (.inr hk)
      · exact .inr (by omega))).full hp3.found.some
  have HP0 := Lib.hid hP0
  have hO0 : Owns S Q S (fun k => Q k ∨ H ≤ k) H g := ⟨fun _ h => h, fun _ h => .inl h, fun _ h => .inl h, fun _ h => h, fun _ h _ => .inr h⟩
  have HO0 := Lib.hid hO0
  obtain ⟨i0, hi, hz0, hz1, hz2⟩ := info_parts infoStr'
  have HB13 := Lib.hid hb13
  have HH := Lib.hid hH
  clear hot hot' hI3 hI1 hp3 hP0 hO0 hb1 hb2 hb3 hb13 hvtS hct hrem hcl hwd cp0 g1 g2 g3 hA0 hH
  go_wp2
  go_loopw [8, 40] (fun u i wr => ∃ (k : Nat) (fr : List Wd) (g : Wd → Option Nat) (S' Q' : Nat → Prop), i = .int .i64 k ∧ k ≤ l.length ∧ Hid (PAt S' Q' (N + 2 * k) p b1 b2 v tx g (remD D id) (addW (remD D id) l id k) (vocab (remD D id)) wr) ∧ Hid (Owns S Q S' Q' H g) ∧ Hid (fr.Nodup ∧ ∀ x, x ∈ fr ↔ x ∈ l.take k ∧ x ∉ vocab (remD D id)) ∧ fr.length ≤ k ∧ Hid (OwnsStrs wr H u fr) ∧ Hid (But S H w3 wr)) (fun _ i _ => l.length - (intOf i).toNat)
  case atStart => exact ⟨0, [], g, S, _, rfl, by omega, HP0, HO0, Lib.hid ⟨.nil, fun x => by simp⟩, by simp, Lib.hid ⟨rfl, .inl ⟨rfl, rfl⟩⟩, Lib.hid (But.refl _ _ _)⟩
  case round =>
    obtain ⟨k, fr, g', S', Q', rfl, hk, HP, HOw, HFr, hfl, HRo, HBr⟩ := hrel
    have hszr := HBr.out.size
    have hHw := HH.out
    by_cases hkl : k < l.length
    · have hki : (k : Int) < (l.length : Int) := by omega
      obtain ⟨b0, off0, rfl, ck0⟩ := HCT.out k hkl
      have hb0 := HVT.out b0 rfl
      have ck : wr.cell? ⟨b0, off0 + k, none⟩ = some (.string ⟨(l[k]).toArray⟩) := (HBr.out.cell (a := ⟨b0, off0 + k, none⟩) hb0.2 (fun hs => by have h1 := HSlt.out b0 hs; omega)).trans ck0
      have hxl := (HOK.out l[k] (List.getElem_mem hkl)).2.1
      have cp1 : wr.cell? ⟨p, 1, none⟩ = some (.map (some b2)) := by rw [Lib.cell_of_heap HP.out.cells]; rfl
      have hgetx := HP.out.found.map.get strKeys (t := 97) Tryz.underlying97 (Tryz.zeroValue81 wr) (strKey (x := l[k]) (by omega))
      have HSU := Lib.hid (addW_succ (remD D id) l id k hkl)
      have HEX := Lib.hid (fun (kk : Nat) (y : Wd) => addW_ex HA0.out (l := l) (id := id) (k := kk) (x := y))
      have hgS : ∀ j, u8.ownBlock = some j → H ≤ j ∧ ¬ S' j ∧ Q' j ∧ ∀ y, g' y ≠ some j := fun j hj => by
        obtain ⟨h1, cs, t, f, h2⟩ := row_block HRo.out hj
        have h3 : ∀ y, g' y ≠ some j := fun y hy => by
          obtain ⟨es, c, h4⟩ := (HP.out.found.inner y j hy).2.2.2.obj
          rw [h2] at h4; cases h4
        refine ⟨h1, fun hs => ?_, HOw.out.rest j h1 (fun ⟨y, hy⟩ => h3 y hy), h3⟩
        rcases HOw.out.down j hs with h4 | ⟨_, y, hy⟩
        · have := HSlt.out j h4; omega
        · exact h3 y hy
      have HGS := Lib.hid hgS
      have htk : ∀ y, y ∈ l.take (k + 1) ↔ y ∈ l.take k ∨ y = l[k] := fun y => by rw [List.take_succ_eq_append_getElem hkl, List.mem_append, List.mem_singleton]
      have HTK := Lib.hid htk
      obtain ⟨x, hx⟩ : ∃ x, l[k] = x := ⟨_, rfl⟩
      rw [hx] at ck hxl hgetx HSU HTK
      clear hgS htk ck0
      cases hg : g' x with
      | none =>
        rw [hg] at hgetx
        have hcx : ∀ i, addW (remD D id) l id k x i = 0 := fun i => by
          cases hc : addW (remD D id) l id k x i with
          | zero => rfl
          | succ n => have := (HP.out.found.some x).2 ⟨i, by omega⟩; rw [hg] at this; cases this
        have hxn : x ∉ vocab (remD D id) ∧ x ∉ l.take k := by
          have : ¬ ∃ i, 0 < addW (remD D id) l id k x i := fun ⟨i, hi⟩ => by rw [hcx i] at hi; omega
          rw [HEX.out] at this
          exact not_or.1 this
        have hclx := fun W => clone_any x (by omega) W
        have HG := Lib.hid hg; have HCX := Lib.hid hcx; have HXN := Lib.hid hxn
        clear hg hcx hxn
        go_wp2_with fail
        refine (hclx _).mono ?_
        rintro e w4 ⟨rfl, hb4⟩
        have hP4 := HP.out.x.below hb4
        obtain ⟨w6, hput6, hb6, hP6⟩ := hP4.new (Q' := fun j => Q' j ∧ j ≠ w4.heap.size) (by unfold maxLen; omega) (x := x) (by omega) HG.out HCX.out (fun j h => h.1) (fun h => h.2 rfl)
        have hsz4 := hb4.size
        have hsz6 := hb6.size
        have cp5 : (w4.alloc (.map #[] 0)).cell? ⟨p, 1, none⟩ = some (.map (some b2)) := by
          rw [Lib.cell_of_heap (hP4.below ((Below.refl _ w4).alloc (Nat.le_refl _) (.map #[] 0))).cells]; rfl
        have hro6 : w6.ownsRow H 9 1 u8 fr.length (fr.map encW) := row_kept HRo.out fun j hj => by
          have hjl : j < wr.heap.size := by
            obtain ⟨_, cs, t, f, h2⟩ := row_block HRo.out hj
            exact (Array.getElem?_eq_some_iff.1 h2).1
          rw [hb6.block j (by omega) (HGS.out j hj).2.1, hb4.block j hjl]
        obtain ⟨nb, hnb⟩ : ∃ n, w4.heap.size = n := ⟨_, rfl⟩
        have hnbH : H ≤ nb := by omega
        have HOw6 : Owns S Q (fun j => S' j ∨ j = nb) (fun j => Q' j ∧ j ≠ nb) H (fun y => if y = x then some nb else g' y) := ⟨fun j h => .inl (HOw.out.up j h), fun j h => by
            rcases h with h | rfl
            · rcases HOw.out.down j h with h | ⟨h1, y, hy⟩
              · exact .inl h
              · refine .inr ⟨h1, y, ?_⟩
                have : y ≠ x := fun e => by rw [e, HG.out] at hy; cases hy
                simp only [if_neg this]; exact hy
            · exact .inr ⟨hnbH, x, by simp⟩, fun j h => ⟨HOw.out.qup j h, fun e => by have := HQ.out j h; omega⟩, fun j h => HOw.out.qdown j h.1, fun j h1 h2 => by
            have hne : j ≠ nb := fun e => h2 ⟨x, by simp [e]⟩
            refine ⟨HOw.out.rest j h1 fun ⟨y, hy⟩ => h2 ⟨y, ?_⟩, hne⟩
            have : y ≠ x := fun e => by rw [e, HG.out] at hy; cases hy
            simp only [if_neg this]; exact hy⟩
        rw [hnb] at hput6 hP6 hsz4
        have HP6 := Lib.hid hP6
        have HOw6 := Lib.hid HOw6
        have HB6 : Hid (But S H w3 w6) := Lib.hid ((HBr.out.trans ((But.of_below hb4).mono (by omega))).trans ((hb6.mono (by omega)).weaken fun j hj hs => by
          rcases HOw.out.down j hs with h | ⟨h, _⟩
          · exact h
          · omega))
        have hgS6 : ∀ j, u8.ownBlock = some j → Q' j ∧ j ≠ nb := fun j hj => ⟨(HGS.out j hj).2.2.1, fun e => by
          obtain ⟨_, cs, t, f, h2⟩ := row_block HRo.out hj
          have := (Array.getElem?_eq_some_iff.1 h2).1
          omega⟩
        have HGS6 := Lib.hid hgS6
        have HNB := Lib.hid hnb
        have HSOME := Lib.hid HP.out.found.some
        have hnc : Hid (nb ≠ b1 ∧ nb ≠ b2) := Lib.hid ⟨(hP6.inner x nb (by simp)).2.1, (hP6.inner x nb (by simp)).2.2.1⟩
        clear hP4 hP6 hb6 hb4 hgS6 HOw HP HBr HRo
        go_wp2_with (at_builtin; refine wpList_append_own _ rfl _ _ 28 rfl H 9 i0 _ 1 16 Tryz.underlying28 hi hz0 hz1 hz2 rfl (by decide) _ _ _ rfl (hro6.alloc _) ⟨w6.heap.size, 0, none⟩ 1 1 [.string ⟨x.toArray⟩] rfl rfl (World.news_of_block (cs := #[.string ⟨x.toArray⟩]) (t := 9) (fr := (0, 0)) (heap_alloc_new w6 _)) (by simp [Value.oneCell']) ?c3 ?c4 ?c5 ?_)
        case c3 => unfold maxLen; omega
        case c4 => omega
        case c5 => simp; omega
        intro v' w7 ho7 hg7 _
        have hba : Below w6.heap.size w6 (w6.alloc (.cells #[.string ⟨x.toArray⟩] 9 (0, 0))) := (Below.refl _ w6).alloc (Nat.le_refl _) _
        have hP7 := (HP6.out.below hba).kept (R := fun j => u8.ownBlock = some j) (w' := w7) ⟨hg7.os, hg7.tape, hg7.output, hg7.size, fun j hj hn => hg7.block j hj fun e => hn e.symm⟩ (fun j hj => HGS6.out j hj)
        obtain ⟨hget8, w8, hput8, hb8, hP8⟩ := hP7.inc (by unfold maxLen; omega) (x := x) (b := nb) (by simp) (id := id) (by omega) (by omega)
        rw [HSU.out] at hP8
        rw [HCX.out id] at hget8 hput8
        rw [show (((0 : Nat) : Int) + 1) = 1 from rfl] at hput8
        rw [show ((0 : Nat) : Int) = 0 from rfl] at hget8
        have hsz7 : w6.heap.size + 1 ≤ w7.heap.size := by have := hg7.size; simpa using this
        have hvb : ∀ j, v'.ownBlock = some j → H ≤ j ∧ j < w7.heap.size ∧ ¬ (S' j ∨ j = nb) := fun j hj => by
          obtain ⟨h1, cs, t, f, h2⟩ := row_block ho7 hj
          have h3 : ∀ y b, (if y = x then some nb else g' y) = some b → b ≠ j := fun y b hy e => by
            obtain ⟨es, c, h4⟩ := (hP7.inner y b hy).2.2.2.obj
            rw [e, h2] at h4; cases h4
          refine ⟨h1, (Array.getElem?_eq_some_iff.1 h2).1, fun hs => ?_⟩
          rcases HOw6.out.down j hs with h4 | ⟨_, y, hy⟩
          · have := HSlt.out j h4; omega
          · exact h3 y j hy rfl
        have HP9 : Hid (PAt (fun j => S' j ∨ j = nb) (fun j => Q' j ∧ j ≠ nb) (N + 2 * (k + 1)) p b1 b2 v tx (fun y => if y = x then some nb else g' y) (remD D id) (addW (remD D id) l id (k + 1)) (vocab (remD D id)) w8) := Lib.hid ((hP8.more (by omega)).full fun y => by
          rw [HEX.out (k + 1) y, HTK.out y]
          by_cases hyx : y = x
          · simp [hyx]
          · simp only [hyx, or_false, if_false]
            rw [HSOME.out y, HEX.out k y])
        have HF9 : Hid ((fr ++ [x]).Nodup ∧ ∀ y, y ∈ fr ++ [x] ↔ y ∈ l.take (k + 1) ∧ y ∉ vocab (remD D id)) := Lib.hid ⟨by
            rw [List.nodup_append]
            exact ⟨HFr.out.1, by simp, fun a ha b hb e => by simp at hb; subst hb; subst e; exact HXN.out.2 ((HFr.out.2 a).1 ha).1⟩, fun y => by
            rw [List.mem_append, HFr.out.2 y, HTK.out y, List.mem_singleton]
            constructor
            · rintro (⟨h1, h2⟩ | rfl)
              · exact ⟨.inl h1, h2⟩
              · exact ⟨.inr rfl, HXN.out.1⟩
            · rintro ⟨h1 | h1, h2⟩
              · exact .inl ⟨h1, h2⟩
              · exact .inr h1⟩
        have HR9 : Hid (OwnsStrs w8 H v' (fr ++ [x])) := Lib.hid (by
          have := row_kept ho7 (w' := w8) fun j hj => hb8.block j (hvb j hj).2.1 (hvb j hj).2.2
          unfold OwnsStrs
          simpa [encW] using this)
        have HB9 : Hid (But S H w3 w8) := Lib.hid (by
          have e1 : But S H w6 w7 := ⟨by rw [hg7.os]; rfl, by rw [hg7.tape]; rfl, by rw [hg7.output]; rfl, by omega, fun j hj hn => by
            rw [hg7.block j (by simp; omega) fun e => by have := (hro6.lt j e.symm).1; omega]
            exact hba.block j (by omega)⟩
          exact (HB6.out.trans e1).trans ((hb8.mono (by omega)).weaken fun j hj hs => by
            rcases HOw6.out.down j hs with h | ⟨h, _⟩
            · exact h
            · omega))
        clear hP7 hP8 hb8 hg7 ho7 hvb hba
        go_wp2
        go_roundw
        case rel => exact ⟨k + 1, fr ++ [x], _, _, _, by go_num, by omega, HP9, HOw6, HF9, by simp; omega, HR9, HB9⟩
        case measure => simp [intOf]; omega
      | some b =>
        rw [hg] at hgetx
        obtain ⟨hget8, w8, hput8, hb8, hP8⟩ := HP.out.x.inc (by unfold maxLen; omega) hg (id := id) (by omega) (by omega)
        rw [HSU.out] at hP8
        have hxin : x ∈ vocab (remD D id) ∨ x ∈ l.take k := (HEX.out k x).1 ((HP.out.found.some x).1 (by rw [hg]; rfl))
        have hcle : addW (remD D id) l id k x id ≤ 1000000 := by
          have h1 : (l.take k).count x ≤ k := Nat.le_trans List.count_le_length (by rw [List.length_take]; omega)
          have h2 : cntD (remD D id) x id = 0 := by unfold cntD docsF; rw [wordsAt_rem HA.out]; simp
          unfold addW
          rw [if_pos rfl, h2]; omega
        obtain ⟨m, hm⟩ : ∃ m : Int, ((addW (remD D id) l id k x id : Nat) : Int) = m := ⟨_, rfl⟩
        have hmb : 0 ≤ m ∧ m ≤ 1000000 := by omega
        rw [hm] at hget8 hput8
        have HP9 : Hid (PAt S' Q' (N + 2 * (k + 1)) p b1 b2 v tx g' (remD D id) (addW (remD D id) l id (k + 1)) (vocab (remD D id)) w8) := Lib.hid ((hP8.more (by omega)).full fun y => by
          rw [HP.out.found.some y, HEX.out k y, HEX.out (k + 1) y, HTK.out y]
          constructor
          · rintro (h | h)
            · exact .inl h
            · exact .inr (.inl h)
          · rintro (h | h | rfl)
            · exact .inl h
            · exact .inr h
            · exact hxin)
        have HF9 : Hid (fr.Nodup ∧ ∀ y, y ∈ fr ↔ y ∈ l.take (k + 1) ∧ y ∉ vocab (remD D id)) := Lib.hid ⟨HFr.out.1, fun y => by
            rw [HFr.out.2 y, HTK.out y]
            constructor
            · exact fun ⟨h1, h2⟩ => ⟨.inl h1, h2⟩
            · rintro ⟨h1 | rfl, h2⟩
              · exact ⟨h1, h2⟩
              · rcases hxin with h | h
                · exact absurd h h2
                · exact ⟨h, h2⟩⟩
        have HR9 : Hid (OwnsStrs w8 H u8 fr) := Lib.hid (row_kept HRo.out fun j hj => hb8.block j (by
          obtain ⟨_, cs, t, f, h2⟩ := row_block HRo.out hj
          exact (Array.getElem?_eq_some_iff.1 h2).1) (HGS.out j hj).2.1)
        have HB9 : Hid (But S H w3 w8) := Lib.hid (HBr.out.trans ((hb8.mono (by omega)).weaken fun j hj hs => by
            rcases HOw.out.down j hs with h | ⟨h, _⟩
            · exact h
            · omega))
        clear hP8 hb8 hxin hcle hm hg HP HBr
        go_wp2
        go_roundw
        case rel => exact ⟨k + 1, fr, _, _, _, by go_num, by omega, HP9, HOw, HF9, by omega, HR9, HB9⟩
        case measure => simp [intOf]; omega
    · have hkl2 : k = l.length := by omega
      clear hkl
      obtain ⟨a8, c8, hu8, hle8⟩ : ∃ a c, u8 = .slice a fr.length c ∧ fr.length ≤ c := by
        rcases HRo.out.2 with ⟨e1, e2⟩ | ⟨g, cap, cur, e1, _, _, e2, _⟩
        · exact ⟨none, 0, by rw [e1, e2], by omega⟩
        · exact ⟨_, _, e1, e2⟩
      subst hu8
      subst hkl2
      have cp0 : wr.cell? ⟨p, 0, none⟩ = some (.map (some b1)) := by rw [Lib.cell_of_heap HP.out.cells]; rfl
      have hstr : StrsOut (fun j => S' j ∨ Q' j) wr (.slice at_ l.length ct) l := by
        refine ⟨⟨at_, ct, rfl, hlet, by omega, fun j hj => ?_⟩, fun hne b off n c e hb => ?_⟩
        · obtain ⟨b0, off0, ha, ck⟩ := HCT.out j hj
          have hb0 := HVT.out b0 (by rw [ha]; rfl)
          exact ⟨b0, off0, ha, (HBr.out.cell (a := ⟨b0, off0 + j, none⟩) hb0.2 (fun hs => by have h1 := HSlt.out b0 hs; omega)).trans ck⟩
        · injection e with e1 _ _
          have hb0 := HVT.out b (by rw [e1]; rfl)
          rcases hb with hb | hb
          · rcases HOw.out.down b hb with h | ⟨h, _⟩
            · have := HSlt.out b h; omega
            · omega
          · rcases HOw.out.qdown b hb with h | h
            · have := HQ.out b h; omega
            · omega
      obtain ⟨wT, hputT, hbT, hPT⟩ := HP.out.x.putText (by unfold maxLen; omega) HA0.out (id := id) (by omega) (by omega) hstr
      rw [put_rem, addW_end HA.out] at hPT
      have hszT := hbT.size
      have hSOME : ∀ y, (g' y).isSome = true ↔ ∃ i, 0 < cntD (putD D id l) y i := fun y => by rw [← addW_end HA.out]; exact HP.out.found.some y
      have hroT : wT.ownsRow H 9 1 (.slice a8 fr.length c8) fr.length (fr.map encW) := row_kept HRo.out fun j hj => by
        obtain ⟨h1, cs, t, f, h2⟩ := row_block HRo.out hj
        refine hbT.block j (Array.getElem?_eq_some_iff.1 h2).1 fun hs => ?_
        rcases HOw.out.down j hs with h | ⟨_, y, hy⟩
        · have := HSlt.out j h; omega
        · obtain ⟨es, c, h4⟩ := (HP.out.found.inner y j hy).2.2.2.obj
          rw [h2] at h4; cases h4
      have hBT : But S H w3 wT := HBr.out.trans ((hbT.mono (by omega)).weaken fun j hj hs => by
        rcases HOw.out.down j hs with h | ⟨h, _⟩
        · exact h
        · omega)
      have hBwT : But S w.heap.size w wT := HB03.out.trans (hBT.mono (by omega))
      have hvoc : ∀ y, y ∈ vocab (putD D id l) ↔ y ∈ vocab (remD D id) ∨ y ∈ l := fun y => by
        rw [mem_vocab, ← cntD_ex (HA.out.put id l), ← addW_end HA.out, addW_ex HA0.out, List.take_length]
      have hSw : ∀ j, S' j → S j ∨ w.heap.size ≤ j := fun j hj => by
        rcases HOw.out.down j hj with h | ⟨h, _⟩
        · exact .inl h
        · exact .inr (by omega)
      have hfr2 := HFr.out.2
      rw [List.take_length] at hfr2
      have HBwT := Lib.hid hBwT; have HPT := Lib.hid hPT; have HSOME := Lib.hid hSOME; have HVOC := Lib.hid hvoc; have HSw := Lib.hid hSw; have HF2 := Lib.hid hfr2
      by_cases hfr : fr = []
      · subst hfr
        have hfe : Hid (PAt S' Q (N + 1000) p b1 b2 v (fun i => if i = id then some (.slice at_ l.length ct) else tx i) g' (putD D id l) (cntD (putD D id l)) (vocab (putD D id l)) wT) := Lib.hid (by
          have hv : vocab (remD D id) = vocab (putD D id l) := vocab_eq (vocab_asc _) fun y => by
            rw [← mem_vocab, HVOC.out y]
            constructor
            · exact .inl
            · rintro (h | h)
              · exact h
              · by_cases hy : y ∈ vocab (remD D id)
                · exact hy
                · have := (HF2.out y).2 ⟨h, hy⟩; cases this
          rw [← hv]
          exact ((HPT.out.change (S' := S') (Q' := Q) (fun _ h => h) HPT.out.lt (fun j hj hq => HPT.out.out j hj (HOw.out.qup j hq)) (fun j hj => by
            rcases hj with h | h
            · exact .inl (.inl h)
            · exact .inl (.inr (HOw.out.qup j h)))).more (by omega)).full HSOME.out)
        clear hstr hbT hPT hSOME hroT hBT hBwT hvoc hSw hfr2 HP HBr
        simp only [List.length_nil] at *
        go_wp2
        go_ret
        exact ⟨rfl, S', HFin.out _ _ _ _ _ _ _ _ hfe.out, HBwT.out, HSw.out⟩
      · have hf0 : 0 < fr.length := List.length_pos_iff.2 hfr
        have hfd := HFr.out.1
        have hgb : ∃ gb, a8 = some ⟨gb, 0, none⟩ := by
          rcases hroT.2 with ⟨_, e2⟩ | ⟨g, cap, cur, e1, _⟩
          · omega
          · injection e1 with e1 _ _; exact ⟨g, e1⟩
        obtain ⟨gb, rfl⟩ := hgb
        have hgbH := row_block hroT (j := gb) rfl
        have hgbQ : Q' gb ∧ ¬ S' gb := by
          have h3 : ∀ y, g' y ≠ some gb := fun y hy => by
            obtain ⟨es, c, h4⟩ := (HPT.out.inner y gb hy).2.2.2.obj
            obtain ⟨_, cs, t, f, h2⟩ := hgbH
            rw [h2] at h4; cases h4
          refine ⟨HOw.out.rest gb hgbH.1 fun ⟨y, hy⟩ => h3 y hy, fun hs => ?_⟩
          rcases HOw.out.down gb hs with h4 | ⟨_, y, hy⟩
          · have := HSlt.out gb h4; omega
          · exact h3 y hy
        have hpT := HPT.out.lt p HPT.out.own
        have hpgb : p ≠ gb := fun e => hgbQ.2 (e ▸ HPT.out.own)
        -- ordered(fresh)
        have hO : ∀ k, Calls Tryz.prog 61 #[.slice (some ⟨gb, 0, none⟩) fr.length c8, .func (.func 62) #[] #[]] (wT.drewN k) fun e w' => e = .returned (.slice (some ⟨gb, 0, none⟩) fr.length c8) ∧ (∃ fs : List Wd, WAsc fs ∧ (∀ y, y ∈ fs ↔ y ∈ fr) ∧ fs.length = fr.length ∧ w'.ownsRow H 9 1 (.slice (some ⟨gb, 0, none⟩) fr.length c8) fs.length (fs.map encW) ∧ But (fun j => j = gb) wT.heap.size wT w') ∧ w'.cell? ⟨p, 2, none⟩ = some v ∧ w'.frozen? ⟨p, 2, none⟩ = false := fun k => by
          refine (ordered_strs2 fr _ H (wT.drewN k) hroT (by omega)).mono ?_
          rintro e w' ⟨rfl, fs, hp, hsr, hro, hbe, hb0⟩
          have hbut : But (fun j => j = gb) wT.heap.size wT w' := ⟨hbe.os, hbe.tape, hbe.output, hbe.size, fun j hj hn => hb0 j hj fun e => by
            simp [Value.ownBlock] at e; exact hn e.symm⟩
          refine ⟨rfl, ⟨fs, ?_, fun y => hp.mem_iff, hp.length_eq, hro, hbut⟩, ?_, ?_⟩
          · refine (hsr.and (hp.nodup_iff.2 hfd)).imp ?_
            rintro a b ⟨h3, h4⟩
            rw [ltS] at h3
            simp only [decide_eq_false_iff_not, List.not_lt] at h3
            by_cases h5 : a < b
            · exact h5
            · exact absurd (List.le_antisymm h3 (List.not_lt.1 h5)) h4
          · rw [World.cell?_of_block (hbut.block p hpT hpgb), Lib.cell_of_heap HPT.out.cells]; rfl
          · rw [World.frozen?_of_block (hbut.block p hpT hpgb)]; exact Lib.frozen_of_heap HPT.out.cells 2
        have HO := Lib.hid hO
        obtain ⟨⟨base0, hrv⟩, hrvS⟩ := HPT.out.row
        have hvgb : v.ownBlock ≠ some gb := fun e => hgbQ.2 (hrvS gb e)
        -- merged
        have hM : ∀ (W : World) (fs : List Wd), WAsc fs → (∀ y, y ∈ fs ↔ y ∈ fr) → fs.length = fr.length → W.ownsRow H 9 1 (.slice (some ⟨gb, 0, none⟩) fr.length c8) fs.length (fs.map encW) → But (fun j => j = gb) wT.heap.size wT W →
            Calls Tryz.prog 60 #[v, .slice (some ⟨gb, 0, none⟩) fr.length c8] W fun e w' => ∃ gm nm cm, e = .returned (.slice (some ⟨gm, 0, none⟩) nm cm) ∧ (∃ S'', IdxAt S'' Q (N + 1000) (w'.setCell ⟨p, 2, none⟩ (.slice (some ⟨gm, 0, none⟩) nm cm)) p (putD D id l) ∧ But S w.heap.size w (w'.setCell ⟨p, 2, none⟩ (.slice (some ⟨gm, 0, none⟩) nm cm)) ∧ ∀ j, S'' j → S j ∨ w.heap.size ≤ j) ∧ w'.frozen? ⟨p, 2, none⟩ = false ∧ w'.cell? ⟨p, 2, none⟩ = some v := fun W fs h1 h2 h3 h4 h5 => by
          have hv1 : W.ownsRow base0 9 1 v (vocab (remD D id)).length ((vocab (remD D id)).map encW) := row_kept hrv fun j hj => h5.block j (by
            obtain ⟨_, cs, t, f, h⟩ := row_block hrv hj
            exact (Array.getElem?_eq_some_iff.1 h).1) (fun e => hvgb (e ▸ hj))
          have hvl := hvl0.out
          have hsa := strsAt_of_owns hv1 (by omega)
          have hsb := strsAt_of_owns h4 (by omega)
          refine (merged_any v (.slice (some ⟨gb, 0, none⟩) fr.length c8) (vocab (remD D id)) fs W hsa hsb (by omega) (by omega)).mono ?_
          rintro e w' ⟨vm, rfl, hom, hbm⟩
          have hml : 0 < (mergeW (vocab (remD D id)) fs).length := by rw [mergeW_len]; omega
          obtain ⟨gm, cm, rfl⟩ : ∃ gm cm, vm = .slice (some ⟨gm, 0, none⟩) (mergeW (vocab (remD D id)) fs).length cm := by
            rcases hom.2 with ⟨_, e2⟩ | ⟨g, cap, cur, e1, _⟩
            · omega
            · exact ⟨_, _, e1⟩
          have hgm := row_block hom (j := gm) rfl
          have hvm : mergeW (vocab (remD D id)) fs = vocab (putD D id l) := by
            refine vocab_eq (mergeW_asc (vocab_asc _) h1 fun y hy hy2 => ((HF2.out y).1 ((h2 y).1 hy2)).2 hy) fun y => ?_
            rw [mem_mergeW, h2, ← mem_vocab, HVOC.out y]
            constructor
            · rintro (h | h)
              · exact .inl h
              · exact .inr ((HF2.out y).1 h).1
            · rintro (h | h)
              · exact .inl h
              · by_cases hy : y ∈ vocab (remD D id)
                · exact .inl hy
                · exact .inr ((HF2.out y).2 ⟨h, hy⟩)
          have hsW := h5.size
          have hgml : gm < w'.heap.size := by
            obtain ⟨_, cs, t, f, h⟩ := hgm
            exact (Array.getElem?_eq_some_iff.1 h).1
          have hgmW : W.heap.size ≤ gm := hgm.1
          -- the parts at w'
          have hPm := ((HPT.out.kept (R := fun j => j = gb) (w' := W) h5 (fun j hj => by subst hj; exact hgbQ.1)).below hbm).full HSOME.out
          have hPx : PAt (fun j => S' j ∨ j = gm) Q (N + 1000) p b1 b2 v (fun i => if i = id then some (.slice at_ l.length ct) else tx i) g' (putD D id l) (cntD (putD D id l)) (vocab (remD D id)) w' := by
            have hPW := (HPT.out.kept (R := fun j => j = gb) (w' := W) h5 (fun j hj => by subst hj; exact hgbQ.1))
            have h6 := (hPW.change (S' := S') (Q' := fun j => Q j ∨ W.heap.size ≤ j) (fun _ h => h) hPW.lt (fun j hj hq => by
              rcases hq with hq | hq
              · exact hPW.out j hj (HOw.out.qup j hq)
              · have := hPW.lt j hj; omega) (fun j hj => by
              rcases hj with h | h | h
              · exact .inl (.inl h)
              · exact .inl (.inr (HOw.out.qup j h))
              · exact .inr h)).below hbm
            have h7 : PAtX (fun j => S' j ∨ j = gm) Q (N + 2 * l.length + 1) p b1 b2 v (fun i => if i = id then some (.slice at_ l.length ct) else tx i) g' (putD D id l) (cntD (putD D id l)) (vocab (remD D id)) w' :=
              ⟨h6.cells, h6.ne, ⟨h6.texts.map, .inl h6.texts.own, h6.texts.none, fun i l2 hl2 => by
                obtain ⟨u, hu, hs2⟩ := h6.texts.some i l2 hl2
                exact ⟨u, hu, hs2.1, fun hne b off n c e hb => hs2.2 hne b off n c e (by
                  rcases hb with (hb | hb) | hb
                  · exact .inl hb
                  · subst hb; exact .inr (.inr hgmW)
                  · exact .inr (.inl hb))⟩⟩, h6.map, .inl h6.own2, fun y b hy => by
                obtain ⟨a1, a2, a3, a4⟩ := h6.inner y b hy
                exact ⟨.inl a1, a2, a3, a4⟩, h6.inj, ⟨h6.row.1, fun j hj => .inl (h6.row.2 j hj)⟩, fun j hj => by
                rcases hj with h | rfl
                · exact h6.lt j h
                · exact hgml, fun j hj hq => by
                rcases hj with h | rfl
                · exact h6.out j h (.inl hq)
                · have := HQ.out j hq; omega, .inl h6.own⟩
            exact (h7.more (by omega)).full HSOME.out
          rw [hvm] at hom
          have hset := hPx.setRow (R := fun _ => False) (w' := w') (But.refl _ _ _) (fun k h => h.elim) hom (fun k hk => by
            simp [Value.ownBlock] at hk; subst hk
            exact ⟨.inr rfl, fun e => by have := HPT.out.lt p HPT.out.own; omega⟩)
          rw [hvm]
          refine ⟨gm, _, cm, rfl, ⟨_, HFin.out _ _ _ _ _ _ _ _ hset.1, ?_, fun j hj => ?_⟩, Lib.frozen_of_heap hPx.cells 2, by rw [Lib.cell_of_heap hPx.cells]; rfl⟩
          · have e1 : But S w.heap.size wT W := ⟨h5.os, h5.tape, h5.output, h5.size, fun j hj hn => h5.block j (by have := HBwT.out.size; omega) (by have := hgbH.1; omega)⟩
            have e2 : But S w.heap.size W w' := (But.of_below hbm).mono (by have := HBwT.out.size; omega)
            have e3 : But S w.heap.size w' (w'.setCell ⟨p, 2, none⟩ (.slice (some ⟨gm, 0, none⟩) (vocab (putD D id l)).length cm)) := (hset.2.mono (by have := HBwT.out.size; have := hbm.size; omega)).weaken fun j hj hs => by
              rcases hs with h | rfl
              · rcases HSw.out j h with h | h
                · exact h
                · omega
              · have := HBwT.out.size; omega
            exact ((HBwT.out.trans e1).trans e2).trans e3
          · rcases hj with h | rfl
            · exact HSw.out j h
            · right; have := HBwT.out.size; omega
        have HM := Lib.hid hM
        have cpT2 : wT.cell? ⟨p, 2, none⟩ = some v := by rw [Lib.cell_of_heap HPT.out.cells]; rfl
        have hg8 : decide ((0 : Int) < (fr.length : Int)) = true := by simp; omega
        obtain ⟨fn, hfn⟩ : ∃ n, fr.length = n := ⟨_, rfl⟩
        rw [hfn] at hg8 HO HM hle8 hf0 hfl ⊢
        have HFN := Lib.hid hfn
        clear hstr hbT hPT hSOME hroT hBT hBwT hvoc hSw hfr2 HP HBr hfr hfn hO hM hrv hrvS hvgb hfd hgbQ hgbH hpgb hpT
        go_upto_region 21 with fail
        have cpT2d : wT.drew.cell? ⟨p, 2, none⟩ = some v := cpT2
        first
          | (go_region_with (first | (go_at_call 61; refine (HO.out 1).mono ?_; rintro e w8 ⟨rfl, ⟨fs, f1, f2, f3, f4, f5⟩, k1, k2⟩) | (go_at_call 60; refine (HM.out _ fs f1 f2 f3 f4 f5).mono ?_; rintro e w9 ⟨gm, nm, cm, rfl, ⟨S'', hfin, hbf, hsf⟩, k3, k4⟩) | fail))
          | fail
        all_goals (go_wp2; go_ret; exact ⟨rfl, S'', hfin, hbf, hsf⟩)
end Go.Proofs.YtogjgibaolppfaaGreatDoor
/- The law's texts: few, queries, New. -/
namespace Go.Proofs.YtogjgibaolppfaaGreatDoor
open Go.RowKit Go.Sort Go.Proofs Go.Maps

/-- an operation: its kind, its ID, its text -/
abbrev Op3 := Int × Int × List UInt8
def opC (o : Op3) : List Value := [.int .i64 o.1, .int .i64 o.2.1, .string ⟨o.2.2.toArray⟩]
def okOp (o : Op3) : Prop := (-9223372036854775808 ≤ o.1 ∧ o.1 ≤ 9223372036854775807) ∧ (-9223372036854775808 ≤ o.2.1 ∧ o.2.1 ≤ 9223372036854775807)
/-- v is a slice of operations -/
def OpsAt (W : World) (v : Value) (l : List Op3) : Prop :=
  ∃ a c, v = .slice a l.length c ∧ l.length ≤ c ∧ l.length ≤ 9223372036854775807 ∧ ∀ k (h : k < l.length), ∃ b off, a = some ⟨b, off, none⟩ ∧ W.cell? ⟨b, off + k * 3, none⟩ = some (.int .i64 l[k].1) ∧ W.cell? ⟨b, off + k * 3 + 1, none⟩ = some (.int .i64 l[k].2.1) ∧ W.cell? ⟨b, off + k * 3 + 2, none⟩ = some (.string ⟨l[k].2.2.toArray⟩)
theorem OpsAt.below {W W' : World} {v : Value} {l : List Op3} (h : OpsAt W v l) (hb : Below W.heap.size W W') : OpsAt W' v l := by
  obtain ⟨a, c, hv, hle, hm, hc⟩ := h
  refine ⟨a, c, hv, hle, hm, fun j hj => ?_⟩
  obtain ⟨b, off, ha, h1, h2, h3⟩ := hc j hj
  exact ⟨b, off, ha, (hb.cell (World.block_lt_of_cell? W _ h1)).trans h1, (hb.cell (World.block_lt_of_cell? W _ h2)).trans h2, (hb.cell (World.block_lt_of_cell? W _ h3)).trans h3⟩
theorem opC_len (l : List Op3) : (l.flatMap opC).length = l.length * 3 := by
  induction l with
  | nil => rfl
  | cons x l ih => rw [List.flatMap_cons, List.length_append, ih]; simp [opC]; omega
/-- the first twelve, their texts cut to 200 bytes -/
def cutOp (o : Op3) : Op3 := (o.1, o.2.1, o.2.2.take 200)
def fewL (l : List Op3) : List Op3 := (l.take 12).map cutOp
theorem extract_cut (x : List UInt8) (n : Nat) : (ByteArray.extract ⟨x.toArray⟩ 0 (min ((x.length : Nat) : Int) n).toNat) = ⟨(x.take n).toArray⟩ := by
  apply ByteArray.ext; apply Array.toList_inj.1
  rw [Lib.extract_data]
  show (x.drop 0).take _ = x.take n
  rw [List.drop_zero, Nat.sub_zero]
  rcases Nat.le_total x.length n with h | h
  · rw [show (min ((x.length : Nat) : Int) n).toNat = x.length by omega, List.take_of_length_le h, List.take_of_length_le (Nat.le_refl _)]
  · rw [show (min ((x.length : Nat) : Int) n).toNat = n by omega]

/-- v is a slice of strings, however long -/
def StrsL (W : World) (v : Value) (xs : List (List UInt8)) : Prop :=
  ∃ a c, v = .slice a xs.length c ∧ xs.length ≤ c ∧ xs.length ≤ 9223372036854775807 ∧ ∀ j (h : j < xs.length), ∃ b off, a = some ⟨b, off, none⟩ ∧ W.cell? ⟨b, off + j, none⟩ = some (encW xs[j])
theorem StrsL.below {W W' : World} {v : Value} {l : List (List UInt8)} (h : StrsL W v l) (hb : Below W.heap.size W W') : StrsL W' v l := by
  obtain ⟨a, c, hv, hle, hm, hc⟩ := h
  refine ⟨a, c, hv, hle, hm, fun j hj => ?_⟩
  obtain ⟨b, off, ha, h1⟩ := hc j hj
  exact ⟨b, off, ha, (hb.cell (World.block_lt_of_cell? W _ h1)).trans h1⟩
/-- the first five, cut to 40 bytes -/
def queriesL (l : List (List UInt8)) : List (List UInt8) := (l.take 5).map (·.take 40)

end Go.Proofs.YtogjgibaolppfaaGreatDoor

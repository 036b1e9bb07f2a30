/- Facts and contracts for the laws of the sender, part 33. Conditions: those that each theorem names. -/
import Derived.Test.YtefloieanpgnmaaDoorK25
import Derived.Test.YtefloieanpgnmaaDoorK27
import Derived.Test.YtefloieanpgnmaaDoorK28
import Derived.Test.YtefloieanpgnmaaDoorK29
import Derived.Test.YtefloieanpgnmaaDoorK31
import Derived.Test.YtefloieanpgnmaaDoorK32
import Derived.Test.YtefloieanpgnmaaDoorK17
import Derived.Test.YtefloieanpgnmaaDoorK26
/- The law's start. -/
namespace Go.Proofs.YtefloieanpgnmaaDoor
open Go.RowKit

theorem zero_world : (Tryd.zeroCells47.setIfInBounds 0 (.int .i64 100)).setIfInBounds 1 (.int .i64 1000) = ((List.range 264).map (wldV wld0 (.slice none 0 0) (.slice none 0 0))).toArray := by kernel_rfl
/-- a sender and its world, new -/
def StartEnd (w : World) (e : Ending) (w' : World) : Prop := ∃ b q, e = .returned (.tuple #[.pointer (some ⟨b, 0, none⟩), .pointer (some ⟨q, 0, none⟩)]) ∧ w.heap.size ≤ b ∧ b < q ∧ SenAt (fun k => k = b) w' b startS (fun _ => none) ∧ WAt (fun k => k = q) w' q wld0 (.slice none 0 0) (.slice none 0 0) ∧ Below w.heap.size w w'
set_option maxRecDepth 100000 in
set_option maxHeartbeats 4000000 in
theorem start_any (w : World) : Calls Tryd.prog 7 #[] w (StartEnd w) := by
  have HN := Lib.hid (new_any w)
  go_enter Tryd.func7, Tryd.ntmps7
  go_wp2_with (first
    | (go_at_call 21; refine HN.out.mono ?_; rintro e w2 ⟨rfl, hs, hb⟩)
    | fail)
  rw [zero_world]
  obtain ⟨arr, harr⟩ : ∃ arr, ((List.range 264).map (wldV wld0 (.slice none 0 0) (.slice none 0 0))).toArray = arr := ⟨_, rfl⟩
  rw [harr]
  obtain ⟨w3, hw3⟩ : ∃ w3, w2.alloc (Obj.cells arr 47) = w3 := ⟨_, rfl⟩
  rw [hw3]
  have hb3 : Below w2.heap.size w2 w3 := by rw [← hw3]; exact (Below.refl _ w2).alloc (Nat.le_refl _) _
  have hq : w3.heap[w2.heap.size]? = some (.cells arr 47 (0, 0)) := by rw [← hw3]; exact heap_alloc_new w2 _
  have HFIN : Hid (StartEnd w (.returned (.tuple #[.pointer (some ⟨w.heap.size, 0, none⟩), .pointer (some ⟨w2.heap.size, 0, none⟩)])) w3) := Lib.hid ⟨_, _, rfl, Nat.le_refl _, hs.blt, hs.below hb3, ⟨rfl, fun k hk => by rw [hk]; exact (Array.getElem?_eq_some_iff.1 hq).1, by rw [← harr] at hq; exact cells_senF hq, .inl ⟨rfl, rfl⟩, ⟨⟨rfl, .inl ⟨rfl, rfl⟩⟩, fun j e => by cases e⟩, fun j e => by cases e⟩, hb.trans (hb3.mono hb.size)⟩
  clear hs hb hb3 hq hw3 harr
  exact bodyPost_ret (v := .tuple #[.pointer (some ⟨w.heap.size, 0, none⟩), .pointer (some ⟨w2.heap.size, 0, none⟩)]) (by simp [results, Tryd.results7, go_sem]) rfl HFIN.out
end Go.Proofs.YtefloieanpgnmaaDoor
/- The law's functions, by colours. -/
namespace Go.Proofs.YtefloieanpgnmaaDoor
open Go.RowKit

theorem lnext_any {a0 a1 : Addr} {w0 : World} {U : Nat → Prop} {w : World} {q : Nat} {W : Wld} {vf va : Value} (h : WAt U w q W vf va) (hlw : LW a0 a1 w0 w) (hU : ∀ k, U k → w0.heap.size ≤ k) (hw : NextOk W) (o : Op3) (ho : okO o) :
    Calls Tryd.prog 9 #[.pointer (some ⟨q, 0, none⟩), opV o] w (NextEnd U w q (W.next o).1 (W.next o).2) := by
  have hr := pick_range o.kind (n := 11) (by omega)
  by_cases h1 : pickD o.kind 11 ≤ 1
  · exact next_want h (hU q h.own) hlw hw o ho h1
  by_cases h2 : pickD o.kind 11 = 2
  · exact next_lease h hw o ho h2
  by_cases h3 : pickD o.kind 11 = 3 ∨ pickD o.kind 11 = 4
  · exact next_tick h hw o ho h3
  by_cases h5 : pickD o.kind 11 = 5
  · exact next_back h hw o ho h5
  by_cases h6 : 6 ≤ pickD o.kind 11 ∧ pickD o.kind 11 ≤ 7
  · exact next_give h hlw hU hw o ho h6
  by_cases h8 : pickD o.kind 11 = 8
  · exact next_lose h hw o ho h8
  · exact next_recv h hw o ho (by omega)

/-- next's end, by colours -/
def NextC (w0 : World) (col : Nat → Nat) (c : Nat) (w : World) (q : Nat) (cal : Cal) (W' : Wld) (e : Ending) (w' : World) : Prop := ∃ vi col', e = .returned (callV cal vi) ∧ Wo w0 col' c w' q W' ∧ Fr w0 c col col' w w' ∧
  ∀ now l, cal = .want now l → ItL w' vi l ∧ ∀ bb off n cc, vi = .slice (some ⟨bb, off, none⟩) n cc → bb < w'.heap.size ∧ col' bb = 0
theorem next_c {a0 a1 : Addr} {w0 : World} {col : Nat → Nat} {c : Nat} {w : World} {q : Nat} {W : Wld} (h : Wo w0 col c w q W) (h0 : c ≠ 0) (hlw : LW a0 a1 w0 w) (hw : NextOk W) (o : Op3) (ho : okO o) :
    Calls Tryd.prog 9 #[.pointer (some ⟨q, 0, none⟩), opV o] w (NextC w0 col c w q (W.next o).1 (W.next o).2) := by
  obtain ⟨vf, va, h1, h2⟩ := h
  refine (lnext_any h1 hlw h2 hw o ho).mono ?_
  rintro e w' ⟨vi, vf', va', U', rfl, h3, h4, h5, h6⟩
  refine ⟨vi, colN col w.heap.size c U', rfl, Wo.of h0 h2 hlw.bel.size h4.size h3 h5, colN_fr h0 h2 hlw.bel.size h4 h3.lt, fun now l hc => ?_⟩
  obtain ⟨h7, h8⟩ := h6 now l hc
  refine ⟨h7, fun bb off n cc e => ?_⟩
  obtain ⟨h9, h11, h10⟩ := h8 bb off n cc e
  refine ⟨h11, ?_⟩
  rcases colN_new (col := col) (n := w.heap.size) (c := c) (U' := U') (k := bb) h9 with ⟨-, h⟩ | ⟨h, -⟩
  · exact absurd h h10
  · exact h
theorem But.cl {S : Nat → Prop} {n : Nat} {col : Nat → Nat} {w w' : World} (hcl : Cl col w) (h : But S n w w') : Cl col w' := hcl.below h.size
theorem answer_w {a0 a1 : Addr} {w0 : World} {col : Nat → Nat} {c : Nat} {w : World} {q : Nat} {W : Wld} (h : Wo w0 col c w q W) (hcl : Cl col w) (hlw : LW a0 a1 w0 w) (m : Msg) (hs : 1 ≤ m.story ∧ m.story ≤ 64) (hp : PT W.p) (hd : m.data.length ≤ 9223372036854775000) :
    Calls Tryd.prog 19 #[.pointer (some ⟨q, 69, none⟩), m.enc] w fun e w' => e = .returned (W.p.answer m).1.enc ∧ Wo w0 col c w' q { W with p := (W.p.answer m).2 } ∧ Fr w0 c col col w w' := by
  obtain ⟨vf, va, h1, h2⟩ := h
  have h3 := answer_any h1.cells (h1.lt q h1.own) (h2 q h1.own) hlw m m.story.toNat (by omega) (by omega) (by have := hp m.story.toNat; omega) hd
  refine h3.mono ?_
  rintro e w' ⟨rfl, hf, hb⟩
  have hb2 : But (fun k => col k = c) w.heap.size w w' := hb.weaken fun k _ e => by rw [e]; exact h1.own
  exact ⟨rfl, ⟨vf, va, h1.putP hf hb, h2⟩, hb2, fun _ _ => rfl, fun k hk => .inr (hcl k hk), hb2.below hlw.bel.size h2, hb2.cl hcl⟩
theorem held_c {a0 a1 : Addr} {w0 : World} {c : Nat} {col : Nat → Nat} {w : World} {b : Nat} {S : Sen} (h : Sn a0 a1 w0 col c w b S) :
    Calls Tryd.prog 20 #[.pointer (some ⟨b, 0, none⟩)] w fun e w' => ∃ v, e = .returned v ∧ w'.ownsRow w.heap.size 60 2 v S.heldL.length (S.heldL.flatMap itemC) ∧ Below w.heap.size w w' := h.elim fun _ hP => held_any hP.at_
theorem settled_c {a0 a1 : Addr} {w0 : World} {c : Nat} {col : Nat → Nat} {w : World} {b : Nat} {S : Sen} (h : Sn a0 a1 w0 col c w b S) (now : Int) :
    Calls Tryd.prog 16 #[.pointer (some ⟨b, 0, none⟩), .int .i64 now] w fun e w' => e = .returned (.bool (S.settled now)) ∧ Below w.heap.size w w' := h.elim fun _ hP => settled_any hP.at_ now

theorem Sn.recol {a0 a1 : Addr} {w0 : World} {c : Nat} {col col' : Nat → Nat} {w w' : World} {b : Nat} {S : Sen} (h : Sn a0 a1 w0 col c w b S) (hb : Below w.heap.size w w') (hs : ∀ k, k < w.heap.size → col' k = col k) (hn : ∀ k, w.heap.size ≤ k → col' k ≠ c) : Sn a0 a1 w0 col' c w' b S := by
  obtain ⟨P, hP⟩ := h
  have e : (fun k => col' k = c) = fun k => col k = c := by
    funext k
    by_cases hk : k < w.heap.size
    · rw [hs k hk]
    · exact propext ⟨fun e => absurd e (hn k (by omega)), fun e => absurd (hP.at_.lt k e) hk⟩
  refine ⟨P, ?_⟩
  rw [e]
  exact hP.below hb
theorem Wo.recol {w0 : World} {c : Nat} {col col' : Nat → Nat} {w w' : World} {q : Nat} {W : Wld} (h : Wo w0 col c w q W) (hb : Below w.heap.size w w') (hs : ∀ k, k < w.heap.size → col' k = col k) (hn : ∀ k, w.heap.size ≤ k → col' k ≠ c) : Wo w0 col' c w' q W := by
  obtain ⟨vf, va, hP, hl⟩ := h
  have e : (fun k => col' k = c) = fun k => col k = c := by
    funext k
    by_cases hk : k < w.heap.size
    · rw [hs k hk]
    · exact propext ⟨fun e => absurd e (hn k (by omega)), fun e => absurd (hP.lt k e) hk⟩
  refine ⟨vf, va, ?_, fun k hk => hl k (by have := congrFun e k; rwa [← this])⟩
  rw [e]
  exact hP.below hb
/-- start's end, by colours -/
def StartC (a0 a1 : Addr) (w0 : World) (col : Nat → Nat) (c1 c2 : Nat) (w : World) (e : Ending) (w' : World) : Prop :=
  ∃ b q col', e = .returned (.tuple #[.pointer (some ⟨b, 0, none⟩), .pointer (some ⟨q, 0, none⟩)]) ∧ Sn a0 a1 w0 col' c1 w' b startS ∧ Wo w0 col' c2 w' q wld0 ∧ Below w.heap.size w w' ∧ Cl col' w' ∧ (∀ k, k < w.heap.size → col' k = col k) ∧ ∀ k, w.heap.size ≤ k → col' k = c1 ∨ col' k = c2 ∨ col' k = 0
theorem start_c {a0 a1 : Addr} {w0 : World} {col : Nat → Nat} {w : World} (hlw : LW a0 a1 w0 w) (hcl : Cl col w) (c1 c2 : Nat) (_h1 : c1 ≠ 0) (_h2 : c2 ≠ 0) (h12 : c1 ≠ c2) (hf : ∀ k, col k ≠ c1 ∧ col k ≠ c2) :
    Calls Tryd.prog 7 #[] w (StartC a0 a1 w0 col c1 c2 w) := by
  refine (start_any w).mono ?_
  rintro e w' ⟨b, q, rfl, hb, hbq, hs, hw, hbel⟩
  have hq := hw.lt q rfl
  have hw0 := hlw.bel.size
  have hc : ∃ col' : Nat → Nat, ∀ k, col' k = if k = b then c1 else if k = q then c2 else col k := ⟨_, fun k => rfl⟩
  obtain ⟨col', hc⟩ := hc
  have e1 : (fun k => col' k = c1) = fun k => k = b := by
    funext k
    rw [hc k]
    split
    · rename_i h; exact propext ⟨fun _ => h, fun _ => rfl⟩
    · rename_i h
      split
      · exact propext ⟨fun e => absurd e.symm h12, fun e => absurd e h⟩
      · exact propext ⟨fun e => absurd e (hf k).1, fun e => absurd e h⟩
  have e2 : (fun k => col' k = c2) = fun k => k = q := by
    funext k
    rw [hc k]
    split
    · rename_i h; exact propext ⟨fun e => absurd e h12, fun e => by omega⟩
    · split
      · rename_i h; exact propext ⟨fun _ => h, fun _ => rfl⟩
      · rename_i h
        exact propext ⟨fun e => absurd e (hf k).2, fun e => absurd e h⟩
  refine ⟨b, q, col', rfl, ⟨fun _ => none, ?_⟩, ⟨.slice none 0 0, .slice none 0 0, ?_, fun k hk => ?_⟩, hbel, fun k hk => ?_, fun k hk => ?_, fun k hk => ?_⟩
  · rw [e1]; exact ⟨hs, fun k hk => by omega, hlw.below hbel⟩
  · rw [e2]; exact hw
  · have : (fun k => col' k = c2) k := hk
    rw [e2] at this
    have this : k = q := this
    omega
  · have hs2 := hbel.size
    rw [hc k, if_neg (by omega), if_neg (by omega)]
    exact hcl k (by omega)
  · rw [hc k, if_neg (by omega), if_neg (by omega)]
  · rw [hc k]
    split
    · exact .inl rfl
    · split
      · exact .inr (.inl rfl)
      · exact .inr (.inr (hcl k hk))
end Go.Proofs.YtefloieanpgnmaaDoor
/- A sender and the law's world: steps. -/
namespace Go.Proofs.YtefloieanpgnmaaDoor
open Go.RowKit

/-- the items of a call: nobody's -/
def ItF (col : Nat → Nat) (w : World) (vi : Value) (cal : Cal) : Prop := ∀ now l, cal = .want now l → ItL w vi l ∧ ∀ bb off n cc, vi = .slice (some ⟨bb, off, none⟩) n cc → bb < w.heap.size ∧ col bb = 0
theorem ItF.fr {w0 : World} {c : Nat} {col col' : Nat → Nat} {w w' : World} {vi : Value} {cal : Cal} (h : ItF col w vi cal) (f : Fr w0 c col col' w w') (h0 : c ≠ 0) : ItF col' w' vi cal := fun now l e => by
  obtain ⟨⟨a, cc, h1, h2, h3, h4⟩, h5⟩ := h now l e
  refine ⟨⟨a, cc, h1, h2, h3, fun k hk => ?_⟩, fun bb off n c' e2 => ?_⟩
  · obtain ⟨b, off, h6, h7, h8, h9⟩ := h4 k hk
    have h10 := f.loc h0 (h5 b off _ _ (by rw [h1, h6])).2 h7
    exact ⟨b, off, h6, Nat.lt_of_lt_of_le h7 f.but.size, cell_same h10.1 h8, cell_same h10.1 h9⟩
  · have h6 := h5 bb off n c' e2
    exact ⟨Nat.lt_of_lt_of_le h6.1 f.but.size, (f.same bb h6.1).trans h6.2⟩
theorem ItF.below {col : Nat → Nat} {w w' : World} {vi : Value} {cal : Cal} (h : ItF col w vi cal) (hb : Below w.heap.size w w') : ItF col w' vi cal := fun now l e => by
  obtain ⟨⟨a, cc, h1, h2, h3, h4⟩, h5⟩ := h now l e
  refine ⟨⟨a, cc, h1, h2, h3, fun k hk => ?_⟩, fun bb off n c' e2 => ?_⟩
  · obtain ⟨b, off, h6, h7, h8, h9⟩ := h4 k hk
    exact ⟨b, off, h6, Nat.lt_of_lt_of_le h7 hb.size, cell_same (hb.block b h7) h8, cell_same (hb.block b h7) h9⟩
  · have h6 := h5 bb off n c' e2
    exact ⟨Nat.lt_of_lt_of_le h6.1 hb.size, h6.2⟩
theorem ItF.ok {col : Nat → Nat} {w : World} {vi : Value} {k : Nat} {W : Wld} {S : Sen} (h : RI k W S) (hk : k ≤ 1000) (o : Op3) (hi : ItF col w vi (W.next o).1) {c : Nat} (h0 : c ≠ 0) : CalOk (fun k => col k = c) w vi (W.next o).1 :=
  h.cal hk o fun now l e => ⟨(hi now l e).1, fun bb off n cc e2 e3 => h0 (by rw [← e3]; exact ((hi now l e).2 bb off n cc e2).2)⟩
def Cal.num : Cal → Int
  | .none => 0
  | .want _ _ => 1
  | .lease _ => 2
  | .recv _ _ => 3
  | .tick _ => 4
def Cal.msg : Cal → Msg
  | .recv _ m => m
  | _ => msg0
theorem callV_form {col : Nat → Nat} {w : World} {vi : Value} {cal : Cal} (h : ItF col w vi cal) : ∃ (t : Int) (a : Option Addr) (n c : Nat) (u : Int), callV cal vi = .agg #[.int .i64 cal.num, .int .i64 t, .slice a n c, .int .i64 u, .int .i64 cal.msg.kind, .int .i64 cal.msg.partner, .int .i64 cal.msg.seq, .int .i64 cal.msg.story, .int .i64 cal.msg.base, .int .i64 cal.msg.version, .string ⟨cal.msg.data.toArray⟩] := by
  cases cal with
  | none => exact ⟨_, _, _, _, _, rfl⟩
  | want now l =>
    obtain ⟨⟨a, c, rfl, -⟩, -⟩ := h now l rfl
    exact ⟨_, _, _, _, _, rfl⟩
  | lease u => exact ⟨_, _, _, _, _, rfl⟩
  | recv now m => exact ⟨_, _, _, _, _, rfl⟩
  | tick now => exact ⟨_, _, _, _, _, rfl⟩

/-- a sender of colour 1, a world of colour 2 -/
structure St2 (a0 a1 : Addr) (w0 : World) (col : Nat → Nat) (w : World) (b q : Nat) (W : Wld) (S : Sen) : Prop where
  cl : Cl col w
  sn : Sn a0 a1 w0 col 1 w b S
  wo : Wo w0 col 2 w q W
theorem St2.below {a0 a1 : Addr} {w0 : World} {col : Nat → Nat} {w w' : World} {b q : Nat} {W : Wld} {S : Sen} (h : St2 a0 a1 w0 col w b q W S) (hb : Below w.heap.size w w') : St2 a0 a1 w0 col w' b q W S := ⟨h.cl.below hb.size, h.sn.below hb, h.wo.below hb⟩
theorem St2.fr3 {a0 a1 : Addr} {w0 : World} {c : Nat} {col col' : Nat → Nat} {w w' : World} {b q : Nat} {W : Wld} {S : Sen} (h : St2 a0 a1 w0 col w b q W S) (f : Fr w0 c col col' w w') (h1 : 1 ≠ c) (h2 : 2 ≠ c) : St2 a0 a1 w0 col' w' b q W S := ⟨f.cl, h.sn.fr f h.cl h1 (by decide), h.wo.fr f h.cl h2 (by decide)⟩
theorem St2.next {a0 a1 : Addr} {w0 : World} {col : Nat → Nat} {w : World} {b q : Nat} {W : Wld} {S : Sen} (h : St2 a0 a1 w0 col w b q W S) {k : Nat} (hr : RI k W S) (hk : k ≤ 1000) (o : Op3) (ho : okO o) :
    Calls Tryd.prog 9 #[.pointer (some ⟨q, 0, none⟩), opV o] w fun e w' => ∃ vi col', e = .returned (callV (W.next o).1 vi) ∧ St2 a0 a1 w0 col' w' b q (W.next o).2 S ∧ Fr w0 2 col col' w w' ∧ ItF col' w' vi (W.next o).1 := by
  refine (next_c h.wo (by decide) h.sn.lw (hr.ok hk) o ho).mono ?_
  rintro e w' ⟨vi, col', rfl, h1, f, h2⟩
  exact ⟨vi, col', rfl, ⟨f.cl, h.sn.fr f h.cl (by decide) (by decide), h1⟩, f, h2⟩
/-- a sender's end, with the world -/
def PerfEnd (a0 a1 : Addr) (w0 : World) (col : Nat → Nat) (w : World) (b q : Nat) (W : Wld) (L : List Msg) (S' : Sen) (e : Ending) (w' : World) : Prop :=
  ∃ a c col', e = .returned (.slice a L.length c) ∧ MsgsL w' (.slice a L.length c) L ∧ (∀ j, (Value.slice a L.length c).ownBlock = some j → j < w'.heap.size ∧ col' j = 0) ∧ St2 a0 a1 w0 col' w' b q W S' ∧ Fr w0 1 col col' w w'
theorem St2.perform {a0 a1 : Addr} {w0 : World} {col : Nat → Nat} {w : World} {b q : Nat} {W : Wld} {S : Sen} (h : St2 a0 a1 w0 col w b q W S) (cal : Cal) (vi : Value) (hc : CalOk (fun k => col k = 1) w vi cal) :
    Calls Tryd.prog 10 #[callV cal vi, .pointer (some ⟨b, 0, none⟩)] w (PerfEnd a0 a1 w0 col w b q W (cal.perform S).1 (cal.perform S).2) := by
  refine (perform_c h.sn (by decide) cal vi hc).mono ?_
  rintro e w' ⟨v, col', rfl, hm, hv, hs, f⟩
  have hm2 := hm
  obtain ⟨a, c, rfl, -⟩ := hm
  exact ⟨a, c, col', rfl, hm2, fun j hj => ⟨(hv j hj).2.2, (hv j hj).1⟩, ⟨f.cl, hs, h.wo.fr f h.cl (by decide) (by decide)⟩, f⟩
/-- messages are appended to what is on its way -/
theorem St2.flowed {a0 a1 : Addr} {w0 : World} {col : Nat → Nat} {w w1 : World} {b q : Nat} {W : Wld} {S : Sen} {vf va v' : Value} {l' : List Msg} (h : St2 a0 a1 w0 col w b q W S) (hA : WAt (fun k => col k = 2) w q W vf va) (hl : ∀ k, col k = 2 → w0.heap.size ≤ k) (hr : RowO (fun k => col k = 2 ∨ v'.ownBlock = some k) q w1 v' l') (hg : w.grownBy w1 vf.ownBlock) (hat : ∀ k, v'.ownBlock = some k → vf.ownBlock = some k ∨ (w.heap.size ≤ k ∧ k < w1.heap.size)) :
    ∃ col', St2 a0 a1 w0 col' (w1.setCell ⟨q, 67, none⟩ v') b q { W with flight := l' } S ∧ Fr w0 2 col col' w (w1.setCell ⟨q, 67, none⟩ v') := by
  have hW := hA.flow hr hg hat
  have hsz := hg.size
  have hw0 := h.sn.lw.bel.size
  have hb : But (fun k => col k = 2) w.heap.size w (w1.setCell ⟨q, 67, none⟩ v') := ⟨hg.os, hg.tape, hg.output, by simpa using hsz, fun k hk hn => by
    rw [Below.heap_setCell w1 ⟨q, 67, none⟩ v' k (by show k ≠ q; exact fun e => hn (by rw [e]; exact hA.own))]
    exact hg.block k hk fun e => hn (hA.flight.own k e.symm).1⟩
  have f := colN_fr (w0 := w0) (c := 2) (U' := fun k => col k = 2 ∨ v'.ownBlock = some k) (by decide) hl hw0 hb hW.lt
  refine ⟨_, ⟨f.cl, h.sn.fr f h.cl (by decide) (by decide), Wo.of (by decide) hl hw0 hb.size hW fun k hk => ?_⟩, f⟩
  rcases hk with hk | hk
  · exact .inl hk
  · rcases hat k hk with h1 | h1
    · exact .inl (hA.flight.own k h1).1
    · exact .inr h1.1
theorem RowO.form {U : Nat → Prop} {q : Nat} {w : World} {v : Value} {l : List Msg} (h : RowO U q w v l) : ∃ a c, v = .slice a l.length c ∧ l.length ≤ c ∧ c ≤ 9223372036854775807 := by
  obtain ⟨a, c, h1, h2, h3, -⟩ := h.read
  exact ⟨a, c, h1, h2, h3⟩
end Go.Proofs.YtefloieanpgnmaaDoor
/- The nil sender; a sender that is refused. -/
namespace Go.Proofs.YtefloieanpgnmaaDoor
open Go.RowKit

theorem want_nil (now : Int) (v : Value) (w : World) : Calls Tryd.prog 17 #[.pointer none, .int .i64 now, v] w fun e w' => e = .returned (.int .i64 1) ∧ w = w' := by
  go_enter Tryd.func17, Tryd.ntmps17
  go_wp2_with fail
  refine (made_nil _).mono ?_
  rintro e w2 ⟨rfl, rfl⟩
  go_wp2
  go_ret
  exact ⟨rfl, rfl⟩
theorem tick_nil (now : Int) (w : World) : Calls Tryd.prog 18 #[.pointer none, .int .i64 now] w fun e w' => e = .returned (.slice none 0 0) ∧ Below w.heap.size w w' := by
  have HB : Hid (∀ o, Below w.heap.size w (w.alloc o)) := Lib.hid (fun o => (Below.refl _ w).alloc (Nat.le_refl _) o)
  go_enter Tryd.func18, Tryd.ntmps18
  go_wp2_with fail
  refine (made_nil _).mono ?_
  rintro e w2 ⟨rfl, rfl⟩
  go_wp2
  go_ret
  exact ⟨rfl, HB.out _⟩
theorem held_nil (w : World) : Calls Tryd.prog 20 #[.pointer none] w fun e w' => e = .returned (.slice none 0 0) ∧ w = w' := by
  go_enter Tryd.func20, Tryd.ntmps20
  go_wp2_with fail
  refine (made_nil _).mono ?_
  rintro e w2 ⟨rfl, rfl⟩
  go_wp2
  go_ret
  exact ⟨rfl, rfl⟩
theorem settled_nil (now : Int) (w : World) : Calls Tryd.prog 16 #[.pointer none, .int .i64 now] w fun e w' => e = .returned (.bool false) ∧ w = w' := by
  go_enter Tryd.func16, Tryd.ntmps16
  go_wp2_with fail
  refine (made_nil _).mono ?_
  rintro e w2 ⟨rfl, rfl⟩
  go_wp2
  go_ret
  exact ⟨rfl, rfl⟩
set_option maxRecDepth 100000 in
set_option maxHeartbeats 1000000 in
theorem receive_nil (now : Int) (m : Msg) (w : World) : Calls Tryd.prog 15 #[.pointer none, .int .i64 now, m.enc] w fun e w' => e = .returned (.tuple #[]) ∧ Below w.heap.size w w' := by
  have HBq : Hid (∀ o q, Below w.heap.size w ((w.alloc o).drewN q)) := Lib.hid (fun o q => ((Below.refl _ w).alloc (Nat.le_refl _) o).drewN q)
  unfold Msg.enc
  go_enter Tryd.func15, Tryd.ntmps15
  go_wp2_with fail
  go_quiet ((go_at_call 25; with_reducible exact Calls.quiet_of_same ((made_nil _).mono fun _ _ h => ⟨h.1, h.2.symm⟩)))
  go_wp2_with fail
  exact ⟨rfl, .tuple #[], (by simp [results, Tryd.results15, go_sem]), rfl, HBq.out _ _⟩
theorem new_no (w : World) : Calls Tryd.prog 21 #[.int .i64 9, .int .i64 0] w fun e w' => e = .returned (.tuple #[.pointer none, .int .i64 210]) ∧ w = w' := by
  go_enter Tryd.func21, Tryd.ntmps21
  go_wp2_with fail
  exact bodyPost_ret (v := .tuple #[.pointer none, .int .i64 210]) (by simp [results, Tryd.results21, go_sem]) rfl ⟨rfl, rfl⟩
end Go.Proofs.YtefloieanpgnmaaDoor
/- Plain: the fixed example: what is sent at first, and what follows. -/
namespace Go.Proofs.YtefloieanpgnmaaDoor

def eqM (a b : Msg) : Bool := decide (a.kind = b.kind) && decide (a.partner = b.partner) && decide (a.seq = b.seq) && decide (a.story = b.story) && decide (a.base = b.base) && decide (a.version = b.version) && decide (a.data = b.data)
theorem eqM_of {a b : Msg} (h : eqM a b = true) : a = b := by
  cases a; cases b
  unfold eqM at h
  simp only [Bool.and_eq_true, decide_eq_true_eq] at h
  obtain ⟨⟨⟨⟨⟨⟨rfl, rfl⟩, rfl⟩, rfl⟩, rfl⟩, rfl⟩, rfl⟩ := h
  rfl
theorem filterMap_same {α β : Type} {f g : α → Option β} : ∀ {l : List α}, (∀ x ∈ l, f x = g x) → l.filterMap f = l.filterMap g
  | [], _ => rfl
  | x :: l, h => by
    rw [List.filterMap_cons, List.filterMap_cons, h x List.mem_cons_self, filterMap_same fun y hy => h y (List.mem_cons_of_mem _ hy)]
/-- the sender that wants a text of story 7 -/
def sanS : Sen := { startS with st := fun i => { startS.st i with wanted := wantAt [(7, [97])] i } }
def sanP : Sen := (sanS.plan 0).plan 0
def sanL : List Nat := [6, 0, 1, 2, 3, 4, 5, 7, 8, 9, 10, 11, 12, 13, 14, 15]
def sanM (j : Nat) : Msg := if j = 6 then ⟨1, 2, 1, 7, 0, crcOf [97], diffD [] [97]⟩ else ⟨2, 2, if j < 6 then (j : Int) + 2 else (j : Int) + 1, (j : Int) + 1, 0, 0, []⟩
def sanB (i : Nat) : Bool := decide ((sanP.st i).held.num = 0) && match (sanP.st i).out with
  | some o => decide (i < 16) && eqM o.msg (sanM i) && !o.sent
  | none => decide (16 ≤ i)
theorem san_all : (List.range 64).all sanB = true := by decide +kernel
def sanF : List Nat := (List.range 64).filter fun i => match (sanP.st i).out with | some o => due 0 o | none => false
theorem san_perm : sanF.isPerm sanL = true := by decide +kernel
set_option maxRecDepth 100000 in
theorem san_sort : sanL.Pairwise fun i j => sanP.seqAt i < sanP.seqAt j := by decide +kernel
attribute [local irreducible] Sen.plan Sen.recv sanP
theorem san_sel : sanP.sel (due 0) = sanL := by
  have h0 : sanP.sel (due 0) = sanF.mergeSort fun i j => decide (sanP.seqAt i ≤ sanP.seqAt j) := by unfold Sen.sel sanF; rfl
  rw [h0]
  have h1 : (sanF.mergeSort fun i j => decide (sanP.seqAt i ≤ sanP.seqAt j)).Perm sanL := (List.mergeSort_perm _ _).trans (List.isPerm_iff.1 san_perm)
  refine List.Perm.eq_of_pairwise (le := fun i j => sanP.seqAt i ≤ sanP.seqAt j) ?_ ?_ ?_ h1
  · intro a b ha hb h2 h3
    have ha' := h1.mem_iff.1 ha
    obtain ⟨x, hx, rfl⟩ := List.getElem_of_mem ha'
    obtain ⟨y, hy, rfl⟩ := List.getElem_of_mem hb
    have hp := List.pairwise_iff_getElem.1 san_sort
    rcases Nat.lt_trichotomy x y with h | h | h
    · have := hp x y hx hy h; omega
    · subst h; rfl
    · have := hp y x hy hx h; omega
  · have := List.pairwise_mergeSort (le := fun i j => decide (sanP.seqAt i ≤ sanP.seqAt j)) (fun a b c h1 h2 => by simp only [decide_eq_true_eq] at *; omega) (fun a b => by simp only [Bool.or_eq_true, decide_eq_true_eq]; omega) sanF
    exact this.imp fun h => of_decide_eq_true h
  · exact san_sort.imp fun h => by omega
theorem san_crc : crcOf [97] ≠ 0 := by decide +kernel
def sanT (i : Nat) : Kn := if i = 6 then .pres [97] else .abs
def Q7 (_ : Nat) (t : List UInt8) : Prop := t = [97]
theorem Q7_ok : QOk Q7 := ⟨fun i t h => by rw [h]; decide, fun i t h => by rw [h]; exact san_crc, fun i t u h k _ => by rw [h, k]⟩
theorem san_wants (i : Nat) : wantAt [(7, [97])] i = sanT i := by
  unfold wantAt sanT
  by_cases h : i = 6
  · subst h; rfl
  · rw [if_neg h, List.find?_cons_of_neg (by simp only [decide_eq_true_eq]; omega), List.find?_nil]
theorem san_at {i : Nat} (hi : i < 64) : sanB i = true := List.all_eq_true.1 san_all i (List.mem_range.2 hi)
theorem san_held {i : Nat} (hi : i < 64) : (sanP.st i).held = .unk := by
  have h := san_at hi
  unfold sanB at h
  rw [Bool.and_eq_true] at h
  have h1 := of_decide_eq_true h.1
  cases hk : (sanP.st i).held with
  | unk => rfl
  | abs => rw [hk] at h1; exact absurd h1 (by decide)
  | pres t => rw [hk] at h1; have h1 : (2 : Int) = 0 := h1; omega
theorem san_out {i : Nat} (hi : i < 64) : (16 ≤ i ∧ (sanP.st i).out = none) ∨ (i < 16 ∧ ∃ o, (sanP.st i).out = some o ∧ o.msg = sanM i ∧ o.sent = false) := by
  have h := san_at hi
  unfold sanB at h
  rw [Bool.and_eq_true] at h
  have h1 := h.2
  cases ho : (sanP.st i).out with
  | none => rw [ho] at h1; exact .inl ⟨of_decide_eq_true h1, rfl⟩
  | some o =>
    rw [ho] at h1
    simp only [Bool.and_eq_true, Bool.not_eq_true', decide_eq_true_eq] at h1
    exact .inr ⟨h1.1.1, o, rfl, eqM_of h1.1.2, h1.2⟩
theorem outs_some {S : Sen} {i : Nat} {o : Out} (hi : i < 64) (h : (S.st i).out = some o) : S.outs ≠ 0 := fun e => by
  unfold Sen.outs at e
  rw [List.countP_eq_zero] at e
  have := e i (List.mem_range.2 hi)
  rw [h] at this
  exact this rfl
theorem settled_outs {S : Sen} {now : Int} (h : S.settled now = true) : S.outs = 0 := by
  unfold Sen.settled at h
  unfold Sen.outs
  rw [List.countP_eq_zero]
  intro i hi
  have h1 := List.all_eq_true.1 h i hi
  simp only [Bool.and_eq_true, Option.isNone_iff_eq_none] at h1
  rw [h1.1]
  exact Bool.false_ne_true
/-- what is sent first -/
def sanX : List Msg := sanL.map sanM
theorem san_plan : PlanR (sanS.plan 0) 0 sanP := by
  have h : sanP = (sanS.plan 0).plan 0 := by unfold sanP; rfl
  rw [h]
  exact plan_rel _ _
theorem san_tick : (sanS.plan 0).tick 0 = (sanX, sanP.sends 0 sanL) := by
  rw [tick_eq]
  have h : (sanS.plan 0).plan 0 = sanP := by unfold sanP; rfl
  rw [h]
  unfold tickOf
  rcases san_out (i := 0) (by omega) with ⟨h0, -⟩ | ⟨-, o, ho, -⟩
  · omega
  · rw [if_neg (outs_some (by omega) ho), san_sel]
    refine Prod.ext ?_ rfl
    simp only
    rw [msgs_map sanP sanL]
    · unfold sanX
      refine List.map_congr_left fun i hi => ?_
      have hi16 : i < 16 := by
        unfold sanL at hi
        simp only [List.mem_cons, List.not_mem_nil, or_false] at hi
        omega
      rcases san_out (i := i) (by omega) with ⟨h1, -⟩ | ⟨-, o, h1, h2, -⟩
      · omega
      · have h3 : outMsg sanP i = match (sanP.st i).out with | some o => o.msg | none => ⟨0, 0, 0, 0, 0, 0, []⟩ := rfl
        rw [h3, h1, ← h2]
    · intro i hi
      have hi16 : i < 16 := by
        unfold sanL at hi
        simp only [List.mem_cons, List.not_mem_nil, or_false] at hi
        omega
      rcases san_out (i := i) (by omega) with ⟨h1, -⟩ | ⟨-, o, h1, -⟩
      · omega
      · exact ⟨o, h1⟩
theorem san_sp : SP Q7 16 peer0 (sanS.plan 0) := by
  have h0 := start_sp 0 (Int.le_refl _) Q7 peer0
  have h1 : SP Q7 0 peer0 sanS := ⟨⟨h0.si.partner, h0.si.pos, fun i hi => by
    show KOk Q7 i (wantAt [(7, [97])] i) ∧ wantAt [(7, [97])] i ≠ .unk
    rw [san_wants]
    unfold sanT
    split
    · exact ⟨(fun t e => by cases e; rfl), (by simp)⟩
    · exact ⟨(fun t e => by cases e), (by simp)⟩, h0.si.held, h0.si.outs, h0.si.acked, h0.si.known, h0.si.out16⟩, h0.cnt, h0.aud, h0.told⟩
  exact h1.plan 0
/-- the partner and the sender when the first answers are received -/
def sanG : Peer × Sen := sanX.foldl (give1 0) (peer0, sanP.sends 0 sanL)
theorem mem_sanL {i : Nat} : i ∈ sanL ↔ i < 16 := by
  unfold sanL
  simp only [List.mem_cons, List.not_mem_nil, or_false]
  omega
theorem san_tgt (now : Int) (hn : now ≤ 1000) : Tgts sanT now sanP := fun i hi => by
  have h1 := plan_rel sanS 0
  rw [san_plan.tgt i now, h1.tgt i now]
  unfold Sen.tgt
  have : sanS.lease = 1000 := rfl
  rw [this, if_neg (by omega)]
  exact san_wants i
theorem san_unk : ∀ i, i < 64 → sanT i ≠ .unk := fun i _ => by unfold sanT; split <;> simp
theorem san_core : FoldR Q7 32 sanT sanL peer0 (sanP.sends 0 sanL) sanG.1 sanG.2 := by
  have hS : SP Q7 32 peer0 sanP := by
    have h : sanP = (sanS.plan 0).plan 0 := by unfold sanP; rfl
    rw [h]
    exact san_sp.plan 0
  have hP : PI Q7 32 peer0 := ⟨fun i _ => ⟨Int.le_refl _, by show (0 : Int) ≤ 32; decide⟩, fun i _ => ⟨(fun e => by cases e), fun _ => rfl⟩⟩
  have hs : Suit sanT sanP := plan_suit san_plan (fun i hi => by rw [← san_plan.tgt i 0]; exact san_tgt 0 (by decide) i hi) san_unk
  have h2 := fold_rel (B := 32) Q7_ok (T := sanT) (now := 0) san_unk sanM sanL (p := peer0) (S := sanP.sends 0 sanL) (by decide) (fun i hi => ?_) (by decide) hP ?_ ?_ ?_
  · exact h2
  · have hi := mem_sanL.1 hi
    refine ⟨by omega, .inl ?_⟩
    rcases san_out (i := i) (by omega) with ⟨h1, -⟩ | ⟨-, o, h1, h3, -⟩
    · omega
    · obtain ⟨o', h4, h5, -⟩ := (alike_sends sanP 0 sanL).outS h1
      exact ⟨o', h4, h5.trans h3⟩
  · exact ⟨hS.si.sends 0 sanL, hS.cnt, hS.aud, fun i m hi hm => hS.told i m hi (by rw [← (sends_st sanP 0 sanL i).2.2.1]; exact hm)⟩
  · intro i hi
    rw [(alike_sends sanP 0 sanL).same.tgt]
    exact san_tgt 0 (by decide) i hi
  · exact (alike_sends sanP 0 sanL).suit hs
theorem sanM_base (i : Nat) : (sanM i).base = 0 := by unfold sanM; split <;> rfl
theorem san_seq {i : Nat} (h : i < 16) : 1 ≤ (sanM i).seq := by
  unfold sanM
  split
  · exact Int.le_refl _
  · simp only; split <;> omega
theorem san_after {i : Nat} (hi : i < 64) : (i < 16 ∧ (sanG.2.st i).held = sanT i) ∨ (16 ≤ i ∧ (sanG.2.st i).held = .unk) := by
  by_cases h : i < 16
  · refine .inl ⟨h, ?_⟩
    have h1 := san_core.prog i (mem_sanL.2 h) (.inl (.inl ?_))
    · exact (Kn.is_iff.1 h1.1.2).1
    · rcases san_out (i := i) (by omega) with ⟨h1, -⟩ | ⟨-, o, h1, h3, -⟩
      · omega
      · obtain ⟨o', h4, h5, -⟩ := (alike_sends sanP 0 sanL).outS h1
        refine ⟨o', h4, ?_, ?_⟩
        · rw [h5, h3]; have := san_seq h; show (0 : Int) < _; omega
        · rw [h5, h3]; exact sanM_base i
  · refine .inr ⟨by omega, ?_⟩
    rw [(san_core.far i (fun e => h (mem_sanL.1 e)) hi).2.2, (sends_st sanP 0 sanL i).2.1]
    exact san_held hi
theorem san_unsent {i : Nat} {o : Out} (hi : i < 64) (h : (sanG.2.st i).out = some o) : o.sent = false := by
  rcases san_core.outN i o hi h with ⟨h1, h2⟩ | h1
  · obtain ⟨o', h3, -⟩ := (alike_sends sanP 0 sanL).back h2
    rcases san_out hi with ⟨-, h4⟩ | ⟨h4, -⟩
    · rw [h4] at h3; cases h3
    · exact absurd (mem_sanL.2 h4) h1
  · exact h1
theorem san_held2 {i : Nat} (hi : i < 64) : ((sanG.2.plan 1).st i).held = (sanG.2.st i).held := by
  have hp := plan_rel sanG.2 1
  cases h : (sanG.2.st i).out with
  | none => exact hp.heldN i hi h
  | some o => exact hp.heldO i o hi h (san_unsent hi h)
theorem san_unsent2 {i : Nat} {o : Out} (hi : i < 64) (h : ((sanG.2.plan 1).st i).out = some o) : o.sent = false := by
  have hp := plan_rel sanG.2 1
  rcases hp.new i o hi h with ⟨h1, -⟩ | ⟨q, h1, -⟩
  · exact san_unsent hi h1
  · rw [h1]
theorem san_outs : (sanG.2.plan 1).outs = 16 := by
  have hp := plan_rel sanG.2 1
  have hS := san_core.sp.plan 1
  have h1 := hS.si.out16
  by_cases h : (sanG.2.plan 1).outs < 16
  · exfalso
    have hc := hS.cnt
    have h2 := hp.full h (by
      have : (16 : Int) * (sanL.length : Int) = 256 := by decide
      unfold maxI; omega)
    have h3 : (List.range 64).countP (fun i => decide (16 ≤ i)) ≤ (List.range 64).countP (fun i => ((sanG.2.plan 1).st i).out.isSome) := countP_le_of 64 fun j hj e => by
      have e := of_decide_eq_true e
      cases ho : ((sanG.2.plan 1).st j).out with
      | some o => rfl
      | none =>
        have h4 := h2 j hj ho
        rw [san_held2 hj] at h4
        rcases san_after hj with ⟨h5, -⟩ | ⟨-, h5⟩
        · omega
        · rw [h5] at h4; cases h4
    have h4 : (List.range 64).countP (fun i => decide (16 ≤ i)) = 48 := by decide +kernel
    rw [h4] at h3
    unfold Sen.outs at h
    omega
  · omega
/-- the second tick -/
theorem san_again : (sanG.2.tick 1).1.length = 16 ∧ (sanG.2.tick 1).2.heldL = [(7, [97])] ∧ (sanG.2.tick 1).2.settled 1 = false := by
  rw [tick_eq]
  obtain ⟨S, hS⟩ : ∃ S, sanG.2.plan 1 = S := ⟨_, rfl⟩
  have ho := san_outs
  have hu : ∀ i o, i < 64 → (S.st i).out = some o → o.sent = false := fun i o hi h => san_unsent2 hi (by rw [hS]; exact h)
  have hh : ∀ i, i < 64 → (S.st i).held = (sanG.2.st i).held := fun i hi => by rw [← hS]; exact san_held2 hi
  rw [hS] at ho ⊢
  unfold tickOf
  rw [if_neg (by omega)]
  refine ⟨?_, ?_, ?_⟩
  · simp only
    rw [msgs_map S _ (fun i hi => by obtain ⟨-, o, h, -⟩ := mem_sel.1 hi; exact ⟨o, h⟩), List.length_map]
    unfold Sen.sel
    rw [List.length_mergeSort, ← List.countP_eq_length_filter, ← ho]
    unfold Sen.outs
    refine List.countP_congr fun i hi => ?_
    have hi := List.mem_range.1 hi
    cases h : (S.st i).out with
    | none => simp
    | some o => simp [due, hu i o hi h]
  · have h1 : (S.sends 1 (S.sel (due 1))).heldL = (List.range 64).filterMap fun i => if i = 6 then some ((7 : Int), ([97] : List UInt8)) else none := by
      unfold Sen.heldL
      refine filterMap_same fun i hi => ?_
      have hi := List.mem_range.1 hi
      rw [(sends_st S 1 _ i).2.1, hh i hi]
      rcases san_after hi with ⟨h2, h3⟩ | ⟨h2, h3⟩
      · rw [h3]
        unfold sanT
        by_cases e : i = 6
        · subst e; rfl
        · rw [if_neg e, if_neg e]
      · rw [h3, if_neg (by omega)]
    simp only
    rw [h1]
    decide +kernel
  · simp only
    cases h : (S.sends 1 (S.sel (due 1))).settled 1 with
    | false => rfl
    | true =>
      exfalso
      have h1 := settled_outs h
      have h2 : (S.sends 1 (S.sel (due 1))).outs = S.outs := by
        unfold Sen.outs
        refine List.countP_congr fun i _ => ?_
        rw [(sends_st S 1 _ i).2.2.2]
        cases (S.st i).out <;> simp
      omega
end Go.Proofs.YtefloieanpgnmaaDoor

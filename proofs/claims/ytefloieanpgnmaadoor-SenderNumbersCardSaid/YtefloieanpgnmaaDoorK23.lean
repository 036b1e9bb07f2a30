/- Facts and contracts for the laws of the sender, part 23. Conditions: those that each theorem names. -/
import Derived.Test.YtefloieanpgnmaaDoorK22
import Derived.Test.YtefloieanpgnmaaDoorK03
import Derived.Test.YtefloieanpgnmaaDoorK05
/- A sender's Want. -/
namespace Go.Proofs.YtefloieanpgnmaaDoor
open Go.RowKit

theorem SenAt.agree {T : Nat → Prop} {w : World} {b : Nat} {S S' : Sen} {P : Nat → Option Nat} (h : SenAt T w b S P) (ok : SenOk S') (h0 : S'.partner = S.partner ∧ S'.lease = S.lease ∧ S'.counter = S.counter ∧ S'.audit = S.audit) (hs : ∀ i, i < 64 → S'.st i = S.st i) : SenAt T w b S' P := by
  refine ⟨ok, h.lt, h.own, h.cells.congr fun o ho => ?_, fun i hi ho => h.nout i hi (by rw [← hs i hi]; exact ho), fun i o hi ho => h.sout i o hi (by rw [← hs i hi]; exact ho), h.inj⟩
  match o, ho with
  | 0, _ => unfold senV; rw [h0.1]
  | 1, _ => unfold senV; rw [h0.2.1]
  | 2, _ => unfold senV; rw [h0.2.2.1]
  | 3, _ => unfold senV; rw [h0.2.2.2]
  | o + 4, ho => show stoV (S.st (o / 13)) (P (o / 13)) (o % 13) = stoV (S'.st (o / 13)) (P (o / 13)) (o % 13); rw [hs (o / 13) (by omega)]
/-- S with other wanted texts -/
def wset (S : Sen) (f : Nat → Kn) : Sen := { S with st := fun i => { S.st i with wanted := f i } }
theorem wset_ok {S : Sen} (h : SenOk S) {f : Nat → Kn} (hf : ∀ i, (f i).txt.length ≤ 8192 ∧ f i ≠ .unk) : SenOk (wset S f) :=
  ⟨h.partner, h.lease, h.counter, h.audit, hf, h.held, h.outs, h.acked, h.apart⟩
theorem wset_self (S : Sen) : wset S (fun i => (S.st i).wanted) = S := rfl
theorem wset_upd (S : Sen) (f : Nat → Kn) (i : Nat) (k : Kn) : ({ wset S f with st := upd (wset S f).st i { (wset S f).st i with wanted := k } } : Sen) = wset S (updF f i k) := by
  unfold wset upd updF
  simp only [Sen.mk.injEq, true_and]
  funext j
  by_cases e : j = i
  · rw [if_pos e, if_pos e, e]
  · rw [if_neg e, if_neg e]

/-- a slice of items -/
def ItL (W : World) (v : Value) (l : List (Int × List UInt8)) : Prop :=
  ∃ a c, v = .slice a l.length c ∧ l.length ≤ c ∧ l.length ≤ 9223372036854775807 ∧ ∀ k (h : k < l.length), ∃ b off, a = some ⟨b, off, none⟩ ∧ b < W.heap.size ∧ W.cell? ⟨b, off + k * 2, none⟩ = some (.int .i64 l[k].1) ∧ W.cell? ⟨b, off + k * 2 + 1, none⟩ = some (.string ⟨l[k].2.toArray⟩)
/-- a list that is permitted -/
structure ItOk (l : List (Int × List UInt8)) : Prop where
  range : ∀ x ∈ l, 1 ≤ x.1 ∧ x.1 ≤ 64 ∧ x.2.length ≤ 8192
  asc : l.Pairwise fun a b => a.1 < b.1
def lastOf (l : List (Int × List UInt8)) (k : Nat) : Int := match k with
  | 0 => 0
  | k + 1 => match l[k]? with | some x => x.1 | none => 0
theorem ItOk.last {l : List (Int × List UInt8)} (h : ItOk l) {k : Nat} (hk : k < l.length) : lastOf l k < l[k].1 := by
  cases k with
  | zero =>
    have := (h.range _ (List.getElem_mem hk)).1
    show (0 : Int) < _
    omega
  | succ k =>
    have he : lastOf l (k + 1) = match l[k]? with | some x => x.1 | none => 0 := rfl
    rw [he, List.getElem?_eq_getElem (by omega)]
    exact List.pairwise_iff_getElem.1 h.asc k (k + 1) (by omega) hk (by omega)
theorem wantAt_none {l : List (Int × List UInt8)} {i : Nat} (h : ∀ x ∈ l, x.1 ≠ (i : Int) + 1) : wantAt l i = .abs := by
  unfold wantAt
  rw [List.find?_eq_none.2 fun x hx => by simpa using h x hx]
theorem wantAt_step {l : List (Int × List UInt8)} (h : ItOk l) {k : Nat} (hk : k < l.length) : updF (wantAt (l.take k)) (l[k].1 - 1).toNat (.pres l[k].2) = wantAt (l.take (k + 1)) := by
  have hr := h.range _ (List.getElem_mem hk)
  funext i
  unfold updF
  by_cases e : i = (l[k].1 - 1).toNat
  · rw [if_pos e]
    unfold wantAt
    rw [List.take_succ_eq_append_getElem hk, List.find?_append]
    have hn : (l.take k).find? (fun x => decide (x.1 = (i : Int) + 1)) = none := by
      rw [List.find?_eq_none]
      intro x hx
      obtain ⟨j, hj, hx⟩ := List.getElem_of_mem hx
      rw [List.getElem_take] at hx
      rw [List.length_take] at hj
      have := List.pairwise_iff_getElem.1 h.asc j k (by omega) hk (by omega)
      rw [hx] at this
      simp only [decide_eq_true_eq]
      omega
    rw [hn]
    simp [show l[k].1 = (i : Int) + 1 by omega]
  · rw [if_neg e]
    unfold wantAt
    rw [List.take_succ_eq_append_getElem hk, List.find?_append]
    have hne : ¬ l[k].1 = (i : Int) + 1 := by omega
    cases hf : (l.take k).find? (fun x => decide (x.1 = (i : Int) + 1)) with
    | some x => rfl
    | none => simp [hne]
theorem wantAt_ok {l : List (Int × List UInt8)} (h : ItOk l) (i : Nat) : (wantAt l i).txt.length ≤ 8192 ∧ wantAt l i ≠ .unk := by
  unfold wantAt
  cases hf : l.find? (fun x => decide (x.1 = (i : Int) + 1)) with
  | none => exact ⟨by simp [Kn.txt], by simp⟩
  | some x => exact ⟨(h.range x (List.mem_of_find?_eq_some hf)).2.2, by simp⟩
/-- Want's state -/
def WantSt (a0 a1 : Addr) (w0 : World) (T : Nat → Prop) (w : World) (b : Nat) (S : Sen) (P : Nat → Option Nat) (f : Nat → Kn) (W : World) : Prop := Snd a0 a1 w0 T W b (wset S f) P ∧ But T w.heap.size w W
theorem WantSt.below {a0 a1 : Addr} {w0 : World} {T : Nat → Prop} {w : World} {b : Nat} {S : Sen} {P : Nat → Option Nat} {f : Nat → Kn} {W W' : World} (h : WantSt a0 a1 w0 T w b S P f W) (hb : Below W.heap.size W W') : WantSt a0 a1 w0 T w b S P f W' := ⟨h.1.below hb, h.2.trans (But.of_below (hb.mono h.2.size))⟩
theorem WantSt.put {a0 a1 : Addr} {w0 : World} {T : Nat → Prop} {w : World} {b : Nat} {S : Sen} {P : Nat → Option Nat} {f : Nat → Kn} {W : World} (h : WantSt a0 a1 w0 T w b S P f W) {i : Nat} (hi : i < 64) (k : Kn) (hk : k.txt.length ≤ 8192) (hu : k ≠ .unk) :
    WantSt a0 a1 w0 T w b S P (updF f i k) ((W.setCell ⟨b, 4 + i * 13 + 0, none⟩ (.int .i64 k.num)).setCell ⟨b, 4 + i * 13 + 1, none⟩ (.string ⟨k.txt.toArray⟩)) := by
  have h1 := h.1.at_.putWanted hi k hk hu
  rw [wset_upd] at h1
  have hB : But T W.heap.size W ((W.setCell ⟨b, 4 + i * 13 + 0, none⟩ (.int .i64 k.num)).setCell ⟨b, 4 + i * 13 + 1, none⟩ (.string ⟨k.txt.toArray⟩)) := ((But.refl _ _ _).setCell h.1.at_.own _).setCell h.1.at_.own _
  exact ⟨h.1.of h1 hB (fun k hk => .inl hk), h.2.trans (hB.mono h.2.size)⟩

set_option maxRecDepth 100000 in
set_option maxHeartbeats 8000000 in
theorem want_any {a0 a1 : Addr} {w0 : World} {T : Nat → Prop} {w : World} {b : Nat} {S : Sen} {P : Nat → Option Nat} (h : Snd a0 a1 w0 T w b S P) (now : Int) (hnow : -9223372036854775808 ≤ now ∧ now ≤ 9223372036854775807) (l : List (Int × List UInt8)) (hl : ItOk l) (v : Value) (hv : ItL w v l) (hT : ∀ bb off n c, v = .slice (some ⟨bb, off, none⟩) n c → ¬ T bb) :
    Calls Tryd.prog 17 #[.pointer (some ⟨b, 0, none⟩), .int .i64 now, v] w fun e w' => e = .returned (.int .i64 0) ∧ SEnd a0 a1 w0 T w b (S.want now l) w' := by
  obtain ⟨a, c, rfl, hc, hln, hcell⟩ := hv
  have HL := Lib.hid hl; have HC := Lib.hid hcell; have HH := Lib.hid h
  have HCT : Hid (∀ W, But T w.heap.size w W → ∀ k (h : k < l.length), ∃ b off, a = some ⟨b, off, none⟩ ∧ W.cell? ⟨b, off + k * 2, none⟩ = some (.int .i64 l[k].1) ∧ W.cell? ⟨b, off + k * 2 + 1, none⟩ = some (.string ⟨l[k].2.toArray⟩)) := Lib.hid (fun W hW k hk => by
    obtain ⟨bb, off, h1, h2, h3, h4⟩ := hcell k hk
    have hnt : ¬ T bb := hT bb off _ _ (by rw [h1])
    exact ⟨bb, off, h1, cell_same (hW.block bb h2 hnt) h3, cell_same (hW.block bb h2 hnt) h4⟩)
  have hbl := h.at_.blt
  clear hl hcell hT h
  go_enter Tryd.func17, Tryd.ntmps17
  go_wp2_with fail
  refine (made_any HH.out.at_).mono ?_
  rintro e w2 ⟨rfl, rfl⟩
  go_wp2_with fail
  go_loopw [7, 18] (fun la i wr => ∃ k : Nat, i = .int .i64 k ∧ k ≤ l.length ∧ la = .int .i64 (lastOf l k) ∧ Hid (Below w.heap.size w wr)) (fun _ i _ => l.length - (intOf i).toNat)
  case atStart => exact ⟨0, rfl, by omega, rfl, Lib.hid (Below.refl _ _)⟩
  case round =>
    obtain ⟨k, rfl, hk, rfl, HB⟩ := hrel
    by_cases hlt : k < l.length
    · have hki : (k : Int) < l.length := by omega
      obtain ⟨bb, off, rfl, x0, x1⟩ := HCT.out wr (But.of_below HB.out) k hlt
      obtain ⟨hr1, hr2, hr3⟩ := HL.out.range _ (List.getElem_mem hlt)
      have hla := HL.out.last hlt
      have hla2 : Hid (lastOf l (k + 1) = l[k].1) := Lib.hid (by
        have he : lastOf l (k + 1) = match l[k]? with | some x => x.1 | none => 0 := rfl
        rw [he, List.getElem?_eq_getElem hlt])
      obtain ⟨st, hst⟩ : ∃ x, l[k].1 = x := ⟨_, rfl⟩
      obtain ⟨tx, htx⟩ : ∃ x, l[k].2 = x := ⟨_, rfl⟩
      rw [hst] at x0 hr1 hr2 hla hla2
      rw [htx] at x1 hr3
      obtain ⟨la, hlae⟩ : ∃ x, lastOf l k = x := ⟨_, rfl⟩
      rw [hlae] at hla
      clear hst htx
      have d1 : decide (st ≤ la) = false := decide_eq_false (by omega)
      have d2 : decide ((64 : Int) < st) = false := decide_eq_false (by omega)
      have d3 : decide ((8192 : Int) < (tx.length : Int)) = false := decide_eq_false (by omega)
      have HB2 : Hid (∀ o, Below w.heap.size w (wr.alloc o)) := Lib.hid (fun o => HB.out.alloc HB.out.size o)
      have hlae2 := hlae
      go_wp2_with fail
      go_roundw
      case rel => exact ⟨k + 1, by go_num, by omega, by rw [hla2.out], Lib.hid (HB2.out _)⟩
      case measure => simp [intOf]; omega
    · obtain rfl : k = l.length := by omega
      have HW0 : Hid (WantSt a0 a1 w0 T w b S P (fun j => if j < 0 then .abs else (S.st j).wanted) wr) := Lib.hid ⟨by
        have : (wset S fun j => if j < 0 then .abs else (S.st j).wanted) = S := by simp [wset]
        rw [this]
        exact HH.out.below HB.out, But.of_below HB.out⟩
      obtain ⟨la, hla⟩ : ∃ x, lastOf l l.length = x := ⟨_, rfl⟩
      rw [hla]
      clear hla
      go_wp2_with fail
      go_loopw [40] (fun i wx => ∃ k : Nat, i = .int .i64 k ∧ k ≤ 64 ∧ Hid (WantSt a0 a1 w0 T w b S P (fun j => if j < k then .abs else (S.st j).wanted) wx)) (fun i _ => 64 - (intOf i).toNat)
      case atStart => exact ⟨0, rfl, by omega, HW0⟩
      case round =>
        clear HW0 HB
        obtain ⟨k, rfl, hk, HW⟩ := hrel
        by_cases hk64 : k < 64
        · have hki : (k : Int) < 64 := by omega
          have SX := HW.out.1.at_
          obtain ⟨v0, c0⟩ : ∃ v, wr.cell? ⟨b, 4 + k * 13, none⟩ = some v := ⟨_, (SX.story hk64 0 (by omega)).1⟩
          obtain ⟨v1, c1⟩ : ∃ v, wr.cell? ⟨b, 4 + k * 13 + 1, none⟩ = some v := ⟨_, (SX.story hk64 1 (by omega)).1⟩
          have f0 : wr.frozen? ⟨b, 4 + k * 13, none⟩ = false := (SX.story hk64 0 (by omega)).2
          have f1 := (SX.story hk64 1 (by omega)).2
          have hput := HW.out.put hk64 .abs (by simp [Kn.txt]) (by simp)
          have hfe : updF (fun j => if j < k then .abs else (S.st j).wanted) k .abs = fun j => if j < k + 1 then .abs else (S.st j).wanted := by
            funext j
            unfold updF
            by_cases h1 : j = k
            · rw [if_pos h1, if_pos (by omega)]
            · rw [if_neg h1]
              show (if j < k then Kn.abs else (S.st j).wanted) = _
              by_cases h2 : j < k
              · rw [if_pos h2, if_pos (by omega)]
              · rw [if_neg h2, if_neg (by omega)]
          rw [hfe] at hput
          have HP := Lib.hid hput
          clear SX hput hfe
          go_wp2_with fail
          go_roundw
          case rel => exact ⟨k + 1, by go_num, by omega, HP⟩
          case measure => simp [intOf]; omega
        · obtain rfl : k = 64 := by omega
          have HW1 : Hid (WantSt a0 a1 w0 T w b S P (wantAt (l.take 0)) wr) := Lib.hid ⟨⟨HW.out.1.at_.agree (wset_ok HH.out.at_.ok fun i => wantAt_ok ⟨fun x hx => by simp at hx, by simp⟩ i) ⟨rfl, rfl, rfl, rfl⟩ (fun i hi => by
            unfold wset
            simp only [if_pos hi]
            rw [wantAt_none (fun x hx => by simp at hx)]), HW.out.1.low, HW.out.1.lw⟩, HW.out.2⟩
          go_wp2_with fail
          go_loopw [53] (fun i wx => ∃ k : Nat, i = .int .i64 k ∧ k ≤ l.length ∧ Hid (WantSt a0 a1 w0 T w b S P (wantAt (l.take k)) wx)) (fun i _ => l.length - (intOf i).toNat)
          case atStart => exact ⟨0, rfl, by omega, HW1⟩
          case round =>
            clear HW1 HW
            obtain ⟨k, rfl, hk, HW⟩ := hrel
            by_cases hlt : k < l.length
            · have hki : (k : Int) < l.length := by omega
              obtain ⟨bb, off, rfl, x0, x1⟩ := HCT.out wr HW.out.2 k hlt
              obtain ⟨hr1, hr2, hr3⟩ := HL.out.range _ (List.getElem_mem hlt)
              have hstp := Lib.hid (wantAt_step HL.out hlt)
              obtain ⟨st, hst⟩ : ∃ x, l[k].1 = x := ⟨_, rfl⟩
              obtain ⟨tx, htx⟩ : ∃ x, l[k].2 = x := ⟨_, rfl⟩
              rw [hst, htx] at hstp
              rw [hst] at x0 hr1 hr2
              rw [htx] at x1 hr3
              clear hst htx
              obtain ⟨i, hi⟩ : ∃ i : Nat, st = (i : Int) + 1 := ⟨(st - 1).toNat, by omega⟩
              subst hi
              have hi64 : i < 64 := by omega
              have hi0 : (0 : Int) ≤ (i : Int) := by omega
              have hii : (i : Int) < 64 := by omega
              have hwr : IntKind.i64.wrap ((i : Int) + 1 - 1) = (i : Int) := by rw [show (i : Int) + 1 - 1 = (i : Int) by omega]; exact IntWalk.i64_in _ (by omega)
              rw [show ((i : Int) + 1 - 1).toNat = i by omega] at hstp
              go_upto_region 19 with fail
              obtain ⟨w2, hw2⟩ : ∃ w2, wr.alloc (.cells #[.int .i64 ((i : Int) + 1), .string ⟨tx.toArray⟩] 60) = w2 := ⟨_, rfl⟩
              have hb2 : Below wr.heap.size wr w2 := by rw [← hw2]; exact (Below.refl _ wr).alloc (Nat.le_refl _) _
              have hib : w2.heap[wr.heap.size]? = some (.cells #[.int .i64 ((i : Int) + 1), .string ⟨tx.toArray⟩] 60 (0, 0)) := by rw [← hw2]; exact heap_alloc_new wr _
              have HW2 := Lib.hid (HW.out.below hb2)
              have hbr := HW.out.1.at_.blt
              try rw [hw2]
              obtain ⟨I, hI⟩ : ∃ I, wr.heap.size = I := ⟨_, rfl⟩
              rw [hI] at hib hbr ⊢
              have y0 : w2.cell? ⟨I, 0, none⟩ = some (.int .i64 ((i : Int) + 1)) := by rw [Lib.cell_of_heap hib]; rfl
              have y1 : w2.cell? ⟨I, 1, none⟩ = some (.string ⟨tx.toArray⟩) := by rw [Lib.cell_of_heap hib]; rfl
              have hIb : I ≠ b := by omega
              have SX := HW2.out.1.at_
              obtain ⟨v0, c0⟩ : ∃ v, w2.cell? ⟨b, 4 + i * 13, none⟩ = some v := ⟨_, (SX.story hi64 0 (by omega)).1⟩
              obtain ⟨v1, c1⟩ : ∃ v, w2.cell? ⟨b, 4 + i * 13 + 1, none⟩ = some v := ⟨_, (SX.story hi64 1 (by omega)).1⟩
              have f0 : w2.frozen? ⟨b, 4 + i * 13, none⟩ = false := (SX.story hi64 0 (by omega)).2
              have f1 := (SX.story hi64 1 (by omega)).2
              have hput := HW2.out.put hi64 (.pres tx) hr3 (by simp)
              rw [hstp.out] at hput
              have HPT : Hid (WantSt a0 a1 w0 T w b S P (wantAt (l.take (k + 1))) ((w2.setCell ⟨b, 4 + i * 13 + 0, none⟩ (.int .i64 2)).setCell ⟨b, 4 + i * 13 + 1, none⟩ (.string ⟨tx.toArray⟩)).drew) := Lib.hid (hput.below (Below.refl _ _).drew)
              clear hput hw2 hb2 hib SX x0 x1 hI HW HW2
              go_region
              go_wp2_with fail
              go_roundw
              case rel => exact ⟨k + 1, by go_num, by omega, HPT⟩
              case measure => simp [intOf]; omega
            · obtain rfl : k = l.length := by omega
              have HSZ : Hid (Snd a0 a1 w0 T wr b (wset S (wantAt l)) P) := Lib.hid (by have := HW.out.1; rwa [List.take_length] at this)
              have HBZ : Hid (But T w.heap.size w wr) := Lib.hid HW.out.2
              have CP := Lib.hid (plan_any HSZ.out now hnow)
              have HEQ : Hid (S.want now l = Sen.plan (wset S (wantAt l)) now) := Lib.hid rfl
              clear HW
              go_wp2_with (first | (go_at_call 27; refine CP.out.mono ?_; rintro e w9 ⟨rfl, hend⟩; have HEND := Lib.hid hend; clear hend) | fail)
              have HFIN : Hid (SEnd a0 a1 w0 T w b (S.want now l) w9) := Lib.hid (by
                rw [HEQ.out]
                exact SEnd.via HSZ.out.at_.lt HBZ.out HEND.out)
              clear HEND CP
              go_wp2_with fail
              go_ret
              exact ⟨rfl, HFIN.out⟩
end Go.Proofs.YtefloieanpgnmaaDoor
/- Plain: a message is sent, answered, and the answer is received. -/
namespace Go.Proofs.YtefloieanpgnmaaDoor

/-- what is out suits the targets -/
def Suit (T : Nat → Kn) (S : Sen) : Prop := ∀ i o, i < 64 → (S.st i).out = some o → o.text.is (T i) = true
/-- nothing is left to be done -/
def W0 (T : Nat → Kn) (S : Sen) (i : Nat) : Prop := (S.st i).out = none ∧ (S.st i).held.is (T i) = true
/-- one message suffices -/
def W1 (p : Peer) (S : Sen) (i : Nat) : Prop :=
  (∃ o, (S.st i).out = some o ∧ p.seq (i + 1) < o.msg.seq ∧ o.msg.base = 0) ∨ ((S.st i).out = none ∧ (S.st i).held = .unk ∧ p.seq (i + 1) ≤ S.counter)
/-- the partner's number is the acknowledged one -/
def Fresh (p : Peer) (S : Sen) (i : Nat) : Prop := ∃ m, (S.st i).acked = some m ∧ m.seq = p.seq (i + 1)
def Tgts (T : Nat → Kn) (now : Int) (S : Sen) : Prop := ∀ i, i < 64 → S.tgt i now = T i
theorem nm_base (p q : Int) (i : Nat) (t : Kn) : (nm p q i .unk t).base = 0 := by
  cases t <;> rfl
theorem Kn.is_self {t : Kn} (h : t ≠ .unk) : t.is t = true := Kn.is_iff.2 ⟨rfl, h⟩

/-- the plan after a step in which story i has lost its message, or has none -/
structure PlW (T : Nat → Kn) (S S' : Sen) : Prop where
  suit : Suit T S'
  held : ∀ i, i < 64 → (S'.st i).held = (S.st i).held
  acked : ∀ i, (S'.st i).acked = (S.st i).acked
  outF : ∀ i o, i < 64 → (S.st i).out = some o → (S'.st i).out = some o
  outN : ∀ i o, i < 64 → (S'.st i).out = some o → (S.st i).out = some o ∨ o.sent = false
  w0 : ∀ i, i < 64 → (W0 T S i ↔ W0 T S' i)
  w1 : ∀ (p : Peer) i, i < 64 → W1 p S i → W1 p S' i
theorem plan_w {T : Nat → Kn} {S S' : Sen} {now : Int} (hp : PlanR S now S') (ht : Tgts T now S) (hT : ∀ i, i < 64 → T i ≠ .unk) (hs : Suit T S) : PlW T S S' := by
  have hheld : ∀ i, i < 64 → (S'.st i).held = (S.st i).held := fun i hi => by
    cases ho : (S.st i).out with
    | none => exact hp.heldN i hi ho
    | some o => exact (hp.keep i o hi ho (by rw [ht i hi]; exact hs i o hi ho)).2
  have houtF : ∀ i o, i < 64 → (S.st i).out = some o → (S'.st i).out = some o := fun i o hi ho => (hp.keep i o hi ho (by rw [ht i hi]; exact hs i o hi ho)).1
  have hnew : ∀ i o, i < 64 → (S'.st i).out = some o → (S.st i).out = some o ∨ ((S.st i).out = none ∧ ∃ q, o = ⟨nm S.partner q i (S.st i).held (T i), T i, false, 0⟩ ∧ S.counter < q ∧ (S.st i).held.is (T i) = false) := fun i o hi ho => by
    rcases hp.new i o hi ho with ⟨h1, -⟩ | ⟨q, h1, h2, -, h3⟩
    · exact .inl h1
    · rw [ht i hi, hheld i hi] at h1 h3
      cases hso : (S.st i).out with
      | some o' =>
        have := houtF i o' hi hso
        rw [this] at ho
        exact .inl ho
      | none => exact .inr ⟨rfl, q, h1, h2, h3⟩
  refine ⟨fun i o hi ho => ?_, hheld, hp.acked, houtF, fun i o hi ho => ?_, fun i hi => ⟨fun h => ?_, fun h => ?_⟩, fun p i hi h => ?_⟩
  · rcases hnew i o hi ho with h1 | ⟨-, q, h1, -, -⟩
    · exact hs i o hi h1
    · rw [h1]; exact Kn.is_self (hT i hi)
  · rcases hnew i o hi ho with h1 | ⟨-, q, h1, -, -⟩
    · exact .inl h1
    · exact .inr (by rw [h1])
  · refine ⟨?_, by rw [hheld i hi]; exact h.2⟩
    cases ho : (S'.st i).out with
    | none => rfl
    | some o =>
      rcases hnew i o hi ho with h1 | ⟨-, q, -, -, h3⟩
      · rw [h.1] at h1; cases h1
      · rw [h.2] at h3; cases h3
  · refine ⟨?_, by rw [← hheld i hi]; exact h.2⟩
    cases ho : (S.st i).out with
    | none => rfl
    | some o => have h1 := h.1; rw [houtF i o hi ho] at h1; cases h1
  · rcases h with ⟨o, h1, h2, h3⟩ | ⟨h1, h2, h3⟩
    · exact .inl ⟨o, houtF i o hi h1, h2, h3⟩
    · cases ho : (S'.st i).out with
      | none =>
        have := hp.cnt
        exact .inr ⟨ho, by rw [hheld i hi]; exact h2, by omega⟩
      | some o =>
        rcases hnew i o hi ho with h4 | ⟨-, q, h4, h5, -⟩
        · rw [h1] at h4; cases h4
        · refine .inl ⟨o, ho, ?_, ?_⟩
          · rw [h4]; simp only; rw [nm_seq]; omega
          · rw [h4, h2]; exact nm_base _ _ _ _

structure GiveR (Q : Nat → List UInt8 → Prop) (B : Int) (T : Nat → Kn) (i : Nat) (p : Peer) (S : Sen) (p' : Peer) (S' : Sen) : Prop where
  pi : PI Q B p'
  grew : Grew p p'
  sp : SP Q (B + 16) p' S'
  same : Same S S'
  suit : Suit T S'
  aud : S'.audit = S.audit
  far : ∀ j, j ≠ i → j < 64 → p'.seq (j + 1) = p.seq (j + 1) ∧ (S'.st j).acked = (S.st j).acked ∧ (S'.st j).held = (S.st j).held
  outF : ∀ j o, j ≠ i → j < 64 → (S.st j).out = some o → (S'.st j).out = some o
  outN : ∀ j o, j < 64 → (S'.st j).out = some o → (j ≠ i ∧ (S.st j).out = some o) ∨ o.sent = false
  w0 : ∀ j, j < 64 → j ≠ i → (W0 T S j ↔ W0 T S' j)
  w1 : ∀ j, j < 64 → j ≠ i → W1 p S j → W1 p' S' j
  done : (W0 T S' i ∧ Fresh p' S' i) ∨ W1 p' S' i
theorem give_of {Q : Nat → List UInt8 → Prop} {B : Int} {T : Nat → Kn} {now : Int} {p p' : Peer} {S : Sen} {i : Nat} {a m : Msg} {k : Kn} (hi : i < 64) (hA : AnsR Q B p i m k a p') (hS : SP Q B p S) (ht : Tgts T now S) (hT : ∀ i, i < 64 → T i ≠ .unk) (hs : Suit T S)
    {c : Int} {kh : Kn} {am : Option Msg} (hc : S.counter ≤ c) (h1 : S.recv1 a i = some { S with counter := c, st := upd S.st i { S.st i with held := kh, out := none, acked := am } })
    (hd : (W0 T { S with counter := c, st := upd S.st i { S.st i with held := kh, out := none, acked := am } } i ∧ Fresh p' { S with counter := c, st := upd S.st i { S.st i with held := kh, out := none, acked := am } } i) ∨ W1 p' { S with counter := c, st := upd S.st i { S.st i with held := kh, out := none, acked := am } } i) :
    GiveR Q B T i p S p' (S.recv now a) ∧ ((W0 T { S with counter := c, st := upd S.st i { S.st i with held := kh, out := none, acked := am } } i ∧ Fresh p' { S with counter := c, st := upd S.st i { S.st i with held := kh, out := none, acked := am } } i) → W0 T (S.recv now a) i ∧ Fresh p' (S.recv now a) i) := by
  have hS' := hS.grew hA.grew
  obtain ⟨hsp1, hsm1⟩ := hS'.recv hA.aok now
  obtain ⟨-, hsm0⟩ := hS'.recv1 hA.aok h1
  have haud : (S.recv now a).audit = S.audit := by
    rw [recv_of hA.aok.valid (hA.aok.partner.trans hS.si.partner.symm) hA.aok.kind hA.aok.story, h1]
    exact (plan_rel _ now).audit
  have hre : S.recv now a = Sen.plan { S with counter := c, st := upd S.st i { S.st i with held := kh, out := none, acked := am } } now := by
    rw [recv_of hA.aok.valid (hA.aok.partner.trans hS.si.partner.symm) hA.aok.kind hA.aok.story, h1]
  obtain ⟨S1, hS1⟩ : ∃ S1, ({ S with counter := c, st := upd S.st i { S.st i with held := kh, out := none, acked := am } } : Sen) = S1 := ⟨_, rfl⟩
  have hst : ∀ j, j ≠ i → S1.st j = S.st j := fun j hj => by rw [← hS1]; exact upd_ne hj
  have hsti : S1.st i = { S.st i with held := kh, out := none, acked := am } := by rw [← hS1]; exact upd_same _ _ _
  have hcn : S1.counter = c := by rw [← hS1]
  rw [hS1] at hre hd hsm0 ⊢
  have hp := plan_rel S1 now
  have ht1 : Tgts T now S1 := fun j hj => (hsm0.tgt j now).trans (ht j hj)
  have hs1 : Suit T S1 := fun j o hj ho => by
    by_cases e : j = i
    · subst e; rw [hsti] at ho; cases ho
    · rw [hst j e] at ho; exact hs j o hj ho
  have hw := plan_w hp ht1 hT hs1
  rw [← hre] at hp hw
  have hfr : Fresh p' S1 i → Fresh p' (S.recv now a) i := fun ⟨m, h5, h6⟩ => ⟨m, by rw [hw.acked]; exact h5, h6⟩
  refine ⟨⟨hA.pi, hA.grew, hsp1, hsm1, hw.suit, haud, fun j hj hl => ⟨(hA.far j hj hl).1, by rw [hw.acked, hst j hj], by rw [hw.held j hl, hst j hj]⟩, fun j o hj hl ho => hw.outF j o hl (by rw [hst j hj]; exact ho), fun j o hl ho => ?_, fun j hl hj => ?_, fun j hl hj h => ?_, ?_⟩, fun h => ⟨(hw.w0 i hi).1 h.1, hfr h.2⟩⟩
  · rcases hw.outN j o hl ho with h5 | h5
    · by_cases e : j = i
      · subst e; rw [hsti] at h5; cases h5
      · rw [hst j e] at h5; exact .inl ⟨e, h5⟩
    · exact .inr h5
  · rw [← hw.w0 j hl]
    unfold W0
    rw [hst j hj]
  · refine hw.w1 p' j hl ?_
    unfold W1
    rw [hst j hj, (hA.far j hj hl).1, hcn]
    rcases h with h | ⟨h5, h6, h7⟩
    · exact .inl h
    · exact .inr ⟨h5, h6, by omega⟩
  · rcases hd with h | h
    · exact .inl ⟨(hw.w0 i hi).1 h.1, hfr h.2⟩
    · exact .inr (hw.w1 p' i hi h)

theorem give_send {Q : Nat → List UInt8 → Prop} (hQ : QOk Q) {B : Int} (hB : B ≤ 4611686018427387903) {T : Nat → Kn} {now : Int} {p : Peer} {S : Sen} {i : Nat} {o : Out} (hi : i < 64) (hP : PI Q B p) (hS : SP Q B p S) (ht : Tgts T now S) (hT : ∀ i, i < 64 → T i ≠ .unk) (hs : Suit T S) (ho : (S.st i).out = some o) :
    GiveR Q B T i p S (give1 now (p, S) o.msg).1 (give1 now (p, S) o.msg).2 ∧ (W1 p S i → W0 T (give1 now (p, S) o.msg).2 i ∧ Fresh (give1 now (p, S) o.msg).1 (give1 now (p, S) o.msg).2 i) := by
  obtain ⟨hb, hq1, hq2⟩ := hS.si.outs i o hi ho
  have hA := answer_rel hQ hB hP hi hb hq1 (by have := hS.cnt; omega)
  obtain ⟨a, ha⟩ : ∃ a, (p.answer o.msg).1 = a := ⟨_, rfl⟩
  obtain ⟨p', hp'⟩ : ∃ p', (p.answer o.msg).2 = p' := ⟨_, rfl⟩
  unfold give1
  simp only
  rw [ha, hp'] at hA ⊢
  have hto := hs i o hi ho
  have hkt := (Kn.is_iff.1 hto).1
  have hbase : ∀ q, W1 p S i → p.seq (i + 1) < o.msg.seq ∧ (q = o.msg.base → q = 0) := fun q h => by
    rcases h with ⟨o', h1, h2, h3⟩ | ⟨h1, -⟩
    · rw [ho] at h1; cases h1; exact ⟨h2, fun e => by omega⟩
    · rw [ho] at h1; cases h1
  rcases hA.way with ⟨h1, h2, h3, h4, h5⟩ | ⟨h1, h2, h3, h4, h5⟩ | ⟨h1, h2, h3, h4, h5⟩ | ⟨h1, h2, h3, h4⟩
  · have hr : S.recv1 a i = some { S with counter := S.counter, st := upd S.st i { S.st i with held := o.text, out := none, acked := some o.msg } } := by
      unfold Sen.recv1; rw [ho]; simp only; rw [if_pos ⟨h2, h1, h3⟩]
    have hw : W0 T { S with counter := S.counter, st := upd S.st i { S.st i with held := o.text, out := none, acked := some o.msg } } i ∧ Fresh p' { S with counter := S.counter, st := upd S.st i { S.st i with held := o.text, out := none, acked := some o.msg } } i := by
      unfold W0 Fresh
      simp only [upd_same]
      exact ⟨⟨trivial, hto⟩, o.msg, rfl, h4.symm⟩
    have hg := give_of (now := now) hi hA hS ht hT hs (Int.le_refl _) hr (.inl hw)
    exact ⟨hg.1, fun _ => hg.2 hw⟩
  · have hr : S.recv1 a i = some { S with counter := S.counter, st := upd S.st i { S.st i with held := .unk, out := none, acked := (S.st i).acked } } := by
      unfold Sen.recv1; rw [ho]; simp only; rw [if_neg (fun h => by omega), if_pos h5]
    have hw : W1 p' { S with counter := S.counter, st := upd S.st i { S.st i with held := .unk, out := none, acked := (S.st i).acked } } i := by
      refine .inr ?_
      simp only [upd_same]
      exact ⟨trivial, trivial, by rw [h1]; omega⟩
    have hg := give_of (now := now) hi hA hS ht hT hs (Int.le_refl _) hr (.inr hw)
    exact ⟨hg.1, fun h => absurd ((hbase _ h).2 rfl) h3⟩
  · have hr : S.recv1 a i = some { S with counter := S.counter, st := upd S.st i { S.st i with held := .unk, out := none, acked := (S.st i).acked } } := by
      unfold Sen.recv1; rw [ho]; simp only; rw [if_neg (fun h => h5 h.2.2), if_pos h4]
    have hw : W1 p' { S with counter := S.counter, st := upd S.st i { S.st i with held := .unk, out := none, acked := (S.st i).acked } } i := by
      refine .inr ?_
      simp only [upd_same]
      exact ⟨trivial, trivial, by rw [h1]; omega⟩
    have hg := give_of (now := now) hi hA hS ht hT hs (Int.le_refl _) hr (.inr hw)
    exact ⟨hg.1, fun h => by have := (hbase 0 h).1; omega⟩
  · have hr : S.recv1 a i = some { S with counter := max S.counter a.seq, st := upd S.st i { S.st i with held := .unk, out := none, acked := (S.st i).acked } } := by
      unfold Sen.recv1; rw [ho]; simp only; rw [if_neg (fun h => by omega), if_neg (by omega), if_pos ⟨h3, by omega⟩]
    have hw : W1 p' { S with counter := max S.counter a.seq, st := upd S.st i { S.st i with held := .unk, out := none, acked := (S.st i).acked } } i := by
      refine .inr ?_
      simp only [upd_same]
      exact ⟨trivial, trivial, by rw [h1]; omega⟩
    have hg := give_of (now := now) hi hA hS ht hT hs (by omega) hr (.inr hw)
    exact ⟨hg.1, fun h => by have := (hbase 0 h).1; omega⟩

theorem give_audit {Q : Nat → List UInt8 → Prop} (hQ : QOk Q) {B : Int} (hB : B ≤ 4611686018427387903) {T : Nat → Kn} {now : Int} {p : Peer} {S : Sen} {i : Nat} {m : Msg} (hi : i < 64) (hP : PI Q B p) (hS : SP Q B p S) (ht : Tgts T now S) (hT : ∀ i, i < 64 → T i ≠ .unk) (hs : Suit T S) (hw0 : W0 T S i) (hm : (S.st i).acked = some m) :
    GiveR Q B T i p S (give1 now (p, S) m).1 (give1 now (p, S) m).2 ∧ (Fresh p S i → W0 T (give1 now (p, S) m).2 i ∧ Fresh (give1 now (p, S) m).1 (give1 now (p, S) m).2 i) := by
  obtain ⟨hq1, hq2, k, hb, hk⟩ := hS.si.acked i m hi hm
  have htl := hS.told i m hi hm
  have hA := answer_rel hQ hB hP hi hb hq1 (by have := hS.cnt; omega)
  obtain ⟨a, ha⟩ : ∃ a, (p.answer m).1 = a := ⟨_, rfl⟩
  obtain ⟨p', hp'⟩ : ∃ p', (p.answer m).2 = p' := ⟨_, rfl⟩
  unfold give1
  simp only
  rw [ha, hp'] at hA ⊢
  have hsq : S.seqAt i = m.seq := by unfold Sen.seqAt; rw [hw0.1, hm]
  have ign : a.kind = 3 → p'.seq (i + 1) = m.seq → GiveR Q B T i p S p' (S.recv now a) ∧ (Fresh p S i → W0 T (S.recv now a) i ∧ Fresh p' (S.recv now a) i) := fun h1 h2 => by
    have hr : S.recv1 a i = none := by
      unfold Sen.recv1; rw [hw0.1]; simp only; rw [if_neg (fun h => by omega)]
    have hre : S.recv now a = S := by rw [recv_of hA.aok.valid (hA.aok.partner.trans hS.si.partner.symm) hA.aok.kind hA.aok.story, hr]
    rw [hre]
    have hne : ∀ j o, (S.st j).out = some o → j ≠ i := fun j o h e => by rw [e, hw0.1] at h; cases h
    refine ⟨⟨hA.pi, hA.grew, (hS.grew hA.grew).more (by omega), Same.refl _, hs, rfl, fun j hj hl => ⟨(hA.far j hj hl).1, rfl, rfl⟩, fun j o _ _ ho => ho, fun j o _ ho => .inl ⟨hne j o ho, ho⟩, fun j _ _ => Iff.rfl, fun j hl hj h => ?_, .inl ⟨hw0, m, hm, h2.symm⟩⟩, fun _ => ⟨hw0, m, hm, h2.symm⟩⟩
    unfold W1
    rw [(hA.far j hj hl).1]
    exact h
  rcases hA.way with ⟨h1, -, -, h2, -⟩ | ⟨h1, h2, -⟩ | ⟨h1, h2, h3, -⟩ | ⟨h1, h2, h3, h4⟩
  · exact ign h1 h2
  · have := htl.1; omega
  · exact ign h3 (by rw [h1]; exact h2)
  · have hr : S.recv1 a i = some { S with counter := max S.counter a.seq, st := upd S.st i { S.st i with held := .unk, out := none, acked := (S.st i).acked } } := by
      unfold Sen.recv1; rw [hw0.1]; simp only; rw [if_pos ⟨h3, by omega⟩]
    have hw : W1 p' { S with counter := max S.counter a.seq, st := upd S.st i { S.st i with held := .unk, out := none, acked := (S.st i).acked } } i := by
      refine .inr ?_
      simp only [upd_same]
      exact ⟨trivial, trivial, by rw [h1]; omega⟩
    exact ⟨(give_of (now := now) hi hA hS ht hT hs (by omega) hr (.inr hw)).1, fun ⟨m', h5, h6⟩ => by rw [hm] at h5; cases h5; omega⟩
/-- m is sent about story i: it is out, or is an audit -/
def Sends1 (T : Nat → Kn) (S : Sen) (i : Nat) (m : Msg) : Prop := (∃ o, (S.st i).out = some o ∧ o.msg = m) ∨ (W0 T S i ∧ (S.st i).acked = some m)
theorem W1.not0 {T : Nat → Kn} {p : Peer} {S : Sen} {i : Nat} (h : W1 p S i) : ¬ W0 T S i := fun k => by
  rcases h with ⟨o, h1, -⟩ | ⟨-, h1, -⟩
  · rw [k.1] at h1; cases h1
  · have := k.2; rw [h1] at this; exact absurd this (by simp [Kn.is])
theorem give_any {Q : Nat → List UInt8 → Prop} (hQ : QOk Q) {B : Int} (hB : B ≤ 4611686018427387903) {T : Nat → Kn} {now : Int} {p : Peer} {S : Sen} {i : Nat} {m : Msg} (hi : i < 64) (hP : PI Q B p) (hS : SP Q B p S) (ht : Tgts T now S) (hT : ∀ i, i < 64 → T i ≠ .unk) (hs : Suit T S) (hm : Sends1 T S i m) :
    GiveR Q B T i p S (give1 now (p, S) m).1 (give1 now (p, S) m).2 ∧ (W1 p S i ∨ (W0 T S i ∧ Fresh p S i) → W0 T (give1 now (p, S) m).2 i ∧ Fresh (give1 now (p, S) m).1 (give1 now (p, S) m).2 i) := by
  rcases hm with ⟨o, ho, rfl⟩ | ⟨h0, hm⟩
  · obtain ⟨h1, h2⟩ := give_send hQ hB hi hP hS ht hT hs ho
    exact ⟨h1, fun h => h.elim h2 fun h => by rw [h.1.1] at ho; cases ho⟩
  · obtain ⟨h1, h2⟩ := give_audit hQ hB hi hP hS ht hT hs h0 hm
    exact ⟨h1, fun h => h.elim (fun h => absurd h0 h.not0) fun h => h2 h.2⟩

structure FoldR (Q : Nat → List UInt8 → Prop) (B : Int) (T : Nat → Kn) (l : List Nat) (p : Peer) (S : Sen) (p' : Peer) (S' : Sen) : Prop where
  pi : PI Q (B + 16 * l.length) p'
  grew : Grew p p'
  sp : SP Q (B + 16 * l.length) p' S'
  same : Same S S'
  suit : Suit T S'
  aud : S'.audit = S.audit
  far : ∀ j, j ∉ l → j < 64 → p'.seq (j + 1) = p.seq (j + 1) ∧ (S'.st j).acked = (S.st j).acked ∧ (S'.st j).held = (S.st j).held
  outN : ∀ j o, j < 64 → (S'.st j).out = some o → (j ∉ l ∧ (S.st j).out = some o) ∨ o.sent = false
  w0 : ∀ j, j < 64 → j ∉ l → (W0 T S j ↔ W0 T S' j)
  w1 : ∀ j, j < 64 → j ∉ l → W1 p S j → W1 p' S' j
  done : ∀ j, j ∈ l → (W0 T S' j ∧ Fresh p' S' j) ∨ W1 p' S' j
  prog : ∀ j, j ∈ l → W1 p S j ∨ (W0 T S j ∧ Fresh p S j) → W0 T S' j ∧ Fresh p' S' j
theorem Grew.trans {a b c : Peer} (h : Grew a b) (k : Grew b c) : Grew a c := fun i hi => by
  obtain ⟨h1, h2⟩ := h i hi
  obtain ⟨k1, k2⟩ := k i hi
  refine ⟨by omega, fun e => ?_⟩
  obtain ⟨h3, h4⟩ := h2 (by omega)
  obtain ⟨k3, k4⟩ := k2 (by omega)
  exact ⟨k3.trans h3, k4.trans h4⟩
theorem len_b (B : Int) (i : Nat) (l : List Nat) : B + 16 + 16 * (l.length : Int) = B + 16 * ((i :: l).length : Int) := by
  simp only [List.length_cons]; push_cast; omega
theorem b_le {B x M : Int} (h : B + 16 + x ≤ M) (hx : 0 ≤ x) : B ≤ M := by omega
theorem fold_rel {Q : Nat → List UInt8 → Prop} (hQ : QOk Q) {T : Nat → Kn} {now : Int} (hT : ∀ i, i < 64 → T i ≠ .unk) (M : Nat → Msg) : ∀ (l : List Nat) {B : Int} {p : Peer} {S : Sen}, l.Nodup → (∀ i ∈ l, i < 64 ∧ Sends1 T S i (M i)) → B + 16 * l.length ≤ 4611686018427387903 → PI Q B p → SP Q B p S → Tgts T now S → Suit T S →
    FoldR Q B T l p S ((l.map M).foldl (give1 now) (p, S)).1 ((l.map M).foldl (give1 now) (p, S)).2
  | [], B, p, S, _, _, _, hP, hS, ht, hs => ⟨by simpa using hP, Grew.refl p, by simpa using hS, Same.refl _, hs, rfl, fun _ _ _ => ⟨rfl, rfl, rfl⟩, (fun j o _ ho => .inl ⟨(by simp), ho⟩), fun _ _ _ => Iff.rfl, fun _ _ _ h => h, (fun j hj => by cases hj), (fun j hj => by cases hj)⟩
  | i :: l, B, p, S, hn, hm, hB, hP, hS, ht, hs => by
    obtain ⟨hni, hnl⟩ := List.nodup_cons.1 hn
    obtain ⟨hi, hmi⟩ := hm i List.mem_cons_self
    rw [← len_b] at hB
    obtain ⟨hg, hpr⟩ := give_any (now := now) hQ (b_le hB (by omega)) hi hP hS ht hT hs hmi
    rw [List.map_cons, List.foldl_cons]
    obtain ⟨p1, hp1⟩ : ∃ p1, (give1 now (p, S) (M i)).1 = p1 := ⟨_, rfl⟩
    obtain ⟨S1, hS1⟩ : ∃ S1, (give1 now (p, S) (M i)).2 = S1 := ⟨_, rfl⟩
    have he : give1 now (p, S) (M i) = (p1, S1) := by rw [← hp1, ← hS1]
    rw [hp1, hS1] at hg hpr
    rw [he]
    have ih := fold_rel hQ (now := now) hT M l (B := B + 16) (p := p1) (S := S1) hnl (fun j hj => ?_) hB (hg.pi.more (by omega)) hg.sp (fun j hj => (hg.same.tgt j now).trans (ht j hj)) hg.suit
    · obtain ⟨p', hp'⟩ : ∃ p', (List.foldl (give1 now) (p1, S1) (l.map M)).1 = p' := ⟨_, rfl⟩
      obtain ⟨S', hS'⟩ : ∃ S', (List.foldl (give1 now) (p1, S1) (l.map M)).2 = S' := ⟨_, rfl⟩
      rw [hp', hS'] at ih ⊢
      have hfr : Fresh p1 S1 i → Fresh p' S' i := fun ⟨m, h1, h2⟩ => ⟨m, by rw [(ih.far i hni hi).2.1]; exact h1, by rw [(ih.far i hni hi).1]; exact h2⟩
      refine ⟨by rw [← len_b]; exact ih.pi, hg.grew.trans ih.grew, by rw [← len_b]; exact ih.sp, hg.same.trans ih.same, ih.suit, ih.aud.trans hg.aud, fun j hj hl => ?_, fun j o hl ho => ?_, fun j hl hj => ?_, fun j hl hj h => ?_, fun j hj => ?_, fun j hj h => ?_⟩
      · rw [List.mem_cons, not_or] at hj
        have h1 := hg.far j hj.1 hl
        have h2 := ih.far j hj.2 hl
        exact ⟨h2.1.trans h1.1, h2.2.1.trans h1.2.1, h2.2.2.trans h1.2.2⟩
      · rcases ih.outN j o hl ho with ⟨h1, h2⟩ | h1
        · rcases hg.outN j o hl h2 with ⟨h3, h4⟩ | h3
          · exact .inl ⟨by rw [List.mem_cons, not_or]; exact ⟨h3, h1⟩, h4⟩
          · exact .inr h3
        · exact .inr h1
      · rw [List.mem_cons, not_or] at hj
        exact (hg.w0 j hl hj.1).trans (ih.w0 j hl hj.2)
      · rw [List.mem_cons, not_or] at hj
        exact ih.w1 j hl hj.2 (hg.w1 j hl hj.1 h)
      · rcases List.mem_cons.1 hj with rfl | hj
        · rcases hg.done with ⟨h1, h2⟩ | h1
          · exact .inl ⟨(ih.w0 _ hi hni).1 h1, hfr h2⟩
          · exact .inr (ih.w1 _ hi hni h1)
        · exact ih.done j hj
      · rcases List.mem_cons.1 hj with rfl | hj
        · have h1 := hpr h
          exact ⟨(ih.w0 _ hi hni).1 h1.1, hfr h1.2⟩
        · have hl := (hm j (List.mem_cons_of_mem _ hj)).1
          have hji : j ≠ i := fun e => hni (by rw [← e]; exact hj)
          refine ih.prog j hj ?_
          rcases h with h | ⟨h1, m, h2, h3⟩
          · exact .inl (hg.w1 j hl hji h)
          · exact .inr ⟨(hg.w0 j hl hji).1 h1, m, by rw [(hg.far j hji hl).2.1]; exact h2, by rw [(hg.far j hji hl).1]; exact h3⟩
    · have hl := (hm j (List.mem_cons_of_mem _ hj)).1
      have hji : j ≠ i := fun e => hni (by rw [← e]; exact hj)
      refine ⟨hl, ?_⟩
      rcases (hm j (List.mem_cons_of_mem _ hj)).2 with ⟨o, h1, h2⟩ | ⟨h1, h2⟩
      · exact .inl ⟨o, hg.outF j o hji hl h1, h2⟩
      · exact .inr ⟨(hg.w0 j hl hji).1 h1, by rw [(hg.far j hji hl).2.1]; exact h2⟩
end Go.Proofs.YtefloieanpgnmaaDoor

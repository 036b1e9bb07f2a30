/- Facts and contracts for the laws of the sender, part 26. Conditions: those that each theorem names. -/
import Derived.Test.YtefloieanpgnmaaDoorK25
import Derived.Test.YtefloieanpgnmaaDoorK05
/- Plain: after a hundred ticks the partner has the target texts. -/
namespace Go.Proofs.YtefloieanpgnmaaDoor

attribute [local irreducible] Sen.plan Sen.recv Sen.tick
def bt (now : Int) (X : Peer × Sen) : Peer × Sen := (X.2.tick now).1.foldl (give1 now) (X.1, (X.2.tick now).2)
def bnd : Nat → Nat
  | 0 => 0
  | n + 1 => min (bnd n + 16) (2 * bnd n + 1)
/-- a row of ticks -/
structure Row (Q : Nat → List UInt8 → Prop) (B : Int) (T : Nat → Kn) (now : Int) (P : Nat → Peer × Sen) : Prop where
  seq : ∀ n, P (n + 1) = bt (now + n + 1) (P n)
  big : B + 272 * 101 < 4611686018427387903
  pi : PI Q B (P 0).1
  sp : SP Q B (P 0).1 (P 0).2
  tg : ∀ k : Nat, 1 ≤ k → k ≤ 100 → Tgts T (now + k) (P 0).2
  un : ∀ i, i < 64 → T i ≠ .unk
theorem big_at {B : Int} {n : Nat} (h : B + 272 * 101 < 4611686018427387903) (hn : n < 100) : B + 272 * (n : Int) + 272 < 4611686018427387903 := by omega
theorem big_succ (B : Int) (n : Nat) : B + 272 * (n : Int) + 272 = B + 272 * ((n + 1 : Nat) : Int) := by push_cast; omega
theorem now_succ (now : Int) (n : Nat) : now + (n : Int) + 1 = now + ((n + 1 : Nat) : Int) := by push_cast; omega
theorem Row.at {Q : Nat → List UInt8 → Prop} (hQ : QOk Q) {B : Int} {T : Nat → Kn} {now : Int} {P : Nat → Peer × Sen} (h : Row Q B T now P) : ∀ n : Nat, n ≤ 100 → PI Q (B + 272 * (n : Int)) (P n).1 ∧ SP Q (B + 272 * (n : Int)) (P n).1 (P n).2 ∧ Same (P 0).2 (P n).2
  | 0, _ => ⟨by simpa using h.pi, by simpa using h.sp, Same.refl _⟩
  | n + 1, hn => by
    obtain ⟨h1, h2, h3⟩ := Row.at hQ h n (by omega)
    have ht : Tgts T (now + n + 1) (P n).2 := fun i hi => (h3.tgt i _).trans (by
      have := h.tg (n + 1) (by omega) hn i hi
      rw [← now_succ] at this
      exact this)
    obtain ⟨h4, -⟩ := beat_rel hQ (big_at h.big (by omega)) h.un h1 h2 ht
    have he := h.seq n
    unfold bt at he
    rw [← he] at h4
    rw [← big_succ]
    exact ⟨h4.pi, h4.sp, h3.trans h4.same⟩
theorem Row.beat {Q : Nat → List UInt8 → Prop} (hQ : QOk Q) {B : Int} {T : Nat → Kn} {now : Int} {P : Nat → Peer × Sen} (h : Row Q B T now P) {n : Nat} (hn : n < 100) :
    Beat0 Q (B + 272 * n) T (now + n + 1) (P n).1 (P n).2 (P (n + 1)).1 (P (n + 1)).2 ∧ (Suit T (P n).2 → Beat1 T (P n).1 (P n).2 (P (n + 1)).1 (P (n + 1)).2) := by
  obtain ⟨h1, h2, h3⟩ := Row.at hQ h n (by omega)
  have ht : Tgts T (now + n + 1) (P n).2 := fun i hi => (h3.tgt i _).trans (by
    have := h.tg (n + 1) (by omega) (by omega) i hi
    rw [← now_succ] at this
    exact this)
  have h4 := beat_rel hQ (big_at h.big (by omega)) h.un h1 h2 ht
  have he := h.seq n
  unfold bt at he
  rw [← he] at h4
  exact h4
/-- what was sent before is answered, or was sent shortly before -/
theorem Row.sent {Q : Nat → List UInt8 → Prop} (hQ : QOk Q) {B : Int} {T : Nat → Kn} {now : Int} {P : Nat → Peer × Sen} (h : Row Q B T now P) : ∀ n : Nat, n < 100 → Suit T (P (n + 1)).2 ∧ ∀ j o, j < 64 → ((P (n + 1)).2.st j).out = some o → o.sent = true → o.tm ≤ now + 1 ∧ now + n + 1 - o.tm < 8
  | 0, hn => by
    obtain ⟨h1, -⟩ := h.beat hQ hn
    refine ⟨h1.suit, fun j o hj ho hs => ?_⟩
    obtain ⟨-, h2⟩ := h1.old j o hj ho hs
    unfold due at h2
    rw [hs] at h2
    simp at h2
    simp only [Int.natCast_zero, Int.add_zero]
    omega
  | n + 1, hn => by
    obtain ⟨-, ih⟩ := Row.sent hQ h n (by omega)
    obtain ⟨h1, -⟩ := h.beat hQ hn
    refine ⟨h1.suit, fun j o hj ho hs => ?_⟩
    obtain ⟨h3, h2⟩ := h1.old j o hj ho hs
    obtain ⟨h4, -⟩ := ih j o hj h3 hs
    unfold due at h2
    rw [hs] at h2
    simp at h2
    exact ⟨h4, by push_cast; omega⟩
/-- the state of phase two -/
structure Two (T : Nat → Kn) (S : Sen) : Prop where
  suit : Suit T S
  ns : ∀ j o, j < 64 → (S.st j).out = some o → o.sent = false
theorem Row.two {Q : Nat → List UInt8 → Prop} (hQ : QOk Q) {B : Int} {T : Nat → Kn} {now : Int} {P : Nat → Peer × Sen} (h : Row Q B T now P) (n : Nat) (h9 : 9 ≤ n) (hn : n ≤ 100) : Two T (P n).2 := by
  obtain ⟨k, rfl⟩ : ∃ k, n = k + 1 := ⟨n - 1, by omega⟩
  obtain ⟨h1, h2⟩ := h.sent hQ k (by omega)
  refine ⟨h1, fun j o hj ho => ?_⟩
  cases hs : o.sent with
  | false => rfl
  | true =>
    have := h2 j o hj ho hs
    omega
theorem Row.good {Q : Nat → List UInt8 → Prop} (hQ : QOk Q) {B : Int} {T : Nat → Kn} {now : Int} {P : Nat → Peer × Sen} (h : Row Q B T now P) {n : Nat} (h9 : 9 ≤ n) {j : Nat} (hj : j < 64) (hg : Good T (P n).1 (P n).2 j) : ∀ t, n + t ≤ 100 → Good T (P (n + t)).1 (P (n + t)).2 j
  | 0, _ => hg
  | t + 1, ht => by
    have ih := Row.good hQ h h9 hj hg t (by omega)
    exact ((h.beat hQ (n := n + t) (by omega)).2 (h.two hQ (n + t) (by omega) (by omega)).suit).good j hj ih
theorem Row.calm {Q : Nat → List UInt8 → Prop} (hQ : QOk Q) {B : Int} {T : Nat → Kn} {now : Int} {P : Nat → Peer × Sen} (h : Row Q B T now P) : ∀ n k f, 9 ≤ k → k + n ≤ 100 → Rk T (P k).1 (P k).2 f → sumN f 64 ≤ bnd n →
    ∃ t, t ≤ n ∧ (∀ j, j < 64 → W0 T (P (k + t)).2 j) ∧ (P (k + t)).2.audit = (P k).2.audit ∧ ∀ j, j < 64 → (Good T (P k).1 (P k).2 j ∨ W1 (P k).1 (P k).2 j) → Good T (P (k + t)).1 (P (k + t)).2 j ∨ W1 (P (k + t)).1 (P (k + t)).2 j
  | n, k, f, h9, hk, hr, hs => by
    by_cases hall : ∀ j, j < 64 → W0 T (P k).2 j
    · exact ⟨0, by omega, hall, rfl, fun j _ h => h⟩
    · match n, hk, hs with
      | 0, _, hs => exact absurd (fun j hj => (hr j hj).2.2 (sum_zero 64 (by unfold bnd at hs; omega) j hj)) hall
      | n + 1, hk, hs =>
        have htw := h.two hQ k h9 (by omega)
        have hb := (h.beat hQ (n := k) (by omega)).2 htw.suit
        obtain ⟨f', h1, h2⟩ := rk_step hr hb htw.ns hall
        have hbn : sumN f' 64 ≤ bnd n := by unfold bnd at hs; omega
        obtain ⟨t, h3, h4, h5, h6⟩ := Row.calm hQ h n (k + 1) f' (by omega) (by omega) h1 hbn
        rw [show k + 1 + t = k + (t + 1) by omega] at h4 h5 h6
        exact ⟨t + 1, by omega, h4, h5.trans (hb.busy htw.ns hall).1, fun j hj hg => h6 j hj (hg.elim (fun h => .inl (hb.good j hj h)) fun h => (hb.w1 j hj h).symm)⟩
theorem sum_auds {a : Nat} (ha : a < 64) : sumN (fun j => if j ∈ auds a 4 then 1 else 0) 64 ≤ 7 := by
  have key : ∀ a : Fin 64, sumN (fun j => if j ∈ auds a.val 4 then 1 else 0) 64 ≤ 7 := by decide +kernel
  exact key ⟨a, ha⟩
/-- all stories are audited, one after the other -/
theorem Row.round {Q : Nat → List UInt8 → Prop} (hQ : QOk Q) {B : Int} {T : Nat → Kn} {now : Int} {P : Nat → Peer × Sen} (h : Row Q B T now P) {k : Nat} (h9 : 9 ≤ k) (hk : k ≤ 36) (h0 : ∀ j, j < 64 → W0 T (P k).2 j) (ha : (P k).2.audit < 64) : ∀ n, n ≤ 16 →
    ∃ t, t ≤ 4 * n ∧ (∀ j, j < 64 → W0 T (P (k + t)).2 j) ∧ (P (k + t)).2.audit = ((P k).2.audit + 4 * n) % 64 ∧ ∀ j, j ∈ auds (P k).2.audit (4 * n) → Good T (P (k + t)).1 (P (k + t)).2 j
  | 0, _ => ⟨0, by omega, h0, (by rw [Nat.mul_zero, Nat.add_zero, Nat.add_zero, Nat.mod_eq_of_lt ha]), (fun j hj => by cases hj)⟩
  | n + 1, hn => by
    obtain ⟨t, h1, h2, h3, h4⟩ := Row.round hQ h h9 hk h0 ha n (by omega)
    have htw := h.two hQ (k + t) (by omega) (by omega)
    have hb := (h.beat hQ (n := k + t) (by omega)).2 htw.suit
    obtain ⟨h5, h6, h7⟩ := hb.idle h2
    have hal : (P (k + t)).2.audit < 64 := by rw [h3]; omega
    have hrk : Rk T (P (k + t + 1)).1 (P (k + t + 1)).2 (fun j => if j ∈ auds (P (k + t)).2.audit 4 then 1 else 0) := fun j hj => by
      simp only
      split
      · exact ⟨by omega, fun _ => (h6 j hj).elim .inl fun h => .inr h.1, fun h => by omega⟩
      · rename_i hm
        have : W0 T (P (k + t + 1)).2 j := (h6 j hj).elim (fun h => h) fun h => absurd h.2 hm
        exact ⟨by omega, fun _ => .inl this, fun _ => this⟩
    have hbd : bnd 3 = 7 := by decide
    obtain ⟨u, h8, h10, h11, h12⟩ := h.calm hQ 3 (k + t + 1) _ (by omega) (by omega) hrk (by rw [hbd]; exact sum_auds hal)
    refine ⟨t + 1 + u, by omega, ?_⟩
    rw [show k + (t + 1 + u) = k + t + 1 + u by omega]
    refine ⟨h10, by rw [h11, h5, h3]; omega, fun j hj => ?_⟩
    obtain ⟨x, hx, rfl⟩ := (mem_auds _ _ ha).1 hj
    have hjl : ((P k).2.audit + x) % 64 < 64 := by omega
    have hor : Good T (P (k + t + 1)).1 (P (k + t + 1)).2 (((P k).2.audit + x) % 64) ∨ W1 (P (k + t + 1)).1 (P (k + t + 1)).2 (((P k).2.audit + x) % 64) := by
      rcases Nat.lt_or_ge x (4 * n) with hx2 | hx2
      · exact .inl (hb.good _ hjl (h4 _ ((mem_auds _ _ ha).2 ⟨x, hx2, rfl⟩)))
      · refine h7 _ ((mem_auds _ _ hal).2 ⟨x - 4 * n, by omega, ?_⟩)
        rw [h3]; omega
    rcases h12 _ hjl hor with h13 | h13
    · exact h13
    · exact absurd (h10 _ hjl) h13.not0
theorem Row.done {Q : Nat → List UInt8 → Prop} (hQ : QOk Q) {B : Int} {T : Nat → Kn} {now : Int} {P : Nat → Peer × Sen} (h : Row Q B T now P) : ∀ j, j < 64 → Good T (P 100).1 (P 100).2 j := by
  have hrk : Rk T (P 9).1 (P 9).2 (fun _ => 2) := fun j _ => ⟨Nat.le_refl 2, fun h => absurd h (show ¬ 2 ≤ 1 by decide), fun h => absurd h (show ¬ 2 = 0 by decide)⟩
  have hs : sumN (fun _ => 2) 64 ≤ bnd 12 := by decide
  obtain ⟨t, h1, h2, -, -⟩ := h.calm hQ 12 9 _ (by omega) (by omega) hrk hs
  have ha : (P (9 + t)).2.audit < 64 := (h.at hQ (9 + t) (by omega)).2.1.aud
  obtain ⟨u, h3, -, -, h4⟩ := h.round hQ (k := 9 + t) (by omega) (by omega) h2 ha 16 (by omega)
  intro j hj
  have hg := h4 j ((mem_auds _ _ ha).2 ⟨(j + 64 - (P (9 + t)).2.audit) % 64, by omega, by omega⟩)
  have := h.good hQ (n := 9 + t + u) (by omega) hj hg (100 - (9 + t + u)) (by omega)
  rwa [show 9 + t + u + (100 - (9 + t + u)) = 100 by omega] at this

/-! ### the law's world -/
/-- settle, in the law's words -/
theorem settle_at (X : Wld × Sen) : ∀ n, (settleD X n).1.now = (settleD X 0).1.now + n ∧ (settleD X n).1.lease = (settleD X 0).1.lease ∧ (settleD X n).1.wanted = (settleD X 0).1.wanted
  | 0 => ⟨by simp, rfl, rfl⟩
  | n + 1 => by
    obtain ⟨h1, h2, h3⟩ := settle_at X n
    refine ⟨?_, h2, h3⟩
    show (settleD X n).1.now + 1 = _
    rw [h1]; push_cast; omega
theorem settle_row (X : Wld × Sen) (n : Nat) : ((settleD X (n + 1)).1.p, (settleD X (n + 1)).2) = bt ((settleD X 0).1.now + n + 1) ((settleD X n).1.p, (settleD X n).2) := by
  rw [← (settle_at X n).1]; rfl
theorem settle_zero (X : Wld × Sen) : (settleD X 0).1.p = X.1.p ∧ (settleD X 0).1.now = X.1.now ∧ (settleD X 0).1.wanted = X.1.wanted ∧ (settleD X 0).2.st = X.2.st := by
  unfold settleD; split <;> exact ⟨rfl, rfl, rfl, rfl⟩
/-- settled, and the partner has the target texts -/
structure Fin (W : Wld) (S : Sen) : Prop where
  held : ∀ i, i < 64 → (S.st i).held = if W.lease < W.now then .abs else wOf (W.wanted (i + 1))
  tgt : ∀ i, i < 64 → S.tgt i W.now = if W.lease < W.now then .abs else wOf (W.wanted (i + 1))
  out : ∀ i, i < 64 → (S.st i).out = none
  copy : ∀ i, i < 64 → W.p.copy i = if W.lease < W.now then .abs else wOf (W.wanted (i + 1))
theorem settle_zero2 {B : Int} {W : Wld} {S : Sen} (hS : SP QT B W.p S) (hs : Syn W S) : Syn (settleD (W, S) 0).1 (settleD (W, S) 0).2 ∧ SP QT B W.p (settleD (W, S) 0).2 ∧ ((settleD (W, S) 0).1.lease = W.now + 1000 ∨ (settleD (W, S) 0).1.lease < W.now) := by
  unfold settleD; simp only; split
  · exact ⟨⟨rfl, hs.wanted⟩, ⟨⟨hS.si.partner, hS.si.pos, hS.si.wanted, hS.si.held, hS.si.outs, hS.si.acked, hS.si.known, hS.si.out16⟩, hS.cnt, hS.aud, hS.told⟩, .inl rfl⟩
  · rename_i h; exact ⟨hs, hS, .inr (by simp only; omega)⟩
attribute [local irreducible] settleD
theorem fin_of {B : Int} {T : Nat → Kn} {now : Int} {P : Nat → Peer × Sen} (hrow : Row QT B T now P) {W : Wld} {S : Sen} (hW : W.p = (P 100).1) (hS : S = (P 100).2) (hn : W.now = now + 100) (hT : ∀ i, T i = if W.lease < W.now then .abs else wOf (W.wanted (i + 1))) : Fin W S := by
  have hg := hrow.done QT_ok
  obtain ⟨hpi, hspE, hsame⟩ := hrow.at QT_ok 100 (by omega)
  rw [← hW, ← hS] at hspE
  rw [← hW] at hpi
  rw [← hS] at hsame
  simp only [← hW, ← hS] at hg
  refine ⟨fun i hi => ?_, fun i hi => ?_, fun i hi => (hg i hi).1.1, fun i hi => ?_⟩
  · rw [← hT i]; exact (Kn.is_iff.1 (hg i hi).1.2).1
  · rw [← hT i]
    have h8 := hrow.tg 100 (by omega) (by omega) i hi
    rw [hsame.tgt i, hn]
    exact h8
  · rw [← hT i]
    obtain ⟨⟨-, hh⟩, m, hm, hq⟩ := hg i hi
    obtain ⟨hhe, hne⟩ := Kn.is_iff.1 hh
    obtain ⟨-, -, k, hbr, hkk⟩ := hspE.si.acked i m hi hm
    have htl := hspE.told i m hi hm
    rw [← hhe, hkk hne]
    exact sum_copy QT_ok hpi hi hbr (htl.2 hq)
theorem row_of {B : Int} (hB : B + 272 * 101 < 4611686018427387903) {W : Wld} {S : Sen} (hp : PI QT B W.p) (hS : SP QT B W.p S) (hs : Syn W S) :
    Row QT B (fun i => if (settleD (W, S) 0).1.lease < W.now + 100 then .abs else wOf (W.wanted (i + 1))) W.now (fun n => ((settleD (W, S) n).1.p, (settleD (W, S) n).2)) := by
  obtain ⟨h1, h2, h3, h4⟩ := settle_zero (W, S)
  obtain ⟨hsy, hsp, hle⟩ := settle_zero2 hS hs
  simp only at h1 h2 h3 h4
  obtain ⟨X, hX⟩ : ∃ X, settleD (W, S) 0 = X := ⟨_, rfl⟩
  have hlt : ∀ k : Nat, 1 ≤ k → k ≤ 100 → (X.1.lease < W.now + k ↔ X.1.lease < W.now + 100) := fun k _ _ => by
    rw [hX] at hle
    rcases hle with h | h <;> omega
  have hrow := settle_row (W, S)
  rw [hX] at h1 h2 h3 hsy hsp hrow
  refine ⟨fun n => ?_, hB, ?_, ?_, fun k hk1 hk2 i hi => ?_, fun i _ => ?_⟩
  · have := hrow n
    rw [h2] at this
    exact this
  · simp only [hX]; rw [h1]; exact hp
  · simp only [hX]; rw [h1]; exact hsp
  · simp only [hX]
    unfold Sen.tgt
    rw [hsy.lease, hsy.wanted i hi, h3]
    by_cases hc : X.1.lease < W.now + 100
    · rw [if_pos hc, if_pos ((hlt k hk1 hk2).2 hc)]
    · rw [if_neg hc, if_neg (fun h => hc ((hlt k hk1 hk2).1 h))]
  · split
    · simp
    · unfold wOf; split <;> simp
theorem settle_fin {B : Int} (hB : B + 272 * 101 < 4611686018427387903) {W : Wld} {S : Sen} (hp : PI QT B W.p) (hS : SP QT B W.p S) (hs : Syn W S) : Fin (settleD (W, S) 100).1 (settleD (W, S) 100).2 := by
  obtain ⟨h1, h2, h3, h4⟩ := settle_zero (W, S)
  obtain ⟨h5, h6, h7⟩ := settle_at (W, S) 100
  have hr := row_of hB hp hS hs
  obtain ⟨P, hP⟩ : ∃ P, (fun n => ((settleD (W, S) n).1.p, (settleD (W, S) n).2)) = P := ⟨_, rfl⟩
  have hP1 : P 100 = ((settleD (W, S) 100).1.p, (settleD (W, S) 100).2) := by rw [← hP]
  rw [hP] at hr
  rw [h2] at h5
  rw [h3] at h7
  simp only at h5 h7
  obtain ⟨X0, hX0⟩ : ∃ X, settleD (W, S) 0 = X := ⟨_, rfl⟩
  obtain ⟨X1, hX1⟩ : ∃ X, settleD (W, S) 100 = X := ⟨_, rfl⟩
  rw [hX0, hX1] at h6
  rw [hX1] at h5 h7 hP1 ⊢
  rw [hX0] at hr
  refine fin_of hr (by rw [hP1]) (by rw [hP1]) h5 fun i => ?_
  rw [h6, h5, h7]
  rfl
end Go.Proofs.YtefloieanpgnmaaDoor
/- Plain: what a tick sends brings the targets; messages that are no answers. -/
namespace Go.Proofs.YtefloieanpgnmaaDoor

theorem tick_def (S : Sen) (now : Int) : S.tick now = if (S.plan now).outs = 0 then audits (S.plan now) 4 else ((S.plan now).msgs ((S.plan now).sel (due now)), (S.plan now).sends now ((S.plan now).sel (due now))) := rfl
theorem recv_def (S : Sen) (now : Int) (m : Msg) : S.recv now m = if m.valid = true ∧ m.partner = S.partner ∧ (m.kind = 3 ∨ m.kind = 4) then (match S.recv1 m (m.story - 1).toNat with | some S' => S'.plan now | none => S) else S := rfl
attribute [local irreducible] Sen.plan Sen.tick Sen.recv
theorem outs_zero {S : Sen} (h : S.outs = 0) {i : Nat} (hi : i < 64) : (S.st i).out = none := by
  unfold Sen.outs at h
  rw [List.countP_eq_zero] at h
  have := h i (List.mem_range.2 hi)
  simpa using this
theorem Kn.eq_of_is {a b : Kn} (h : a.is b = true) : a = b := (Kn.is_iff.1 h).1
theorem tick_brings {Q : Nat → List UInt8 → Prop} {B : Int} {p : Peer} {S : Sen} (h : SP Q B p S) (now : Int) (hB : B + 16 < 4611686018427387903) : ∀ m ∈ (S.tick now).1, ∃ i, i < 64 ∧ Brings Q i m (S.tgt i now) := by
  have hP := h.plan now
  have hr := plan_rel S now
  intro m hm
  rw [tick_def] at hm
  obtain ⟨S1, hS1⟩ : ∃ S1, S.plan now = S1 := ⟨_, rfl⟩
  rw [hS1] at hP hr hm
  split at hm
  · rename_i h0
    obtain ⟨j, hj, hm⟩ := (mem_audits 4 S1 hP.aud).1 hm
    have hi : (S1.audit + j) % 64 < 64 := by omega
    obtain ⟨-, -, k, h8, h9⟩ := hP.si.acked _ m hi hm
    have hcn : S1.counter < maxI := by have := hP.cnt; unfold maxI; omega
    have hh := hr.full (by omega) hcn _ hi (outs_zero h0 hi)
    obtain ⟨h10, h11⟩ := Kn.is_iff.1 hh
    refine ⟨_, hi, ?_⟩
    rw [← h10, h9 h11]
    exact h8
  · obtain ⟨i, hi, o, ho, rfl⟩ := mem_msgs.1 hm
    have hi := (mem_sel.1 hi).1
    obtain ⟨h1, -⟩ := hP.si.outs i o hi ho
    refine ⟨i, hi, ?_⟩
    rcases hr.new i o hi ho with ⟨-, h2⟩ | ⟨q, h2, -⟩
    · rw [← Kn.eq_of_is h2]; exact h1
    · have : o.text = S.tgt i now := by rw [h2]
      rw [← this]; exact h1

/-! ### which texts were wanted -/
def Qw (was : Nat → Nat → Bool) (i : Nat) (t : List UInt8) : Prop := ∃ n, 1 ≤ n ∧ n ≤ 100 ∧ was (i + 1) n = true ∧ t = txtOf (n - 1)
theorem Qw_ok (was : Nat → Nat → Bool) : QOk (Qw was) := by
  have key : ∀ i t, Qw was i t → QT i t := fun i t ⟨n, h1, h2, _, h4⟩ => ⟨n - 1, by omega, h4⟩
  exact ⟨fun i t h => QT_ok.len i t (key i t h), fun i t h => QT_ok.crc i t (key i t h), fun i t u h k => QT_ok.inj i t u (key i t h) (key i u k)⟩
def wasD (was : Nat → Nat → Bool) (W : Wld) : Nat → Nat → Bool := fun k n => was k n || (decide (1 ≤ k ∧ k ≤ 64) && decide (n = W.wanted k))
theorem wasD_mono {was : Nat → Nat → Bool} (W : Wld) (i : Nat) (t : List UInt8) (h : Qw was i t) : Qw (wasD was W) i t := by
  obtain ⟨n, h1, h2, h3, h4⟩ := h
  exact ⟨n, h1, h2, by unfold wasD; rw [h3]; rfl, h4⟩
theorem wasD_wq {was : Nat → Nat → Bool} {W : Wld} (h : W100 W) : WQ (Qw (wasD was W)) W := fun i hi h0 =>
  ⟨W.wanted (i + 1), by omega, h (i + 1), by unfold wasD; rw [decide_eq_true (show 1 ≤ i + 1 ∧ i + 1 ≤ 64 by omega), decide_eq_true rfl]; simp, rfl⟩
structure TI (B : Int) (X : (Wld × Sen) × (Nat → Nat → Bool)) : Prop where
  wi : WI (Qw X.2) B X.1.1 X.1.2
  syn : Syn X.1.1 X.1.2
  w100 : W100 X.1.1
def textsStep (X : (Wld × Sen) × (Nat → Nat → Bool)) (o : Op3) : (Wld × Sen) × (Nat → Nat → Bool) := (step1 false X.1 o, wasD X.2 (X.1.1.next o).2)
/-- what the law says of a message that is sent -/
def MsgOk (W : Wld) (m : Msg) : Prop := 1 ≤ m.story ∧ m.story ≤ 64 ∧ m.partner = 2 ∧
  ((W.wanted m.story.toNat ≠ 0 ∧ W.now ≤ W.lease ∧ m.kind = 1 ∧ m.version = crcOf (txtOf (W.wanted m.story.toNat - 1))) ∨ (¬ (W.wanted m.story.toNat ≠ 0 ∧ W.now ≤ W.lease) ∧ m.kind = 2 ∧ m.data = []))
theorem MsgOk.of {Q : Nat → List UInt8 → Prop} {W : Wld} {S : Sen} (hs : Syn W S) {i : Nat} (hi : i < 64) {m : Msg} (h : Brings Q i m (S.tgt i W.now)) : MsgOk W m := by
  obtain ⟨h1, h2, h3⟩ := h
  have hn : m.story.toNat = i + 1 := by omega
  refine ⟨by omega, by omega, h1, ?_⟩
  rw [hn]
  unfold Sen.tgt at h3
  rw [hs.lease, hs.wanted i hi] at h3
  unfold wOf at h3
  by_cases hl : W.lease < W.now
  · rw [if_pos hl] at h3
    rcases h3 with ⟨-, h4, -, -, h5⟩ | ⟨x, h4, -⟩
    · exact .inr ⟨fun h => by omega, h4, h5⟩
    · cases h4
  · rw [if_neg hl] at h3
    by_cases h0 : W.wanted (i + 1) = 0
    · rw [if_pos h0] at h3
      rcases h3 with ⟨-, h4, -, -, h5⟩ | ⟨x, h4, -⟩
      · exact .inr ⟨fun h => h.1 h0, h4, h5⟩
      · cases h4
    · rw [if_neg h0] at h3
      rcases h3 with ⟨h4, -⟩ | ⟨x, h4, -, h5, h6, -⟩
      · cases h4
      · cases h4
        exact .inl ⟨h0, by omega, h5, h6⟩
theorem TI.step {B : Int} {X : (Wld × Sen) × (Nat → Nat → Bool)} (h : TI B X) (hB : B + 16 < 4611686018427387903) (o : Op3) : TI (B + 16) (textsStep X o) ∧ ∀ m ∈ ((X.1.1.next o).1.perform X.1.2).1, MsgOk (X.1.1.next o).2 m := by
  obtain ⟨⟨W, S⟩, was⟩ := X
  obtain ⟨hw, hs, h1⟩ := h
  simp only at hw hs h1
  have hn := next_rel W o
  have hw1 := h1.next hn
  have hq := wasD_wq (was := was) hw1
  have hw' := hw.mono fun i t _ => wasD_mono (W.next o).2 i t
  obtain ⟨h2, h3⟩ := hw'.step1 (Qw_ok _) (by omega) hs false o hq
  refine ⟨⟨h2, h3, hw1⟩, ?_⟩
  simp only
  obtain ⟨-, hs', -⟩ := hw'.step (Qw_ok _) (by omega) hs hn hq
  obtain ⟨c, hc⟩ : ∃ c, (W.next o).1 = c := ⟨_, rfl⟩
  obtain ⟨W', hW'⟩ : ∃ W', (W.next o).2 = W' := ⟨_, rfl⟩
  rw [hc, hW'] at hn hs'
  rw [hc, hW']
  rw [hW'] at hw'
  clear hc hW' h2 h3 hq hw1
  intro m hm
  cases hn with
  | tick u hu =>
    obtain ⟨i, hi, hb⟩ := tick_brings hw'.sp u hB m hm
    have hs2 : Syn { W with now := u } S := ⟨hs.lease, hs.wanted⟩
    exact MsgOk.of hs2 hi hb
  | want | lease | give | lose | recv => cases hm
theorem TI.start : TI 0 ((wld0, startS), fun _ _ => false) := ⟨start_wi _, start_syn, fun _ => Nat.zero_le _⟩
theorem TI.last {B : Int} {X : (Wld × Sen) × (Nat → Nat → Bool)} (h : TI B X) {i : Nat} (h1 : 1 ≤ i) (h64 : i ≤ 64) (hh : X.1.1.p.has i = true) : ∃ n, 1 ≤ n ∧ n ≤ 100 ∧ X.2 i n = true ∧ X.1.1.p.text i = txtOf (n - 1) := by
  obtain ⟨j, rfl⟩ : ∃ j, i = j + 1 := ⟨i - 1, by omega⟩
  exact (h.wi.pi.text j (by omega)).1 hh

/-! ### messages that are no answers -/
def ignM (k s : Int) : Msg :=
  if pickD k 4 = 0 then ⟨4, 3, 900000000, 1 + pickD s 64, 0, 0, []⟩
  else if pickD k 4 = 1 then ⟨2, 2, 900000000, 1 + pickD s 64, 0, 0, []⟩
  else if pickD k 4 = 2 then ⟨4, 2, 900000000, 65, 0, 0, []⟩
  else ⟨3, 2, 900000000, 1 + pickD s 64, 0, 0, []⟩
theorem ign_recv {Q : Nat → List UInt8 → Prop} {B : Int} {p : Peer} {S : Sen} (h : SP Q B p S) (hB : B < 900000000) (now k s : Int) : S.recv now (ignM k s) = S := by
  have hs := pick_range s (n := 64) (by omega)
  rw [recv_def]
  unfold ignM
  split
  · rw [if_neg]
    rintro ⟨-, h2, -⟩
    rw [h.si.partner] at h2
    simp at h2
  · split
    · rw [if_neg]
      rintro ⟨-, -, h2⟩
      simp at h2
    · split
      · rw [if_neg]
        rintro ⟨h2, -⟩
        exact absurd h2 (by decide)
      · split
        · have hi : (1 + pickD s 64 - 1).toNat < 64 := by omega
          have h1 : S.recv1 ⟨3, 2, 900000000, 1 + pickD s 64, 0, 0, []⟩ (1 + pickD s 64 - 1).toNat = none := by
            unfold Sen.recv1
            split
            · rename_i o ho
              obtain ⟨-, -, h3⟩ := h.si.outs _ o hi ho
              have := h.cnt
              rw [if_neg (by rintro ⟨e, -⟩; simp only at e; omega), if_neg (by simp only; omega), if_neg (by rintro ⟨e, -⟩; simp only at e; omega)]
            · rw [if_neg (by rintro ⟨e, -⟩; simp only at e; omega)]
          rw [h1]
        · rfl
end Go.Proofs.YtefloieanpgnmaaDoor
/- Plain: the numbers of what is sent. -/
namespace Go.Proofs.YtefloieanpgnmaaDoor

attribute [local irreducible] Sen.plan Sen.tick Sen.recv
abbrev Seen := List (Msg × Int)
def Uniq (s : Seen) : Prop := s.Pairwise fun a b => a.1.seq ≠ b.1.seq
theorem Uniq.eq : ∀ {l : Seen}, Uniq l → ∀ x ∈ l, ∀ y ∈ l, x.1.seq = y.1.seq → x = y
  | [], _, x, hx, _, _, _ => by cases hx
  | a :: l, h, x, hx, y, hy, e => by
    obtain ⟨h1, h2⟩ := List.pairwise_cons.1 h
    rcases List.mem_cons.1 hx with hx1 | hx1
    · rcases List.mem_cons.1 hy with hy1 | hy1
      · rw [hx1, hy1]
      · rw [hx1] at e; exact absurd e (h1 y hy1)
    · rcases List.mem_cons.1 hy with hy1 | hy1
      · rw [hy1] at e; exact absurd e.symm (h1 x hx1)
      · exact Uniq.eq h2 x hx1 y hy1 e
/-- m is seen now -/
def noteD (now : Int) (s : Seen) (m : Msg) : Seen := if s.any (fun x => decide (x.1.seq = m.seq)) = true then s.map (fun x => if x.1.seq = m.seq then (x.1, now) else x) else s ++ [(m, now)]
theorem note_uniq {now : Int} {s : Seen} {m : Msg} (h : Uniq s) : Uniq (noteD now s m) := by
  unfold noteD Uniq
  split
  · rw [List.pairwise_map]
    refine List.Pairwise.imp (fun {a b} hab => ?_) h
    split <;> split <;> exact hab
  · rename_i hn
    rw [List.pairwise_append]
    refine ⟨h, List.pairwise_singleton _ _, fun a ha b hb e => hn ?_⟩
    rw [List.mem_singleton] at hb
    subst hb
    rw [List.any_eq_true]
    exact ⟨a, ha, decide_eq_true e⟩
theorem note_mem {now : Int} {s : Seen} {m : Msg} {x : Msg × Int} (h : x ∈ noteD now s m) : (x ∈ s ∧ x.1.seq ≠ m.seq) ∨ (x.1.seq = m.seq ∧ x.2 = now ∧ ((∃ t, (x.1, t) ∈ s) ∨ x.1 = m)) := by
  unfold noteD at h
  split at h
  · obtain ⟨y, hy, he⟩ := List.mem_map.1 h
    by_cases e : y.1.seq = m.seq
    · rw [if_pos e] at he
      subst he
      exact .inr ⟨e, rfl, .inl ⟨y.2, hy⟩⟩
    · rw [if_neg e] at he
      subst he
      exact .inl ⟨hy, e⟩
  · rename_i hn
    rcases List.mem_append.1 h with h1 | h1
    · exact .inl ⟨h1, fun e => hn (by rw [List.any_eq_true]; exact ⟨x, h1, decide_eq_true e⟩)⟩
    · rw [List.mem_singleton] at h1
      subst h1
      exact .inr ⟨rfl, rfl, .inr rfl⟩
theorem note_far {now : Int} {s : Seen} {m : Msg} {x : Msg × Int} (h : x ∈ s) (hx : x.1.seq ≠ m.seq) : x ∈ noteD now s m := by
  unfold noteD
  split
  · exact List.mem_map.2 ⟨x, h, by rw [if_neg hx]⟩
  · exact List.mem_append_left _ h
theorem note_at {now : Int} {s : Seen} {m : Msg} (h : ∀ x ∈ s, x.1.seq = m.seq → x.1 = m) : (m, now) ∈ noteD now s m := by
  unfold noteD
  split
  · rename_i ha
    rw [List.any_eq_true] at ha
    obtain ⟨x, hx, he⟩ := ha
    have he := of_decide_eq_true he
    exact List.mem_map.2 ⟨x, hx, by rw [if_pos he, h x hx he]⟩
  · exact List.mem_append_right _ (List.mem_singleton.2 rfl)
structure NotesR (now : Int) (L : List Msg) (s s' : Seen) : Prop where
  uniq : Uniq s'
  back : ∀ x ∈ s', (x ∈ s ∧ ∀ m ∈ L, x.1.seq ≠ m.seq) ∨ x ∈ L.map (fun m => (m, now))
  far : ∀ x ∈ s, (∀ m ∈ L, x.1.seq ≠ m.seq) → x ∈ s'
  at_ : ∀ m ∈ L, (m, now) ∈ s'
theorem notes (now : Int) : ∀ (L : List Msg) {s : Seen}, Uniq s → (∀ m ∈ L, ∀ x ∈ s, x.1.seq = m.seq → x.1 = m) → (∀ a ∈ L, ∀ b ∈ L, a.seq = b.seq → a = b) → NotesR now L s (L.foldl (noteD now) s)
  | [], s, hu, _, _ => ⟨hu, fun x hx => .inl ⟨hx, fun m hm => by cases hm⟩, fun x hx _ => hx, fun m hm => by cases hm⟩
  | m :: L, s, hu, h1, h2 => by
    have ha := note_at (now := now) (h1 m List.mem_cons_self)
    have ih := notes now L (s := noteD now s m) (note_uniq hu) (fun m' hm' x hx e => by
      rcases note_mem hx with ⟨h3, -⟩ | ⟨h3, h4, h5⟩
      · exact h1 m' (List.mem_cons_of_mem _ hm') x h3 e
      · have hxm : x.1 = m := by
          rcases h5 with ⟨t, h5⟩ | h5
          · exact h1 m List.mem_cons_self (x.1, t) h5 h3
          · exact h5
        rw [hxm] at e ⊢
        exact h2 m List.mem_cons_self m' (List.mem_cons_of_mem _ hm') e) (fun a ha b hb => h2 a (List.mem_cons_of_mem _ ha) b (List.mem_cons_of_mem _ hb))
    rw [List.foldl_cons]
    refine ⟨ih.uniq, fun x hx => ?_, fun x hx hm => ih.far x (note_far hx (hm m List.mem_cons_self)) fun m' hm' => hm m' (List.mem_cons_of_mem _ hm'), fun m' hm' => ?_⟩
    · rcases ih.back x hx with ⟨h3, h4⟩ | h3
      · rcases note_mem h3 with ⟨h5, h6⟩ | ⟨h5, h6, h7⟩
        · refine .inl ⟨h5, fun m' hm' => ?_⟩
          rcases List.mem_cons.1 hm' with rfl | hm'
          · exact h6
          · exact h4 m' hm'
        · refine .inr ?_
          have hxm : x.1 = m := by
            rcases h7 with ⟨t, h7⟩ | h7
            · exact h1 m List.mem_cons_self (x.1, t) h7 h5
            · exact h7
          rw [List.map_cons, List.mem_cons]
          exact .inl (Prod.ext hxm h6)
      · exact .inr (by rw [List.map_cons, List.mem_cons]; exact .inr h3)
    · rcases List.mem_cons.1 hm' with rfl | hm'
      · by_cases hq : ∃ b ∈ L, b.seq = m'.seq
        · obtain ⟨b, hb, he⟩ := hq
          have := h2 b (List.mem_cons_of_mem _ hb) m' List.mem_cons_self he
          subst this
          exact ih.at_ b hb
        · exact ih.far _ ha fun b hb e => hq ⟨b, hb, e.symm⟩
      · exact ih.at_ m' hm'

/-! ### what the law asks of a message -/
structure Chk (now : Int) (audit : Bool) (s : Seen) (m : Msg) : Prop where
  same : ∀ x ∈ s, x.1.seq = m.seq → x.1 = m ∧ (audit = false → ¬ (x.2 ≤ now ∧ now - x.2 < 8))
  pos : 1 ≤ m.seq
  new : (∀ x ∈ s, x.1.seq ≠ m.seq) → ∀ x ∈ s, x.1.story = m.story → x.1.seq < m.seq
structure NumOk (now : Int) (acked : List Int) (s : Seen) (audit : Bool) (L : List Msg) : Prop where
  len : L.length ≤ 16
  len4 : audit = true → L.length ≤ 4
  has : ∀ m ∈ L, (m.seq ∈ acked ↔ audit = true)
  asc : audit = false → L.Pairwise fun a b => a.seq < b.seq
  chk : ∀ k m, L[k]? = some m → Chk now audit ((L.take k).foldl (noteD now) s) m
/-- the sender's part of what is known -/
structure NS (S : Sen) (s : Seen) (acked : List Int) : Prop where
  uniq : Uniq s
  le : ∀ x ∈ s, x.1.seq ≤ S.counter
  ack : ∀ q ∈ acked, q ≤ S.counter
  outT : ∀ i o, i < 64 → (S.st i).out = some o → o.sent = true → (o.msg, o.tm) ∈ s
  outF : ∀ i o, i < 64 → (S.st i).out = some o → o.sent = false → ∀ x ∈ s, x.1.seq ≠ o.msg.seq ∧ (x.1.story = (i : Int) + 1 → x.1.seq < o.msg.seq)
  outA : ∀ i o, i < 64 → (S.st i).out = some o → o.msg.seq ∉ acked
  ackd : ∀ i m, i < 64 → (S.st i).acked = some m → m.seq ∈ acked ∧ ∃ t, (m, t) ∈ s
structure NW (W : Wld) (s : Seen) : Prop where
  flight : ∀ m ∈ W.flight, ∃ t, (m, t) ∈ s
  peer : ∀ i, i < 64 → W.p.seq (i + 1) = 0 ∨ ∃ x ∈ s, x.1.seq = W.p.seq (i + 1) ∧ x.1.story = (i : Int) + 1
  ans : ∀ a ∈ W.answers, ∃ x ∈ s, x.1.seq = a.seq ∧ x.1.story = a.story
theorem NS.plan {S : Sen} {s : Seen} {acked : List Int} (h : NS S s acked) (now : Int) : NS (S.plan now) s acked := by
  have hp := plan_rel S now
  obtain ⟨S', hS'⟩ : ∃ S', S.plan now = S' := ⟨_, rfl⟩
  rw [hS'] at hp ⊢
  have hc := hp.cnt
  refine ⟨h.uniq, fun x hx => by have := h.le x hx; omega, fun q hq => by have := h.ack q hq; omega, fun i o hi ho hs => ?_, fun i o hi ho hs => ?_, fun i o hi ho hm => ?_, fun i m hi hm => h.ackd i m hi (by rw [← hp.acked]; exact hm)⟩
  · rcases hp.new i o hi ho with ⟨h1, -⟩ | ⟨q, h1, -⟩
    · exact h.outT i o hi h1 hs
    · rw [h1] at hs; cases hs
  · rcases hp.new i o hi ho with ⟨h1, -⟩ | ⟨q, h1, h2, -⟩
    · exact h.outF i o hi h1 hs
    · intro x hx
      have h3 := h.le x hx
      have h4 : o.msg.seq = q := by rw [h1]; exact nm_seq _ _ _ _ _
      exact ⟨by omega, fun _ => by omega⟩
  · rcases hp.new i o hi ho with ⟨h1, -⟩ | ⟨q, h1, h2, -⟩
    · exact h.outA i o hi h1 hm
    · have h3 := h.ack _ hm
      have h4 : o.msg.seq = q := by rw [h1]; exact nm_seq _ _ _ _ _
      omega
theorem NS.like {S S' : Sen} {s : Seen} {acked : List Int} (h : NS S s acked) (hc : S'.counter = S.counter) (ho : ∀ i, (S'.st i).out = (S.st i).out) (ha : ∀ i, (S'.st i).acked = (S.st i).acked) : NS S' s acked :=
  ⟨h.uniq, by rw [hc]; exact h.le, by rw [hc]; exact h.ack, fun i o hi h1 => h.outT i o hi (by rw [← ho]; exact h1), fun i o hi h1 => h.outF i o hi (by rw [← ho]; exact h1), fun i o hi h1 => h.outA i o hi (by rw [← ho]; exact h1), fun i m hi h1 => h.ackd i m hi (by rw [← ha]; exact h1)⟩
def ackL (acked : List Int) (a : Msg) : List Int := if a.kind = 3 then acked ++ [a.seq] else acked
theorem mem_ackL {acked : List Int} {a : Msg} {q : Int} (h : q ∈ ackL acked a) : q ∈ acked ∨ (a.kind = 3 ∧ q = a.seq) := by
  unfold ackL at h
  split at h
  · rename_i hk
    rcases List.mem_append.1 h with h1 | h1
    · exact .inl h1
    · exact .inr ⟨hk, List.mem_singleton.1 h1⟩
  · exact .inl h
theorem ackL_of {acked : List Int} {a : Msg} {q : Int} (h : q ∈ acked) : q ∈ ackL acked a := by
  unfold ackL; split
  · exact List.mem_append_left _ h
  · exact h
theorem NS.recv {Q : Nat → List UInt8 → Prop} {B : Int} {p : Peer} {S : Sen} {s : Seen} {acked : List Int} (h : NS S s acked) (hS : SP Q B p S) {a : Msg} {i : Nat} (ha : AOk B p i a) (hs : ∃ x ∈ s, x.1.seq = a.seq ∧ x.1.story = a.story) (now : Int) : NS (S.recv now a) s (ackL acked a) := by
  obtain ⟨x, hx, hxs, hxt⟩ := hs
  have hxc := h.le x hx
  -- an answer about what is out is about its story
  have key : ∀ j o, j < 64 → (S.st j).out = some o → o.msg.seq = a.seq → j = i ∧ (o.msg, o.tm) ∈ s := fun j o hj ho e => by
    have hst : o.sent = true := by
      cases hso : o.sent with
      | true => rfl
      | false => exact absurd (hxs.trans e.symm) (h.outF j o hj ho hso x hx).1
    have h1 := h.outT j o hj ho hst
    have h2 := h.uniq.eq x hx _ h1 (hxs.trans e.symm)
    have h3 := (hS.si.outs j o hj ho).1.2.1
    have h4 := ha.story
    rw [h2] at hxt
    simp only at hxt
    exact ⟨by omega, h1⟩
  have hack : ∀ q ∈ ackL acked a, q ≤ S.counter := fun q hq => by
    rcases mem_ackL hq with h1 | ⟨-, h1⟩
    · exact h.ack q h1
    · omega
  rw [recv_of ha.valid (ha.partner.trans hS.si.partner.symm) ha.kind ha.story]
  cases h1 : S.recv1 a i with
  | none =>
    refine ⟨h.uniq, h.le, hack, h.outT, h.outF, fun j o hj ho hm => ?_, fun j m hj hm => ⟨ackL_of (h.ackd j m hj hm).1, (h.ackd j m hj hm).2⟩⟩
    rcases mem_ackL hm with h2 | ⟨-, h2⟩
    · exact h.outA j o hj ho h2
    · obtain ⟨rfl, -⟩ := key j o hj ho h2
      unfold Sen.recv1 at h1
      rw [ho] at h1
      simp only at h1
      split at h1
      · cases h1
      · rw [if_pos h2.symm] at h1
        cases h1
  | some S1 =>
    simp only
    refine NS.plan ?_ now
    have hway : ∃ kh am c, S1 = { S with counter := c, st := upd S.st i { S.st i with held := kh, out := none, acked := am } } ∧ S.counter ≤ c ∧ (am = (S.st i).acked ∨ ∃ o, (S.st i).out = some o ∧ am = some o.msg ∧ a.seq = o.msg.seq ∧ a.kind = 3) := by
      rcases recv1_ways h1 with ⟨o, h2, h3, h4, -, h5⟩ | ⟨c, h2, h3, -⟩
      · exact ⟨_, _, _, h5, Int.le_refl _, .inr ⟨o, h2, rfl, h3, h4⟩⟩
      · refine ⟨_, _, _, h3, ?_, .inl rfl⟩
        rcases h2 with h2 | ⟨h2, -⟩ <;> omega
    obtain ⟨kh, am, c, rfl, hc, ham⟩ := hway
    have hout : ∀ j o, (upd S.st i { S.st i with held := kh, out := none, acked := am } j).out = some o → j ≠ i ∧ (S.st j).out = some o := fun j o ho => by
      by_cases e : j = i
      · subst e; rw [upd_same] at ho; cases ho
      · rw [upd_ne e] at ho; exact ⟨e, ho⟩
    refine ⟨h.uniq, fun x hx => by have := h.le x hx; simp only; omega, fun q hq => by have := hack q hq; simp only; omega, fun j o hj ho => h.outT j o hj (hout j o ho).2, fun j o hj ho => h.outF j o hj (hout j o ho).2, fun j o hj ho hm => ?_, fun j m hj hm => ?_⟩
    · obtain ⟨h2, h3⟩ := hout j o ho
      rcases mem_ackL hm with h4 | ⟨-, h4⟩
      · exact h.outA j o hj h3 h4
      · exact h2 (key j o hj h3 h4).1
    · by_cases e : j = i
      · subst e
        simp only [upd_same] at hm
        rcases ham with h2 | ⟨o, h2, h3, h4, h5⟩
        · rw [h2] at hm
          exact ⟨ackL_of (h.ackd j m hj hm).1, (h.ackd j m hj hm).2⟩
        · rw [h3] at hm
          cases hm
          refine ⟨?_, _, (key j o hj h2 h4.symm).2⟩
          unfold ackL
          rw [if_pos h5, ← h4]
          exact List.mem_append_right _ (List.mem_singleton.2 rfl)
      · simp only [upd_ne e] at hm
        exact ⟨ackL_of (h.ackd j m hj hm).1, (h.ackd j m hj hm).2⟩
end Go.Proofs.YtefloieanpgnmaaDoor

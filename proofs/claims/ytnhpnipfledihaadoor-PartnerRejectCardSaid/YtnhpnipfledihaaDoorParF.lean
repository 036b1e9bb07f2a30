/- The reference's partner: Receive. -/
import Derived.Test.YtnhpnipfledihaaDoorParE
import Derived.StillTailTactics
namespace Go.Proofs.YtnhpnipfledihaaDoor
open Go.RowKit

theorem rsum_quiet (d : List UInt8) (w : World) (n : Nat) (hd : d.length ≤ 9223372036854775000) :
    Calls Tryd.prog 29 #[.string ⟨d.toArray⟩] (w.drewN n) fun e w'' => e = .returned (.int .i64 (crcOf d)) ∧ ∃ m, w'' = w.drewN m :=
  Calls.quiet_of_same ((refSum_list d _ hd).mono fun _ _ ⟨h1, h2⟩ => ⟨h1, h2.symm⟩)

/-- what the reference's Receive leaves -/
def RRecEnd (r : Nat) (id : Int) (w : World) (ms : List Msg) (L : List Ent) (e : Ending) (w' : World) : Prop :=
  ∃ v, e = .returned v ∧ MsgsAt w.heap.size v ms w' ∧ (∃ vr, RAt r id L vr w') ∧ ButAt w.heap.size r w w'

theorem RRecEnd.idle {r : Nat} {id : Int} {L L' : List Ent} {ms : List Msg} {vr : Value} {w w2 : World} (hP : RAt r id L vr w2) (hB : Below w.heap.size w w2) (hR : ([], L) = (ms, L')) : RRecEnd r id w ms L' (.returned (.slice none 0 0)) w2 := by
  cases hR
  exact ⟨_, rfl, .inl ⟨rfl, rfl⟩, ⟨_, hP⟩, ButAt.of_below hB⟩
theorem RRecEnd.ans {r : Nat} {id : Int} {L' : List Ent} {ms : List Msg} {a : Msg} {vr : Value} {w w3 w4 : World} (hP : RAt r id L' vr w3) (hB : ButAt w.heap.size r w w3) (hA : MAt w3.heap.size a w4) (hb : Below w3.heap.size w3 w4) (hR : [a] = ms) :
    RRecEnd r id w ms L' (.returned (.slice (some ⟨w3.heap.size, 0, none⟩) 1 1)) w4 := by
  subst hR
  exact ⟨_, rfl, .inr ⟨a, _, rfl, rfl, hB.size, hA⟩, ⟨_, hP.below hb⟩, hB.trans (ButAt.of_below (hb.mono hB.size))⟩

theorem RRecEnd.new {r : Nat} {id : Int} {L' : List Ent} {vr : Value} {w w3 : World} (a : Msg) (hP : RAt r id L' vr w3) (hB : ButAt w.heap.size r w w3) :
    RRecEnd r id w [a] L' (.returned (.slice (some ⟨w3.heap.size, 0, none⟩) 1 1)) (w3.alloc (.cells a.cells 33)) :=
  RRecEnd.ans hP hB (heap_alloc_new _ _) ((Below.refl _ _).alloc (Nat.le_refl _) _) rfl

theorem ButAt.then' {r : Nat} {a b c : World} (h : ButAt a.heap.size r a b) (k : ButAt b.heap.size r b c) : ButAt a.heap.size r a c := h.then k

theorem RRecEnd.new' {r : Nat} {id : Int} {L' : List Ent} {vr : Value} {w w3 : World} {n : Nat} (a : Msg) (hP : RAt r id L' vr w3) (hB : ButAt w.heap.size r w w3) (hn : n = w3.heap.size) :
    RRecEnd r id w [a] L' (.returned (.slice (some ⟨n, 0, none⟩) 1 1)) (w3.alloc (.cells a.cells 33)) := by
  subst hn; exact RRecEnd.new a hP hB

/-- block X holds the entry e -/
def XAt (X : Nat) (e : Ent) (w : World) : Prop := w.heap[X]? = some (.cells #[.int .i64 e.story, .int .i64 e.seq, .bool e.has, .string ⟨e.text.toArray⟩] 59 (0, 0))
theorem XAt.cells {X : Nat} {e : Ent} {w : World} (h : XAt X e w) : w.cell? ⟨X, 1, none⟩ = some (.int .i64 e.seq) ∧ w.cell? ⟨X, 3, none⟩ = some (.string ⟨e.text.toArray⟩) := by
  unfold XAt at h
  constructor <;> (rw [Lib.cell_of_heap h]; rfl)
theorem XAt.below {X : Nat} {e : Ent} {w w' : World} (h : XAt X e w) (hb : Below w.heap.size w w') : XAt X e w' := (hb.block _ (some_lt h)).trans h

set_option maxRecDepth 100000 in
set_option maxHeartbeats 20000000 in
theorem rreceive_any (r : Nat) (id : Int) (L : List Ent) (v : Value) (m : Msg) (w : World) (hd : m.data.length ≤ 9223372036854775000) (hR : RAt r id L v w) :
    Calls Tryd.prog 19 #[.pointer (some ⟨r, 0, none⟩), m.enc] w (RRecEnd r id w (recv id L m).1 (recv id L m).2) := by
  obtain ⟨ms, L', hRR⟩ : ∃ ms L', recv id L m = (ms, L') := ⟨_, _, rfl⟩
  rw [hRR]
  have hB : Below w.heap.size w (w.alloc (.cells m.cells 33)) := (Below.refl _ w).alloc (Nat.le_refl _) _
  have hmw : MAt w.heap.size m (w.alloc (.cells m.cells 33)) := heap_alloc_new w _
  have HR := Lib.hid hRR; have HM := Lib.hid hmw; have HB := Lib.hid hB; have HP := Lib.hid (hR.below hB)
  have hrl := hR.lt
  clear hRR hR hB hmw
  go_enter Tryd.func19, Tryd.ntmps19
  unfold Msg.enc
  go_wp2_with fail
  refine (refValid_any m _ hd).mono ?_
  rintro e w2 ⟨rfl, hb2⟩
  have HM2 := Lib.hid (HM.out.below hb2); have HB2 := Lib.hid (below_then HB.out hb2); have HP2 := Lib.hid (HP.out.below hb2)
  clear hb2 HM HB HP
  have pc : w2.cell? ⟨r, 0, none⟩ = some (.int .i64 id) := by rw [Lib.cell_of_heap HP2.out.cells]; rfl
  obtain ⟨c0, c1, c2, c3, c4, c5, c6⟩ := HM2.out.cells
  cases hv : m.valid with
  | false =>
    have HRi : Hid (([], L) = (ms, L')) := Lib.hid (by rw [← HR.out, recv, if_neg (fun h => by rw [hv] at h; cases h.1)])
    clear hv
    go_wp2_with fail
    go_quiet (fail)
    go_wp2
    go_ret
    exact RRecEnd.idle (HP2.out.below ((Below.refl _ _).drewN _)) (HB2.out.drewN _) HRi.out
  | true =>
    by_cases hpi : m.partner = id
    · have hpb : ((m.partner : Int) != id) = false := by rw [hpi]; simp
      by_cases hk12 : m.kind = 1 ∨ m.kind = 2
      · have HR2 : Hid ((ms, L') = if m.seq < (entOf L m.story).seq then ([rejOf id (entOf L m.story).seq m.story (crcOf (entOf L m.story).text)], L) else if m.seq = (entOf L m.story).seq then ([ackOf id m.seq m.story (crcOf (entOf L m.story).text)], L) else if m.kind = 2 then ([ackOf id m.seq m.story 0], keepGo ⟨m.story, m.seq, false, []⟩ false L) else match applied m (entOf L m.story).text with | some t => ([ackOf id m.seq m.story m.version], keepGo ⟨m.story, m.seq, true, t⟩ false L) | none => ([rejOf id m.seq m.story (crcOf (entOf L m.story).text)], L)) := Lib.hid (by
          rw [← HR.out, recv, if_pos ⟨hv, hpi, hk12⟩]; rfl)
        have HV := Lib.hid ((Msg.valid_iff m).1 hv)
        obtain ⟨_, _, hq1, hq2, hs1, hs2, _⟩ := HV.out
        have HPI := Lib.hid hpi
        have hkb : ((m.kind : Int) != 1) = false ∨ ((m.kind : Int) != 1) = true ∧ ((m.kind : Int) != 2) = false := by
          rcases hk12 with h | h
          · left; simp [h]
          · right; simp [h]
        have hen := HP2.out.kept.ent m.story
        obtain ⟨hsq0, hsq1, _, htl⟩ := hen
        clear hpi hk12 hv HR
        go_wp2_with fail
        go_quiet (fail)
        obtain ⟨w3, hw3⟩ : ∃ w3, w2.drewN nq = w3 := ⟨_, rfl⟩
        have hb3 : Below w2.heap.size w2 w3 := by rw [← hw3]; exact (Below.refl _ _).drewN _
        have HM3 := Lib.hid (HM2.out.below hb3); have HB3 := Lib.hid (below_then HB2.out hb3); have HP3 := Lib.hid (HP2.out.below hb3)
        rw [hw3]
        clear hw3 hb3 c0 c1 c2 c3 c4 c5 c6 pc HM2 HB2 HP2
        obtain ⟨c0, c1, c2, c3, c4, c5, c6⟩ := HM3.out.cells
        have HEN : ∀ wy vy, RAt r id L vy wy → Hid (Calls Tryd.prog 28 #[.pointer (some ⟨r, 0, none⟩), .int .i64 m.story] wy fun e w' => e = .returned (entOf L m.story).enc ∧ Below wy.heap.size wy w') := fun wy vy h => Lib.hid (entry_any r id L vy m.story wy h)
        generalize entOf L m.story = x at *
        rcases hkb with hkb | ⟨hkb, hkb2⟩
        all_goals
          go_wp2_with fail
          refine (HEN _ _ HP3.out).out.mono ?_
          unfold Ent.enc
          rintro e w4 ⟨rfl, hb4⟩
          have HM4 := Lib.hid (HM3.out.below hb4); have HB4 := Lib.hid (below_then HB3.out hb4); have HP4 := Lib.hid (HP3.out.below hb4)
          clear hb4 HM3 HB3 HP3 c0 c1 c2 c3 c4 c5 c6 HEN
          obtain ⟨X, hX⟩ : ∃ X, w4.heap.size = X := ⟨_, rfl⟩
          obtain ⟨w5, hw5⟩ : ∃ w5, w4.alloc (.cells #[.int .i64 x.story, .int .i64 x.seq, .bool x.has, .string ⟨x.text.toArray⟩] 59) = w5 := ⟨_, rfl⟩
          have hb5 : Below w4.heap.size w4 w5 := by rw [← hw5]; exact (Below.refl _ _).alloc (Nat.le_refl _) _
          have hx5 : XAt X x w5 := by rw [← hw5, ← hX]; exact heap_alloc_new _ _
          have HM5 := Lib.hid (HM4.out.below hb5); have HB5 := Lib.hid (below_then HB4.out hb5); have HP5 := Lib.hid (HP4.out.below hb5); have HX5 := Lib.hid hx5
          obtain ⟨y1, y3⟩ := hx5.cells
          obtain ⟨c0, c1, c2, c3, c4, c5, c6⟩ := HM5.out.cells
          have pc : w5.cell? ⟨r, 0, none⟩ = some (.int .i64 id) := by rw [Lib.cell_of_heap HP5.out.cells]; rfl
          clear hb5 hx5 HM4 HB4 HP4
          by_cases hlt : m.seq < x.seq
          · have hq := Prod.mk.inj (show (ms, L') = ([rejOf id x.seq m.story (crcOf x.text)], L) by rw [HR2.out, if_pos hlt])
            obtain rfl := hq.1
            obtain rfl := hq.2.symm
            clear hq
            clear HR2
            go_wp2_with fail
            clear hX hw5
            have n0 := World.new_ne w5 ⟨r, 0, none⟩ pc
            have n1 := World.new_ne w5 ⟨w.heap.size, 3, none⟩ c3
            have n2 := World.new_ne w5 ⟨X, 1, none⟩ y1
            go_region_held3 (fun w' => w'.cell? ⟨r, 0, none⟩ = some (.int .i64 id) ∧ w'.cell? ⟨w.heap.size, 3, none⟩ = some (.int .i64 m.story) ∧ w'.cell? ⟨X, 1, none⟩ = some (.int .i64 x.seq) ∧ w'.cell? ⟨X, 3, none⟩ = some (.string ⟨x.text.toArray⟩))
              (first | assumption | go_keep)
              (first | (go_at_call 29; refine (refSum_list x.text _ (by omega)).mono ?_; rintro e w6 ⟨rfl, rfl⟩))
            have hb6 : Below w5.heap.size w5 w5.drew := (Below.refl _ _).drew
            have HB6 := Lib.hid (below_then HB5.out hb6); have HP6 := Lib.hid (HP5.out.below hb6)
            clear hb6 n0 n1 n2
            go_wp2
            go_ret
            exact RRecEnd.new (rejOf id x.seq m.story (crcOf x.text)) HP6.out (ButAt.of_below HB6.out)
          · have HR3 : Hid ((ms, L') = if m.seq = x.seq then ([ackOf id m.seq m.story (crcOf x.text)], L) else if m.kind = 2 then ([ackOf id m.seq m.story 0], keepGo ⟨m.story, m.seq, false, []⟩ false L) else match applied m x.text with | some t => ([ackOf id m.seq m.story m.version], keepGo ⟨m.story, m.seq, true, t⟩ false L) | none => ([rejOf id m.seq m.story (crcOf x.text)], L)) := Lib.hid (by rw [HR2.out, if_neg hlt])
            clear HR2
            have n0 := World.new_ne w5 ⟨r, 0, none⟩ pc
            have n1 := World.new_ne w5 ⟨w.heap.size, 2, none⟩ c2
            go_wp2_with fail
            clear hX hw5
            go_region_held3 (fun w' => w'.cell? ⟨r, 0, none⟩ = some (.int .i64 id) ∧ w'.cell? ⟨w.heap.size, 2, none⟩ = some (.int .i64 m.seq) ∧ w'.cell? ⟨w.heap.size, 3, none⟩ = some (.int .i64 m.story))
              (first | assumption | go_keep)
              ((fail))
            clear n0 n1
            obtain ⟨K, hK⟩ : ∃ K, w5.heap.size = K := ⟨_, rfl⟩
            obtain ⟨w6, hw6⟩ : ∃ w6, (w5.alloc (.cells #[.int .i64 3, .int .i64 id, .int .i64 m.seq, .int .i64 m.story, .int .i64 0, .int .i64 0, .string ⟨#[]⟩] 33)).drew = w6 := ⟨_, rfl⟩
            have hb6 : Below w5.heap.size w5 w6 := by rw [← hw6]; exact ((Below.refl _ _).alloc (Nat.le_refl _) _).drew
            have hk6 : MAt K (ackOf id m.seq m.story 0) w6 := by rw [← hw6, ← hK]; exact heap_alloc_new w5 _
            have hKl : w.heap.size ≤ K := by rw [← hK]; exact HB5.out.size
            have HM6 := Lib.hid (HM5.out.below hb6); have HB6 := Lib.hid (below_then HB5.out hb6); have HP6 := Lib.hid (HP5.out.below hb6); have HX6 := Lib.hid (HX5.out.below hb6); have HK6 := Lib.hid hk6
            have hrK : K ≠ r := by omega
            rw [hw6, hK]
            clear hw6 hb6 hk6 hK c0 c1 c2 c3 c4 c5 c6 pc y1 y3 HM5 HB5 HP5 HX5
            obtain ⟨c0, c1, c2, c3, c4, c5, c6⟩ := HM6.out.cells
            obtain ⟨y1, y3⟩ := HX6.out.cells
            obtain ⟨k0, k1, k2, k3, k4, k5, k6⟩ := HK6.out.cells
            simp only [ackOf] at k0 k1 k2 k3 k4 k5 k6
            by_cases heq : m.seq = x.seq
            · have hq := Prod.mk.inj (show (ms, L') = ([ackOf id m.seq m.story (crcOf x.text)], L) by rw [HR3.out, if_pos heq])
              obtain rfl := hq.1
              obtain rfl := hq.2.symm
              clear hq
              have heb : ((m.seq : Int) == x.seq) = true := by rw [heq]; simp
              have fz : w6.frozen? ⟨K, 5, none⟩ = false := Lib.frozen_of_heap HK6.out 5
              have hbp : ∀ u, ButAt w.heap.size r w (w6.setCell ⟨K, 5, none⟩ u) := fun u => (ButAt.of_below HB6.out).trans ⟨rfl, rfl, rfl, by simp [World.setCell], fun k hk _ => Below.heap_setCell _ _ _ _ (show k ≠ K by omega)⟩
              have hrp : ∀ u, RAt r id L v (w6.setCell ⟨K, 5, none⟩ u) := fun u => by
                refine HP6.out.keep (Below.heap_setCell _ _ _ _ (show r ≠ K by omega)) fun g hg => Below.heap_setCell _ _ _ _ (show g ≠ K from ?_)
                rintro rfl
                obtain ⟨_, _, cc, hcc⟩ := HP6.out.block g hg
                have := HK6.out
                unfold MAt at this
                rw [hcc] at this; cases this
              have HBP := Lib.hid hbp; have HRP := Lib.hid hrp
              clear HR3 heq hbp hrp
              go_wp2_with fail
              refine (refSum_list x.text _ (by omega)).mono ?_
              rintro e w7 ⟨rfl, rfl⟩
              go_wp2
              go_ret
              exact RRecEnd.new' (ackOf id m.seq m.story (crcOf x.text)) (HRP.out _) (HBP.out _) (by simp [World.setCell])
            · have heb : ((m.seq : Int) == x.seq) = false := by rw [beq_eq_false_iff_ne]; exact heq
              by_cases hk2 : m.kind = 2
              · try (exfalso; simp [hk2] at hkb; done)
                all_goals
                  have hq := Prod.mk.inj (show (ms, L') = ([ackOf id m.seq m.story 0], keepGo ⟨m.story, m.seq, false, []⟩ false L) by rw [HR3.out, if_neg heq, if_pos hk2])
                  obtain rfl := hq.1
                  obtain rfl := hq.2.symm
                  clear hq
                  have hkk : ((m.kind : Int) == 2) = true := by rw [hk2]; rfl
                  clear HR3 heq hk2
                  go_wp2_with fail
                  refine (keep_any r id L v ⟨m.story, m.seq, false, []⟩ _ ⟨hs1, hs2⟩ ⟨hq1, hq2⟩ (fun _ => rfl) (Nat.zero_le _) HP6.out).mono ?_
                  rintro e w7 ⟨rfl, ⟨vr, hp7⟩, hb7⟩
                  have HB7 := Lib.hid ((ButAt.of_below (B := r) HB6.out).then' hb7); have HP7 := Lib.hid hp7
                  have HK7 := Lib.hid (HK6.out.kept (hb7.block _ HK6.out.lt hrK))
                  clear hb7 hp7 k0 k1 k2 k3 k4 k5 k6 c0 c1 c2 c3 c4 c5 c6 y1 y3 HM6 HX6 HK6 HP6 HB6
                  obtain ⟨k0, k1, k2, k3, k4, k5, k6⟩ := HK7.out.cells
                  simp only [ackOf] at k0 k1 k2 k3 k4 k5 k6
                  go_wp2
                  go_ret
                  exact RRecEnd.new (ackOf id m.seq m.story 0) HP7.out HB7.out
              · try (exfalso; simp [hk2] at hkb2; done)
                all_goals
                  have hkk : ((m.kind : Int) == 2) = false := by rw [beq_eq_false_iff_ne]; exact hk2
                  obtain ⟨base, hbase⟩ : ∃ base, (if m.base = 0 then [] else x.text) = base := ⟨_, rfl⟩
                  have hbl : base.length ≤ 8192 := by rw [← hbase]; by_cases h0 : m.base = 0 <;> simp [h0, htl]
                  have HR4 : Hid ((ms, L') = match (if (crcOf base : Int) = m.base then match applyD base m.data with | .ok t => if (crcOf t : Int) = m.version then some t else none | .error _ => none else none) with | some t => ([ackOf id m.seq m.story m.version], keepGo ⟨m.story, m.seq, true, t⟩ false L) | none => ([rejOf id m.seq m.story (crcOf x.text)], L)) := Lib.hid (by rw [HR3.out, if_neg heq, if_neg hk2, ← hbase]; rfl)
                  have hb0 : (m.base == 0) = true ∧ (⟨#[]⟩ : ByteArray) = ⟨base.toArray⟩ ∨ (m.base == 0) = false ∧ (⟨x.text.toArray⟩ : ByteArray) = ⟨base.toArray⟩ := by
                    by_cases h0 : m.base = 0
                    · exact .inl ⟨by simpa using h0, by rw [← hbase, if_pos h0]⟩
                    · exact .inr ⟨by simpa using h0, by rw [← hbase, if_neg h0]⟩
                  have pc : w6.cell? ⟨r, 0, none⟩ = some (.int .i64 id) := by rw [Lib.cell_of_heap HP6.out.cells]; rfl
                  clear HR3 heq hk2 hbase
                  rcases hb0 with ⟨h0, h1⟩ | ⟨h0, h1⟩
                  all_goals
                    have HE0 := Lib.hid h1
                    clear h1
                    go_wp2_with fail
                    rw [HE0.out]
                    clear HE0 h0
                    refine (refApply_any base m.data _ (by omega) hd).mono ?_
                    cases hap : applyD base m.data with
                    | error er =>
                      have hne : ((er : Int) != 0) = true := by rcases applyD_err hap with rfl | rfl <;> rfl
                      unfold exTup
                      rintro e w7 ⟨rfl, hb7⟩
                      have HM7 := Lib.hid (HM6.out.below hb7); have HB7 := Lib.hid (below_then HB6.out hb7); have HP7 := Lib.hid (HP6.out.below hb7); have HX7 := Lib.hid (HX6.out.below hb7)
                      clear hb7 c0 c1 c2 c3 c4 c5 c6 y1 y3 k0 k1 k2 k3 k4 k5 k6 pc HM6 HB6 HP6 HX6 HK6
                      obtain ⟨c0, c1, c2, c3, c4, c5, c6⟩ := HM7.out.cells
                      obtain ⟨y1, y3⟩ := HX7.out.cells
                      have pc : w7.cell? ⟨r, 0, none⟩ = some (.int .i64 id) := by rw [Lib.cell_of_heap HP7.out.cells]; rfl
                      have HAP := Lib.hid hap
                      clear hap
                      by_cases hs : (crcOf base : Int) = m.base
                      · have hsb : ((crcOf base : Int) != m.base) = false := by rw [hs]; simp
                        have HS := Lib.hid hs
                        clear hs
                        have hq := Prod.mk.inj (show (ms, L') = ([rejOf id m.seq m.story (crcOf x.text)], L) by rw [HR4.out]; rw [if_pos HS.out, HAP.out])
                        obtain rfl := hq.1
                        obtain rfl := hq.2.symm
                        clear hq HR4
                        go_wp2_with fail
                        go_quiet ((go_at_call 29; exact rsum_quiet _ _ _ (by omega)))
                        obtain ⟨w8, hw8⟩ : ∃ w8, w7.drewN nq = w8 := ⟨_, rfl⟩
                        have hb8 : Below w7.heap.size w7 w8 := by rw [← hw8]; exact (Below.refl _ _).drewN _
                        have HM8 := Lib.hid (HM7.out.below hb8); have HB8 := Lib.hid (below_then HB7.out hb8); have HP8 := Lib.hid (HP7.out.below hb8); have HX8 := Lib.hid (HX7.out.below hb8)
                        rw [hw8]
                        clear hw8 hb8 c0 c1 c2 c3 c4 c5 c6 y1 y3 pc HM7 HB7 HP7 HX7
                        obtain ⟨c0, c1, c2, c3, c4, c5, c6⟩ := HM8.out.cells
                        obtain ⟨y1, y3⟩ := HX8.out.cells
                        have pc : w8.cell? ⟨r, 0, none⟩ = some (.int .i64 id) := by rw [Lib.cell_of_heap HP8.out.cells]; rfl
                        have n0 := World.new_ne w8 ⟨r, 0, none⟩ pc
                        have n1 := World.new_ne w8 ⟨w.heap.size, 3, none⟩ c3
                        have n2 := World.new_ne w8 ⟨X, 3, none⟩ y3
                        go_wp2_with fail
                        go_region_held3 (fun w' => w'.cell? ⟨r, 0, none⟩ = some (.int .i64 id) ∧ w'.cell? ⟨w.heap.size, 2, none⟩ = some (.int .i64 m.seq) ∧ w'.cell? ⟨w.heap.size, 3, none⟩ = some (.int .i64 m.story) ∧ w'.cell? ⟨X, 3, none⟩ = some (.string ⟨x.text.toArray⟩))
                          (first | assumption | go_keep)
                          (first | (go_at_call 29; refine (refSum_list x.text _ (by omega)).mono ?_; rintro e w9 ⟨rfl, rfl⟩))
                        have hb9 : Below w8.heap.size w8 w8.drew := (Below.refl _ _).drew
                        have HB9 := Lib.hid (below_then HB8.out hb9); have HP9 := Lib.hid (HP8.out.below hb9)
                        clear hb9 n0 n1 n2
                        go_wp2
                        go_ret
                        exact RRecEnd.new (rejOf id m.seq m.story (crcOf x.text)) HP9.out (ButAt.of_below HB9.out)
                      · have hsb : ((crcOf base : Int) != m.base) = true := by rw [bne_iff_ne]; exact hs
                        have HS := Lib.hid hs
                        clear hs
                        have hq := Prod.mk.inj (show (ms, L') = ([rejOf id m.seq m.story (crcOf x.text)], L) by rw [HR4.out]; rw [if_neg HS.out])
                        obtain rfl := hq.1
                        obtain rfl := hq.2.symm
                        clear hq HR4
                        go_wp2_with fail
                        go_quiet ((go_at_call 29; exact rsum_quiet _ _ _ (by omega)))
                        obtain ⟨w8, hw8⟩ : ∃ w8, w7.drewN nq = w8 := ⟨_, rfl⟩
                        have hb8 : Below w7.heap.size w7 w8 := by rw [← hw8]; exact (Below.refl _ _).drewN _
                        have HM8 := Lib.hid (HM7.out.below hb8); have HB8 := Lib.hid (below_then HB7.out hb8); have HP8 := Lib.hid (HP7.out.below hb8); have HX8 := Lib.hid (HX7.out.below hb8)
                        rw [hw8]
                        clear hw8 hb8 c0 c1 c2 c3 c4 c5 c6 y1 y3 pc HM7 HB7 HP7 HX7
                        obtain ⟨c0, c1, c2, c3, c4, c5, c6⟩ := HM8.out.cells
                        obtain ⟨y1, y3⟩ := HX8.out.cells
                        have pc : w8.cell? ⟨r, 0, none⟩ = some (.int .i64 id) := by rw [Lib.cell_of_heap HP8.out.cells]; rfl
                        have n0 := World.new_ne w8 ⟨r, 0, none⟩ pc
                        have n1 := World.new_ne w8 ⟨w.heap.size, 3, none⟩ c3
                        have n2 := World.new_ne w8 ⟨X, 3, none⟩ y3
                        go_wp2_with fail
                        go_region_held3 (fun w' => w'.cell? ⟨r, 0, none⟩ = some (.int .i64 id) ∧ w'.cell? ⟨w.heap.size, 2, none⟩ = some (.int .i64 m.seq) ∧ w'.cell? ⟨w.heap.size, 3, none⟩ = some (.int .i64 m.story) ∧ w'.cell? ⟨X, 3, none⟩ = some (.string ⟨x.text.toArray⟩))
                          (first | assumption | go_keep)
                          (first | (go_at_call 29; refine (refSum_list x.text _ (by omega)).mono ?_; rintro e w9 ⟨rfl, rfl⟩))
                        have hb9 : Below w8.heap.size w8 w8.drew := (Below.refl _ _).drew
                        have HB9 := Lib.hid (below_then HB8.out hb9); have HP9 := Lib.hid (HP8.out.below hb9)
                        clear hb9 n0 n1 n2
                        go_wp2
                        go_ret
                        exact RRecEnd.new (rejOf id m.seq m.story (crcOf x.text)) HP9.out (ButAt.of_below HB9.out)
                    | ok t =>
                      have ht := applyD_short hap
                      unfold exTup
                      rintro e w7 ⟨rfl, hb7⟩
                      have HM7 := Lib.hid (HM6.out.below hb7); have HB7 := Lib.hid (below_then HB6.out hb7); have HP7 := Lib.hid (HP6.out.below hb7); have HX7 := Lib.hid (HX6.out.below hb7); have HK7 := Lib.hid (HK6.out.below hb7)
                      clear hb7 c0 c1 c2 c3 c4 c5 c6 y1 y3 k0 k1 k2 k3 k4 k5 k6 pc HM6 HB6 HP6 HX6 HK6
                      obtain ⟨c0, c1, c2, c3, c4, c5, c6⟩ := HM7.out.cells
                      obtain ⟨y1, y3⟩ := HX7.out.cells
                      have pc : w7.cell? ⟨r, 0, none⟩ = some (.int .i64 id) := by rw [Lib.cell_of_heap HP7.out.cells]; rfl
                      have HAP := Lib.hid hap
                      clear hap
                      by_cases hs : (crcOf base : Int) = m.base
                      · have hsb : ((crcOf base : Int) != m.base) = false := by rw [hs]; simp
                        have HS := Lib.hid hs
                        clear hs
                        by_cases hv : (crcOf t : Int) = m.version
                        · have hvb : ((crcOf t : Int) != m.version) = false := by rw [hv]; simp
                          have hq := Prod.mk.inj (show (ms, L') = ([ackOf id m.seq m.story m.version], keepGo ⟨m.story, m.seq, true, t⟩ false L) by rw [HR4.out, if_pos HS.out, HAP.out]; simp only []; rw [if_pos hv])
                          obtain rfl := hq.1
                          obtain rfl := hq.2.symm
                          clear hq HR4 hv
                          go_wp2_with fail
                          go_quiet ((go_at_call 29; exact rsum_quiet _ _ _ (by omega)))
                          obtain ⟨w8, hw8⟩ : ∃ w8, w7.drewN nq = w8 := ⟨_, rfl⟩
                          have hb8 : Below w7.heap.size w7 w8 := by rw [← hw8]; exact (Below.refl _ _).drewN _
                          have HM8 := Lib.hid (HM7.out.below hb8); have HB8 := Lib.hid (below_then HB7.out hb8); have HP8 := Lib.hid (HP7.out.below hb8); have HK8 := Lib.hid (HK7.out.below hb8)
                          rw [hw8]
                          clear hw8 hb8 c0 c1 c2 c3 c4 c5 c6 y1 y3 pc HM7 HB7 HP7 HX7 HK7
                          obtain ⟨c0, c1, c2, c3, c4, c5, c6⟩ := HM8.out.cells
                          go_wp2_with fail
                          refine (keep_any r id L v ⟨m.story, m.seq, true, t⟩ _ ⟨hs1, hs2⟩ ⟨hq1, hq2⟩ (fun h => by cases h) ht HP8.out).mono ?_
                          rintro e w9 ⟨rfl, ⟨vr, hp9⟩, hb9⟩
                          have hKK := HK8.out.kept (hb9.block _ HK8.out.lt hrK)
                          have hMM := HM8.out.kept (hb9.block _ HM8.out.lt (by omega))
                          have hBB := (ButAt.of_below (B := r) HB8.out).then' hb9
                          have hbp : ∀ u, ButAt w.heap.size r w (w9.setCell ⟨K, 5, none⟩ u) := fun u => hBB.trans ⟨rfl, rfl, rfl, by simp [World.setCell], fun k hk _ => Below.heap_setCell _ _ _ _ (show k ≠ K by omega)⟩
                          have hrp : ∀ u, RAt r id (keepGo ⟨m.story, m.seq, true, t⟩ false L) vr (w9.setCell ⟨K, 5, none⟩ u) := fun u => by
                            refine hp9.keep (Below.heap_setCell _ _ _ _ (show r ≠ K by omega)) fun g hg => Below.heap_setCell _ _ _ _ (show g ≠ K from ?_)
                            rintro rfl
                            obtain ⟨_, _, cc, hcc⟩ := hp9.block g hg
                            unfold MAt at hKK
                            rw [hcc] at hKK; cases hKK
                          have fz : w9.frozen? ⟨K, 5, none⟩ = false := Lib.frozen_of_heap hKK 5
                          have HBP := Lib.hid hbp; have HRP := Lib.hid hrp; have HM9 := Lib.hid hMM
                          obtain ⟨k0, k1, k2, k3, k4, k5, k6⟩ := hKK.cells
                          simp only [ackOf] at k0 k1 k2 k3 k4 k5 k6
                          clear hbp hrp hBB hMM hKK hb9 hp9 c0 c1 c2 c3 c4 c5 c6 HM8 HB8 HP8 HK8
                          obtain ⟨c0, c1, c2, c3, c4, c5, c6⟩ := HM9.out.cells
                          go_wp2
                          go_ret
                          exact RRecEnd.new' (ackOf id m.seq m.story m.version) (HRP.out _) (HBP.out _) (by simp [World.setCell])
                        · have hvb : ((crcOf t : Int) != m.version) = true := by rw [bne_iff_ne]; exact hv
                          have HVV := Lib.hid hv
                          clear hv
                          have hq := Prod.mk.inj (show (ms, L') = ([rejOf id m.seq m.story (crcOf x.text)], L) by rw [HR4.out]; rw [if_pos HS.out, HAP.out]; simp only []; rw [if_neg HVV.out])
                          obtain rfl := hq.1
                          obtain rfl := hq.2.symm
                          clear hq HR4
                          go_wp2_with fail
                          go_quiet ((go_at_call 29; exact rsum_quiet _ _ _ (by omega)))
                          obtain ⟨w8, hw8⟩ : ∃ w8, w7.drewN nq = w8 := ⟨_, rfl⟩
                          have hb8 : Below w7.heap.size w7 w8 := by rw [← hw8]; exact (Below.refl _ _).drewN _
                          have HM8 := Lib.hid (HM7.out.below hb8); have HB8 := Lib.hid (below_then HB7.out hb8); have HP8 := Lib.hid (HP7.out.below hb8); have HX8 := Lib.hid (HX7.out.below hb8)
                          rw [hw8]
                          clear hw8 hb8 c0 c1 c2 c3 c4 c5 c6 y1 y3 pc HM7 HB7 HP7 HX7
                          obtain ⟨c0, c1, c2, c3, c4, c5, c6⟩ := HM8.out.cells
                          obtain ⟨y1, y3⟩ := HX8.out.cells
                          have pc : w8.cell? ⟨r, 0, none⟩ = some (.int .i64 id) := by rw [Lib.cell_of_heap HP8.out.cells]; rfl
                          have n0 := World.new_ne w8 ⟨r, 0, none⟩ pc
                          have n1 := World.new_ne w8 ⟨w.heap.size, 3, none⟩ c3
                          have n2 := World.new_ne w8 ⟨X, 3, none⟩ y3
                          go_wp2_with fail
                          go_region_held3 (fun w' => w'.cell? ⟨r, 0, none⟩ = some (.int .i64 id) ∧ w'.cell? ⟨w.heap.size, 2, none⟩ = some (.int .i64 m.seq) ∧ w'.cell? ⟨w.heap.size, 3, none⟩ = some (.int .i64 m.story) ∧ w'.cell? ⟨X, 3, none⟩ = some (.string ⟨x.text.toArray⟩))
                            (first | assumption | go_keep)
                            (first | (go_at_call 29; refine (refSum_list x.text _ (by omega)).mono ?_; rintro e w9 ⟨rfl, rfl⟩))
                          have hb9 : Below w8.heap.size w8 w8.drew := (Below.refl _ _).drew
                          have HB9 := Lib.hid (below_then HB8.out hb9); have HP9 := Lib.hid (HP8.out.below hb9)
                          clear hb9 n0 n1 n2
                          go_wp2
                          go_ret
                          exact RRecEnd.new (rejOf id m.seq m.story (crcOf x.text)) HP9.out (ButAt.of_below HB9.out)
                      · have hsb : ((crcOf base : Int) != m.base) = true := by rw [bne_iff_ne]; exact hs
                        have HS := Lib.hid hs
                        clear hs
                        have hq := Prod.mk.inj (show (ms, L') = ([rejOf id m.seq m.story (crcOf x.text)], L) by rw [HR4.out]; rw [if_neg HS.out])
                        obtain rfl := hq.1
                        obtain rfl := hq.2.symm
                        clear hq HR4
                        go_wp2_with fail
                        go_quiet ((go_at_call 29; exact rsum_quiet _ _ _ (by omega)))
                        obtain ⟨w8, hw8⟩ : ∃ w8, w7.drewN nq = w8 := ⟨_, rfl⟩
                        have hb8 : Below w7.heap.size w7 w8 := by rw [← hw8]; exact (Below.refl _ _).drewN _
                        have HM8 := Lib.hid (HM7.out.below hb8); have HB8 := Lib.hid (below_then HB7.out hb8); have HP8 := Lib.hid (HP7.out.below hb8); have HX8 := Lib.hid (HX7.out.below hb8)
                        rw [hw8]
                        clear hw8 hb8 c0 c1 c2 c3 c4 c5 c6 y1 y3 pc HM7 HB7 HP7 HX7
                        obtain ⟨c0, c1, c2, c3, c4, c5, c6⟩ := HM8.out.cells
                        obtain ⟨y1, y3⟩ := HX8.out.cells
                        have pc : w8.cell? ⟨r, 0, none⟩ = some (.int .i64 id) := by rw [Lib.cell_of_heap HP8.out.cells]; rfl
                        have n0 := World.new_ne w8 ⟨r, 0, none⟩ pc
                        have n1 := World.new_ne w8 ⟨w.heap.size, 3, none⟩ c3
                        have n2 := World.new_ne w8 ⟨X, 3, none⟩ y3
                        go_wp2_with fail
                        go_region_held3 (fun w' => w'.cell? ⟨r, 0, none⟩ = some (.int .i64 id) ∧ w'.cell? ⟨w.heap.size, 2, none⟩ = some (.int .i64 m.seq) ∧ w'.cell? ⟨w.heap.size, 3, none⟩ = some (.int .i64 m.story) ∧ w'.cell? ⟨X, 3, none⟩ = some (.string ⟨x.text.toArray⟩))
                          (first | assumption | go_keep)
                          (first | (go_at_call 29; refine (refSum_list x.text _ (by omega)).mono ?_; rintro e w9 ⟨rfl, rfl⟩))
                        have hb9 : Below w8.heap.size w8 w8.drew := (Below.refl _ _).drew
                        have HB9 := Lib.hid (below_then HB8.out hb9); have HP9 := Lib.hid (HP8.out.below hb9)
                        clear hb9 n0 n1 n2
                        go_wp2
                        go_ret
                        exact RRecEnd.new (rejOf id m.seq m.story (crcOf x.text)) HP9.out (ButAt.of_below HB9.out)
      · have hk1 : ((m.kind : Int) != 1) = true := by rw [bne_iff_ne]; exact fun h => hk12 (.inl h)
        have hk2 : ((m.kind : Int) != 2) = true := by rw [bne_iff_ne]; exact fun h => hk12 (.inr h)
        have HRi : Hid (([], L) = (ms, L')) := Lib.hid (by rw [← HR.out, recv, if_neg (fun h => hk12 h.2.2)])
        clear hk12 hpi hv
        go_wp2_with fail
        go_quiet (fail)
        go_wp2
        go_ret
        exact RRecEnd.idle (HP2.out.below ((Below.refl _ _).drewN _)) (HB2.out.drewN _) HRi.out
    · have hpb : ((m.partner : Int) != id) = true := by rw [bne_iff_ne]; exact hpi
      have HRi : Hid (([], L) = (ms, L')) := Lib.hid (by rw [← HR.out, recv, if_neg (fun h => hpi h.2.1)])
      clear hpi hv
      go_wp2_with fail
      go_quiet (fail)
      go_wp2
      go_ret
      exact RRecEnd.idle (HP2.out.below ((Below.refl _ _).drewN _)) (HB2.out.drewN _) HRi.out
end Go.Proofs.YtnhpnipfledihaaDoor

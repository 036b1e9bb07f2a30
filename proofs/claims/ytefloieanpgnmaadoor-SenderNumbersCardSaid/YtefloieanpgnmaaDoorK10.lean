/- Facts and contracts for the laws of the sender, part 10. Conditions: those that each theorem names. -/
import Derived.Test.YtefloieanpgnmaaDoorK06
import Derived.Test.YtefloieanpgnmaaDoorK07
import Derived.Test.YtefloieanpgnmaaDoorK09
import Derived.Deep.RegionHeld3
import Derived.Deep.AppendLies
import Derived.Deep.DrawnRows
/- delta's iterator over the operations: the places. -/
namespace Go.Proofs.YtefloieanpgnmaaDoor
open Go.RowKit Go.Shelf

attribute [local go_sem] Oper.semAt_some
attribute [local go_sem ↓] Go.wp_at_zero Go.wp_at_succ

theorem infoInt : (Tryd.prog.info? 3).map (fun i => (i.zero, i.size, i.bytes)) = some (some (.int .i64 0), 1, 8) := by kernel_rfl

/-- 'operations(old, next)': both are boxed; the function value captures the boxes. -/
theorem operations_any (o x : ByteArray) (w : World) :
    Calls Tryd.prog 63 #[.string o, .string x] w fun e w' => e = .returned (.func (.func 78) #[] #[.pointer (some ⟨w.heap.size, 0, none⟩), .pointer (some ⟨w.heap.size + 1, 0, none⟩)]) ∧ w' = (w.alloc (.cells #[.string o] 9)).alloc (.cells #[.string x] 9) := by
  go_enter Tryd.func63, Tryd.ntmps63
  go_wp2
  go_ret
  exact ⟨rfl, rfl⟩

theorem grp_round {base b n m : Nat} {f : List UInt8 → List Nat} {w0 wA w1 : World} {x : List UInt8} {v : Value} {g cap k H : Nat} (hB : GBack base b n f w0 x v) (hA : Below w0.heap.size w0 wA) (hgrow : wA.grownBy w1 v.ownBlock)
    (hm : m = (natsI (f x)).length) (hown1 : w1.ownsRow base 3 1 (.slice (some ⟨g, 0, none⟩) (m + 1) cap) (m + 1) ((natsI (f x)).map (Value.int .i64) ++ [.int .i64 (k : Int)])) (hoi : ∀ z ∈ natsI (f x), (Lit.int .i64 z).wf = true)
    (hat : v.ownBlock = some g ∨ g = H) (hH : w0.heap.size ≤ H) (hlen : (f x).length ≤ n) (hk : k ≤ 8192) :
    ∃ w2, (Instr.mapUpdate 164 (.map (some b)) (.string ⟨x.toArray⟩) (.slice (some ⟨g, 0, none⟩) (m + 1) cap)).run Tryd.prog w1 = .ok () w2 ∧ GMap base b (n + 1) (fun y => if y = x then f x ++ [k] else f y) w2 ∧ w1.grownBy w2 (some b) := by
  subst hm
  have e1 : natsI (f x ++ [k]) = natsI (f x) ++ [(k : Int)] := by simp [natsI]
  refine hB w1 _ (f x ++ [k]) (by simp) ⟨(hgrow.os).trans hA.os, (hgrow.tape).trans hA.tape, (hgrow.output).trans hA.output, Nat.le_trans hA.size hgrow.size, fun j hj hne => (hgrow.block j (Nat.lt_of_lt_of_le hj hA.size) hne).trans (hA.block j hj)⟩ ?_ (by simp; omega) ?_
  · rw [e1]
    refine ⟨by simpa using hown1, fun z hz => ?_⟩
    rcases List.mem_append.1 hz with h | h
    · exact hoi z h
    · obtain rfl : z = (k : Int) := by simpa using h
      exact WalkArith.wf_i64 (by omega)
  · rcases hat with h | h
    · exact .inl (by rw [h]; rfl)
    · exact .inr ⟨g, rfl, by omega⟩

def encY (y : DOp) : Array Value := #[y.enc]

set_option maxRecDepth 100000 in
set_option maxHeartbeats 4000000 in
theorem opers1_in (n l Bo Bn : Nat) (hn : 1 ≤ n) (o x : List UInt8) (ho : o.length ≤ 8192) (hx : x.length ≤ 8192) (J Jx : List DOp → World → Prop) (W : World) (hJ : AbidesFrom W.heap.size J)
    (hBo : Boxed W Bo 9 (.string ⟨o.toArray⟩)) (hBn : Boxed W Bn 9 (.string ⟨x.toArray⟩))
    (hY : ∀ pre y W, J pre W → pre.length < (opsR o x []).length ∧ y ∈ opsR o x [] → YieldAt Fence.wide (n - 1) Tryd.prog l #[y.enc] W fun e W' =>
      (e = .returned (.bool true) ∧ J (pre ++ [y]) W' ∧ KOps W W') ∨ (e = .returned (.bool false) ∧ Jx (pre ++ [y]) W'))
    (h0 : J [] W) :
    CallsIn Fence.wide n Tryd.prog 78 #[.func (.yield l) #[] #[], .pointer (some ⟨Bo, 0, none⟩), .pointer (some ⟨Bn, 0, none⟩)] W fun e W' => (∃ v, e = .returned v) ∧
      ((∃ ys, ys = opsR o x [] ∧ J ys W') ∨ (∃ pre, pre <+: opsR o x [] ∧ Jx pre W')) := by
  refine callsIn_wide.2 ?_
  obtain ⟨i0, hi, hz0, hz1, hz2⟩ := info_parts infoInt
  have HY := Lib.hid hY; have HJ := Lib.hid hJ
  clear hY hJ
  obtain ⟨O, hO⟩ : ∃ O : ByteArray, ⟨o.toArray⟩ = O := ⟨_, rfl⟩
  obtain ⟨X, hX⟩ : ∃ X : ByteArray, ⟨x.toArray⟩ = X := ⟨_, rfl⟩
  have zO : O.size = o.length := by rw [← hO, mk_size]
  have zX : X.size = x.length := by rw [← hX, mk_size]
  have eO : ∀ a b, O.extract a b = ⟨((o.drop a).take (b - a)).toArray⟩ := fun a b => by rw [extract_mk, ← hO]
  have eX : ∀ a b, X.extract a b = ⟨((x.drop a).take (b - a)).toArray⟩ := fun a b => by rw [extract_mk, ← hX]
  rw [hO] at hBo
  rw [hX] at hBn
  have HO := Lib.hid hO; have HX := Lib.hid hX; have EO := Lib.hid eO; have EX := Lib.hid eX
  clear hO hX eO eX
  have HBO := Lib.hid hBo; have HBN := Lib.hid hBn; have H0 := Lib.hid h0
  have lBo : Bo < W.heap.size := hBo.lt
  have lBn : Bn < W.heap.size := hBn.lt
  clear hBo hBn h0
  obtain ⟨W0, hW0⟩ : ∃ W0, W.alloc (.map #[] 0) = W0 := ⟨_, rfl⟩
  have hg0 : GMap (W.heap.size + 1) W.heap.size 0 (fun _ => []) W0 := by rw [← hW0]; exact GMap.new W
  have hb0 : Below W.heap.size W W0 := by rw [← hW0]; exact (Below.refl _ _).alloc (Nat.le_refl _) _
  have HG0 := Lib.hid hg0; have HB0 := Lib.hid hb0
  have hmm := @run_makeMap Tryd.prog
  clear hg0 hb0
  go_enter Tryd.func78, Tryd.ntmps78
  go_wp2
  clear hW0
  go_loopw [5] (fun i wr => ∃ k : Nat, i = .int .i64 (k : Int) ∧ k ≤ o.length - 7 ∧ Hid (GMap (W.heap.size + 1) W.heap.size k (fun y => placesTo o y k) wr) ∧ Hid (Below W.heap.size W wr)) (fun i _ => o.length - (intOf i).toNat)
  case atStart => exact ⟨0, rfl, Nat.zero_le _, HG0, HB0⟩
  case round =>
    obtain ⟨k, rfl, hk, HG, HB⟩ := hrel
    have c0 : wr.cell? ⟨Bo, 0, none⟩ = some (.string O) := Boxed.cell (t := 9) ((HB.out.block _ lBo).trans HBO.out)
    by_cases hk8 : k + 8 ≤ o.length
    · obtain ⟨wD, hwD⟩ : ∃ wD, wr.drew = wD := ⟨_, rfl⟩
      obtain ⟨wA, hwA⟩ : ∃ wA, (wr.alloc (.cells #[.int .i64 (k : Int)] 3)).drew = wA := ⟨_, rfl⟩
      have hbD : Below wr.heap.size wr wD := by rw [← hwD]; exact (Below.refl _ _).drew
      have hbA : Below wr.heap.size wr wA := by rw [← hwA]; exact ((Below.refl _ _).alloc (Nat.le_refl _) _).drew
      have hbDA : Below wD.heap.size wD wA := by rw [← hwD, ← hwA]; exact ⟨rfl, rfl, rfl, by simp, fun j hj => Below.heap_alloc wr _ _ hj⟩
      have hzD : wD.heap.size = wr.heap.size := by rw [← hwD]; rfl
      have hzA : wA.heap.size = wr.heap.size + 1 := by rw [← hwA]; simp
      have hnA : ∀ j u, [Value.int .i64 (k : Int)][j]? = some u → wA.cell? ((⟨wr.heap.size, 0, none⟩ : Addr).add j) = some u := by
        rw [← hwA]; exact World.news_of_block (cs := #[.int .i64 (k : Int)]) (t := 3) (fr := (0, 0)) (heap_alloc_new wr _)
      have hxl : ((o.drop k).take 8).length = 8 := by simp; omega
      obtain ⟨v1, l1, o1, n1, back1⟩ := (HG.out.ops (KOps.below hbD)).get (n := k) (by omega) (x := (o.drop k).take 8) (by omega)
      obtain ⟨v2, l2, o2, n2, back2⟩ := (HG.out.ops (KOps.below hbA)).get (n := k) (by omega) (x := (o.drop k).take 8) (by omega)
      have hex : O.extract k (k + 8) = ⟨((o.drop k).take 8).toArray⟩ := by rw [EO.out]; congr 3; omega
      have o1A := ints_ops o1 (KOps.below hbDA)
      have hlz : (natsI (placesTo o ((o.drop k).take 8) k)).length = (placesTo o ((o.drop k).take 8) k).length := by simp [natsI]
      have hpl := placesTo_len o ((o.drop k).take 8) k
      have hfe : (fun y => if y = (o.drop k).take 8 then placesTo o ((o.drop k).take 8) k ++ [k] else placesTo o y k) = fun y => placesTo o y (k + 1) := by
        funext y
        rw [placesTo_succ]
        by_cases hy : y = (o.drop k).take 8
        · subst hy; rw [if_pos rfl, if_pos rfl]
        · rw [if_neg hy, if_neg (fun e => hy e.symm), List.append_nil]
      have HK1 : ∀ (g cap : Nat) (w1 : World), w1.ownsRow (W.heap.size + 1) 3 1 (.slice (some ⟨g, 0, none⟩) ((natsI (placesTo o ((o.drop k).take 8) k)).length + 1) cap) ((natsI (placesTo o ((o.drop k).take 8) k)).length + 1) ((natsI (placesTo o ((o.drop k).take 8) k)).map (Value.int .i64) ++ [.int .i64 (k : Int)]) → wA.grownBy w1 v1.ownBlock → (v1.ownBlock = some g ∨ g = wr.heap.size + 1) →
          ∃ w2, (Instr.mapUpdate 164 (.map (some W.heap.size)) (.string (O.extract k (k + 8))) (.slice (some ⟨g, 0, none⟩) ((natsI (placesTo o ((o.drop k).take 8) k)).length + 1) cap)).run Tryd.prog w1 = .ok () w2 ∧ Hid (GMap (W.heap.size + 1) W.heap.size (k + 1) (fun y => placesTo o y (k + 1)) w2) ∧ Hid (Below W.heap.size W w2) ∧ w1.cell? ⟨Bo, 0, none⟩ = some (.string O) ∧ w2.cell? ⟨Bo, 0, none⟩ = some (.string O) := fun g cap w1 ho hg ha => by
        obtain ⟨w2, hr2, hG2, hg2⟩ := grp_round (k := k) back1 hbDA hg rfl ho o1.2 ha (by omega) (by omega) (by omega)
        rw [hfe] at hG2
        have hb1 : Below W.heap.size W w1 := ((HB.out.trans (hbA.mono HB.out.size)).grown hg (by have := HB.out.size; omega) (fun j hj => by have := (o1A.1.lt j hj).1; omega))
        have hb2 : Below W.heap.size W w2 := hb1.grown hg2 hb1.size (fun j hj => by cases hj; exact Nat.le_refl _)
        exact ⟨w2, by rw [hex]; exact hr2, Lib.hid hG2, Lib.hid hb2, Boxed.cell (t := 9) ((hb1.block _ lBo).trans HBO.out), Boxed.cell (t := 9) ((hb2.block _ lBo).trans HBO.out)⟩
      have HK2 : ∀ (g cap : Nat) (w1 : World), w1.ownsRow (W.heap.size + 1) 3 1 (.slice (some ⟨g, 0, none⟩) ((natsI (placesTo o ((o.drop k).take 8) k)).length + 1) cap) ((natsI (placesTo o ((o.drop k).take 8) k)).length + 1) ((natsI (placesTo o ((o.drop k).take 8) k)).map (Value.int .i64) ++ [.int .i64 (k : Int)]) → wA.grownBy w1 v2.ownBlock → (v2.ownBlock = some g ∨ g = wr.heap.size + 1) →
          ∃ w2, (Instr.mapUpdate 164 (.map (some W.heap.size)) (.string (O.extract k (k + 8))) (.slice (some ⟨g, 0, none⟩) ((natsI (placesTo o ((o.drop k).take 8) k)).length + 1) cap)).run Tryd.prog w1 = .ok () w2 ∧ Hid (GMap (W.heap.size + 1) W.heap.size (k + 1) (fun y => placesTo o y (k + 1)) w2) ∧ Hid (Below W.heap.size W w2) ∧ w1.cell? ⟨Bo, 0, none⟩ = some (.string O) ∧ w2.cell? ⟨Bo, 0, none⟩ = some (.string O) := fun g cap w1 ho hg ha => by
        obtain ⟨w2, hr2, hG2, hg2⟩ := grp_round (k := k) back2 (Below.refl _ _) hg rfl ho o2.2 ha (by omega) (by omega) (by omega)
        rw [hfe] at hG2
        have hb1 : Below W.heap.size W w1 := ((HB.out.trans (hbA.mono HB.out.size)).grown hg (by have := HB.out.size; omega) (fun j hj => by have := (o2.1.lt j hj).1; omega))
        have hb2 : Below W.heap.size W w2 := hb1.grown hg2 hb1.size (fun j hj => by cases hj; exact Nat.le_refl _)
        exact ⟨w2, by rw [hex]; exact hr2, Lib.hid hG2, Lib.hid hb2, Boxed.cell (t := 9) ((hb1.block _ lBo).trans HBO.out), Boxed.cell (t := 9) ((hb2.block _ lBo).trans HBO.out)⟩
      have hbase : W.heap.size + 1 ≤ wA.heap.size := by have := HB.out.size; omega
      have h63 : (natsI (placesTo o ((o.drop k).take 8) k)).length + 1 ≤ maxLen := by unfold maxLen; omega
      have hby : ((natsI (placesTo o ((o.drop k).take 8) k)).length + 1) * 8 ≤ 140737488355328 := by omega
      have cD : wD.cell? ⟨Bo, 0, none⟩ = some (.string O) := by rw [← hwD]; exact c0
      have cA : wA.cell? ⟨Bo, 0, none⟩ = some (.string O) := Boxed.cell (t := 9) (((HB.out.trans (hbA.mono HB.out.size)).block _ lBo).trans HBO.out)
      rw [← hex] at l1 l2
      have HO1 := Lib.hid o1A.1; have HO2 := Lib.hid o2.1; have HNA := Lib.hid hnA
      have hk1 := Lib.hid HK1; have hk2 := Lib.hid HK2
      have r1 : IntKind.i64.wrap ((k : Int) + 8) = (k : Int) + 8 := wrap_small _ (by omega) (by omega)
      have r2 : (0 : Int) ≤ (k : Int) + 8 := by omega
      have r3 : ((k : Int) + 8).toNat = k + 8 := by omega
      have r4 : (0 : Int) ≤ (k : Int) := by omega
      have r5 : (k : Int) + 8 ≤ (o.length : Int) := by omega
      have r6 : (k : Int) + 8 ≤ (O.size : Int) := by omega
      have r7 : (k : Int) ≤ (k : Int) + 8 := by omega
      have r8 : k + 8 - k = 8 := by omega
      have r9 : k ≤ k + 8 := by omega
      have r10 : k + 8 ≤ O.size := by omega
      have HZ := Lib.hid hzA
      generalize natsI (placesTo o ((o.drop k).take 8) k) = zs at *
      subst hwD
      clear hbD hbA hbDA hzD hnA hxl o1 n1 back1 o2 n2 back2 hex o1A hlz hpl hfe HK1 HK2 HG HB
      subst hwA
      go_wp2
      go_region_held3 (fun w' => w'.cell? ⟨Bo, 0, none⟩ = some (.string O)) (first | assumption | go_keep)
        (first
          | ((refine step_append_lies _ (by rfl) _ _ _ (by rfl) (W.heap.size + 1) 3 i0 (.int .i64 0) 1 8 Tryd.underlying29 hi hz0 hz1 hz2 rfl (by omega) v1 zs.length (zs.map (Value.int .i64)) (by rfl) HO1.out ⟨wr.heap.size, 0, none⟩ 1 1 [.int .i64 (k : Int)] (by rfl) (by rfl) HNA.out (by simp [Value.oneCell']) (by omega) h63 hby hbase (wr.heap.size + 1) HZ.out ?_; intro g cap w1 hown1 hgrow hat hlt; obtain ⟨w2, hr2, HG2, HB2, c1, c2⟩ := hk1.out g cap w1 hown1 hgrow hat))
          | ((refine step_append_lies _ (by rfl) _ _ _ (by rfl) (W.heap.size + 1) 3 i0 (.int .i64 0) 1 8 Tryd.underlying29 hi hz0 hz1 hz2 rfl (by omega) v2 zs.length (zs.map (Value.int .i64)) (by rfl) HO2.out ⟨wr.heap.size, 0, none⟩ 1 1 [.int .i64 (k : Int)] (by rfl) (by rfl) HNA.out (by simp [Value.oneCell']) (by omega) h63 hby hbase (wr.heap.size + 1) HZ.out ?_; intro g cap w1 hown1 hgrow hat hlt; obtain ⟨w2, hr2, HG2, HB2, c1, c2⟩ := hk2.out g cap w1 hown1 hgrow hat)))
      all_goals
        go_wp2
        go_roundw
        case rel => exact ⟨k + 1, by go_num, by omega, HG2, HB2⟩
        case measure => simp [intOf]; omega
    · obtain rfl : k = o.length - 7 := by omega
      have HGP : Hid (GMap (W.heap.size + 1) W.heap.size (o.length - 7) (fun y => placesP o y) wr) := HG
      have hJ0 : J [] wr := HJ.out _ _ _ none H0.out ⟨HB.out.os, HB.out.tape, HB.out.output, HB.out.size, fun j hj _ => HB.out.block j hj⟩ (by simp)
      have HBOr : Hid (Boxed wr Bo 9 (.string O)) := Lib.hid ((HB.out.block _ lBo).trans HBO.out)
      have HBNr : Hid (Boxed wr Bn 9 (.string X)) := Lib.hid ((HB.out.block _ lBn).trans HBN.out)
      have hszo := HB.out.size
      clear HG HB HG0 HB0 HBO HBN H0 hk
      obtain ⟨wo, rfl⟩ : ∃ wo : World, wo = wr := ⟨_, rfl⟩
      go_wp2
      clear c0
      go_loopw [6, 7] (fun a b wr => ∃ (fr p : Nat) (pre : List DOp), a = .int .i64 (fr : Int) ∧ b = .int .i64 (p : Int) ∧ fr ≤ p ∧ p ≤ x.length ∧ Hid (opsR o x [] = pre ++ opsR o (x.drop p) ((x.drop fr).take (p - fr))) ∧ J pre wr ∧ Hid (GMap (W.heap.size + 1) W.heap.size (o.length - 7) (fun y => placesP o y) wr) ∧ Hid (Boxed wr Bo 9 (.string O)) ∧ Hid (Boxed wr Bn 9 (.string X)) ∧ W.heap.size ≤ wr.heap.size) (fun _ b _ => x.length + 1 - (intOf b).toNat)
      case atStart => exact ⟨0, 0, [], rfl, rfl, Nat.le_refl _, Nat.zero_le _, Lib.hid (by simp), hJ0, HGP, HBOr, HBNr, hszo⟩
      case round =>
        clear hJ0 HGP HBOr HBNr
        obtain ⟨fr, p, pre, rfl, rfl, hfp, hpx, HQ, hJp, HG, HBO, HBN, hsz⟩ := hrel
        have c1 := HBO.out.cell
        have c2 := HBN.out.cell
        by_cases hp8 : p + 8 ≤ x.length
        · have r1 : IntKind.i64.wrap ((p : Int) + 8) = (p : Int) + 8 := wrap_small _ (by omega) (by omega)
          have r2 : (0 : Int) ≤ (p : Int) + 8 := by omega
          have r3 : ((p : Int) + 8).toNat = p + 8 := by omega
          have r4 : (0 : Int) ≤ (p : Int) := by omega
          have r6 : (p : Int) + 8 ≤ (X.size : Int) := by omega
          have r7 : (p : Int) ≤ (p : Int) + 8 := by omega
          have r9 : p ≤ p + 8 := by omega
          have r10 : p + 8 ≤ X.size := by omega
          have r11 : (p : Int) ≤ (X.size : Int) := by omega
          have hxl : ((x.drop p).take 8).length = 8 := by simp; omega
          obtain ⟨v, hl0, ho1⟩ := HG.out.look (by omega) (x := (x.drop p).take 8) (by omega)
          have hex : X.extract p (p + 8) = ⟨((x.drop p).take 8).toArray⟩ := by rw [EX.out]; congr 3; omega
          have hex2 : X.extract p x.length = ⟨(x.drop p).toArray⟩ := by rw [EX.out, List.take_of_length_le (by simp)]
          have hlk : ∀ q, (Instr.lookup 164 (.map (some W.heap.size)) (.string (X.extract p (p + 8))) false).run Tryd.prog (wr.drewN q) = .ok v (wr.drewN q) := fun q => by rw [hex]; exact hl0 q
          obtain ⟨R1, R2, hR⟩ : ∃ R1 R2, lgo o (x.drop p) (placesP o ((x.drop p).take 8)) (0, 0) = (R1, R2) := ⟨_, _, rfl⟩
          have hle := longP_eq o (x.drop p) (by simp; omega)
          rw [hR] at hle
          have hnat := nats_of ho1
          have hlg : ∀ q, Calls Tryd.prog 79 #[.string O, .string (X.extract p x.length), v] (wr.drewN q) fun e w' => e = .returned (.tuple #[.int .i64 (R1 : Int), .int .i64 (R2 : Int)]) ∧ ∃ m, w' = (wr.drewN q).drewN m := fun q => by
            have := longP_any o (x.drop p) v (placesP o ((x.drop p).take 8)) (wr.drewN q) ho (by simp; omega) (fun z hz => by have := placesTo_lt hz; omega) hnat
            rw [hR, ← hex2, HO.out] at this
            exact this
          have HLG := Lib.hid hlg
          have hldl := longD_le o (x.drop p)
          have hfit := longD_fit o (x.drop p)
          have HLE := Lib.hid hle
          clear hl0 ho1 hex hex2 hR hnat hlg hle hxl
          go_wp2_with fail
          go_quiet ((go_at_call 79; (with_reducible exact Calls.quiet_of (HLG.out _))))
          have hJq : J pre (wr.drewN nq) := HJ.out _ _ _ none hJp ⟨rfl, rfl, rfl, Nat.le_refl _, fun j _ _ => rfl⟩ (by simp)
          have HGq : Hid (GMap (W.heap.size + 1) W.heap.size (o.length - 7) (fun y => placesP o y) (wr.drewN nq)) := Lib.hid (HG.out.ops (KOps.below ((Below.refl _ wr).drewN nq)))
          have HBOq : Hid (Boxed (wr.drewN nq) Bo 9 (.string O)) := HBO
          have HBNq : Hid (Boxed (wr.drewN nq) Bn 9 (.string X)) := HBN
          have c2q := HBNq.out.cell
          have hszq : W.heap.size ≤ (wr.drewN nq).heap.size := hsz
          clear hlk HLG hJp HG HBO HBN c1 c2
          generalize wr.drewN nq = ws at *
          by_cases hR8 : 8 ≤ R1
          · have hLD : longD o (x.drop p) = (R1, R2) := ((HLE.out.2 (HLE.out.1.1 hR8)).symm)
            rw [hLD] at hldl hfit
            simp only [List.length_drop] at hldl hfit
            have hq2 : opsR o x [] = pre ++ insL ((x.drop fr).take (p - fr)) ++ ⟨R1, R2, []⟩ :: opsR o (x.drop (p + R1)) [] := by
              rw [HQ.out, opsR_hit (by rw [hLD]; exact hR8), hLD]
              simp [List.drop_drop]
            have HQ2 := Lib.hid hq2
            have hb8 : decide ((R1 : Int) < 8) = false := by rw [decide_eq_false_iff_not]; omega
            have hwp : IntKind.i64.wrap ((p : Int) + (R1 : Int)) = (p : Int) + (R1 : Int) := wrap_small _ (by omega) (by omega)
            clear hq2 HLE hLD HQ
            by_cases hfr : fr < p
            · have hfb : decide ((fr : Int) < (p : Int)) = true := by rw [decide_eq_true_eq]; omega
              have hne : (x.drop fr).take (p - fr) ≠ [] := by intro e; have := congrArg List.length e; simp at this; omega
              have hins : insL ((x.drop fr).take (p - fr)) = [⟨0, 0, (x.drop fr).take (p - fr)⟩] := by unfold insL; rw [if_neg hne]
              have HIN := Lib.hid hins
              have hex3 : X.extract fr p = ⟨((x.drop fr).take (p - fr)).toArray⟩ := EX.out fr p
              have f1 : (0 : Int) ≤ (fr : Int) := by omega
              have f2 : (fr : Int) ≤ (p : Int) := by omega
              have f3 : (p : Int) ≤ (X.size : Int) := by omega
              obtain ⟨fn, tmps, assign, body, hy, hRn⟩ := HY.out pre ⟨0, 0, (x.drop fr).take (p - fr)⟩ ws hJq ⟨by rw [HQ2.out, hins]; simp, by rw [HQ2.out, hins]; simp⟩
              have hy' : (Instr.yield l #[.agg #[.int .i64 0, .int .i64 0, .string (X.extract fr p)]]).run Tryd.prog ws = .ok (.round l fn tmps assign body) ws := by rw [hex3]; exact hy
              clear hy hex3 hins hne
              go_upto_region 10 with (fail)
              refine (wpIn_wide (n := n)).1 ?_
              gi_wp2
              refine hRn.mono ?_
              rintro e W3 (⟨rfl, hJ3, hk3⟩ | ⟨rfl, hJx3⟩)
              · gi_wp2
                have HG3 := Lib.hid (HGq.out.ops hk3); have HBO3 := Lib.hid (boxed_ops HBOq.out hk3); have HBN3 := Lib.hid (boxed_ops HBNq.out hk3)
                have hsz3 : W.heap.size ≤ W3.heap.size := by have := hk3.size; omega
                clear hk3 HGq HBOq HBNq
                obtain ⟨fn2, tmps2, assign2, body2, hy2, hRn2⟩ := HY.out _ ⟨R1, R2, []⟩ W3 hJ3 ⟨by rw [HQ2.out, HIN.out]; simp, by rw [HQ2.out, HIN.out]; simp⟩
                have hy2' : (Instr.yield l #[.agg #[.int .i64 (R1 : Int), .int .i64 (R2 : Int), .string ⟨#[]⟩]]).run Tryd.prog W3 = .ok (.round l fn2 tmps2 assign2 body2) W3 := hy2
                clear hy2
                go_upto_region 11 with (fail)
                refine (wpIn_wide (n := n)).1 ?_
                gi_wp2
                refine hRn2.mono ?_
                rintro e W4 (⟨rfl, hJ4, hk4⟩ | ⟨rfl, hJx4⟩)
                · gi_wp2
                  have HG4 := Lib.hid (HG3.out.ops hk4); have HBO4 := Lib.hid (boxed_ops HBO3.out hk4); have HBN4 := Lib.hid (boxed_ops HBN3.out hk4)
                  have hsz4 : W.heap.size ≤ W4.heap.size := by have := hk4.size; omega
                  clear hk4
                  go_wp2
                  go_roundw
                  case rel => exact ⟨p + R1, p + R1, _, by go_num, by go_num, Nat.le_refl _, by omega, Lib.hid (by rw [HQ2.out, HIN.out]; simp), hJ4, HG4, HBO4, HBN4, hsz4⟩
                  case measure => simp [intOf]; omega
                · gi_wp2
                  go_wp2
                  exact bodyPost_ret (v := .tuple #[]) (by simp [results, Tryd.results78, go_sem]) rfl ⟨⟨_, rfl⟩, .inr ⟨_, ⟨_, by rw [HQ2.out, HIN.out] <;> simp <;> rfl⟩, hJx4⟩⟩
              · gi_wp2
                go_wp2
                exact bodyPost_ret (v := .tuple #[]) (by simp [results, Tryd.results78, go_sem]) rfl ⟨⟨_, rfl⟩, .inr ⟨_, ⟨_, by rw [HQ2.out, HIN.out] <;> simp <;> rfl⟩, hJx3⟩⟩
            · obtain rfl : fr = p := by omega
              have hfb : decide ((fr : Int) < (fr : Int)) = false := by rw [decide_eq_false_iff_not]; omega
              have hins : insL ((x.drop fr).take (fr - fr)) = [] := by simp [insL]
              have HIN := Lib.hid hins
              obtain ⟨fn2, tmps2, assign2, body2, hy2, hRn2⟩ := HY.out _ ⟨R1, R2, []⟩ ws hJq ⟨by rw [HQ2.out, hins]; simp, by rw [HQ2.out, hins]; simp⟩
              have hy2' : (Instr.yield l #[.agg #[.int .i64 (R1 : Int), .int .i64 (R2 : Int), .string ⟨#[]⟩]]).run Tryd.prog ws = .ok (.round l fn2 tmps2 assign2 body2) ws := hy2
              clear hy2 hins
              go_upto_region 11 with (fail)
              refine (wpIn_wide (n := n)).1 ?_
              gi_wp2
              refine hRn2.mono ?_
              rintro e W4 (⟨rfl, hJ4, hk4⟩ | ⟨rfl, hJx4⟩)
              · gi_wp2
                have HG4 := Lib.hid (HGq.out.ops hk4); have HBO4 := Lib.hid (boxed_ops HBOq.out hk4); have HBN4 := Lib.hid (boxed_ops HBNq.out hk4)
                have hsz4 : W.heap.size ≤ W4.heap.size := by have := hk4.size; omega
                clear hk4
                go_wp2
                go_roundw
                case rel => exact ⟨fr + R1, fr + R1, _, by go_num, by go_num, Nat.le_refl _, by omega, Lib.hid (by rw [HQ2.out, HIN.out]; simp), hJ4, HG4, HBO4, HBN4, hsz4⟩
                case measure => simp [intOf]; omega
              · gi_wp2
                go_wp2
                exact bodyPost_ret (v := .tuple #[]) (by simp [results, Tryd.results78, go_sem]) rfl ⟨⟨_, rfl⟩, .inr ⟨_, ⟨_, by rw [HQ2.out, HIN.out] <;> simp <;> rfl⟩, hJx4⟩⟩
          · have hb8 : decide ((R1 : Int) < 8) = true := by rw [decide_eq_true_eq]; omega
            have hl8 : ¬ 8 ≤ (longD o (x.drop p)).1 := fun h => hR8 (HLE.out.1.2 h)
            have hdp : x.drop p = x[p] :: x.drop (p + 1) := List.drop_eq_getElem_cons (by omega)
            have hq2 : opsR o x [] = pre ++ opsR o (x.drop (p + 1)) ((x.drop fr).take (p + 1 - fr)) := by
              rw [HQ.out]
              rw [hdp] at hl8 ⊢
              rw [opsR_miss hl8]
              congr 2
              rw [show p + 1 - fr = (p - fr) + 1 by omega, List.take_succ_eq_append_getElem (by simp; omega)]
              simp [show fr + (p - fr) = p by omega]
            have HQ2 := Lib.hid hq2
            clear hq2 hdp hl8 HLE HQ hldl hfit
            go_wp2
            go_roundw
            case rel => exact ⟨fr, p + 1, pre, rfl, by go_num, by omega, by omega, HQ2, hJq, HGq, HBOq, HBNq, hszq⟩
            case measure => simp [intOf]; omega
        · have hq2 : opsR o x [] = pre ++ insL (x.drop fr) := by
            rw [HQ.out, opsR_short o (x.drop p) _ (by simp; omega)]
            congr 2
            have : x.drop p = (x.drop fr).drop (p - fr) := by rw [List.drop_drop]; congr 1; omega
            rw [this, List.take_append_drop]
          have HQ2 := Lib.hid hq2
          clear hq2 HQ
          by_cases hfr : fr < x.length
          · have hfb : decide ((fr : Int) < (x.length : Int)) = true := by rw [decide_eq_true_eq]; omega
            have hne : x.drop fr ≠ [] := by intro e; have := congrArg List.length e; simp at this; omega
            have hins : insL (x.drop fr) = [⟨0, 0, x.drop fr⟩] := by unfold insL; rw [if_neg hne]
            have HIN := Lib.hid hins
            have hex3 : X.extract fr x.length = ⟨(x.drop fr).toArray⟩ := by rw [EX.out, List.take_of_length_le (by simp)]
            have f1 : (0 : Int) ≤ (fr : Int) := by omega
            have f3 : (fr : Int) ≤ (X.size : Int) := by omega
            obtain ⟨fn, tmps, assign, body, hy, hRn⟩ := HY.out pre ⟨0, 0, x.drop fr⟩ wr hJp ⟨by rw [HQ2.out, hins]; simp, by rw [HQ2.out, hins]; simp⟩
            have hy' : (Instr.yield l #[.agg #[.int .i64 0, .int .i64 0, .string (X.extract fr x.length)]]).run Tryd.prog wr = .ok (.round l fn tmps assign body) wr := by rw [hex3]; exact hy
            clear hy hex3 hins hne
            go_upto_region 15 with (fail)
            refine (wpIn_wide (n := n)).1 ?_
            gi_wp2
            refine hRn.mono ?_
            rintro e W3 (⟨rfl, hJ3, hk3⟩ | ⟨rfl, hJx3⟩)
            · gi_wp2
              go_wp2
              go_end0
              exact ⟨⟨_, rfl⟩, .inl ⟨_, by rw [HQ2.out, HIN.out], hJ3⟩⟩
            · gi_wp2
              go_wp2
              go_end0
              exact ⟨⟨_, rfl⟩, .inr ⟨_, by rw [HQ2.out, HIN.out]; exact List.prefix_refl _, hJx3⟩⟩
          · have hfb : decide ((fr : Int) < (x.length : Int)) = false := by rw [decide_eq_false_iff_not]; omega
            have hins : insL (x.drop fr) = [] := by rw [List.drop_eq_nil_of_le (by omega)]; rfl
            have HF : Hid (opsR o x [] = pre) := Lib.hid (by rw [HQ2.out, hins, List.append_nil])
            clear hins
            go_wp2
            go_end0
            exact ⟨⟨_, rfl⟩, .inl ⟨pre, HF.out.symm, hJp⟩⟩

end Go.Proofs.YtefloieanpgnmaaDoor

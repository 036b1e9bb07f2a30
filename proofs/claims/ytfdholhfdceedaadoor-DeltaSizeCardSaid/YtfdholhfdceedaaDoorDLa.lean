/- Laws of chapter 19: DiffMatchesReference, RoundTrip, OtherBase, Size. -/
import Derived.Test.YtfdholhfdceedaaDoorDfA
namespace Go.Proofs.YtfdholhfdceedaaDoor
open Go.RowKit

theorem applyGo_facts {old d : List UInt8} : ∀ (f a : Nat) (out : List UInt8), (∀ e, applyGo f old d a out = .error e → e = 10 ∨ e = 190) ∧ (∀ t, out.length ≤ 8192 → applyGo f old d a out = .ok t → t.length ≤ 8192) := by
  intro f
  induction f with
  | zero => intro a out; exact ⟨fun e h => by simp [applyGo] at h, fun t ho h => by simp [applyGo] at h; subst h; exact ho⟩
  | succ f ih =>
    intro a out
    rw [applyGo]
    split
    · exact ⟨(fun e h => by cases h), fun t ho h => by cases h; exact ho⟩
    · cases hop : opAt old d a with
      | error e0 => exact ⟨fun e h => by cases h; exact opAt_err hop, fun t _ h => by cases h⟩
      | ok p =>
        obtain ⟨x, k⟩ := p
        simp only []
        split
        · rename_i hl
          exact ⟨(ih k (out ++ x)).1, fun t _ h => (ih k (out ++ x)).2 t (by simpa using hl) h⟩
        · exact ⟨fun e h => by cases h; exact .inr rfl, fun t _ h => by cases h⟩
theorem applyD_facts {old d : List UInt8} : (∀ e, applyD old d = .error e → e = 10 ∨ e = 190) ∧ ∀ t, applyD old d = .ok t → t.length ≤ 8192 := by
  unfold applyD
  split
  · exact ⟨fun e h => by cases h; exact .inr rfl, fun t h => by cases h⟩
  · cases intAt d 0 with
    | none => exact ⟨fun e h => by cases h; exact .inl rfl, fun t h => by cases h⟩
    | some p =>
      obtain ⟨sum, a⟩ := p
      simp only []
      split
      · cases intAt d a with
        | none => exact ⟨fun e h => by cases h; exact .inl rfl, fun t h => by cases h⟩
        | some q =>
          obtain ⟨want, a2⟩ := q
          simp only []
          have hg := applyGo_facts (old := old) (d := d) (d.length + 1) a2 []
          cases hgo : applyGo (d.length + 1) old d a2 [] with
          | error e0 => exact ⟨fun e h => by cases h; exact hg.1 _ hgo, fun t h => by cases h⟩
          | ok out =>
            simp only []
            split
            · exact ⟨(fun e h => by cases h), fun t h => by cases h; exact hg.2 _ (by simp) hgo⟩
            · exact ⟨fun e h => by cases h; exact .inr rfl, fun t h => by cases h⟩
      · exact ⟨fun e h => by cases h; exact .inr rfl, fun t h => by cases h⟩
theorem applyD_err {old d : List UInt8} {e : Int} (h : applyD old d = .error e) : e = 10 ∨ e = 190 := applyD_facts.1 e h
theorem applyD_len {old d t : List UInt8} (h : applyD old d = .ok t) : t.length ≤ 8192 := applyD_facts.2 t h
theorem bytes_list (s : ByteArray) : ∃ l : List UInt8, s = ⟨l.toArray⟩ := ⟨s.data.toList, by simp⟩

set_option maxRecDepth 100000 in
set_option maxHeartbeats 2000000 in
theorem lawDiff_any {a0 a1 : Addr} (s t : ByteArray) (w0 : World) (hs : s.size ≤ 9223372036854775807) (ht : t.size ≤ 9223372036854775807) (hS : Sents a0 a1 w0) (hsh : ShiftsAt w0) :
    Calls Tryd.prog 3 #[.string s, .string t] w0 fun e w' => e = .returned (.bool true) ∧ Below w0.heap.size w0 w' := by
  obtain ⟨x, rfl⟩ : ∃ l : List UInt8, s = ⟨l.toArray⟩ := bytes_list s
  rw [mk_size] at hs
  obtain ⟨y, rfl⟩ : ∃ l : List UInt8, t = ⟨l.toArray⟩ := bytes_list t
  rw [mk_size] at ht
  have HL := Lib.hid (LW.mk hS hsh (Below.refl _ _) : LW a0 a1 w0 w0)
  have HSN := Lib.hid (sane_any w0 hS hsh)
  clear hS hsh
  go_enter Tryd.func3, Tryd.ntmps3
  go_wp2_with fail
  refine HSN.out.mono ?_
  rintro e w1 ⟨rfl, hb1⟩
  have HL1 := Lib.hid (HL.out.below hb1)
  clear hb1 HL HSN
  go_wp2_with fail
  refine (cut_any x 800 _ (by omega) (by omega)).mono ?_
  rintro e wq ⟨rfl, rfl⟩
  have lo : (x.take 800).length ≤ 800 := List.length_take_le _ _
  generalize x.take 800 = o at *
  go_wp2_with fail
  refine (cut_any y 800 _ (by omega) (by omega)).mono ?_
  rintro e wq ⟨rfl, rfl⟩
  have ln : (y.take 800).length ≤ 800 := List.length_take_le _ _
  generalize y.take 800 = n at *
  have HR := fun wy => Lib.hid (refDiff_any o n wy (by omega) (by omega))
  have HD := fun (wy : World) (h : ShiftsAt wy) => Lib.hid (diff_any o n wy (by omega) (by omega) h)
  generalize diffD o n = D at *
  go_wp2_with fail
  refine (HD _ HL1.out.h).out.mono ?_
  rintro e w2 ⟨rfl, hb2⟩
  have HL2 := Lib.hid (HL1.out.below hb2)
  clear hb2
  go_wp2_with fail
  refine (HR _).out.mono ?_
  rintro e w3 ⟨rfl, hb3⟩
  have HL3 := Lib.hid (HL2.out.below hb3)
  clear hb3
  go_wp2
  go_ret
  exact ⟨rfl, HL3.out.bel⟩

set_option maxRecDepth 100000 in
set_option maxHeartbeats 2000000 in
theorem lawSize_any {a0 a1 : Addr} (s t : ByteArray) (w0 : World) (hs : s.size ≤ 9223372036854775807) (ht : t.size ≤ 9223372036854775807) (hS : Sents a0 a1 w0) (hsh : ShiftsAt w0) :
    Calls Tryd.prog 8 #[.string s, .string t] w0 fun e w' => e = .returned (.bool true) ∧ Below w0.heap.size w0 w' := by
  obtain ⟨x, rfl⟩ : ∃ l : List UInt8, s = ⟨l.toArray⟩ := bytes_list s
  rw [mk_size] at hs
  obtain ⟨y, rfl⟩ : ∃ l : List UInt8, t = ⟨l.toArray⟩ := bytes_list t
  rw [mk_size] at ht
  have HL := Lib.hid (LW.mk hS hsh (Below.refl _ _) : LW a0 a1 w0 w0)
  have HSN := Lib.hid (sane_any w0 hS hsh)
  clear hS hsh
  go_enter Tryd.func8, Tryd.ntmps8
  go_wp2_with fail
  refine HSN.out.mono ?_
  rintro e w1 ⟨rfl, hb1⟩
  have HL1 := Lib.hid (HL.out.below hb1)
  clear hb1 HL HSN
  go_wp2_with fail
  refine (cut_any x 8192 _ (by omega) (by omega)).mono ?_
  rintro e wq ⟨rfl, rfl⟩
  have lo : (x.take 8192).length ≤ 8192 := List.length_take_le _ _
  generalize x.take 8192 = o at *
  go_wp2_with fail
  refine (cut_any y 8192 _ (by omega) (by omega)).mono ?_
  rintro e wq ⟨rfl, rfl⟩
  have ln : (y.take 8192).length ≤ 8192 := List.length_take_le _ _
  generalize y.take 8192 = n at *
  have hsz := diff_size lo ln
  have HD := fun (wy : World) (h : ShiftsAt wy) => Lib.hid (diff_any o n wy (by omega) (by omega) h)
  generalize diffD o n = D at *
  go_wp2_with fail
  refine (HD _ HL1.out.h).out.mono ?_
  rintro e w2 ⟨rfl, hb2⟩
  have HL2 := Lib.hid (HL1.out.below hb2)
  have hle : decide ((D.length : Int) ≤ (n.length : Int) + 14) = true := by rw [decide_eq_true_eq]; omega
  clear hb2
  go_wp2
  go_ret
  exact ⟨rfl, HL2.out.bel⟩

set_option maxRecDepth 100000 in
set_option maxHeartbeats 2000000 in
theorem lawRound_any {a0 a1 : Addr} (s t : ByteArray) (w0 : World) (hs : s.size ≤ 9223372036854775807) (ht : t.size ≤ 9223372036854775807) (hS : Sents a0 a1 w0) (hsh : ShiftsAt w0) :
    Calls Tryd.prog 5 #[.string s, .string t] w0 fun e w' => e = .returned (.bool true) ∧ Below w0.heap.size w0 w' := by
  obtain ⟨x, rfl⟩ : ∃ l : List UInt8, s = ⟨l.toArray⟩ := bytes_list s
  rw [mk_size] at hs
  obtain ⟨y, rfl⟩ : ∃ l : List UInt8, t = ⟨l.toArray⟩ := bytes_list t
  rw [mk_size] at ht
  have HL := Lib.hid (LW.mk hS hsh (Below.refl _ _) : LW a0 a1 w0 w0)
  have HSN := Lib.hid (sane_any w0 hS hsh)
  clear hS hsh
  go_enter Tryd.func5, Tryd.ntmps5
  go_wp2_with fail
  refine HSN.out.mono ?_
  rintro e w1 ⟨rfl, hb1⟩
  have HL1 := Lib.hid (HL.out.below hb1)
  clear hb1 HL HSN
  go_wp2_with fail
  refine (cut_any x 9000 _ (by omega) (by omega)).mono ?_
  rintro e wq ⟨rfl, rfl⟩
  have lo : (x.take 9000).length ≤ 9000 := List.length_take_le _ _
  generalize x.take 9000 = o at *
  go_wp2_with fail
  refine (cut_any y 9000 _ (by omega) (by omega)).mono ?_
  rintro e wq ⟨rfl, rfl⟩
  have ln : (y.take 9000).length ≤ 9000 := List.length_take_le _ _
  generalize y.take 9000 = n at *
  have HD := fun (wy : World) (h : ShiftsAt wy) => Lib.hid (diff_any o n wy (by omega) (by omega) h)
  have hdl := diffD_len o n
  have HA := fun (wy : World) (h : LW a0 a1 w0 wy) => Lib.hid (apply_list o (diffD o n) wy (by omega) (by omega) h.s h.h)
  by_cases hok : o.length ≤ 8192 ∧ n.length ≤ 8192
  · obtain ⟨ho, hn⟩ := hok
    rw [apply_diff ho hn] at HA
    have hne := diff_pos ho hn
    have g1 : decide ((8192 : Int) < (o.length : Int)) = false := by rw [decide_eq_false_iff_not]; omega
    have g2 : decide ((8192 : Int) < (n.length : Int)) = false := by rw [decide_eq_false_iff_not]; omega
    generalize diffD o n = D at *
    have hne1 : D.isEmpty = false := by simpa using hne
    have hne2 : (!D.isEmpty) = true := by simpa using hne
    clear hne
    go_wp2_with fail
    refine (HD _ HL1.out.h).out.mono ?_
    rintro e w2 ⟨rfl, hb2⟩
    have HL2 := Lib.hid (HL1.out.below hb2)
    clear hb2
    go_wp2_with fail
    refine (HA _ HL2.out).out.mono ?_
    unfold exTup
    rintro e w3 ⟨rfl, hb3⟩
    have HL3 := Lib.hid (HL2.out.below hb3)
    clear hb3
    go_wp2
    go_ret
    exact ⟨rfl, HL3.out.bel⟩
  · obtain ⟨er, her, he⟩ := apply_empty o
    have hl : 8192 < o.length ∨ 8192 < n.length := by omega
    rw [diff_long hl] at HD HA
    rw [her] at HA
    have hnz : (er != 0) = true := by rw [bne_iff_ne]; omega
    clear her he hdl hok
    by_cases h1 : 8192 < o.length
    · have g1 : decide ((8192 : Int) < (o.length : Int)) = true := by rw [decide_eq_true_eq]; omega
      clear hl
      go_wp2_with fail
      refine (HD _ HL1.out.h).out.mono ?_
      rintro e w2 ⟨rfl, hb2⟩
      have HL2 := Lib.hid (HL1.out.below hb2)
      clear hb2
      go_wp2_with fail
      refine (HA _ HL2.out).out.mono ?_
      unfold exTup
      rintro e w3 ⟨rfl, hb3⟩
      have HL3 := Lib.hid (HL2.out.below hb3)
      clear hb3
      go_wp2
      go_ret
      exact ⟨rfl, HL3.out.bel⟩
    · have g1 : decide ((8192 : Int) < (o.length : Int)) = false := by rw [decide_eq_false_iff_not]; omega
      have g2 : decide ((8192 : Int) < (n.length : Int)) = true := by rw [decide_eq_true_eq]; omega
      clear hl
      go_wp2_with fail
      refine (HD _ HL1.out.h).out.mono ?_
      rintro e w2 ⟨rfl, hb2⟩
      have HL2 := Lib.hid (HL1.out.below hb2)
      clear hb2
      go_wp2_with fail
      refine (HA _ HL2.out).out.mono ?_
      unfold exTup
      rintro e w3 ⟨rfl, hb3⟩
      have HL3 := Lib.hid (HL2.out.below hb3)
      clear hb3
      go_wp2
      go_ret
      exact ⟨rfl, HL3.out.bel⟩

set_option maxRecDepth 100000 in
set_option maxHeartbeats 2000000 in
theorem lawOther_any {a0 a1 : Addr} (s t u : ByteArray) (w0 : World) (hs : s.size ≤ 9223372036854775807) (ht : t.size ≤ 9223372036854775807) (hu : u.size ≤ 9223372036854775807) (hS : Sents a0 a1 w0) (hsh : ShiftsAt w0) :
    Calls Tryd.prog 7 #[.string s, .string t, .string u] w0 fun e w' => e = .returned (.bool true) ∧ Below w0.heap.size w0 w' := by
  obtain ⟨x, rfl⟩ : ∃ l : List UInt8, s = ⟨l.toArray⟩ := bytes_list s
  rw [mk_size] at hs
  obtain ⟨y, rfl⟩ : ∃ l : List UInt8, t = ⟨l.toArray⟩ := bytes_list t
  rw [mk_size] at ht
  obtain ⟨z, rfl⟩ : ∃ l : List UInt8, u = ⟨l.toArray⟩ := bytes_list u
  rw [mk_size] at hu
  have HL := Lib.hid (LW.mk hS hsh (Below.refl _ _) : LW a0 a1 w0 w0)
  have HSN := Lib.hid (sane_any w0 hS hsh)
  clear hS hsh
  go_enter Tryd.func7, Tryd.ntmps7
  go_wp2_with fail
  refine HSN.out.mono ?_
  rintro e w1 ⟨rfl, hb1⟩
  have HL1 := Lib.hid (HL.out.below hb1)
  clear hb1 HL HSN
  go_wp2_with fail
  refine (cut_any x 2000 _ (by omega) (by omega)).mono ?_
  rintro e wq ⟨rfl, rfl⟩
  have lo : (x.take 2000).length ≤ 2000 := List.length_take_le _ _
  generalize x.take 2000 = o at *
  go_wp2_with fail
  refine (cut_any y 2000 _ (by omega) (by omega)).mono ?_
  rintro e wq ⟨rfl, rfl⟩
  have lb : (y.take 2000).length ≤ 2000 := List.length_take_le _ _
  generalize y.take 2000 = b at *
  go_wp2_with fail
  refine (cut_any z 2000 _ (by omega) (by omega)).mono ?_
  rintro e wq ⟨rfl, rfl⟩
  have ln : (z.take 2000).length ≤ 2000 := List.length_take_le _ _
  generalize z.take 2000 = n at *
  have HD := fun (wy : World) (h : ShiftsAt wy) => Lib.hid (diff_any o n wy (by omega) (by omega) h)
  have hdl := diffD_len o n
  have HA := fun (wy : World) (h : LW a0 a1 w0 wy) => Lib.hid (apply_list b (diffD o n) wy (by omega) (by omega) h.s h.h)
  have HSO := fun (wy : World) (h : ShiftsAt wy) => Lib.hid (sum_any ⟨o.toArray⟩ wy (by rw [mk_size]; omega) h)
  have HSB := fun (wy : World) (h : ShiftsAt wy) => Lib.hid (sum_any ⟨b.toArray⟩ wy (by rw [mk_size]; omega) h)
  have HSX := fun (v : List UInt8) (hv : v.length ≤ 9000) (wy : World) (h : ShiftsAt wy) => Lib.hid (sum_any ⟨v.toArray⟩ wy (by rw [mk_size]; omega) h)
  simp only at HSO HSB HSX
  by_cases hc : crcOf b = crcOf o
  · have hcb : ((crcOf b : Int) != (crcOf o : Int)) = false := by rw [bne_eq_false_iff_eq]; omega
    obtain ⟨R, hR⟩ : ∃ R, applyD b (diffD o n) = R := ⟨_, rfl⟩
    rw [hR] at HA
    cases R with
    | error er =>
      have her := applyD_err hR
      have hnz : (er != 0) = true := by rw [bne_iff_ne]; omega
      clear her hR
      generalize diffD o n = D at *
      generalize (crcOf b : Int) = c1 at *
      generalize (crcOf o : Int) = c2 at *
      go_wp2_with fail
      refine (HD _ HL1.out.h).out.mono ?_
      rintro e w2 ⟨rfl, hb2⟩
      have HL2 := Lib.hid (HL1.out.below hb2)
      clear hb2
      go_wp2_with fail
      refine (HA _ HL2.out).out.mono ?_
      unfold exTup
      rintro e w3 ⟨rfl, hb3⟩
      have HL3 := Lib.hid (HL2.out.below hb3)
      clear hb3
      go_wp2_with fail
      refine (HSB _ HL3.out.h).out.mono ?_
      rintro e wq ⟨rfl, rfl⟩
      go_wp2_with fail
      refine (HSO _ HL3.out.h).out.mono ?_
      rintro e wq ⟨rfl, rfl⟩
      go_wp2
      go_ret
      exact ⟨rfl, HL3.out.bel⟩
    | ok v =>
      have hcv : (crcOf v : Int) = crcOf n := by rw [apply_sums (by omega) (by omega) hR]
      have hvl : v.length ≤ 8192 := applyD_len hR
      have HSV := HSX v (by omega)
      have HSN := HSX n (by omega)
      rw [hcv] at HSV
      clear hR hcv HSX
      generalize diffD o n = D at *
      generalize (crcOf b : Int) = c1 at *
      generalize (crcOf o : Int) = c2 at *
      generalize (crcOf n : Int) = c3 at *
      go_wp2_with fail
      refine (HD _ HL1.out.h).out.mono ?_
      rintro e w2 ⟨rfl, hb2⟩
      have HL2 := Lib.hid (HL1.out.below hb2)
      clear hb2
      go_wp2_with fail
      refine (HA _ HL2.out).out.mono ?_
      unfold exTup
      rintro e w3 ⟨rfl, hb3⟩
      have HL3 := Lib.hid (HL2.out.below hb3)
      clear hb3
      go_wp2_with fail
      refine (HSB _ HL3.out.h).out.mono ?_
      rintro e wq ⟨rfl, rfl⟩
      go_wp2_with fail
      refine (HSO _ HL3.out.h).out.mono ?_
      rintro e wq ⟨rfl, rfl⟩
      go_wp2_with fail
      refine (HSV _ HL3.out.h).out.mono ?_
      rintro e wq ⟨rfl, rfl⟩
      go_wp2_with fail
      refine (HSN _ HL3.out.h).out.mono ?_
      rintro e wq ⟨rfl, rfl⟩
      go_wp2
      go_ret
      exact ⟨rfl, HL3.out.bel⟩
  · have hcb : ((crcOf b : Int) != (crcOf o : Int)) = true := by rw [bne_iff_ne]; omega
    rw [apply_other (by omega) (by omega) (by omega) hc] at HA
    clear hc
    generalize diffD o n = D at *
    generalize (crcOf b : Int) = c1 at *
    generalize (crcOf o : Int) = c2 at *
    go_wp2_with fail
    refine (HD _ HL1.out.h).out.mono ?_
    rintro e w2 ⟨rfl, hb2⟩
    have HL2 := Lib.hid (HL1.out.below hb2)
    clear hb2
    go_wp2_with fail
    refine (HA _ HL2.out).out.mono ?_
    unfold exTup
    rintro e w3 ⟨rfl, hb3⟩
    have HL3 := Lib.hid (HL2.out.below hb3)
    clear hb3
    go_wp2_with fail
    refine (HSB _ HL3.out.h).out.mono ?_
    rintro e wq ⟨rfl, rfl⟩
    go_wp2_with fail
    refine (HSO _ HL3.out.h).out.mono ?_
    rintro e wq ⟨rfl, rfl⟩
    go_wp2
    go_ret
    exact ⟨rfl, HL3.out.bel⟩
end Go.Proofs.YtfdholhfdceedaaDoor

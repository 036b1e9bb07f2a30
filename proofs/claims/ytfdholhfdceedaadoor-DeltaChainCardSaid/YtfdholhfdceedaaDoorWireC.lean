import Derived.Test.YtfdholhfdceedaaDoorWireB
import Derived.Test.YtfdholhfdceedaaDoorMemW
import Derived.Laws.IdiomStrings
import Derived.Lib.Strings
namespace Go.Proofs.YtfdholhfdceedaaDoor
open Go.RowKit

theorem mk_size (x : List UInt8) : (⟨x.toArray⟩ : ByteArray).size = x.length := by simp [ByteArray.size]
theorem mk_data (x : List UInt8) : (⟨x.toArray⟩ : ByteArray).data.toList = x := by simp
theorem str_add (x y : List UInt8) : (⟨x.toArray⟩ : ByteArray) ++ ⟨y.toArray⟩ = ⟨(x ++ y).toArray⟩ := by
  apply ByteArray.ext; simp
theorem ret_str {a b : ByteArray} (h : a = b) : Ending.returned (.string a) = .returned (.string b) := by rw [h]

theorem tupS3 {a d : ByteArray} {b c e f : Int} (h1 : a = d) (h2 : b = e) (h3 : c = f) : Ending.returned (.tuple #[.string a, .int .i64 b, .int .i64 c]) = .returned (.tuple #[.string d, .int .i64 e, .int .i64 f]) := by rw [h1, h2, h3]
def strAt (l : List UInt8) (a : Nat) : Option (List UInt8 × Nat) :=
  match intAt l a with
  | some (n, k) => if 0 ≤ n ∧ n ≤ 65536 ∧ (k : Int) + n ≤ l.length then some ((l.drop k).take n.toNat, k + n.toNat) else none
  | none => none
def strTup : Option (List UInt8 × Nat) → Value
  | some (x, k) => .tuple #[.string ⟨x.toArray⟩, .int .i64 (k : Int), .int .i64 0]
  | none => .tuple #[.string ⟨#[]⟩, .int .i64 0, .int .i64 10]

theorem intAt_le {l : List UInt8} {a k : Nat} {n : Int} (ha : a ≤ l.length) (h : intAt l a = some (n, k)) : a < k ∧ k ≤ l.length ∧ -4611686018427387903 ≤ n ∧ n ≤ 4611686018427387903 := by
  unfold intAt at h
  cases hr : intRest (l.drop a) with
  | none => rw [hr] at h; simp at h
  | some p =>
    rw [hr] at h
    obtain ⟨m, j⟩ := p
    simp at h
    obtain ⟨rfl, rfl⟩ := h
    have := put_int hr
    have h2 := this.2.2.2.1
    simp at h2
    omega

theorem extract_mk (s : ByteArray) (a b : Nat) : s.extract a b = ⟨((s.data.toList.drop a).take (b - a)).toArray⟩ := by
  apply ByteArray.ext; apply Array.toList_inj.1
  rw [Lib.extract_data]

set_option maxHeartbeats 1000000 in
theorem string_any (s : ByteArray) (a : Nat) (w : World) (hs : s.size ≤ 9223372036854775000) (ha : a ≤ s.size) :
    Calls Tryd.prog 46 #[.string s, .int .i64 a] w fun e w' => e = .returned (strTup (strAt s.data.toList a)) ∧ w = w' := by
  obtain ⟨R, hR⟩ : ∃ R, strTup (strAt s.data.toList a) = R := ⟨_, rfl⟩
  rw [hR]
  have HR := Lib.hid hR; clear hR
  go_enter Tryd.func46, Tryd.ntmps46
  go_wp2_with fail
  refine (int_any s a _ hs ha).mono ?_
  cases hi : intAt s.data.toList a with
  | none =>
    have hfin : R = .tuple #[.string ⟨#[]⟩, .int .i64 0, .int .i64 10] := by rw [← HR.out, strAt, hi]; rfl
    have HF := Lib.hid hfin; clear hfin hi
    unfold intTup
    rintro e w' ⟨rfl, rfl⟩
    go_wp2
    go_ret3
    exact ⟨by rw [HF.out]; rfl, rfl⟩
  | some p =>
    obtain ⟨n, k⟩ := p
    have hk := intAt_le (by simpa using ha) hi
    rw [Array.length_toList, show s.data.size = s.size from rfl] at hk
    have HI := Lib.hid hi; clear hi
    unfold intTup
    obtain ⟨h1, h2, h3, h4⟩ := hk
    by_cases hn : 0 ≤ n ∧ n ≤ 65536 ∧ (k : Int) + n ≤ s.size
    · obtain ⟨m, rfl⟩ := Int.eq_ofNat_of_zero_le hn.1
      obtain ⟨_, hn2, hn3⟩ := hn
      have hfin : R = .tuple #[.string (s.extract k (k + m)), .int .i64 ((k + m : Nat) : Int), .int .i64 0] := by
        rw [← HR.out, strAt, HI.out, extract_mk]
        simp only []
        rw [if_pos ⟨by omega, hn2, by simp; omega⟩]
        simp [strTup]
      have HF := Lib.hid hfin; clear hfin
      rintro e w' ⟨rfl, rfl⟩
      go_wp2
      go_ret3
      exact ⟨by rw [HF.out]; exact tupS3 rfl (by omega) rfl, rfl⟩
    · have hfin : R = .tuple #[.string ⟨#[]⟩, .int .i64 0, .int .i64 10] := by
        rw [← HR.out, strAt, HI.out]
        simp only []
        rw [if_neg (by simpa using hn)]; rfl
      have HF := Lib.hid hfin; clear hfin
      rintro e w' ⟨rfl, rfl⟩
      go_wp2
      all_goals go_ret3
      all_goals exact ⟨by rw [HF.out]; rfl, rfl⟩

theorem infoU8 : (Tryd.prog.info? 5).map (fun i => (i.zero, i.size, i.bytes)) = some (some (.int .u8 0), 1, 1) := by kernel_rfl

def intCells (bs : List UInt8) : List Value := bs.map fun b => .int .u8 (b.toNat : Int)
theorem one_bytes (bs : List UInt8) : ∀ u ∈ intCells bs, u.oneCell' = true := by
  intro u hu; obtain ⟨x, _, rfl⟩ := List.mem_map.1 hu; rfl

theorem addr_add (b j : Nat) : (⟨b, 0, none⟩ : Addr).add j = ⟨b, j, none⟩ := by unfold Addr.add; split <;> simp_all
theorem conv_owned {w : World} {base g cap : Nat} {bs : List UInt8} (h : w.ownsRow base 5 1 (.slice (some ⟨g, 0, none⟩) bs.length cap) bs.length (intCells bs)) :
    (convert 45 9 (.slice (some ⟨g, 0, none⟩) bs.length cap)).run Tryd.prog w = .ok (.string ⟨bs.toArray⟩) w :=
  run_convert_bytes_back _ 45 9 5 ⟨g, 0, none⟩ cap bs Tryd.underlying45 Tryd.underlying5 Tryd.underlying9 (fun j hj => by
    refine h.cells (g := g) rfl j _ ?_
    simp [intCells, List.getElem?_eq_getElem hj])

set_option maxHeartbeats 400000 in
theorem zigzag_any (n : Int) (w : World) (h1 : -4611686018427387903 ≤ n) (h2 : n ≤ 4611686018427387903) :
    Calls Tryd.prog 45 #[.int .i64 n] w fun e w' => e = .returned (.int .u64 (zig n)) ∧ w = w' := by
  by_cases hn : n < 0
  · have hz : (zig n : Int) = -n * 2 - 1 := by unfold zig; rw [if_pos hn]; omega
    have HZ := Lib.hid hz; clear hz
    go_enter Tryd.func45, Tryd.ntmps45
    go_wp2
    go_ret
    exact ⟨ret_int HZ.out.symm, rfl⟩
  · have hz : (zig n : Int) = n * 2 := by unfold zig; rw [if_neg hn]; omega
    have HZ := Lib.hid hz; clear hz
    go_enter Tryd.func45, Tryd.ntmps45
    go_wp2
    go_ret
    exact ⟨ret_int HZ.out.symm, rfl⟩
end Go.Proofs.YtfdholhfdceedaaDoor

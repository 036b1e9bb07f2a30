/- From a walk to a law's row, for whatever parameter types: the law returns true and what lay before the call lies as it lay. -/
import Derived.Test.YtfdholhfdceedaaDoorCards
import Derived.Test.YtfdholhfdceedaaDoorTie
import Derived.Test.YtfdholhfdceedaaDoorRdr
import Derived.Test.YtfdholhfdceedaaDoorWireA
import Derived.Deep.DeepHandedRow
import Derived.Deep.DeepWitnessRowRef
import Derived.Lib.LaidTab
import Derived.Stop.LaidTwo
import Derived.LaidLaws
import Derived.WalkKit
import Derived.ProofKit
import Derived.OpenShut
import Derived.ShutString
import Derived.JoinedCond
namespace Go.Proofs.YtfdholhfdceedaaDoor
open Go.RowKit Go.WideShapes Go.ChangeShapes Go.ChangeAt

section
variable {H : Type} {enc : TypeId × Value → H} {P : Program}

theorem trodAll_below (hl : laidOutB P = true) {W W' : World} (hb : Below W.heap.size W W') {sp : Nat → Bool} :
    ∀ {ts : List TypeId} {vs : List Value} {ds : List (DataW H)} {p : List MemPlace}, ts.all (fun t => P.readableRec t && decide (t < P.types.size)) = true →
      DataW.TrodAll enc P W 0 (fun _ => true) true ts vs ds p → (∀ x ∈ p, x.block < W.heap.size) → (∀ x ∈ p, sp x.block = true) → DataW.TrodAll enc P W' 0 sp true ts vs ds p
  | [], _, _, _, _, h, _, _ => by
    obtain ⟨rfl, rfl, rfl⟩ := trodAll_nil h
    exact trodAll_mk0
  | t :: ts, _, _, _, hr, h, hlt, hs => by
    obtain ⟨v, vs, d, ds, p, q, rfl, rfl, rfl, h1, h2⟩ := trodAll_cons h
    rw [List.all_cons, Bool.and_eq_true, Bool.and_eq_true, decide_eq_true_iff] at hr
    exact trodAll_cons_mk (WideElems.Trod_stays hl hr.1.1 hr.1.2 h1 (fun x hx => hb.same (hlt x (by simp [hx]))) (fun x hx => hs x (by simp [hx])))
      (trodAll_below hl hb hr.2 h2 (fun x hx => hlt x (by simp [hx])) (fun x hx => hs x (by simp [hx])))

theorem law_post {f : Func} {s : ChangeSpec} {apart fresh handsOn again : Bool} {W W' : World} {args : Array Value} {ds gs : List (DataW H)} {before : List MemPlace} {tb : TypeId}
    (hl : laidOutB P = true) (hr : f.params.toList.all (fun t => P.readableRec t && decide (t < P.types.size)) = true)
    (hrt : f.resultTypes = #[tb]) (ht : P.underlying tb = some .bool) (hv : s.vars = [])
    (hs : s.fn H (ds ++ gs) = { results := [.lit (.bool true)], args := ds })
    (hW : DataW.Whole enc P f.params.toList s.vars apart W args.toList ds gs before) (hb : Below W.heap.size W W') :
    s.post enc P f apart fresh handsOn again W args (.bool true) W' := by
  have hlt : ∀ p ∈ before, p.block < W.heap.size := fun p hp => hW.lt p hp
  have hold : ∀ p ∈ before, (fun b => decide (b < W.heap.size)) p.block = true := fun p hp => by simpa using hlt p hp
  have hW' := hW
  obtain ⟨p, q, hA, hV, hpq, hz, hn⟩ := hW
  rw [hv] at hV
  obtain ⟨rfl, rfl⟩ := trodVars_none hV
  obtain rfl : before = p := by rw [hpq, List.append_nil]
  have hargs : ∀ sp : Nat → Bool, (∀ x ∈ before, sp x.block = true) → DataW.TrodAll enc P W' 0 sp true f.params.toList args.toList (s.fn H (ds ++ [])).args before :=
    fun sp hsp => by rw [hs]; exact trodAll_below hl hb hr hA hlt hsp
  have hres : ∀ (b : Nat) (sp : Nat → Bool) (hd : Bool), DataW.TrodAll enc P W' b sp hd f.resultTypes.toList ((Value.bool true).resultList f.resultTypes.size) (s.fn H (ds ++ [])).results [] :=
    fun b sp hd => by rw [hs, hrt]; exact trodAll_cons_mk (shut_bool ht true) trodAll_mk0
  have hvars : ∀ sp : Nat → Bool, (∀ x ∈ before, sp x.block = true) → DataW.TrodVars enc P W' sp s.vars (s.fn H (ds ++ [])).vars [] :=
    fun sp _ => by rw [hs, hv]; rfl
  refine ⟨ds, [], before, [], before, [], hW', hres _ _ _, hargs _ hold, hvars _ hold, World.keptBut_mono (fun x hx => ⟨hx, ?_⟩) (hb.frame (· ∈ before)), fun _ => ?_⟩
  · exact Or.inr (Or.inl hx)
  · refine ⟨ok_one hrt rfl (okWide_bool_mk ht true), _, _, ([] ++ before) ++ [], ⟨[] ++ before, [], trodAll_append (hargs _ (fun _ _ => rfl)) (hres _ _ _), hvars _ (fun _ _ => rfl), rfl, ?_, ?_⟩, ?_⟩
    · intro b off hp
      have hin : MemPlace.cell b off ∈ before := by simpa using hp
      rw [hb.frozen (hlt _ hin)]
      exact hz b off hin
    · intro ha
      simpa using hn ha
    · intro x hx _
      simpa using hx
end

theorem byte_of {n : Int} (h : (Lit.int .u8 n).wf = true) : ∃ c : UInt8, n = c.toNat := by
  have hx : 0 ≤ n ∧ n ≤ 255 := by simpa [Lit.wf, IntKind.min, IntKind.max, IntKind.signed, IntKind.bits] using h
  exact ⟨UInt8.ofNat n.toNat, by rw [UInt8.toNat_ofNat']; omega⟩

theorem own : ownKnob Tryd.prog.godebug = none := by kernel_rfl
theorem laidOut : laidOutB Tryd.prog = true := by kernel_rfl

/-! ### the variables that the rows list -/
theorem gShifts : Tryd.prog.globalNamed "copydesk/wire.shifts" = some 0 := by kernel_rfl
theorem gWire : Tryd.prog.globalNamed "copydesk/delta.errWire" = some 1 := by kernel_rfl
theorem gDelta : Tryd.prog.globalNamed "copydesk/delta.errDelta" = some 2 := by kernel_rfl
theorem gShiftsT : (Tryd.prog.globals[0]?).map (·.type) = some 69 := by kernel_rfl
theorem gWireT : (Tryd.prog.globals[1]?).map (·.type) = some 71 := by kernel_rfl
theorem gDeltaT : (Tryd.prog.globals[2]?).map (·.type) = some 71 := by kernel_rfl
theorem cellsShifts : Tryd.prog.cellsOf 69 = 16 := by kernel_rfl
theorem cellsU32 : Tryd.prog.cellsOf 67 = 1 := by kernel_rfl
theorem cellsErrS : Tryd.prog.cellsOf 132 = 1 := by kernel_rfl
theorem cellsStr : Tryd.prog.cellsOf 9 = 1 := by kernel_rfl
theorem starErr : "*" ++ "errors.errorString" = "*errors.errorString" := by decide
theorem rowErr (u : TypeId) (h : Tryd.prog.typeName? 3 u = some "*errors.errorString") : u = 110 :=
  typeName_ptr_named (nm := "errors.errorString") (by rw [starErr]; kernel_rfl) (by kernel_rfl) (by decide) u (by rw [starErr]; exact h)

def shiftL : List Int := [0, 274646895, 549293790, 820201905, 1098587580, 1361435347, 1640403810, 1905808397, 2197175160, 2460548119, 2722870694, 2987750089, 3280807620, 3553878443, 3811616794, 4084100981]
theorem shiftL_at : ∀ i, i < 16 → shiftL.getD i 0 = (shiftT i : Int) := by decide

def laid3 : List (String × DataW Unit) := [("copydesk/wire.shifts", Rows.laid_copydesk_wire_shifts), ("copydesk/delta.errWire", Rows.laid_copydesk_delta_errWire), ("copydesk/delta.errDelta", Rows.laid_copydesk_delta_errDelta)]

theorem laid_shifts {W : World} (h : laidMet Tryd.prog laid3 W) : ShiftsAt W := by
  have ht : Lib.TabIs Tryd.prog W "copydesk/wire.shifts" .u32 shiftL := Lib.tabIs_of_head gShifts gShiftsT Tryd.underlying69 Tryd.underlying67 cellsU32 cellsShifts h
  intro i hi
  have := ht.cell gShifts i hi
  rw [shiftL_at i hi] at this
  exact this

theorem laid_sents {W : World} (h : laidMet Tryd.prog laid3 W) : ∃ a0 a1, Sents a0 a1 W := by
  obtain ⟨a0, a1, s0, s1, c0, c1, t0, t1, hv0, hv1, hc0, hs0, hz0, hc1, hs1, hz1, hne, hb0, hb1⟩ := laid_sentinels2 (laidMet.tail h) gWire gWireT gDelta gDeltaT Tryd.underlying71 rowErr Tryd.underlying110 Tryd.underlying132 rfl rfl Tryd.underlying9 cellsErrS cellsStr
  have g0 := World.var?_cell gWire hv0 0
  have g1 := World.var?_cell gDelta hv1 0
  exact ⟨a0, a1, by simpa using g0, by simpa using g1, hne, ⟨_, _, hb0⟩, ⟨_, _, hb1⟩⟩

abbrev wireS : ByteArray := { data := #[100, 101, 108, 116, 97, 58, 32, 110, 111, 116, 32, 97, 110, 32, 101, 110, 99, 111, 100, 105, 110, 103] }
abbrev deltaS : ByteArray := { data := #[100, 101, 108, 116, 97, 58, 32, 110, 111, 116, 32, 97, 32, 100, 101, 108, 116, 97, 32, 111, 102, 32, 116, 104, 105, 115, 32, 116, 101, 120, 116] }
noncomputable def low : Nat := (World.holding Tryd.prog default ⟨#[], #[], []⟩).heap.size
/-- a world for the witness: the variables hold what their initialisers lay -/
noncomputable def laidWorld (os : Os) : World :=
  let w0 := World.holding Tryd.prog os ⟨#[.cells #[.string wireS] 132, .cells #[.string deltaS] 132], #[], []⟩
  { w0 with heap := ((w0.heap.modify 1 fun
      | .cells _ t frozen => .cells #[.iface 110 (.pointer (some ⟨low, 0, none⟩))] t frozen
      | o => o).modify 2 fun
      | .cells _ t frozen => .cells #[.iface 110 (.pointer (some ⟨low + 1, 0, none⟩))] t frozen
      | o => o).modify 0 fun
      | .cells _ t frozen => .cells (shiftL.map fun z => Value.int .u32 z).toArray t frozen
      | o => o }
theorem laid_met (os : Os) (args : Array Value) : laidMet Tryd.prog laid3 ((laidWorld os).forCall (fun _ _ => 0) ⟨#[], args, []⟩).memory :=
  laidMet_of_run' 8 (by kernel_rfl) (by kernel_rfl)
end Go.Proofs.YtfdholhfdceedaaDoor

/- What every card of this seat shares: the two tables out of the row's list, a world that holds them, and what a row asks behind a call that left alone all that was there. -/
import Derived.Test.YtibnikokgbfcdaaDoorCards
import Derived.Test.YtibnikokgbfcdaaDoorTie
import Derived.Test.YtibnikokgbfcdaaDoorW4
import Derived.WalkKit
import Derived.ProofKit
import Derived.OpenShut
import Derived.Carry
import Derived.Deep.DeepHandedRow
import Derived.Lib.LaidTab
namespace Go.Proofs.YtibnikokgbfcdaaDoor
open Go Go.ChangeShapes Go.WideShapes Go.ChangeAt Go.RowKit

theorem own : ownKnob Tryd.prog.godebug = none := by kernel_rfl
theorem laidOut : laidOutB Tryd.prog = true := by kernel_rfl
theorem gStart : Tryd.prog.globalNamed "podium/digest.start" = some 0 := by kernel_rfl
theorem gNums : Tryd.prog.globalNamed "podium/digest.numbers" = some 1 := by kernel_rfl
theorem gStartType : (Tryd.prog.globals[0]?).map (·.type) = some 139 := by kernel_rfl
theorem gNumsType : (Tryd.prog.globals[1]?).map (·.type) = some 156 := by kernel_rfl
theorem cellsA8 : Tryd.prog.cellsOf 139 = 8 := by kernel_rfl
theorem cellsA64 : Tryd.prog.cellsOf 156 = 64 := by kernel_rfl
theorem cellsU32 : Tryd.prog.cellsOf 74 = 1 := by kernel_rfl
def startL : List Int := [1779033703, 3144134277, 1013904242, 2773480762, 1359893119, 2600822924, 528734635, 1541459225]
abbrev laidL : List (String × DataW Unit) := [("podium/digest.start", Rows.laid_podium_digest_start), ("podium/digest.numbers", Rows.laid_podium_digest_numbers)]
theorem laid_of {W : World} (h : laidMetH Tryd.prog laidL W) : Laid W := by
  have h1 : laidMet Tryd.prog (("podium/digest.start", Lib.tabData .u32 startL) :: [("podium/digest.numbers", Rows.laid_podium_digest_numbers)]) W := h
  have h2 : laidMet Tryd.prog (("podium/digest.numbers", Lib.tabData .u32 kList) :: []) W := (show laidMet Tryd.prog laidL W from h).filter (fun x => x.1 == "podium/digest.numbers")
  have t1 : Lib.TabIs Tryd.prog W "podium/digest.start" .u32 startL := Lib.tabIs_of_head gStart gStartType Tryd.underlying139 Tryd.underlying74 cellsU32 cellsA8 h1
  have t2 : Lib.TabIs Tryd.prog W "podium/digest.numbers" .u32 kList := Lib.tabIs_of_head gNums gNumsType Tryd.underlying156 Tryd.underlying74 cellsU32 cellsA64 h2
  refine ⟨fun i hi => ?_, fun t ht => ?_⟩
  · have e : startL.getD i 0 = St.start.nth i := by
      rcases i with _ | _ | _ | _ | _ | _ | _ | _ | i <;> first | rfl | omega
    rw [← e]
    exact t1.cell gStart i hi
  · exact t2.cell gNums t ht

/-- A table laid into a block of cells. -/
def layAt (zs : List Int) : Obj → Obj
  | .cells _ t frozen => .cells (zs.map (Value.int .u32)).toArray t frozen
  | o => o
/-- A world for the witnesses: the settled one, the two tables holding what their initialisers lay. -/
noncomputable def laidWorld (os : Os) : World :=
  { World.holding Tryd.prog os ⟨#[], #[], []⟩ with heap := ((World.holding Tryd.prog os ⟨#[], #[], []⟩).heap.modify 0 (layAt startL)).modify 1 (layAt kList) }

section
variable {H : Type} {enc : TypeId × Value → H} {P : Program}
theorem trodAll_below (hl : laidOutB P = true) {W W' : World} (hb : Below W.heap.size W W') : ∀ (ts : List TypeId) (vs : List Value) (ds : List (DataW H)) (ps : List MemPlace), ts.all (fun t => P.readableRec t && decide (t < P.types.size)) = true → (∀ x ∈ ps, x.block < W.heap.size) →
    DataW.TrodAll enc P W 0 (fun _ => true) true ts vs ds ps → DataW.TrodAll enc P W' 0 (fun b => decide (b < W.heap.size)) true ts vs ds ps
  | [], vs, ds, ps, _, _, h => by
    obtain ⟨rfl, rfl, rfl⟩ := trodAll_nil h
    exact trodAll_mk0
  | t :: ts, vs, ds, ps, hr, hp, h => by
    obtain ⟨v0, vs0, d0, ds0, p0, q0, rfl, rfl, rfl, h0, r0⟩ := trodAll_cons h
    simp only [List.all_cons, Bool.and_eq_true, decide_eq_true_eq] at hr
    exact trodAll_cons_mk (Below.trod hl hr.1.1 hr.1.2 h0 hb (fun x hx => hp x (List.mem_append.2 (.inl hx)))) (trodAll_below hl hb ts vs0 ds0 q0 hr.2 (fun x hx => hp x (List.mem_append.2 (.inr hx))) r0)
/-- Behind a call that returns true and leaves alone all that was there: what a row of this seat asks. -/
theorem post_true (hl : laidOutB P = true) {f : Func} {s : ChangeSpec} {apart fresh handsOn : Bool} {W W' : World} {args : Array Value} {ds gs : List (DataW H)} {before : List MemPlace} {tb : TypeId}
    (hW : DataW.Whole enc P f.params.toList s.vars apart W args.toList ds gs before) (hv : s.vars = []) (hres : f.resultTypes = #[tb]) (htb : P.underlying tb = some .bool)
    (hs : s.fn H (ds ++ gs) = { results := [.lit (.bool true)], args := ds }) (hr : f.params.toList.all (fun t => P.readableRec t && decide (t < P.types.size)) = true) (hb : Below W.heap.size W W') :
    s.post enc P f apart fresh handsOn false W args (.bool true) W' := by
  have hW' := hW
  obtain ⟨p, q, hA, hV, hps, hfz, hnd⟩ := hW'
  rw [hv] at hV
  obtain ⟨rfl, rfl⟩ := trodVars_none hV
  have hlt : ∀ x ∈ p, x.block < W.heap.size := fun x hx => by simpa using hW.lt x (by rw [hps]; exact List.mem_append.2 (.inl hx))
  refine ⟨ds, [], before, [], p, [], hW, ?_, ?_, ?_, World.keptBut_mono (fun x hx => ⟨hx, .inr (.inl ?_)⟩) (hb.frame (· ∈ before)), fun h => by cases h⟩
  · rw [hs, hres]
    exact trodAll_cons_mk (shut_bool htb _) trodAll_mk0
  · rw [hs]
    exact trodAll_below hl hb _ _ _ _ hr hlt hA
  · rw [hs, hv]
    rfl
  · rw [hps, List.append_nil] at hx
    exact hx
end
end Go.Proofs.YtibnikokgbfcdaaDoor

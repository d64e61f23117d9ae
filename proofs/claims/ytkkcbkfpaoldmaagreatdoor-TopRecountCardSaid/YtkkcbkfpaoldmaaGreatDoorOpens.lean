/- Several texts in one: Frame, Open, Open2. -/
import Derived.Test.YtkkcbkfpaoldmaaGreatDoorCards
import Derived.Test.YtkkcbkfpaoldmaaGreatDoorTie
import Derived.Test.YtkkcbkfpaoldmaaGreatDoorM04
import Derived.WalkKit
import Derived.ProofKit
import Derived.OpenShut
import Derived.Carry
import Derived.Deep.DeepHandedRow
import Derived.Lib.LaidTab
import Derived.Test.YtkkcbkfpaoldmaaGreatDoorM05
import Derived.Deep.Slices
import Derived.Test.YtkkcbkfpaoldmaaGreatDoorSeq
/- What every card of this seat shares: the two tables out of the row's list, a world that holds them, and what a row asks behind a call that left alone all that was there. -/
namespace Go.Proofs.YtkkcbkfpaoldmaaGreatDoor
open Go Go.ChangeShapes Go.WideShapes Go.ChangeAt Go.RowKit

theorem own : ownKnob Tryz.prog.godebug = none := by kernel_rfl
theorem laidOut : laidOutB Tryz.prog = true := by kernel_rfl
theorem gStart : Tryz.prog.globalNamed "podium/digest.start" = some 0 := by kernel_rfl
theorem gNums : Tryz.prog.globalNamed "podium/digest.numbers" = some 1 := by kernel_rfl
theorem gStartType : (Tryz.prog.globals[0]?).map (·.type) = some 200 := by kernel_rfl
theorem gNumsType : (Tryz.prog.globals[1]?).map (·.type) = some 213 := by kernel_rfl
theorem cellsA8 : Tryz.prog.cellsOf 200 = 8 := by kernel_rfl
theorem cellsA64 : Tryz.prog.cellsOf 213 = 64 := by kernel_rfl
theorem cellsU32 : Tryz.prog.cellsOf 174 = 1 := by kernel_rfl
def startL : List Int := [1779033703, 3144134277, 1013904242, 2773480762, 1359893119, 2600822924, 528734635, 1541459225]
abbrev laidL : List (String × DataW Unit) := [("podium/digest.start", Rows.laid_podium_digest_start), ("podium/digest.numbers", Rows.laid_podium_digest_numbers)]
theorem laid_of {W : World} (h : laidMetH Tryz.prog laidL W) : Laid W := by
  have h1 : laidMet Tryz.prog (("podium/digest.start", Lib.tabData .u32 startL) :: [("podium/digest.numbers", Rows.laid_podium_digest_numbers)]) W := h
  have h2 : laidMet Tryz.prog (("podium/digest.numbers", Lib.tabData .u32 kList) :: []) W := (show laidMet Tryz.prog laidL W from h).filter (fun x => x.1 == "podium/digest.numbers")
  have t1 : Lib.TabIs Tryz.prog W "podium/digest.start" .u32 startL := Lib.tabIs_of_head gStart gStartType Tryz.underlying200 Tryz.underlying174 cellsU32 cellsA8 h1
  have t2 : Lib.TabIs Tryz.prog W "podium/digest.numbers" .u32 kList := Lib.tabIs_of_head gNums gNumsType Tryz.underlying213 Tryz.underlying174 cellsU32 cellsA64 h2
  refine ⟨fun i hi => ?_, fun t ht => ?_⟩
  · have e : startL.getD i 0 = St.start.nth i := by
      rcases i with _ | _ | _ | _ | _ | _ | _ | _ | i <;> first | rfl | omega
    rw [← e]
    exact t1.cell gStart i hi
  · exact t2.cell gNums t ht

/-- A table laid into a block of cells. -/
def layAt (zs : List Int) : Obj → Obj
  | .cells _ t frozen => .cells (zs.map (Value.int .u32)).toArray t frozen
  | o => o
/-- A world for the witnesses: the settled one, the two tables holding what their initialisers lay. -/
noncomputable def laidWorld (os : Os) : World :=
  { World.holding Tryz.prog os ⟨#[], #[], []⟩ with heap := ((World.holding Tryz.prog os ⟨#[], #[], []⟩).heap.modify 0 (layAt startL)).modify 1 (layAt kList) }

section
variable {H : Type} {enc : TypeId × Value → H} {P : Program}
theorem trodAll_below (hl : laidOutB P = true) {W W' : World} (hb : Below W.heap.size W W') : ∀ (ts : List TypeId) (vs : List Value) (ds : List (DataW H)) (ps : List MemPlace), ts.all (fun t => P.readableRec t && decide (t < P.types.size)) = true → (∀ x ∈ ps, x.block < W.heap.size) →
    DataW.TrodAll enc P W 0 (fun _ => true) true ts vs ds ps → DataW.TrodAll enc P W' 0 (fun b => decide (b < W.heap.size)) true ts vs ds ps
  | [], vs, ds, ps, _, _, h => by
    obtain ⟨rfl, rfl, rfl⟩ := trodAll_nil h
    exact trodAll_mk0
  | t :: ts, vs, ds, ps, hr, hp, h => by
    obtain ⟨v0, vs0, d0, ds0, p0, q0, rfl, rfl, rfl, h0, r0⟩ := trodAll_cons h
    simp only [List.all_cons, Bool.and_eq_true, decide_eq_true_eq] at hr
    exact trodAll_cons_mk (Below.trod hl hr.1.1 hr.1.2 h0 hb (fun x hx => hp x (List.mem_append.2 (.inl hx)))) (trodAll_below hl hb ts vs0 ds0 q0 hr.2 (fun x hx => hp x (List.mem_append.2 (.inr hx))) r0)
/-- Behind a call that returns true and leaves alone all that was there: what a row of this seat asks. -/
theorem post_true (hl : laidOutB P = true) {f : Func} {s : ChangeSpec} {apart fresh handsOn : Bool} {W W' : World} {args : Array Value} {ds gs : List (DataW H)} {before : List MemPlace} {tb : TypeId}
    (hW : DataW.Whole enc P f.params.toList s.vars apart W args.toList ds gs before) (hv : s.vars = []) (hres : f.resultTypes = #[tb]) (htb : P.underlying tb = some .bool)
    (hs : s.fn H (ds ++ gs) = { results := [.lit (.bool true)], args := ds }) (hr : f.params.toList.all (fun t => P.readableRec t && decide (t < P.types.size)) = true) (hb : Below W.heap.size W W') :
    s.post enc P f apart fresh handsOn false W args (.bool true) W' := by
  have hW' := hW
  obtain ⟨p, q, hA, hV, hps, hfz, hnd⟩ := hW'
  rw [hv] at hV
  obtain ⟨rfl, rfl⟩ := trodVars_none hV
  have hlt : ∀ x ∈ p, x.block < W.heap.size := fun x hx => by simpa using hW.lt x (by rw [hps]; exact List.mem_append.2 (.inl hx))
  refine ⟨ds, [], before, [], p, [], hW, ?_, ?_, ?_, World.keptBut_mono (fun x hx => ⟨hx, .inr (.inl ?_)⟩) (hb.frame (· ∈ before)), fun h => by cases h⟩
  · rw [hs, hres]
    exact trodAll_cons_mk (shut_bool htb _) trodAll_mk0
  · rw [hs]
    exact trodAll_below hl hb _ _ _ _ hr hlt hA
  · rw [hs, hv]
    rfl
  · rw [hps, List.append_nil] at hx
    exact hx
end
end Go.Proofs.YtkkcbkfpaoldmaaGreatDoor

/- How the arguments of this seat's statements open: a digest, a slice of bytes. -/
namespace Go.Proofs.YtkkcbkfpaoldmaaGreatDoor
set_option maxRecDepth 100000
open Go Go.Deep Go.ChangeShapes Go.WideShapes Go.ChangeAt Go.RowKit

theorem digestTypes : Tryz.prog.cellTypes Tryz.prog.depth 31 = some (List.replicate 32 5) := by kernel_rfl
theorem digestCells : Tryz.prog.cellsOf 31 = 32 := by kernel_rfl
theorem u8Cells : Tryz.prog.cellsOf 5 = 1 := by kernel_rfl
theorem dig_of {cs : Array Value} (hsz : cs.size = 32) (key : ∀ i, i < 32 → ∃ c : UInt8, cs[i]? = some (.int .u8 (c.toNat : Int))) : ∃ d : List UInt8, d.length = 32 ∧ cs = dig d := by
  obtain ⟨V, hV⟩ := choose_lt key
  refine ⟨(List.range 32).map V, by simp, ?_⟩
  apply Array.ext_getElem?
  intro i
  by_cases h : i < 32
  · rw [hV i h, dig_get _ i (by simpa using h), byteAt]
    simp [List.getD_eq_getElem?_getD, List.getElem?_range h]
  · rw [Array.getElem?_eq_none (by omega), Array.getElem?_eq_none (by rw [dig_size]; simpa using h)]
theorem u8_byte {x : Int} (h : IntKind.u8.has x) : ∃ c : UInt8, x = (c.toNat : Int) := by
  have h1 : 0 ≤ x := h.1
  have h2 : x ≤ 255 := h.2
  exact ⟨UInt8.ofNat x.toNat, (u8_of x h1 (by omega)).symm⟩
theorem open_dig {W : World} {r : Reach} {base : Nat} {v : Value} (h : Value.okWide Tryz.prog W r base 31 v) : ∃ d : List UInt8, d.length = 32 ∧ v = .agg (dig d) := by
  simp only [Value.okWide, Tryz.underlying31] at h
  obtain ⟨cs, rfl, hsz, ts, hts, _, hc⟩ := h
  rw [digestTypes] at hts
  obtain rfl := Option.some.inj hts
  rw [digestCells] at hsz
  obtain ⟨d, hd, rfl⟩ := dig_of hsz fun i hi => by
    obtain ⟨u, hu, hok⟩ := hc i cs[i] (Array.getElem?_eq_getElem (by omega))
    rw [List.length_replicate, Nat.mod_eq_of_lt hi, List.getElem?_replicate, if_pos hi] at hu
    obtain rfl := Option.some.inj hu
    have hok2 : Value.okWide Tryz.prog W r base 5 cs[i] := by simp only [Value.okWide, Tryz.underlying5]; exact hok
    obtain ⟨x, hx⟩ := okWide_int Tryz.underlying5 hok2
    rw [hx] at hok
    simp only [Cell.okWide, Cell.ok, Tryz.underlying5, true_and] at hok
    obtain ⟨c, rfl⟩ := u8_byte hok
    exact ⟨c, by rw [Array.getElem?_eq_getElem (by omega), hx]⟩
  exact ⟨d, hd, rfl⟩

section
variable {H : Type} {enc : TypeId × Value → H}
theorem open_bytes {W : World} {sp : Nat → Bool} {v : Value} {d : DataW H} {ps : List MemPlace} {r : Reach} {b0 : Nat} (hval : Value.okWide Tryz.prog W r b0 177 v) (h : DataW.Trod enc Tryz.prog W 0 sp true 177 v d ps) :
    ∃ (A : Option Addr) (l : List UInt8) (c : Nat), v = .slice A l.length c ∧ l.length ≤ c ∧ c ≤ 9223372036854775807 ∧ RdB W W.heap.size A l := by
  obtain ⟨a0, len, cap, rfl⟩ := okWide_slice Tryz.underlying177 hval
  obtain ⟨fuel, hf⟩ := h
  rcases open_slice1 Tryz.underlying177 u8Cells hf with ⟨h0, _⟩ | ⟨a, len', cap', m, n, V, D, Pl, h0, _, hlc, hcm, hm, _, hel⟩
  · simp only [Value.cells, List.cons.injEq, Value.slice.injEq, and_true] at h0
    obtain ⟨rfl, rfl, rfl⟩ := h0
    exact ⟨none, [], 0, rfl, by simp, by omega, RdB.nil⟩
  · simp only [Value.cells, List.cons.injEq, Value.slice.injEq, and_true] at h0
    obtain ⟨rfl, rfl, rfl⟩ := h0
    simp only [Value.okWide, Tryz.underlying177, Cell.okWide, Cell.ok] at hval
    have hsp := hval.2.2.2.1
    obtain ⟨b, off, spot⟩ := a
    obtain rfl : spot = none := hsp
    have hmle : len ≤ m := by rw [hm]; split <;> omega
    have key : ∀ i, i < len → ∃ c : UInt8, V i = .int .u8 (c.toNat : Int) := fun i hi => by
      obtain ⟨x, hx, _, hw⟩ := DataW.trod_int Tryz.underlying5 (hel i (by omega)).2
      simp only [List.cons.injEq, and_true] at hx
      have : IntKind.u8.has x := by simpa [Lit.wf, IntKind.has] using hw
      obtain ⟨c, rfl⟩ := u8_byte this
      exact ⟨c, hx⟩
    obtain ⟨C, hC⟩ := choose_lt key
    have hlen : ((List.range len).map C).length = len := by simp
    refine ⟨some ⟨b, off, none⟩, (List.range len).map C, cap, by rw [hlen], by rw [hlen]; exact hlc, hcm, ?_⟩
    intro hpos
    rw [hlen] at hpos ⊢
    refine ⟨b, off, rfl, ?_, fun k hk => ?_⟩
    · have h1 := (hel 0 (by omega)).1
      simp only [Addr.add_mid] at h1
      exact World.block_lt_of_cell? W _ h1
    · have h1 := (hel k (by omega)).1
      simp only [Addr.add_mid] at h1
      rw [h1, hC k hk]
      simp [byteAt, List.getD_eq_getElem?_getD, List.getElem?_range hk]
end
end Go.Proofs.YtkkcbkfpaoldmaaGreatDoor

/- How more arguments of this seat's statements open: slices of ints. -/
namespace Go.Proofs.YtkkcbkfpaoldmaaGreatDoor
set_option maxRecDepth 100000
open Go Go.Deep Go.ChangeShapes Go.WideShapes Go.ChangeAt Go.RowKit

theorem intCells : Tryz.prog.cellsOf 3 = 1 := by kernel_rfl
theorem wf_i64 {x : Int} (h : (Lit.int .i64 x).wf = true) : -9223372036854775808 ≤ x ∧ x < 9223372036854775808 := by
  simp [Lit.wf, IntKind.min, IntKind.max, IntKind.signed, IntKind.bits] at h
  omega
theorem u8_range {x : Int} (h : (Lit.int .u8 x).wf = true) : 0 ≤ x ∧ x < 256 := by
  simp [Lit.wf, IntKind.min, IntKind.max, IntKind.signed, IntKind.bits] at h
  omega
theorem u16_range {x : Int} (h : (Lit.int .u16 x).wf = true) : 0 ≤ x ∧ x < 65536 := by
  simp [Lit.wf, IntKind.min, IntKind.max, IntKind.signed, IntKind.bits] at h
  omega
theorem u32_range {x : Int} (h : (Lit.int .u32 x).wf = true) : 0 ≤ x ∧ x < 4294967296 := by
  simp [Lit.wf, IntKind.min, IntKind.max, IntKind.signed, IntKind.bits] at h
  omega
/-- The ints of a slice are ints of Go. -/
def IntL (l : List Int) : Prop := ∀ k, -9223372036854775808 ≤ l.getD k 0 ∧ l.getD k 0 < 9223372036854775808
section
variable {H : Type} {enc : TypeId × Value → H}
theorem open_ints {W : World} {sp : Nat → Bool} {v : Value} {d : DataW H} {ps : List MemPlace} {r : Reach} {b0 : Nat} (hval : Value.okWide Tryz.prog W r b0 25 v) (h : DataW.Trod enc Tryz.prog W 0 sp true 25 v d ps) :
    ∃ (A : Option Addr) (l : List Int) (c : Nat), v = .slice A l.length c ∧ l.length ≤ c ∧ c ≤ 9223372036854775807 ∧ IntL l ∧ Rd W W.heap.size A l.length (fun k => .int .i64 (l.getD k 0)) := by
  obtain ⟨a0, len, cap, rfl⟩ := okWide_slice Tryz.underlying25 hval
  obtain ⟨fuel, hf⟩ := h
  rcases open_slice1 Tryz.underlying25 intCells hf with ⟨h0, _⟩ | ⟨a, len', cap', m, n, V, D, Pl, h0, _, hlc, hcm, hm, _, hel⟩
  · simp only [Value.cells, List.cons.injEq, Value.slice.injEq, and_true] at h0
    obtain ⟨rfl, rfl, rfl⟩ := h0
    exact ⟨none, [], 0, rfl, by simp, by omega, fun k => by simp, Rd.zero⟩
  · simp only [Value.cells, List.cons.injEq, Value.slice.injEq, and_true] at h0
    obtain ⟨rfl, rfl, rfl⟩ := h0
    simp only [Value.okWide, Tryz.underlying25, Cell.okWide, Cell.ok] at hval
    have hsp := hval.2.2.2.1
    obtain ⟨b, off, spot⟩ := a
    obtain rfl : spot = none := hsp
    have hmle : len ≤ m := by rw [hm]; split <;> omega
    have key : ∀ i, i < len → ∃ x : Int, V i = .int .i64 x ∧ (-9223372036854775808 ≤ x ∧ x < 9223372036854775808) := fun i hi => by
      obtain ⟨x, hx, _, hw⟩ := DataW.trod_int Tryz.underlying3 (hel i (by omega)).2
      simp only [List.cons.injEq, and_true] at hx
      exact ⟨x, hx, wf_i64 hw⟩
    obtain ⟨C, hC⟩ := choose_lt key
    have hlen : ((List.range len).map C).length = len := by simp
    have hget : ∀ k, k < len → ((List.range len).map C).getD k 0 = C k := fun k hk => by simp [List.getD_eq_getElem?_getD, List.getElem?_range hk]
    refine ⟨some ⟨b, off, none⟩, (List.range len).map C, cap, by rw [hlen], by rw [hlen]; exact hlc, hcm, fun k => ?_, ?_⟩
    · by_cases hk : k < len
      · rw [hget k hk]
        exact (hC k hk).2
      · rw [List.getD_eq_getElem?_getD, List.getElem?_eq_none (by simp; omega)]
        simp
    · intro hpos
      rw [hlen] at hpos ⊢
      refine ⟨b, off, rfl, ?_, fun k hk => ?_⟩
      · have h1 := (hel 0 (by omega)).1
        simp only [Addr.add_mid] at h1
        exact World.block_lt_of_cell? W _ h1
      · have h1 := (hel k (by omega)).1
        simp only [Addr.add_mid] at h1
        rw [h1, (hC k hk).1]
        show some (Value.int .i64 (C k)) = some (Value.int .i64 (((List.range len).map C).getD k 0))
        rw [hget k hk]
end
end Go.Proofs.YtkkcbkfpaoldmaaGreatDoor

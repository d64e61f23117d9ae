/- Pledges, reveals and digests in memory; how such arguments open; results of a cell and slots; beacon.Make. -/
import Derived.Test.YtibnikokgbfcdaaDoorBeP
import Derived.Test.YtibnikokgbfcdaaDoorOpenL
import Derived.Test.YtibnikokgbfcdaaDoorB2
import Derived.Great.BuildSlice
namespace Go.Proofs.YtibnikokgbfcdaaDoor
set_option maxRecDepth 100000
open Go Go.Deep Go.ChangeShapes Go.WideShapes Go.ChangeAt Go.RowKit

def Pd.cells (p : Pd) : List Value := .int .i64 p.party :: (dig p.dg).toList
theorem Pd.cells_len (p : Pd) (h : p.dg.length = 32) : p.cells.length = 33 := by simp [Pd.cells, dig_size, h]
theorem Pd.one (p : Pd) : ∀ v ∈ p.cells, v.oneCell' = true := by
  intro v hv
  simp only [Pd.cells, List.mem_cons] at hv
  rcases hv with rfl | hv
  · rfl
  · exact (Array.all_eq_true_iff_forall_mem.1 (dig_one p.dg)) v (by simpa using hv)
def PdAt (w : World) (b o : Nat) (p : Pd) : Prop := p.dg.length = 32 ∧ w.rangeAt b o p.cells
/-- Pledges or reveals from address A on. -/
def PRd (w : World) (B : Nat) (A : Option Addr) (l : List Pd) : Prop := 0 < l.length → ∃ b off, A = some ⟨b, off, none⟩ ∧ b < B ∧ ∀ (k : Nat) x, l[k]? = some x → PdAt w b (off + k * 33) x
theorem PRd.nil {w : World} {B : Nat} {A : Option Addr} : PRd w B A [] := fun h => absurd h (by simp)
theorem PRd.below {w w' : World} {B : Nat} {A : Option Addr} {l : List Pd} (h : PRd w B A l) (hb : Below B w w') : PRd w' B A l := fun hn => by
  obtain ⟨b, off, e, hB, hc⟩ := h hn
  exact ⟨b, off, e, hB, fun k x hx => ⟨(hc k x hx).1, rangeAt_below (hc k x hx).2 hb hB⟩⟩
theorem PRd.more {w : World} {B B' : Nat} {A : Option Addr} {l : List Pd} (h : PRd w B A l) (hB : B ≤ B') : PRd w B' A l := fun hn => by
  obtain ⟨b, off, e, hb, hc⟩ := h hn
  exact ⟨b, off, e, by omega, hc⟩
theorem PRd.at_ {w : World} {B : Nat} {A : Option Addr} {l : List Pd} (h : PRd w B A l) {k : Nat} (hk : k < l.length) : ∃ b off, A = some ⟨b, off, none⟩ ∧ b < B ∧ PdAt w b (off + k * 33) (l.getD k pd0) := by
  obtain ⟨b, off, e, hB, hc⟩ := h (by omega)
  exact ⟨b, off, e, hB, hc k _ (by rw [List.getD_eq_getElem?_getD, List.getElem?_eq_getElem hk]; rfl)⟩
/-- Digests from address A on. -/
def DRd (w : World) (B : Nat) (A : Option Addr) (l : List (List UInt8)) : Prop := 0 < l.length → ∃ b off, A = some ⟨b, off, none⟩ ∧ b < B ∧ ∀ (k : Nat) x, l[k]? = some x → x.length = 32 ∧ w.rangeAt b (off + k * 32) (dig x).toList
theorem DRd.below {w w' : World} {B : Nat} {A : Option Addr} {l : List (List UInt8)} (h : DRd w B A l) (hb : Below B w w') : DRd w' B A l := fun hn => by
  obtain ⟨b, off, e, hB, hc⟩ := h hn
  exact ⟨b, off, e, hB, fun k x hx => ⟨(hc k x hx).1, rangeAt_below (hc k x hx).2 hb hB⟩⟩
theorem DRd.at_ {w : World} {B : Nat} {A : Option Addr} {l : List (List UInt8)} (h : DRd w B A l) {k : Nat} (hk : k < l.length) : ∃ b off, A = some ⟨b, off, none⟩ ∧ b < B ∧ (l.getD k []).length = 32 ∧ w.rangeAt b (off + k * 32) (dig (l.getD k [])).toList := by
  obtain ⟨b, off, e, hB, hc⟩ := h (by omega)
  exact ⟨b, off, e, hB, hc k _ (by rw [List.getD_eq_getElem?_getD, List.getElem?_eq_getElem hk]; rfl)⟩
theorem pledgeInfo : (Tryd.prog.info? 61).map (·.size) = some 33 := by kernel_rfl
theorem revealInfo : (Tryd.prog.info? 69).map (·.size) = some 33 := by kernel_rfl
theorem pledgeCells : Tryd.prog.cellsOf 61 = 33 := by kernel_rfl
theorem revealCells : Tryd.prog.cellsOf 69 = 33 := by kernel_rfl
def PdType (t : TypeId) : Prop := Tryd.prog.cellsOf t = 33 ∧ ∃ fs, Tryd.prog.underlying t = some (.struct fs) ∧ fs.toList.map (fun f => (f.type, f.offset)) = [(3, 0), (23, 1)]
theorem pledgeType : PdType 61 := ⟨pledgeCells, _, Tryd.underlying61, by kernel_rfl⟩
theorem revealType : PdType 69 := ⟨revealCells, _, Tryd.underlying69, by kernel_rfl⟩
section
variable {H : Type} {enc : TypeId × Value → H}
theorem pd_trod {W : World} {held : Bool} {fuel : Nat} {t : TypeId} {cs : List Value} {y : DataW H × List MemPlace} (hT : PdType t) (h : DataW.trod enc Tryd.prog W 0 (fun _ => true) held fuel t cs = some y) :
    ∃ p : Pd, cs = p.cells ∧ p.dg.length = 32 ∧ -9223372036854775808 ≤ p.party ∧ p.party < 9223372036854775808 := by
  obtain ⟨hc, fs, hu, hf⟩ := hT
  obtain ⟨xs, n, rfl, -, hl, hxl, hel⟩ := DataW.trod_struct hu h
  rw [hc] at hl
  have hsz : fs.size = 2 := by
    have := congrArg List.length hf
    simpa using this
  obtain ⟨a, r, rfl⟩ : ∃ a r, cs = a :: r := by
    cases cs with
    | nil => simp at hl
    | cons a r => exact ⟨a, r, rfl⟩
  have hr : r.length = 32 := by simpa using hl
  have at_ : ∀ (i : Nat) t o, ([(3, 0), (23, 1)] : List (TypeId × Nat))[i]? = some (t, o) → ∃ z, DataW.trod enc Tryd.prog W 0 (fun _ => true) held n t (((a :: r).drop o).take (Tryd.prog.cellsOf t)) = some z := fun i t o hi => by
    rw [← hf, List.getElem?_map] at hi
    obtain ⟨f, hfi, he⟩ := Option.map_eq_some_iff.1 hi
    obtain ⟨rfl, rfl⟩ := Prod.mk.inj he
    have hi4 : i < 2 := by
      have := (List.getElem?_eq_some_iff.1 hfi).1
      simpa [hsz] using this
    have h1 := hel i f (by simpa using hfi)
    rw [List.getElem?_eq_getElem (show i < xs.length by omega)] at h1
    exact ⟨_, h1⟩
  obtain ⟨z0, h0⟩ := at_ 0 _ _ rfl
  obtain ⟨z1, h1⟩ := at_ 1 _ _ rfl
  rw [intCells] at h0
  rw [digestCells] at h1
  have e1 : List.take 32 (List.drop 1 (a :: r)) = r := by
    show List.take 32 r = r
    rw [List.take_of_length_le (by omega)]
  rw [e1] at h1
  obtain ⟨nd, hnd, -, hw⟩ := DataW.trod_int Tryd.underlying3 (show DataW.trod enc Tryd.prog W 0 (fun _ => true) held n 3 [a] = some z0 from h0)
  simp only [List.cons.injEq, and_true] at hnd
  obtain ⟨pv, hpv, rfl⟩ := dig_trod h1
  subst hnd
  exact ⟨⟨nd, pv⟩, rfl, hpv, wf_i64 hw⟩
/-- The parties are ints of Go. -/
def PdInts (l : List Pd) : Prop := ∀ x ∈ l, -9223372036854775808 ≤ x.party ∧ x.party < 9223372036854775808
theorem open_pds {W : World} {st t : TypeId} {v : Value} {d : DataW H} {ps : List MemPlace} {r : Reach} {b0 : Nat} (hst : Tryd.prog.underlying st = some (.slice t)) (hT : PdType t) (hval : Value.okWide Tryd.prog W r b0 st v) (h : DataW.Trod enc Tryd.prog W 0 (fun _ => true) true st v d ps) :
    ∃ (A : Option Addr) (l : List Pd) (c : Nat), v = .slice A l.length c ∧ l.length ≤ c ∧ c ≤ 9223372036854775807 ∧ PdInts l ∧ PRd W W.heap.size A l := by
  obtain ⟨a0, len, cap, rfl⟩ := okWide_slice hst hval
  obtain ⟨fuel, hf⟩ := h
  rcases open_slice hst hf with ⟨h0, _⟩ | ⟨a, len', cap', m, n, D, Pl, h0, _, hlc, hcm, hm, _, hel⟩
  · simp only [Value.cells, List.cons.injEq, Value.slice.injEq, and_true] at h0
    obtain ⟨rfl, rfl, rfl⟩ := h0
    exact ⟨none, [], 0, rfl, by simp, by omega, fun x hx => by simp at hx, PRd.nil⟩
  · simp only [Value.cells, List.cons.injEq, Value.slice.injEq, and_true] at h0
    obtain ⟨rfl, rfl, rfl⟩ := h0
    simp only [if_true] at hm
    rw [hT.1] at hel
    obtain ⟨b, off, spot⟩ := a
    rcases Nat.eq_zero_or_pos len with h00 | h00
    · subst h00
      exact ⟨some ⟨b, off, spot⟩, [], cap, rfl, by simp, by simp only [maxLen] at hcm; omega, fun x hx => by simp at hx, PRd.nil⟩
    have hs' : spot = none := by
      obtain ⟨cs, h1, h2⟩ := hel 0 (by omega)
      obtain ⟨x, rfl, -⟩ := pd_trod hT h2
      have h7 := (World.cells?_some h1).2.2 0 (by decide)
      exact add_zero_mul_spot (spot_none (show W.cell? (((⟨b, off, spot⟩ : Addr).add (0 * 33)).add 0) = some (.int .i64 x.party) from h7))
    subst hs'
    have key : ∀ i, i < len → ∃ x : Pd, b < W.heap.size ∧ PdAt W b (off + i * 33) x ∧ -9223372036854775808 ≤ x.party ∧ x.party < 9223372036854775808 := fun i hi => by
      obtain ⟨cs, h1, h2⟩ := hel i (by omega)
      obtain ⟨x, rfl, hp, h3, h4⟩ := pd_trod hT h2
      obtain ⟨-, -, h6⟩ := World.cells?_some h1
      have h7 := h6 0 (by decide)
      have h8 : W.cell? (((⟨b, off, none⟩ : Addr).add (i * 33)).add 0) = some (.int .i64 x.party) := h7
      simp only [Addr.add_mid] at h6 h8
      refine ⟨x, World.block_lt_of_cell? W _ h8, ⟨hp, fun j v hv => ?_⟩, h3, h4⟩
      have hj : j < 33 := by
        have := (List.getElem?_eq_some_iff.1 hv).1
        rw [x.cells_len hp] at this
        exact this
      rw [h6 j hj]
      exact hv
    obtain ⟨C, hC⟩ := choose_lt key
    have hlen : ((List.range len).map C).length = len := by simp
    refine ⟨some ⟨b, off, none⟩, (List.range len).map C, cap, by rw [hlen], by rw [hlen]; exact hlc, by simp only [maxLen] at hcm; omega, fun x hx => ?_, ?_⟩
    · obtain ⟨i, hi, rfl⟩ := List.mem_map.1 hx
      exact (hC i (List.mem_range.1 hi)).2.2
    · intro hpos
      rw [hlen] at hpos
      obtain ⟨hb, -⟩ := hC 0 hpos
      refine ⟨b, off, rfl, hb, fun k x hx => ?_⟩
      have hk : k < len := by have := (List.getElem?_eq_some_iff.1 hx).1; omega
      rw [List.getElem?_map, List.getElem?_range hk] at hx
      obtain rfl := Option.some.inj hx
      exact (hC k hk).2.1
theorem open_pledges {W : World} {v : Value} {d : DataW H} {ps : List MemPlace} {r : Reach} {b0 : Nat} (hval : Value.okWide Tryd.prog W r b0 58 v) (h : DataW.Trod enc Tryd.prog W 0 (fun _ => true) true 58 v d ps) :
    ∃ (A : Option Addr) (l : List Pd) (c : Nat), v = .slice A l.length c ∧ l.length ≤ c ∧ c ≤ 9223372036854775807 ∧ PdInts l ∧ PRd W W.heap.size A l := open_pds Tryd.underlying58 pledgeType hval h
theorem open_reveals {W : World} {v : Value} {d : DataW H} {ps : List MemPlace} {r : Reach} {b0 : Nat} (hval : Value.okWide Tryd.prog W r b0 59 v) (h : DataW.Trod enc Tryd.prog W 0 (fun _ => true) true 59 v d ps) :
    ∃ (A : Option Addr) (l : List Pd) (c : Nat), v = .slice A l.length c ∧ l.length ≤ c ∧ c ≤ 9223372036854775807 ∧ PdInts l ∧ PRd W W.heap.size A l := open_pds Tryd.underlying59 revealType hval h
theorem open_digests {W : World} {v : Value} {d : DataW H} {ps : List MemPlace} {r : Reach} {b0 : Nat} (hval : Value.okWide Tryd.prog W r b0 73 v) (h : DataW.Trod enc Tryd.prog W 0 (fun _ => true) true 73 v d ps) :
    ∃ (A : Option Addr) (l : List (List UInt8)) (c : Nat), v = .slice A l.length c ∧ l.length ≤ c ∧ c ≤ 9223372036854775807 ∧ True ∧ DRd W W.heap.size A l := by
  obtain ⟨a0, len, cap, rfl⟩ := okWide_slice Tryd.underlying73 hval
  obtain ⟨fuel, hf⟩ := h
  rcases open_slice Tryd.underlying73 hf with ⟨h0, _⟩ | ⟨a, len', cap', m, n, D, Pl, h0, _, hlc, hcm, hm, _, hel⟩
  · simp only [Value.cells, List.cons.injEq, Value.slice.injEq, and_true] at h0
    obtain ⟨rfl, rfl, rfl⟩ := h0
    exact ⟨none, [], 0, rfl, by simp, by omega, trivial, fun h => absurd h (by simp)⟩
  · simp only [Value.cells, List.cons.injEq, Value.slice.injEq, and_true] at h0
    obtain ⟨rfl, rfl, rfl⟩ := h0
    simp only [if_true] at hm
    rw [digestCells] at hel
    obtain ⟨b, off, spot⟩ := a
    rcases Nat.eq_zero_or_pos len with h00 | h00
    · subst h00
      exact ⟨some ⟨b, off, spot⟩, [], cap, rfl, by simp, by simp only [maxLen] at hcm; omega, trivial, fun h => absurd h (by simp)⟩
    have hs' : spot = none := by
      obtain ⟨cs, h1, h2⟩ := hel 0 (by omega)
      obtain ⟨-, hcl, h6⟩ := World.cells?_some h1
      have h7 := h6 0 (by decide)
      rw [List.getElem?_eq_getElem (by omega)] at h7
      exact add_zero_mul_spot (spot_none h7)
    subst hs'
    have key : ∀ i, i < len → ∃ x : List UInt8, b < W.heap.size ∧ x.length = 32 ∧ W.rangeAt b (off + i * 32) (dig x).toList := fun i hi => by
      obtain ⟨cs, h1, h2⟩ := hel i (by omega)
      obtain ⟨x, hp, rfl⟩ := dig_trod h2
      obtain ⟨-, hcl, h6⟩ := World.cells?_some h1
      have h7 := h6 0 (by decide)
      rw [List.getElem?_eq_getElem (by omega)] at h7
      simp only [Addr.add_mid] at h6 h7
      refine ⟨x, World.block_lt_of_cell? W _ h7, hp, fun j v hv => ?_⟩
      have hj : j < 32 := by
        have := (List.getElem?_eq_some_iff.1 hv).1
        omega
      rw [h6 j hj]
      exact hv
    obtain ⟨C, hC⟩ := choose_lt key
    have hlen : ((List.range len).map C).length = len := by simp
    refine ⟨some ⟨b, off, none⟩, (List.range len).map C, cap, by rw [hlen], by rw [hlen]; exact hlc, by simp only [maxLen] at hcm; omega, trivial, ?_⟩
    intro hpos
    rw [hlen] at hpos
    obtain ⟨hb, -⟩ := hC 0 hpos
    refine ⟨b, off, rfl, hb, fun k x hx => ?_⟩
    have hk : k < len := by have := (List.getElem?_eq_some_iff.1 hx).1; omega
    rw [List.getElem?_map, List.getElem?_range hk] at hx
    obtain rfl := Option.some.inj hx
    exact (hC k hk).2
end
/-- Results: a whole cell row, and slots. -/
theorem results_row_tmp {P : Program} {fn : Func} {p q : Tmp} {ty : TypeId} (h : fn.results = #[.cell p ty, .tmp q]) (tmps : Array Value) (w : World) (g : Nat) (t : TypeId) (cs : Array Value) (fr : Nat × Nat) (d : TypeDesc) (u : Value)
    (hp : tmps.getD p undef = .pointer (some ⟨g, 0, none⟩)) (hq : tmps.getD q undef = u) (hg : w.heap[g]? = some (.cells cs t fr))
    (hu : P.underlying ty = some d) (hd : (match d with | .struct _ | .array _ _ => true | _ => false) = true) (hi : (P.info? ty).map (·.size) = some cs.size) :
    (results fn tmps).run P w = .ok (.tuple #[.agg cs, u]) w := by
  have hp' : tmps[p]?.getD undef = .pointer (some ⟨g, 0, none⟩) := by simpa using hp
  have hq' : tmps[q]?.getD undef = u := by simpa using hq
  simp [results, h, hp', hq', asAddr, run_loadVar_row w g t ty cs fr d hg hu hd hi]
theorem results_row_tmp2 {P : Program} {fn : Func} {p q q2 : Tmp} {ty : TypeId} (h : fn.results = #[.cell p ty, .tmp q, .tmp q2]) (tmps : Array Value) (w : World) (g : Nat) (t : TypeId) (cs : Array Value) (fr : Nat × Nat) (d : TypeDesc) (u u2 : Value)
    (hp : tmps.getD p undef = .pointer (some ⟨g, 0, none⟩)) (hq : tmps.getD q undef = u) (hq2 : tmps.getD q2 undef = u2) (hg : w.heap[g]? = some (.cells cs t fr))
    (hu : P.underlying ty = some d) (hd : (match d with | .struct _ | .array _ _ => true | _ => false) = true) (hi : (P.info? ty).map (·.size) = some cs.size) :
    (results fn tmps).run P w = .ok (.tuple #[.agg cs, u, u2]) w := by
  have hp' : tmps[p]?.getD undef = .pointer (some ⟨g, 0, none⟩) := by simpa using hp
  have hq' : tmps[q]?.getD undef = u := by simpa using hq
  have hq2' : tmps[q2]?.getD undef = u2 := by simpa using hq2
  simp [results, h, hp', hq', hq2', asAddr, run_loadVar_row w g t ty cs fr d hg hu hd hi]
end Go.Proofs.YtibnikokgbfcdaaDoor

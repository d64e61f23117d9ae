/- How the arguments of this seat's statements open: a digest, a slice of bytes. -/
import Derived.Test.YtibnikokgbfcdaaDoorFrame
import Derived.Test.YtibnikokgbfcdaaDoorBytes
import Derived.Deep.Slices
namespace Go.Proofs.YtibnikokgbfcdaaDoor
set_option maxRecDepth 100000
open Go Go.Deep Go.ChangeShapes Go.WideShapes Go.ChangeAt Go.RowKit

theorem digestTypes : Tryd.prog.cellTypes Tryd.prog.depth 23 = some (List.replicate 32 5) := by kernel_rfl
theorem digestCells : Tryd.prog.cellsOf 23 = 32 := by kernel_rfl
theorem u8Cells : Tryd.prog.cellsOf 5 = 1 := by kernel_rfl
theorem dig_of {cs : Array Value} (hsz : cs.size = 32) (key : ∀ i, i < 32 → ∃ c : UInt8, cs[i]? = some (.int .u8 (c.toNat : Int))) : ∃ d : List UInt8, d.length = 32 ∧ cs = dig d := by
  obtain ⟨V, hV⟩ := choose_lt key
  refine ⟨(List.range 32).map V, by simp, ?_⟩
  apply Array.ext_getElem?
  intro i
  by_cases h : i < 32
  · rw [hV i h, dig_get _ i (by simpa using h), byteAt]
    simp [List.getD_eq_getElem?_getD, List.getElem?_range h]
  · rw [Array.getElem?_eq_none (by omega), Array.getElem?_eq_none (by rw [dig_size]; simpa using h)]
theorem u8_byte {x : Int} (h : IntKind.u8.has x) : ∃ c : UInt8, x = (c.toNat : Int) := by
  have h1 : 0 ≤ x := h.1
  have h2 : x ≤ 255 := h.2
  exact ⟨UInt8.ofNat x.toNat, (u8_of x h1 (by omega)).symm⟩
theorem open_dig {W : World} {r : Reach} {base : Nat} {v : Value} (h : Value.okWide Tryd.prog W r base 23 v) : ∃ d : List UInt8, d.length = 32 ∧ v = .agg (dig d) := by
  simp only [Value.okWide, Tryd.underlying23] at h
  obtain ⟨cs, rfl, hsz, ts, hts, _, hc⟩ := h
  rw [digestTypes] at hts
  obtain rfl := Option.some.inj hts
  rw [digestCells] at hsz
  obtain ⟨d, hd, rfl⟩ := dig_of hsz fun i hi => by
    obtain ⟨u, hu, hok⟩ := hc i cs[i] (Array.getElem?_eq_getElem (by omega))
    rw [List.length_replicate, Nat.mod_eq_of_lt hi, List.getElem?_replicate, if_pos hi] at hu
    obtain rfl := Option.some.inj hu
    have hok2 : Value.okWide Tryd.prog W r base 5 cs[i] := by simp only [Value.okWide, Tryd.underlying5]; exact hok
    obtain ⟨x, hx⟩ := okWide_int Tryd.underlying5 hok2
    rw [hx] at hok
    simp only [Cell.okWide, Cell.ok, Tryd.underlying5, true_and] at hok
    obtain ⟨c, rfl⟩ := u8_byte hok
    exact ⟨c, by rw [Array.getElem?_eq_getElem (by omega), hx]⟩
  exact ⟨d, hd, rfl⟩

section
variable {H : Type} {enc : TypeId × Value → H}
theorem open_bytes {W : World} {sp : Nat → Bool} {v : Value} {d : DataW H} {ps : List MemPlace} {r : Reach} {b0 : Nat} (hval : Value.okWide Tryd.prog W r b0 39 v) (h : DataW.Trod enc Tryd.prog W 0 sp true 39 v d ps) :
    ∃ (A : Option Addr) (l : List UInt8) (c : Nat), v = .slice A l.length c ∧ l.length ≤ c ∧ c ≤ 9223372036854775807 ∧ RdB W W.heap.size A l := by
  obtain ⟨a0, len, cap, rfl⟩ := okWide_slice Tryd.underlying39 hval
  obtain ⟨fuel, hf⟩ := h
  rcases open_slice1 Tryd.underlying39 u8Cells hf with ⟨h0, _⟩ | ⟨a, len', cap', m, n, V, D, Pl, h0, _, hlc, hcm, hm, _, hel⟩
  · simp only [Value.cells, List.cons.injEq, Value.slice.injEq, and_true] at h0
    obtain ⟨rfl, rfl, rfl⟩ := h0
    exact ⟨none, [], 0, rfl, by simp, by omega, RdB.nil⟩
  · simp only [Value.cells, List.cons.injEq, Value.slice.injEq, and_true] at h0
    obtain ⟨rfl, rfl, rfl⟩ := h0
    simp only [Value.okWide, Tryd.underlying39, Cell.okWide, Cell.ok] at hval
    have hsp := hval.2.2.2.1
    obtain ⟨b, off, spot⟩ := a
    obtain rfl : spot = none := hsp
    have hmle : len ≤ m := by rw [hm]; split <;> omega
    have key : ∀ i, i < len → ∃ c : UInt8, V i = .int .u8 (c.toNat : Int) := fun i hi => by
      obtain ⟨x, hx, _, hw⟩ := DataW.trod_int Tryd.underlying5 (hel i (by omega)).2
      simp only [List.cons.injEq, and_true] at hx
      have : IntKind.u8.has x := by simpa [Lit.wf, IntKind.has] using hw
      obtain ⟨c, rfl⟩ := u8_byte this
      exact ⟨c, hx⟩
    obtain ⟨C, hC⟩ := choose_lt key
    have hlen : ((List.range len).map C).length = len := by simp
    refine ⟨some ⟨b, off, none⟩, (List.range len).map C, cap, by rw [hlen], by rw [hlen]; exact hlc, hcm, ?_⟩
    intro hpos
    rw [hlen] at hpos ⊢
    refine ⟨b, off, rfl, ?_, fun k hk => ?_⟩
    · have h1 := (hel 0 (by omega)).1
      simp only [Addr.add_mid] at h1
      exact World.block_lt_of_cell? W _ h1
    · have h1 := (hel k (by omega)).1
      simp only [Addr.add_mid] at h1
      rw [h1, hC k hk]
      simp [byteAt, List.getD_eq_getElem?_getD, List.getElem?_range hk]
end
end Go.Proofs.YtibnikokgbfcdaaDoor

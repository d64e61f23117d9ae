/- Plain words on memory, more: copying into a block, a new block of zeros; no program in sight. -/
import Derived.Test.YtibnikokgbfcdaaDoorMem
import Derived.Laws.CopyRow
import Derived.Laws.MakeOwn
import Derived.Lib.Hide
namespace Go.Proofs.YtibnikokgbfcdaaDoor
open Go Go.RowKit

/-- The cells of a block after m cells, which f gives, are laid from o on. -/
def splice (cur : Array Value) (o m : Nat) (f : Nat → Value) : Array Value := (cur.toList.take o ++ (List.range m).map f ++ cur.toList.drop (o + m)).toArray
theorem splice_size (cur : Array Value) (o m : Nat) (f : Nat → Value) (h : o + m ≤ cur.size) : (splice cur o m f).size = cur.size := by
  simp [splice]; omega
theorem splice_get (cur : Array Value) (o m : Nat) (f : Nat → Value) (h : o + m ≤ cur.size) (j : Nat) : (splice cur o m f)[j]? = if o ≤ j ∧ j < o + m then some (f (j - o)) else cur[j]? := by
  have h1 : (cur.toList.take o).length = o := by simp; omega
  simp only [splice, List.getElem?_toArray]
  by_cases hj : j < o
  · rw [if_neg (by omega), List.append_assoc, List.getElem?_append_left (by omega), List.getElem?_take, if_pos hj]; simp
  · by_cases hj2 : j < o + m
    · rw [if_pos (by omega), List.append_assoc, List.getElem?_append_right (by omega), h1, List.getElem?_append_left (by simp; omega)]
      simp [show j - o < m from by omega]
    · rw [if_neg (by omega), List.getElem?_append_right (by simp; omega)]
      simp only [List.length_append, h1, List.length_map, List.length_range, List.getElem?_drop, Array.getElem?_toList]
      rw [show o + m + (j - (o + m)) = j from by omega]

section
variable {P : Program}
/-- 'copy(dst, src)' from a slice that reads as f into a block that is known whole. -/
theorem run_copy_rd (w : World) (dT sT ty elem : TypeId) (hu : P.underlying dT = some (.slice elem)) (hs : (P.info? elem).map (·.size) = some 1)
    {g : Nat} {t : TypeId} {cur : Array Value} (hg : Blk w g t cur) (o dLen dCap : Nat) {B : Nat} {A : Option Addr} {m sCap : Nat} {f : Nat → Value} (hR : Rd w B A m f) (hm : m ≤ dLen) (hfit : o + m ≤ cur.size)
    (h1 : ∀ k, k < m → (f k).oneCell' = true) :
    (Builtin.copy_ #[dT, sT] ty #[.slice (some ⟨g, o, none⟩) dLen dCap, .slice A m sCap]).run P w = .ok (goInt m) (w.setRow g (splice cur o m f)) := by
  cases A with
  | none =>
    obtain rfl : m = 0 := by
      rcases Nat.eq_zero_or_pos m with h | h
      · exact h
      · obtain ⟨b, off, e, _⟩ := hR h
        cases e
    have e0 : splice cur o 0 f = cur := by simp [splice]
    rw [e0, setRow_self w g cur t (0, 0) hg]
    cases hq : P.info? elem with
    | none => simp [hq] at hs
    | some i => simp [Builtin.copy_, run_underlying hu, Builtin.lenOf, Builtin.firstCells, sizeOf, typeInfo, hq, storeCells]
  | some a =>
    have hsrc : ∀ j v, ((List.range m).map f)[j]? = some v → w.cell? (a.add j) = some v := by
      intro j v hv
      have hj : j < m := by have := (List.getElem?_eq_some_iff.1 hv).1; simpa using this
      obtain ⟨b, off, e, _, hc⟩ := hR (by omega)
      injection e with e
      subst e
      rw [Addr.add_mid, hc j hj]
      simpa [hj] using hv
    have h := run_copy_row P w dT sT ty elem g o dLen dCap a m sCap cur t ((List.range m).map f) hu hs hg (by simp; exact (Nat.min_eq_left hm).symm) hsrc (by simpa using hfit)
      (fun v hv => by
        obtain ⟨k, hk, rfl⟩ := List.mem_map.1 hv
        exact h1 k (by simpa using hk))
    simpa [splice] using h
/-- n bytes 0. -/
def zeros (n : Nat) : Array Value := Array.replicate n (.int .u8 0)
theorem zeros_size (n : Nat) : (zeros n).size = n := by simp [zeros]
theorem zeros_get (n k : Nat) (h : k < n) : (zeros n)[k]? = some (.int .u8 0) := by simp [zeros, h]
theorem run_make_bytes (t e : TypeId) (i : TypeInfo) (ht : P.underlying t = some (.slice e)) (hi : P.info? e = some i) (hz : i.zero = some (.int .u8 0)) (hsz : i.size = 1) (hby : i.bytes = 1)
    (l c : Nat) (hlc : l ≤ c) (hc : c ≤ 281474976710656) (w : World) :
    (Instr.makeSlice t (.int .i64 l) (.int .i64 c)).run P w = .ok (.slice (some ⟨w.heap.size, 0, none⟩) l c) (w.alloc (.cells (zeros c) e)) := by
  have h := run_make (P := P) w t e i _ ht hi hz .i64 .i64 (l : Int) (c : Int) (by omega) (by omega) (by rw [hby]; omega) (by omega)
  rw [h]
  simp only [Int.toNat_natCast, hsz, Nat.mul_one]
  congr 3
  apply Array.ext
  · simp [madeCells, zeros]
  · intro k h1 h2
    simp [madeCells, zeros, Value.cells, Nat.mod_one]
end
end Go.Proofs.YtibnikokgbfcdaaDoor

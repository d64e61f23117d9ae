/- Plain words: the canonical encoding of values, as lists of bytes; no program in sight. -/
import Derived.Test.YtibnikokgbfcdaaDoorWords
namespace Go.Proofs.YtibnikokgbfcdaaDoor
open Go.RowKit

/-- The numeral of a number. -/
def numB (u : Nat) : List UInt8 := if u < 128 then [UInt8.ofNat u] else UInt8.ofNat (u % 128 + 128) :: numB (u / 128)
termination_by u
theorem numB_small (u : Nat) (h : u < 128) : numB u = [UInt8.ofNat u] := by rw [numB, if_pos h]
theorem numB_step (u : Nat) (h : 128 ≤ u) : numB u = UInt8.ofNat (u % 128 + 128) :: numB (u / 128) := by rw [numB, if_neg (by omega)]
theorem numB_len (k : Nat) : ∀ u, u < 128 ^ k → 0 < k → (numB u).length ≤ k := by
  induction k with
  | zero => intro u _ h; omega
  | succ k ih =>
    intro u hu _
    by_cases h : u < 128
    · rw [numB_small u h]; simp
    · rw [numB_step u (by omega)]
      have h1 : u / 128 < 128 ^ k := by
        rw [Nat.div_lt_iff_lt_mul (by decide)]
        rw [Nat.pow_succ] at hu
        exact hu
      have h2 : 0 < k := by
        rcases Nat.eq_zero_or_pos k with h0 | h0
        · subst h0; simp at h1; omega
        · exact h0
      have := ih (u / 128) h1 h2
      simp only [List.length_cons]
      omega
theorem numB_len10 (u : Nat) (h : u < 18446744073709551616) : (numB u).length ≤ 10 := numB_len 10 u (by omega) (by decide)
/-- The encodings of an integer that is not negative, of a text, of a list of encodings. -/
def intB (n : Nat) : List UInt8 := 1 :: numB (2 * n)
def textB (l : List UInt8) : List UInt8 := 2 :: (numB l.length ++ l)
def listB (es : List (List UInt8)) : List UInt8 := 3 :: (numB es.length ++ es.flatten)
theorem or128_all : ∀ x : Fin 256, bits .or .u8 ((x.val : Nat) : Int) 128 = ((x.val % 128 + 128 : Nat) : Int) := by decide +kernel
theorem or128 (u : Nat) : bits .or .u8 ((u : Int) % 256) 128 = ((UInt8.ofNat (u % 128 + 128)).toNat : Int) := by
  have h := or128_all ⟨u % 256, Nat.mod_lt _ (by decide)⟩
  simp only at h
  rw [UInt8.toNat_ofNat_of_lt' (by omega : u % 128 + 128 < 256), show ((u : Int) % 256) = ((u % 256 : Nat) : Int) from by omega, h, show u % 256 % 128 = u % 128 from by omega]
theorem u8_id (u : Nat) (h : u < 128) : (u : Int) = ((UInt8.ofNat u).toNat : Int) := by
  rw [UInt8.toNat_ofNat_of_lt' (by omega : u < 256)]
theorem u8_mod (u : Nat) (h : u < 128) : (u : Int) % 256 = ((UInt8.ofNat u).toNat : Int) := by
  rw [UInt8.toNat_ofNat_of_lt' (by omega : u < 256)]; omega
end Go.Proofs.YtibnikokgbfcdaaDoor

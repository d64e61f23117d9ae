/- Plain words: SHA-256 of whole bytes as the program computes it; no program in sight. -/
import Derived.Test.YtibnikokgbfcdaaDoorSha
import Derived.Test.YtibnikokgbfcdaaDoorMem2
namespace Go.Proofs.YtibnikokgbfcdaaDoor
open Go.RowKit

/-- Byte k of the padded bytes: n bytes that f gives, 128, zeros, and eight bytes with the number of bits. -/
def padAt (f : Nat → Int) (n k : Nat) : Int :=
  if k < n then f k else if k = n then 128 else if k < 64 * ((n + 8) / 64) + 56 then 0 else byteOf (n * 8) (64 * ((n + 8) / 64) + 63 - k)
/-- The cells of the end blocks, as the program lays them. -/
def endCells (f : Nat → Int) (n j r q : Nat) : Array Value :=
  putTo ((splice (zeros 128) 0 r fun k => .int .u8 (f (64 * j + k))).setIfInBounds r (.int .u8 128)) (64 * q - 8) 8 (n * 8) 8
theorem endCells_get (f : Nat → Int) (n j r q : Nat) (hn : n = 64 * j + r) (hr : r < 64) (hq : q = (r + 8) / 64 + 1) (k : Nat) (hk : k < 64 * q) :
    (endCells f n j r q)[k]? = some (.int .u8 (padAt f n (64 * j + k))) := by
  have hs : ((splice (zeros 128) 0 r fun k => .int .u8 (f (64 * j + k))).setIfInBounds r (.int .u8 128)).size = 128 := by
    rw [Array.size_setIfInBounds, splice_size _ _ _ _ (by rw [zeros_size]; omega), zeros_size]
  rw [endCells, putTo_get _ _ _ _ 8 (Nat.le_refl _) (by rw [hs]; omega)]
  by_cases h1 : 64 * q - 8 ≤ k
  · rw [if_pos (by omega), padAt, if_neg (by omega), if_neg (by omega), if_neg (by omega)]
    rw [show 64 * q - 8 + 8 - 1 - k = 64 * ((n + 8) / 64) + 63 - (64 * j + k) from by omega]
  · rw [if_neg (by omega), Array.getElem?_setIfInBounds, splice_size _ _ _ _ (by rw [zeros_size]; omega), zeros_size, splice_get _ _ _ _ (by rw [zeros_size]; omega), padAt]
    by_cases h2 : r = k
    · subst h2
      rw [if_pos rfl, if_pos (by omega), if_neg (by omega), if_pos (by omega)]
    · rw [if_neg h2]
      by_cases h3 : k < r
      · rw [if_pos (by omega), if_pos (by omega)]
        rfl
      · rw [if_neg (by omega), zeros_get _ _ (by omega), if_neg (by omega), if_neg (by omega), if_pos (by omega)]
/-- The words of a state are 32 bits wide. -/
def St.Fits (s : St) : Prop := ∀ k, k < 8 → 0 ≤ s.nth k ∧ s.nth k < 4294967296
theorem fits_add (s v : St) : (s.add v).Fits := by
  intro k hk
  rcases k with _ | _ | _ | _ | _ | _ | _ | _ | k <;> first | omega | (simp only [St.nth, St.add, add32]; omega)
/-- The state after j blocks. -/
def shaTo (F : Nat → Int) : Nat → St
  | 0 => St.start
  | j + 1 => (shaTo F j).block fun k => F (64 * j + k)
/-- The state at the end. -/
def shaEnd (f : Nat → Int) (n : Nat) : St := shaTo (padAt f n) ((n + 8) / 64 + 1)
theorem shaEnd_fits (f : Nat → Int) (n : Nat) : (shaEnd f n).Fits := fits_add _ _
def digCells (s : St) : Nat → Array Value
  | 0 => Array.replicate 32 (.int .u8 0)
  | k + 1 => putTo (digCells s k) (4 * k) 4 (s.nth k) 4
def digByte (s : St) (i : Nat) : Int := byteOf (s.nth (i / 4)) (3 - i % 4)
theorem digCells_size (s : St) : ∀ k, (digCells s k).size = 32
  | 0 => by simp [digCells]
  | k + 1 => by rw [digCells, putTo_size, digCells_size s k]
theorem digCells_get (s : St) : ∀ k, k ≤ 8 → ∀ i, i < 4 * k → (digCells s k)[i]? = some (.int .u8 (digByte s i))
  | 0, _, _, h => absurd h (by omega)
  | k + 1, hk, i, h => by
    rw [digCells, putTo_get _ _ _ _ 4 (Nat.le_refl _) (by rw [digCells_size]; omega)]
    by_cases h2 : 4 * k ≤ i
    · rw [if_pos (by omega), digByte, show i / 4 = k from by omega, show 4 * k + 4 - 1 - i = 3 - i % 4 from by omega]
    · rw [if_neg (by omega)]
      exact digCells_get s k (by omega) i (by omega)
end Go.Proofs.YtibnikokgbfcdaaDoor

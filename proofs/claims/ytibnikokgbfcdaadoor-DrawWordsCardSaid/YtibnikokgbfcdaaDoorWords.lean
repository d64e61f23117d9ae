/- Plain words on 32-bit numbers, bytes and lists; no program in sight. -/
import Derived.WalkKit
namespace Go.Proofs.YtibnikokgbfcdaaDoor
open Go.RowKit

/-- x rotated by n bits to the left, as the program computes it. -/
def rotL (x : Int) (n : Nat) : Int := bits .or .u32 (x * 2 ^ n % 4294967296) (x / 2 ^ (32 - n))
/-- The exclusive or of three rotations to the right. -/
def rot3 (x : Int) (a b c : Nat) : Int := bits .xor .u32 (bits .xor .u32 (rotL x (32 - a)) (rotL x (32 - b))) (rotL x (32 - c))
/-- The number that the first k of some bytes are, the most significant one first. -/
def wordTo (f : Nat → Int) : Nat → Int
  | 0 => 0
  | k + 1 => bits .or .u32 (wordTo f k * 2 ^ 8 % 4294967296) (f k % 4294967296)
/-- Byte i of a number, the least significant one first. -/
def byteOf (x : Int) (i : Nat) : Int := x / 2 ^ (8 * i) % 256
/-- The cells of a block after the k least significant of n bytes of a number are put from off on, the most significant one first. -/
def putTo (cs : Array Value) (off n : Nat) (x : Int) : Nat → Array Value
  | 0 => cs
  | k + 1 => (putTo cs off n x k).setIfInBounds (off + (n - 1 - k)) (.int .u8 (byteOf x k))
theorem putTo_size (cs : Array Value) (off n : Nat) (x : Int) (k : Nat) : (putTo cs off n x k).size = cs.size := by
  induction k with
  | zero => rfl
  | succ k ih => simp [putTo, ih]
theorem putTo_get (cs : Array Value) (off n : Nat) (x : Int) : ∀ k, k ≤ n → off + n ≤ cs.size → ∀ j, (putTo cs off n x k)[j]? = if off + (n - k) ≤ j ∧ j < off + n then some (.int .u8 (byteOf x (off + n - 1 - j))) else cs[j]?
  | 0, _, _, j => by
    rw [if_neg (by omega)]; rfl
  | k + 1, hk, hs, j => by
    have ih := putTo_get cs off n x k (by omega) hs j
    simp only [putTo, Array.getElem?_setIfInBounds, putTo_size]
    by_cases h : off + (n - 1 - k) = j
    · rw [if_pos h, if_pos (by omega), if_pos (by omega)]
      rw [show off + n - 1 - j = k from by omega]
    · rw [if_neg h, ih]
      by_cases h2 : off + (n - k) ≤ j ∧ j < off + n
      · rw [if_pos h2, if_pos (by omega)]
      · rw [if_neg h2, if_neg (by omega)]
end Go.Proofs.YtibnikokgbfcdaaDoor

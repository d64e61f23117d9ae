/- Plain words: a block of SHA-256 as the program computes it, on plain integers; no program in sight. -/
import Derived.Test.YtibnikokgbfcdaaDoorWords
namespace Go.Proofs.YtibnikokgbfcdaaDoor
open Go.RowKit

def sg0 (x : Int) : Int := bits .xor .u32 (bits .xor .u32 (rotL x 25) (rotL x 14)) (x / 8)
def sg1 (x : Int) : Int := bits .xor .u32 (bits .xor .u32 (rotL x 15) (rotL x 13)) (x / 1024)
def add32 (x y : Int) : Int := (x + y) % 4294967296
/-- Word t of the schedule of a block whose bytes f gives. -/
def sched (f : Nat → Int) (t : Nat) : Int :=
  if t < 16 then wordTo (fun j => f (4 * t + j)) 4
  else (sched f (t - 16) + sg0 (sched f (t - 15)) + sched f (t - 7) + sg1 (sched f (t - 2))) % 4294967296
termination_by t
/-- The state: eight words. -/
structure St where
  a : Int
  b : Int
  c : Int
  d : Int
  e : Int
  f : Int
  g : Int
  h : Int
def St.cells (s : St) : Array Value := #[.int .u32 s.a, .int .u32 s.b, .int .u32 s.c, .int .u32 s.d, .int .u32 s.e, .int .u32 s.f, .int .u32 s.g, .int .u32 s.h]
def St.p0 (s : St) (k w : Int) : Int := s.h + rot3 s.e 6 11 25 + bits .xor .u32 s.g (bits .and .u32 s.e (bits .xor .u32 s.f s.g)) + k + w
def St.q0 (s : St) : Int := rot3 s.a 2 13 22 + bits .or .u32 (bits .and .u32 s.a s.b) (bits .and .u32 s.c (bits .or .u32 s.a s.b))
def St.step (s : St) (k w : Int) : St := ⟨(s.p0 k w + s.q0) % 4294967296, s.a, s.b, s.c, (s.d + s.p0 k w) % 4294967296, s.e, s.f, s.g⟩
/-- The numbers K. -/
def kList : List Int := [1116352408, 1899447441, 3049323471, 3921009573, 961987163, 1508970993, 2453635748, 2870763221, 3624381080, 310598401, 607225278, 1426881987, 1925078388, 2162078206, 2614888103, 3248222580, 3835390401, 4022224774, 264347078, 604807628, 770255983, 1249150122, 1555081692, 1996064986, 2554220882, 2821834349, 2952996808, 3210313671, 3336571891, 3584528711, 113926993, 338241895, 666307205, 773529912, 1294757372, 1396182291, 1695183700, 1986661051, 2177026350, 2456956037, 2730485921, 2820302411, 3259730800, 3345764771, 3516065817, 3600352804, 4094571909, 275423344, 430227734, 506948616, 659060556, 883997877, 958139571, 1322822218, 1537002063, 1747873779, 1955562222, 2024104815, 2227730452, 2361852424, 2428436474, 2756734187, 3204031479, 3329325298]
def kAt (t : Nat) : Int := kList.getD t 0
def rounds (s : St) (f : Nat → Int) : Nat → St
  | 0 => s
  | t + 1 => (rounds s f t).step (kAt t) (sched f t)
def St.add (s v : St) : St := ⟨add32 s.a v.a, add32 s.b v.b, add32 s.c v.c, add32 s.d v.d, add32 s.e v.e, add32 s.f v.f, add32 s.g v.g, add32 s.h v.h⟩
def St.nth (s : St) : Nat → Int
  | 0 => s.a
  | 1 => s.b
  | 2 => s.c
  | 3 => s.d
  | 4 => s.e
  | 5 => s.f
  | 6 => s.g
  | _ => s.h
/-- The cells of a state to whose first k words those of another one are added. -/
def addCells (s v : St) : Nat → Array Value
  | 0 => s.cells
  | k + 1 => (addCells s v k).setIfInBounds k (.int .u32 ((s.nth k + v.nth k) % 4294967296))
theorem addCells_size (s v : St) : ∀ k, (addCells s v k).size = 8
  | 0 => rfl
  | k + 1 => by simp [addCells, addCells_size s v k]
theorem cells_nth (s : St) (k : Nat) (hk : k < 8) : s.cells[k]? = some (.int .u32 (s.nth k)) := by
  rcases k with _ | _ | _ | _ | _ | _ | _ | _ | k <;> first | rfl | omega
theorem addCells_rest (s v : St) : ∀ k j, k ≤ j → (addCells s v k)[j]? = s.cells[j]?
  | 0, _, _ => rfl
  | k + 1, j, h => by
    rw [addCells, Array.getElem?_setIfInBounds, if_neg (by omega)]
    exact addCells_rest s v k j (by omega)
theorem addCells_all (s v : St) : addCells s v 8 = (s.add v).cells := by
  simp [addCells, St.cells, St.nth, St.add, add32]
/-- The state after a block. -/
def St.block (s : St) (f : Nat → Int) : St := s.add (rounds s f 64)
def St.start : St := ⟨1779033703, 3144134277, 1013904242, 2773480762, 1359893119, 2600822924, 528734635, 1541459225⟩
end Go.Proofs.YtibnikokgbfcdaaDoor

/- Several texts in one: Words, Mem, Sha, Mem2, Sha2, Own, Code, QTail, InAny, W1, W2, W12. -/
import Derived.WalkKit
import Derived.Laws.Rows
import Derived.Laws.OwnMore
import Derived.Deep.WholeRow
import Derived.Deep.MidRow
import Derived.Deep.Draws
import Derived.Laws.CopyRow
import Derived.Laws.MakeOwn
import Derived.Lib.Hide
import Derived.Deep.AppendSrc
import Derived.Maps.AppendAt
import Derived.StillTail
import Derived.Deep.Quiet
import Derived.Deep.QuietTactic
import Derived.StillTailTactics
import Derived.OrdersIn
import Derived.OrdersHeld
import Derived.RangeFuncNested
import Derived.RangeFuncCalls
import Derived.Deep.RegionHeld
import Derived.TacticsIn
import Derived.Test.YtkkcbkfpaoldmaaGreatDoorProg
import Derived.WalkSpells
import Derived.WalkLawsBesides
/- Plain words on 32-bit numbers, bytes and lists; no program in sight. -/
namespace Go.Proofs.YtkkcbkfpaoldmaaGreatDoor
open Go.RowKit

/-- x rotated by n bits to the left, as the program computes it. -/
def rotL (x : Int) (n : Nat) : Int := bits .or .u32 (x * 2 ^ n % 4294967296) (x / 2 ^ (32 - n))
/-- The exclusive or of three rotations to the right. -/
def rot3 (x : Int) (a b c : Nat) : Int := bits .xor .u32 (bits .xor .u32 (rotL x (32 - a)) (rotL x (32 - b))) (rotL x (32 - c))
/-- The number that the first k of some bytes are, the most significant one first. -/
def wordTo (f : Nat → Int) : Nat → Int
  | 0 => 0
  | k + 1 => bits .or .u32 (wordTo f k * 2 ^ 8 % 4294967296) (f k % 4294967296)
/-- Byte i of a number, the least significant one first. -/
def byteOf (x : Int) (i : Nat) : Int := x / 2 ^ (8 * i) % 256
/-- The cells of a block after the k least significant of n bytes of a number are put from off on, the most significant one first. -/
def putTo (cs : Array Value) (off n : Nat) (x : Int) : Nat → Array Value
  | 0 => cs
  | k + 1 => (putTo cs off n x k).setIfInBounds (off + (n - 1 - k)) (.int .u8 (byteOf x k))
theorem putTo_size (cs : Array Value) (off n : Nat) (x : Int) (k : Nat) : (putTo cs off n x k).size = cs.size := by
  induction k with
  | zero => rfl
  | succ k ih => simp [putTo, ih]
theorem putTo_get (cs : Array Value) (off n : Nat) (x : Int) : ∀ k, k ≤ n → off + n ≤ cs.size → ∀ j, (putTo cs off n x k)[j]? = if off + (n - k) ≤ j ∧ j < off + n then some (.int .u8 (byteOf x (off + n - 1 - j))) else cs[j]?
  | 0, _, _, j => by
    rw [if_neg (by omega)]; rfl
  | k + 1, hk, hs, j => by
    have ih := putTo_get cs off n x k (by omega) hs j
    simp only [putTo, Array.getElem?_setIfInBounds, putTo_size]
    by_cases h : off + (n - 1 - k) = j
    · rw [if_pos h, if_pos (by omega), if_pos (by omega)]
      rw [show off + n - 1 - j = k from by omega]
    · rw [if_neg h, ih]
      by_cases h2 : off + (n - k) ≤ j ∧ j < off + n
      · rw [if_pos h2, if_pos (by omega)]
      · rw [if_neg h2, if_neg (by omega)]
end Go.Proofs.YtkkcbkfpaoldmaaGreatDoor

/- Plain words on memory: a block known whole, a world in which one block has turned, a slice that reads as a function of the index; no program in sight. -/
namespace Go.Proofs.YtkkcbkfpaoldmaaGreatDoor
open Go Go.RowKit

/-- Block g is just these cells, of element type t, none of them frozen. -/
def Blk (w : World) (g : Nat) (t : TypeId) (cs : Array Value) : Prop := w.heap[g]? = some (.cells cs t (0, 0))

section
variable {w w' : World} {g : Nat} {t : TypeId} {cs : Array Value}
theorem Blk.lt (h : Blk w g t cs) : g < w.heap.size := (Array.getElem?_eq_some_iff.1 h).1
theorem Blk.cell (h : Blk w g t cs) (i : Nat) : w.cell? ⟨g, i, none⟩ = cs[i]? := cell_of_row w g i cs t (0, 0) h
theorem Blk.frozen (h : Blk w g t cs) (i : Nat) : w.frozen? ⟨g, i, none⟩ = false := frozen_of_row w g i cs t h
theorem Blk.some_ (h : Blk w g t cs) {i : Nat} (hi : i < cs.size) : ∃ v, w.cell? ⟨g, i, none⟩ = some v := ⟨_, (h.cell i).trans (Array.getElem?_eq_getElem hi)⟩
theorem Blk.new (w : World) (t : TypeId) (cs : Array Value) : Blk (w.alloc (.cells cs t)) w.heap.size t cs := heap_alloc_new w _
theorem Blk.drew (h : Blk w g t cs) : Blk w.drew g t cs := h
theorem Blk.drewN (h : Blk w g t cs) (n : Nat) : Blk (w.drewN n) g t cs := h
theorem Blk.alloc (h : Blk w g t cs) (o : Obj) : Blk (w.alloc o) g t cs := (Below.heap_alloc w o g h.lt).trans h
theorem Blk.set (h : Blk w g t cs) (i : Nat) (u : Value) : Blk (w.setCell ⟨g, i, none⟩ u) g t (cs.setIfInBounds i u) := heap_setCell_same w g i cs t u h
theorem Blk.far (h : Blk w g t cs) {p : Addr} (hp : g ≠ p.block) (u : Value) : Blk (w.setCell p u) g t cs := (heap_setCell_other w p g u hp).trans h
theorem Blk.below {B : Nat} (h : Blk w g t cs) (hb : Below B w w') (hg : g < B) : Blk w' g t cs := (hb.block g hg).trans h
theorem Blk.grown {row : Option Nat} (h : Blk w g t cs) (hb : w.grownBy w' row) (hg : some g ≠ row) : Blk w' g t cs := (hb.block g h.lt hg).trans h
theorem Blk.inj {t' : TypeId} {cs' : Array Value} (h : Blk w g t cs) (h' : Blk w g t' cs') : cs = cs' ∧ t = t' := by
  have e := h.symm.trans h'
  injection e with e; injection e with e1 e2
  exact ⟨e1, e2⟩

/-- Only block g and what is new has turned. -/
abbrev Only (w w' : World) (g : Nat) : Prop := w.grownBy w' (some g)
theorem Only.refl (w : World) (g : Nat) : Only w w g := ⟨rfl, rfl, rfl, Nat.le_refl _, fun _ _ _ => rfl⟩
theorem Only.trans {a b c : World} {g : Nat} (h : Only a b g) (k : Only b c g) : Only a c g :=
  ⟨k.os.trans h.os, k.tape.trans h.tape, k.output.trans h.output, Nat.le_trans h.size k.size, fun i hi hne => (k.block i (Nat.lt_of_lt_of_le hi h.size) hne).trans (h.block i hi hne)⟩
theorem Only.drew {a w : World} {g : Nat} (h : Only a w g) : Only a w.drew g := ⟨h.os, h.tape, h.output, h.size, h.block⟩
theorem Only.drewN {a w : World} {g : Nat} (h : Only a w g) (n : Nat) : Only a (w.drewN n) g := ⟨h.os, h.tape, h.output, h.size, h.block⟩
theorem Only.alloc {a w : World} {g : Nat} (h : Only a w g) (o : Obj) : Only a (w.alloc o) g :=
  ⟨h.os, h.tape, h.output, Nat.le_trans h.size (by simp), fun i hi hne => (Below.heap_alloc w o i (Nat.lt_of_lt_of_le hi h.size)).trans (h.block i hi hne)⟩
theorem Only.set {a w : World} {g : Nat} (h : Only a w g) {p : Addr} (hp : p.block = g ∨ a.heap.size ≤ p.block) (u : Value) : Only a (w.setCell p u) g :=
  ⟨h.os, h.tape, h.output, by simpa [World.setCell] using h.size, fun i hi hne => (heap_setCell_other w p i u (by
    rintro rfl
    rcases hp with hp | hp
    · exact hne (by rw [hp])
    · omega)).trans (h.block i hi hne)⟩
theorem Only.below {a w : World} {g : Nat} (h : Below a.heap.size a w) : Only a w g := ⟨h.os, h.tape, h.output, h.size, fun i hi _ => h.block i hi⟩
/-- What turned only block g turned nothing below B, if g lies from B on. -/
theorem Only.toBelow {B : Nat} {a w : World} {g : Nat} (h : Only a w g) (hB : B ≤ a.heap.size) (hg : B ≤ g) : Below B a w :=
  ⟨h.os, h.tape, h.output, h.size, fun i hi => h.block i (by omega) (fun e => by injection e; omega)⟩
theorem below_setRow {B g : Nat} {a w : World} (h : Below B a w) (hg : B ≤ g) (cs : Array Value) : Below B a (w.setRow g cs) :=
  h.trans ⟨rfl, rfl, rfl, by simp, fun k hk => setRow_other w g k cs (by omega)⟩
theorem Blk.setRow {g' : Nat} (h : Blk w g t cs) (hg : g ≠ g') (cs' : Array Value) : Blk (w.setRow g' cs') g t cs := (setRow_other w g' g cs' hg).trans h
theorem below_drewN {B : Nat} {a w : World} (h : Below B a w) (n : Nat) : Below B a (w.drewN n) := ⟨h.os, h.tape, h.output, h.size, h.block⟩
end

/-- n cells from address A on read as f says, below block B; nothing is asked where n is 0. -/
def Rd (w : World) (B : Nat) (A : Option Addr) (n : Nat) (f : Nat → Value) : Prop :=
  0 < n → ∃ b off, A = some ⟨b, off, none⟩ ∧ b < B ∧ ∀ k, k < n → w.cell? ⟨b, off + k, none⟩ = some (f k)

section
variable {w w' : World} {B B' n : Nat} {A : Option Addr} {f g : Nat → Value}
theorem Rd.zero : Rd w B A 0 f := fun h => absurd h (by omega)
theorem Rd.keep (h : Rd w B A n f) (hk : ∀ p : Addr, p.block < B → w'.cell? p = w.cell? p) : Rd w' B A n f := fun hn => by
  obtain ⟨b, off, e, hb, hc⟩ := h hn
  exact ⟨b, off, e, hb, fun k hk' => (hk _ hb).trans (hc k hk')⟩
theorem Rd.more (h : Rd w B A n f) (hB : B ≤ B') : Rd w B' A n f := fun hn => by
  obtain ⟨b, off, e, hb, hc⟩ := h hn
  exact ⟨b, off, e, by omega, hc⟩
theorem Rd.below (h : Rd w B A n f) (hb : Below B w w') : Rd w' B A n f := h.keep fun _ hp => hb.cell hp
theorem Rd.drew (h : Rd w B A n f) : Rd w.drew B A n f := h
theorem Rd.drewN (h : Rd w B A n f) (k : Nat) : Rd (w.drewN k) B A n f := h
theorem Rd.alloc (h : Rd w B A n f) (hB : B ≤ w.heap.size) (o : Obj) : Rd (w.alloc o) B A n f := h.keep fun p hp => World.cell?_alloc_lt w o p (by omega)
theorem Rd.set (h : Rd w B A n f) {p : Addr} (hB : B ≤ p.block) (u : Value) : Rd (w.setCell p u) B A n f :=
  h.keep fun q hq => World.cell?_setCell_other w p q u (fun e => by subst e; omega)
theorem Rd.only (h : Rd w B A n f) {g : Nat} (ho : Only w w' g) (hB : B ≤ w.heap.size) (hg : B ≤ g) : Rd w' B A n f := h.below (ho.toBelow hB hg)
theorem Rd.congr (h : Rd w B A n f) (hfg : ∀ k, k < n → f k = g k) : Rd w B A n g := fun hn => by
  obtain ⟨b, off, e, hb, hc⟩ := h hn
  exact ⟨b, off, e, hb, fun k hk => by rw [hc k hk, hfg k hk]⟩
theorem Rd.take (h : Rd w B A n f) {m : Nat} (hm : m ≤ n) : Rd w B A m f := fun hn => by
  obtain ⟨b, off, e, hb, hc⟩ := h (by omega)
  exact ⟨b, off, e, hb, fun k hk => hc k (by omega)⟩
/-- 's[m:]', as the model writes its address. -/
theorem Rd.cut (h : Rd w B A n f) {m cap : Nat} (hm : m ≤ n) (hc : n ≤ cap) : Rd w B (if cap = m then A else A.map (·.add m)) (n - m) (fun k => f (m + k)) := fun hn => by
  obtain ⟨b, off, rfl, hb, hcell⟩ := h (by omega)
  rw [if_neg (by omega)]
  refine ⟨b, off + m, by simp [Addr.add_mid], hb, fun k hk => ?_⟩
  rw [Nat.add_assoc]
  exact hcell _ (by omega)
theorem Rd.at_ (h : Rd w B A n f) {k : Nat} (hk : k < n) : ∃ b off, A = some ⟨b, off, none⟩ ∧ b < B ∧ w.cell? ⟨b, off + k, none⟩ = some (f k) := by
  obtain ⟨b, off, e, hb, hc⟩ := h (by omega)
  exact ⟨b, off, e, hb, hc k hk⟩
theorem Rd.of_blk {b : Nat} {t : TypeId} {cs : Array Value} (h : Blk w b t cs) (hb : b < B) {off : Nat} (hf : ∀ k, k < n → cs[off + k]? = some (f k)) : Rd w B (some ⟨b, off, none⟩) n f :=
  fun _ => ⟨b, off, rfl, hb, fun k hk => by rw [h.cell]; exact hf k hk⟩
end
end Go.Proofs.YtkkcbkfpaoldmaaGreatDoor

/- Plain words: a block of SHA-256 as the program computes it, on plain integers; no program in sight. -/
namespace Go.Proofs.YtkkcbkfpaoldmaaGreatDoor
open Go.RowKit

def sg0 (x : Int) : Int := bits .xor .u32 (bits .xor .u32 (rotL x 25) (rotL x 14)) (x / 8)
def sg1 (x : Int) : Int := bits .xor .u32 (bits .xor .u32 (rotL x 15) (rotL x 13)) (x / 1024)
def add32 (x y : Int) : Int := (x + y) % 4294967296
/-- Word t of the schedule of a block whose bytes f gives. -/
def sched (f : Nat → Int) (t : Nat) : Int :=
  if t < 16 then wordTo (fun j => f (4 * t + j)) 4
  else (sched f (t - 16) + sg0 (sched f (t - 15)) + sched f (t - 7) + sg1 (sched f (t - 2))) % 4294967296
termination_by t
/-- The state: eight words. -/
structure St where
  a : Int
  b : Int
  c : Int
  d : Int
  e : Int
  f : Int
  g : Int
  h : Int
def St.cells (s : St) : Array Value := #[.int .u32 s.a, .int .u32 s.b, .int .u32 s.c, .int .u32 s.d, .int .u32 s.e, .int .u32 s.f, .int .u32 s.g, .int .u32 s.h]
def St.p0 (s : St) (k w : Int) : Int := s.h + rot3 s.e 6 11 25 + bits .xor .u32 s.g (bits .and .u32 s.e (bits .xor .u32 s.f s.g)) + k + w
def St.q0 (s : St) : Int := rot3 s.a 2 13 22 + bits .or .u32 (bits .and .u32 s.a s.b) (bits .and .u32 s.c (bits .or .u32 s.a s.b))
def St.step (s : St) (k w : Int) : St := ⟨(s.p0 k w + s.q0) % 4294967296, s.a, s.b, s.c, (s.d + s.p0 k w) % 4294967296, s.e, s.f, s.g⟩
/-- The numbers K. -/
def kList : List Int := [1116352408, 1899447441, 3049323471, 3921009573, 961987163, 1508970993, 2453635748, 2870763221, 3624381080, 310598401, 607225278, 1426881987, 1925078388, 2162078206, 2614888103, 3248222580, 3835390401, 4022224774, 264347078, 604807628, 770255983, 1249150122, 1555081692, 1996064986, 2554220882, 2821834349, 2952996808, 3210313671, 3336571891, 3584528711, 113926993, 338241895, 666307205, 773529912, 1294757372, 1396182291, 1695183700, 1986661051, 2177026350, 2456956037, 2730485921, 2820302411, 3259730800, 3345764771, 3516065817, 3600352804, 4094571909, 275423344, 430227734, 506948616, 659060556, 883997877, 958139571, 1322822218, 1537002063, 1747873779, 1955562222, 2024104815, 2227730452, 2361852424, 2428436474, 2756734187, 3204031479, 3329325298]
def kAt (t : Nat) : Int := kList.getD t 0
def rounds (s : St) (f : Nat → Int) : Nat → St
  | 0 => s
  | t + 1 => (rounds s f t).step (kAt t) (sched f t)
def St.add (s v : St) : St := ⟨add32 s.a v.a, add32 s.b v.b, add32 s.c v.c, add32 s.d v.d, add32 s.e v.e, add32 s.f v.f, add32 s.g v.g, add32 s.h v.h⟩
def St.nth (s : St) : Nat → Int
  | 0 => s.a
  | 1 => s.b
  | 2 => s.c
  | 3 => s.d
  | 4 => s.e
  | 5 => s.f
  | 6 => s.g
  | _ => s.h
/-- The cells of a state to whose first k words those of another one are added. -/
def addCells (s v : St) : Nat → Array Value
  | 0 => s.cells
  | k + 1 => (addCells s v k).setIfInBounds k (.int .u32 ((s.nth k + v.nth k) % 4294967296))
theorem addCells_size (s v : St) : ∀ k, (addCells s v k).size = 8
  | 0 => rfl
  | k + 1 => by simp [addCells, addCells_size s v k]
theorem cells_nth (s : St) (k : Nat) (hk : k < 8) : s.cells[k]? = some (.int .u32 (s.nth k)) := by
  rcases k with _ | _ | _ | _ | _ | _ | _ | _ | k <;> first | rfl | omega
theorem addCells_rest (s v : St) : ∀ k j, k ≤ j → (addCells s v k)[j]? = s.cells[j]?
  | 0, _, _ => rfl
  | k + 1, j, h => by
    rw [addCells, Array.getElem?_setIfInBounds, if_neg (by omega)]
    exact addCells_rest s v k j (by omega)
theorem addCells_all (s v : St) : addCells s v 8 = (s.add v).cells := by
  simp [addCells, St.cells, St.nth, St.add, add32]
/-- The state after a block. -/
def St.block (s : St) (f : Nat → Int) : St := s.add (rounds s f 64)
def St.start : St := ⟨1779033703, 3144134277, 1013904242, 2773480762, 1359893119, 2600822924, 528734635, 1541459225⟩
end Go.Proofs.YtkkcbkfpaoldmaaGreatDoor

/- Plain words on memory, more: copying into a block, a new block of zeros; no program in sight. -/
namespace Go.Proofs.YtkkcbkfpaoldmaaGreatDoor
open Go Go.RowKit

/-- The cells of a block after m cells, which f gives, are laid from o on. -/
def splice (cur : Array Value) (o m : Nat) (f : Nat → Value) : Array Value := (cur.toList.take o ++ (List.range m).map f ++ cur.toList.drop (o + m)).toArray
theorem splice_size (cur : Array Value) (o m : Nat) (f : Nat → Value) (h : o + m ≤ cur.size) : (splice cur o m f).size = cur.size := by
  simp [splice]; omega
theorem splice_get (cur : Array Value) (o m : Nat) (f : Nat → Value) (h : o + m ≤ cur.size) (j : Nat) : (splice cur o m f)[j]? = if o ≤ j ∧ j < o + m then some (f (j - o)) else cur[j]? := by
  have h1 : (cur.toList.take o).length = o := by simp; omega
  simp only [splice, List.getElem?_toArray]
  by_cases hj : j < o
  · rw [if_neg (by omega), List.append_assoc, List.getElem?_append_left (by omega), List.getElem?_take, if_pos hj]; simp
  · by_cases hj2 : j < o + m
    · rw [if_pos (by omega), List.append_assoc, List.getElem?_append_right (by omega), h1, List.getElem?_append_left (by simp; omega)]
      simp [show j - o < m from by omega]
    · rw [if_neg (by omega), List.getElem?_append_right (by simp; omega)]
      simp only [List.length_append, h1, List.length_map, List.length_range, List.getElem?_drop, Array.getElem?_toList]
      rw [show o + m + (j - (o + m)) = j from by omega]

section
variable {P : Program}
/-- 'copy(dst, src)' from a slice that reads as f into a block that is known whole. -/
theorem run_copy_rd (w : World) (dT sT ty elem : TypeId) (hu : P.underlying dT = some (.slice elem)) (hs : (P.info? elem).map (·.size) = some 1)
    {g : Nat} {t : TypeId} {cur : Array Value} (hg : Blk w g t cur) (o dLen dCap : Nat) {B : Nat} {A : Option Addr} {m sCap : Nat} {f : Nat → Value} (hR : Rd w B A m f) (hm : m ≤ dLen) (hfit : o + m ≤ cur.size)
    (h1 : ∀ k, k < m → (f k).oneCell' = true) :
    (Builtin.copy_ #[dT, sT] ty #[.slice (some ⟨g, o, none⟩) dLen dCap, .slice A m sCap]).run P w = .ok (goInt m) (w.setRow g (splice cur o m f)) := by
  cases A with
  | none =>
    obtain rfl : m = 0 := by
      rcases Nat.eq_zero_or_pos m with h | h
      · exact h
      · obtain ⟨b, off, e, _⟩ := hR h
        cases e
    have e0 : splice cur o 0 f = cur := by simp [splice]
    rw [e0, setRow_self w g cur t (0, 0) hg]
    cases hq : P.info? elem with
    | none => simp [hq] at hs
    | some i => simp [Builtin.copy_, run_underlying hu, Builtin.lenOf, Builtin.firstCells, sizeOf, typeInfo, hq, storeCells]
  | some a =>
    have hsrc : ∀ j v, ((List.range m).map f)[j]? = some v → w.cell? (a.add j) = some v := by
      intro j v hv
      have hj : j < m := by have := (List.getElem?_eq_some_iff.1 hv).1; simpa using this
      obtain ⟨b, off, e, _, hc⟩ := hR (by omega)
      injection e with e
      subst e
      rw [Addr.add_mid, hc j hj]
      simpa [hj] using hv
    have h := run_copy_row P w dT sT ty elem g o dLen dCap a m sCap cur t ((List.range m).map f) hu hs hg (by simp; exact (Nat.min_eq_left hm).symm) hsrc (by simpa using hfit)
      (fun v hv => by
        obtain ⟨k, hk, rfl⟩ := List.mem_map.1 hv
        exact h1 k (by simpa using hk))
    simpa [splice] using h
/-- n bytes 0. -/
def zeros (n : Nat) : Array Value := Array.replicate n (.int .u8 0)
theorem zeros_size (n : Nat) : (zeros n).size = n := by simp [zeros]
theorem zeros_get (n k : Nat) (h : k < n) : (zeros n)[k]? = some (.int .u8 0) := by simp [zeros, h]
theorem run_make_bytes (t e : TypeId) (i : TypeInfo) (ht : P.underlying t = some (.slice e)) (hi : P.info? e = some i) (hz : i.zero = some (.int .u8 0)) (hsz : i.size = 1) (hby : i.bytes = 1)
    (l c : Nat) (hlc : l ≤ c) (hc : c ≤ 281474976710656) (w : World) :
    (Instr.makeSlice t (.int .i64 l) (.int .i64 c)).run P w = .ok (.slice (some ⟨w.heap.size, 0, none⟩) l c) (w.alloc (.cells (zeros c) e)) := by
  have h := run_make (P := P) w t e i _ ht hi hz .i64 .i64 (l : Int) (c : Int) (by omega) (by omega) (by rw [hby]; omega) (by omega)
  rw [h]
  simp only [Int.toNat_natCast, hsz, Nat.mul_one]
  congr 3
  apply Array.ext
  · simp [madeCells, zeros]
  · intro k h1 h2
    simp [madeCells, zeros, Value.cells, Nat.mod_one]
end
end Go.Proofs.YtkkcbkfpaoldmaaGreatDoor

/- Plain words: SHA-256 of whole bytes as the program computes it; no program in sight. -/
namespace Go.Proofs.YtkkcbkfpaoldmaaGreatDoor
open Go.RowKit

/-- Byte k of the padded bytes: n bytes that f gives, 128, zeros, and eight bytes with the number of bits. -/
def padAt (f : Nat → Int) (n k : Nat) : Int :=
  if k < n then f k else if k = n then 128 else if k < 64 * ((n + 8) / 64) + 56 then 0 else byteOf (n * 8) (64 * ((n + 8) / 64) + 63 - k)
/-- The cells of the end blocks, as the program lays them. -/
def endCells (f : Nat → Int) (n j r q : Nat) : Array Value :=
  putTo ((splice (zeros 128) 0 r fun k => .int .u8 (f (64 * j + k))).setIfInBounds r (.int .u8 128)) (64 * q - 8) 8 (n * 8) 8
theorem endCells_get (f : Nat → Int) (n j r q : Nat) (hn : n = 64 * j + r) (hr : r < 64) (hq : q = (r + 8) / 64 + 1) (k : Nat) (hk : k < 64 * q) :
    (endCells f n j r q)[k]? = some (.int .u8 (padAt f n (64 * j + k))) := by
  have hs : ((splice (zeros 128) 0 r fun k => .int .u8 (f (64 * j + k))).setIfInBounds r (.int .u8 128)).size = 128 := by
    rw [Array.size_setIfInBounds, splice_size _ _ _ _ (by rw [zeros_size]; omega), zeros_size]
  rw [endCells, putTo_get _ _ _ _ 8 (Nat.le_refl _) (by rw [hs]; omega)]
  by_cases h1 : 64 * q - 8 ≤ k
  · rw [if_pos (by omega), padAt, if_neg (by omega), if_neg (by omega), if_neg (by omega)]
    rw [show 64 * q - 8 + 8 - 1 - k = 64 * ((n + 8) / 64) + 63 - (64 * j + k) from by omega]
  · rw [if_neg (by omega), Array.getElem?_setIfInBounds, splice_size _ _ _ _ (by rw [zeros_size]; omega), zeros_size, splice_get _ _ _ _ (by rw [zeros_size]; omega), padAt]
    by_cases h2 : r = k
    · subst h2
      rw [if_pos rfl, if_pos (by omega), if_neg (by omega), if_pos (by omega)]
    · rw [if_neg h2]
      by_cases h3 : k < r
      · rw [if_pos (by omega), if_pos (by omega)]
        rfl
      · rw [if_neg (by omega), zeros_get _ _ (by omega), if_neg (by omega), if_neg (by omega), if_pos (by omega)]
/-- The words of a state are 32 bits wide. -/
def St.Fits (s : St) : Prop := ∀ k, k < 8 → 0 ≤ s.nth k ∧ s.nth k < 4294967296
theorem fits_add (s v : St) : (s.add v).Fits := by
  intro k hk
  rcases k with _ | _ | _ | _ | _ | _ | _ | _ | k <;> first | omega | (simp only [St.nth, St.add, add32]; omega)
/-- The state after j blocks. -/
def shaTo (F : Nat → Int) : Nat → St
  | 0 => St.start
  | j + 1 => (shaTo F j).block fun k => F (64 * j + k)
/-- The state at the end. -/
def shaEnd (f : Nat → Int) (n : Nat) : St := shaTo (padAt f n) ((n + 8) / 64 + 1)
theorem shaEnd_fits (f : Nat → Int) (n : Nat) : (shaEnd f n).Fits := fits_add _ _
def digCells (s : St) : Nat → Array Value
  | 0 => Array.replicate 32 (.int .u8 0)
  | k + 1 => putTo (digCells s k) (4 * k) 4 (s.nth k) 4
def digByte (s : St) (i : Nat) : Int := byteOf (s.nth (i / 4)) (3 - i % 4)
theorem digCells_size (s : St) : ∀ k, (digCells s k).size = 32
  | 0 => by simp [digCells]
  | k + 1 => by rw [digCells, putTo_size, digCells_size s k]
theorem digCells_get (s : St) : ∀ k, k ≤ 8 → ∀ i, i < 4 * k → (digCells s k)[i]? = some (.int .u8 (digByte s i))
  | 0, _, _, h => absurd h (by omega)
  | k + 1, hk, i, h => by
    rw [digCells, putTo_get _ _ _ _ 4 (Nat.le_refl _) (by rw [digCells_size]; omega)]
    by_cases h2 : 4 * k ≤ i
    · rw [if_pos (by omega), digByte, show i / 4 = k from by omega, show 4 * k + 4 - 1 - i = 3 - i % 4 from by omega]
    · rw [if_neg (by omega)]
      exact digCells_get s k (by omega) i (by omega)
end Go.Proofs.YtkkcbkfpaoldmaaGreatDoor

/- Plain words on slices that a call owns: append from whatever source onto an owned row, and the frame that stays; no program in sight. -/
namespace Go.Proofs.YtkkcbkfpaoldmaaGreatDoor
open Go Go.RowKit

/-- A slice value v of the call's own has become v': its row alone, or a new one, has turned. -/
def Grew (w w' : World) (v v' : Value) : Prop := w.grownBy w' v.ownBlock ∧ (v'.ownBlock = v.ownBlock ∨ ∃ k, v'.ownBlock = some k ∧ w.heap.size ≤ k)
section
variable {w w' w'' : World} {v v' v'' : Value}
theorem grownBy_refl (w : World) (r : Option Nat) : w.grownBy w r := ⟨rfl, rfl, rfl, Nat.le_refl _, fun _ _ _ => rfl⟩
theorem Grew.refl (w : World) (v : Value) : Grew w w v v := ⟨grownBy_refl _ _, .inl rfl⟩
theorem Grew.trans (h : Grew w w' v v') (k : Grew w' w'' v' v'') : Grew w w'' v v'' := by
  refine ⟨⟨k.1.os.trans h.1.os, k.1.tape.trans h.1.tape, k.1.output.trans h.1.output, Nat.le_trans h.1.size k.1.size, fun i hi hne => ?_⟩, ?_⟩
  · refine (k.1.block i (Nat.lt_of_lt_of_le hi h.1.size) ?_).trans (h.1.block i hi hne)
    intro e
    rcases h.2 with h2 | ⟨g, h2, h3⟩
    · exact hne (e.trans h2)
    · rw [h2] at e
      injection e with e
      omega
  · rcases k.2 with k2 | ⟨g, k2, k3⟩
    · rcases h.2 with h2 | ⟨g, h2, h3⟩
      · exact .inl (k2.trans h2)
      · exact .inr ⟨g, k2.trans h2, h3⟩
    · exact .inr ⟨g, k2, Nat.le_trans h.1.size k3⟩
theorem Grew.below {B : Nat} (h : Grew w w' v v') (hB : B ≤ w.heap.size) (hv : ∀ k, v.ownBlock = some k → B ≤ k) : Below B w w' :=
  ⟨h.1.os, h.1.tape, h.1.output, h.1.size, fun i hi => h.1.block i (by omega) (fun e => by have := hv _ e.symm; omega)⟩
/-- A step that turned nothing of the world before it. -/
theorem Grew.of_below (h : Below w.heap.size w w') (v : Value) : Grew w w' v v := ⟨⟨h.os, h.tape, h.output, h.size, fun i hi _ => h.block i hi⟩, .inl rfl⟩
end

section
variable {P : Program} (w : World)
theorem run_append_own_src (base : Nat) (t tx ty e : TypeId) (i : TypeInfo) (z : Value) (size bytes : Nat) (ht : P.underlying t = some (.slice e)) (hi : P.info? e = some i) (hz : i.zero = some z) (hsize : i.size = size) (hby : i.bytes = bytes) (hzs : z.cells.size = size)
    (v : Value) (n : Nat) (xs : List Value) (hown : w.ownsRow base e size v n xs)
    (x : Value) (m : Nat) (news : List Value) (hs : Src P size tx x m news w)
    (h63 : n + m ≤ maxLen) (hbytes : (n + m) * bytes ≤ 140737488355328) (hbase : base ≤ w.heap.size) :
    ∃ v' w', (Builtin.append_ #[t, tx] ty #[v, x]).run P w = .ok v' w' ∧ w'.ownsRow base e size v' (n + m) (xs ++ news) ∧ Grew w w' v v' := by
  subst hsize
  subst hby
  have hsmall : n + m ≤ 9223372036854775807 := by simp only [maxLen] at h63; omega
  have hlen : (xs ++ news).length = (n + m) * i.size := by rw [List.length_append, hown.1, hs.newsLen, Nat.add_mul]
  have grown : ∀ (old : Nat), old < n + m → ∀ v : Value,
      (w.drew.alloc (.cells ((xs ++ news).toArray ++ Builtin.zeroCells z.cells (grownCap w (n + m) old e - (n + m))) e)).ownsRow base e i.size
        (.slice (some ⟨w.heap.size, 0, none⟩) (n + m) (grownCap w (n + m) old e)) (n + m) (xs ++ news) ∧
      Grew w (w.drew.alloc (.cells ((xs ++ news).toArray ++ Builtin.zeroCells z.cells (grownCap w (n + m) old e - (n + m))) e)) v (.slice (some ⟨w.heap.size, 0, none⟩) (n + m) (grownCap w (n + m) old e)) := by
    intro old ho v
    have hge := grownCap_ge w (n + m) old e
    have hcm : grownCap w (n + m) old e ≤ maxLen := grownCap_le_maxLen w (n + m) old e h63
    refine ⟨⟨hlen, .inr ⟨w.heap.size, _, _, rfl, hbase, heap_alloc_new w.drew _, hge, hcm, ?_, ?_⟩⟩, ⟨rfl, rfl, rfl, by simp, fun k hk _ => Below.heap_alloc w.drew _ k hk⟩, .inr ⟨w.heap.size, rfl, Nat.le_refl _⟩⟩
    · simp only [Array.size_append, List.size_toArray, size_zeroCells, hzs, hlen, ← Nat.add_mul]
      congr 1
      omega
    · simp only [Array.toList_append]
      rw [← hlen]
      exact List.take_left
  rcases hown.2 with ⟨rfl, rfl⟩ | ⟨g, cap, cur, rfl, hbg, hg, hnc, hcm, hcs, htake⟩
  · have hx : xs = [] := List.eq_nil_of_length_eq_zero (by simpa using hown.1)
    subst hx
    by_cases hm : m = 0
    · subst hm
      have hn : news = [] := List.eq_nil_of_length_eq_zero (by simpa using hs.newsLen)
      subst hn
      refine ⟨.slice none 0 0, w, ?_, World.ownsRow_nil w base e i.size, Grew.refl _ _⟩
      rcases hs.kind with ⟨e', hk⟩ | hk <;> simp [Builtin.append_, run_underlying ht, run_underlying hk, sizeOf, typeInfo, hi, hs.len, hs.cells]
    · have hr := run_append_grow_src (P := P) w t tx ty e i z ht hi hz none 0 0 [] (run_firstCells_none w.drew i.size 0 0 0) x m news hs (by omega) (by omega) (by
        rw [nextslicecap_zero (by omega)]; have hb := hbytes; simp only [Nat.zero_add] at hb ⊢; omega)
      have hgr := grown 0 (by omega) (.slice none 0 0)
      exact ⟨_, _, hr, hgr.1, hgr.2⟩
  · by_cases hroom : n + m ≤ cap
    · have hfit : n * i.size + news.length ≤ cur.size := by rw [hs.newsLen, hcs, ← Nat.add_mul]; exact Nat.mul_le_mul_right _ hroom
      have hst := run_storeCells_at P g (n * i.size) e news 0 cur w hg (by simpa using hfit) hs.one
      simp only [Nat.add_zero] at hst
      have hr : (Builtin.append_ #[t, tx] ty #[.slice (some ⟨g, 0, none⟩) n cap, x]).run P w = .ok (.slice (some ⟨g, 0, none⟩) (n + m) cap) (w.setRow g (cur.toList.take (n * i.size) ++ news ++ cur.toList.drop (n * i.size + news.length)).toArray) := by
        rcases hs.kind with ⟨e', hk⟩ | hk <;> simp [Builtin.append_, run_underlying ht, run_underlying hk, sizeOf, typeInfo, hi, hs.len, hroom, hs.cells, Addr.add_mid, hst]
      refine ⟨_, _, hr, ⟨hlen, .inr ⟨g, cap, _, rfl, hbg, setRow_heap w g cur _ e _ hg, hroom, hcm, ?_, ?_⟩⟩, ⟨rfl, rfl, rfl, by simp, fun k _ hk => setRow_other w g k _ (fun e => hk (by simp [Value.ownBlock, e]))⟩, .inl rfl⟩
      · simp only [List.size_toArray, List.length_append, List.length_take, List.length_drop, Array.length_toList]
        omega
      · rw [htake, ← hlen]
        exact List.take_left
    · have holds : ∀ j u, xs[j]? = some u → w.cell? ((⟨g, 0, none⟩ : Addr).add j) = some u := hown.cells (g := g) rfl
      have hr := run_append_grow_src (P := P) w t tx ty e i z ht hi hz (some ⟨g, 0, none⟩) n cap xs (run_firstCells_some w.drew i.size n ⟨g, 0, none⟩ n cap xs hown.1 (by simpa using holds)) x m news hs (by omega) (by omega) (growslice_fits (by omega) hbytes)
      have hgr := grown cap (by omega) (.slice (some ⟨g, 0, none⟩) n cap)
      exact ⟨_, _, hr, hgr.1, hgr.2⟩

/-- An append whose run is known. -/
theorem wpList_append_run {ops : Array Oper} {rest : List Oper} {o : Oper} {a : Act} {Q : Exit → Act → World → Prop} (hgd : o.guard = none) (s x : Operand) (t tx : TypeId)
    (ho : o.op = .call { callee := .builtin .append, args := #[s, x], argTypes := #[t, tx] }) (sv xv : Value) (hs : a.eval s = sv) (hx : a.eval x = xv) (v' : Value) (w' : World)
    (hrun : ∀ ty, (Builtin.append_ #[t, tx] ty #[sv, xv]).run P w = .ok v' w') (h : wpList P ops Q rest (a.put o.dst v') w') : wpList P ops Q (o :: rest) a w :=
  wpList_plain hgd fun _ hK => by
    unfold Oper.wp execOp
    simp only [ho, resolve, invoke, builtin, Sem.run_bind, Sem.run_pure, Result.andThen_ok, List.map_toArray, List.map_cons, List.map_nil, hs, hx, hrun]
    exact hK _ _ h
theorem wpList_append_src {ops : Array Oper} {rest : List Oper} {o : Oper} {a : Act} {Q : Exit → Act → World → Prop} (hgd : o.guard = none) (s x : Operand) (t tx : TypeId)
    (ho : o.op = .call { callee := .builtin .append, args := #[s, x], argTypes := #[t, tx] })
    (base : Nat) (e : TypeId) (i : TypeInfo) (z : Value) (size bytes : Nat) (ht : P.underlying t = some (.slice e)) (hi : P.info? e = some i) (hz : i.zero = some z) (hsize : i.size = size) (hby : i.bytes = bytes) (hzs : z.cells.size = size)
    (v : Value) (n : Nat) (xs : List Value) (hs : a.eval s = v) (hown : w.ownsRow base e size v n xs)
    (xv : Value) (m : Nat) (news : List Value) (hx : a.eval x = xv) (hsrc : Src P size tx xv m news w)
    (h63 : n + m ≤ maxLen) (hbytes : (n + m) * bytes ≤ 140737488355328) (hbase : base ≤ w.heap.size)
    (h : ∀ v' w', w'.ownsRow base e size v' (n + m) (xs ++ news) → Grew w w' v v' → wpList P ops Q rest (a.put o.dst v') w') : wpList P ops Q (o :: rest) a w :=
  wpList_plain hgd fun _ hK => by
    obtain ⟨v', w', hrun, h2, h3⟩ := run_append_own_src (P := P) w base t tx o.type e i z size bytes ht hi hz hsize hby hzs v n xs hown xv m news hsrc h63 hbytes hbase
    unfold Oper.wp execOp
    simp only [ho, resolve, invoke, builtin, Sem.run_bind, Sem.run_pure, Result.andThen_ok, List.map_toArray, List.map_cons, List.map_nil, hs, hx, hrun]
    exact hK _ _ (h v' w' h2 h3)

/-- 'append(nil, make([]T, n)...)': n zeros in a new row. -/
theorem run_append_zeros_nil (t ti ty e : TypeId) (i : TypeInfo) (z : Value) (k : IntKind) (ht : P.underlying t = some (.slice e)) (hk : P.underlying ti = some (.int k)) (hi : P.info? e = some i) (hz : i.zero = some z)
    (hsz : 0 < i.size) (n : Nat) (h0 : 0 < n) (h63 : (n : Int) ≤ 140737488355328) (h48 : n * i.bytes ≤ 281474976710656) :
    (Builtin.append_ #[t, ti] ty #[.slice none 0 0, .int .i64 (n : Int)]).run P w =
      .ok (.slice (some ⟨w.heap.size, 0, none⟩) n (grownCap w n 0 e)) (w.drew.alloc (.cells (Builtin.zeroCells z.cells n ++ Builtin.zeroCells z.cells (grownCap w n 0 e - n)) e)) := by
  have hn : n ≠ 0 := by omega
  have hw : IntKind.i64.wrap (n : Int) = n := by rw [IntKind.wrap_i64]; omega
  have h48' : ¬ (281474976710656 < Builtin.nextslicecap n 0 * i.bytes) := by rw [nextslicecap_zero h0]; omega
  have hb : ¬ (281474976710656 < (n : Int) * (i.bytes : Int)) := by
    have : ((n * i.bytes : Nat) : Int) ≤ 281474976710656 := by omega
    rw [Int.natCast_mul] at this
    omega
  have h63' : ¬ (9223372036854775807 < (n : Int)) := by omega
  have hp : ¬ n * i.size = 0 := Nat.ne_of_gt (Nat.mul_pos h0 hsz)
  have hneg : ¬ (n : Int) < 0 := by omega
  simp [Builtin.append_, run_underlying ht, run_underlying hk, sizeOf, typeInfo, zeroValue, hi, hz, asInt, asIntOf, hw, hb, hn, hp, hneg, h63', h48', Question.forced, run_firstCells_none, newRow, grownCap]

/-- What a slice yields that reads as f, cell by cell. -/
theorem src_rd {size : Nat} {tx e' : TypeId} (hk : P.underlying tx = some (.slice e')) {B : Nat} {A : Option Addr} {n c : Nat} {f : Nat → Value} (hR : Rd w B A (n * size) f) (hsz : 0 < size) (h1 : ∀ k, k < n * size → (f k).oneCell' = true) :
    Src P size tx (.slice A n c) n ((List.range (n * size)).map f) w := by
  cases A with
  | none =>
    obtain rfl : n = 0 := by
      rcases Nat.eq_zero_or_pos n with h | h
      · exact h
      · obtain ⟨b, off, e, _⟩ := hR (Nat.mul_pos h hsz)
        cases e
    simpa using Src.ofNil w (size := size) hk c
  | some a =>
    refine Src.ofSlice w hk a n c _ (by simp) (fun j u hu => ?_) (fun u hu => ?_)
    · have hj : j < n * size := by have := (List.getElem?_eq_some_iff.1 hu).1; simpa using this
      obtain ⟨b, off, e, _, hc⟩ := hR (by omega)
      injection e with e
      subst e
      rw [Addr.add_mid, hc j hj]
      simpa [hj] using hu
    · obtain ⟨k, hk', rfl⟩ := List.mem_map.1 hu
      exact h1 k (by simpa using hk')
end
/-- An owned row reads as a function of the index. -/
theorem rd_of_own {w : World} {base : Nat} {e : TypeId} {size : Nat} {A : Option Addr} {n c : Nat} {xs : List Value} (h : w.ownsRow base e size (.slice A n c) n xs) : Rd w w.heap.size A (n * size) (fun k => xs.getD k undef) := by
  intro hn
  rcases h.2 with ⟨e1, rfl⟩ | ⟨g, cap, cur, e1, hbg, hg, hnc, hcm, hcs, htake⟩
  · omega
  · injection e1 with e1 _ _
    subst e1
    refine ⟨g, 0, rfl, (Array.getElem?_eq_some_iff.1 hg).1, fun k hk => ?_⟩
    have hk' : k < xs.length := by have := h.1; omega
    have hc := h.cells (g := g) rfl k xs[k] (List.getElem?_eq_getElem hk')
    rw [Addr.add_mid] at hc
    rw [hc]
    simp [List.getD_eq_getElem?_getD, List.getElem?_eq_getElem hk']
end Go.Proofs.YtkkcbkfpaoldmaaGreatDoor

/- Plain words: the canonical encoding of values, as lists of bytes; no program in sight. -/
namespace Go.Proofs.YtkkcbkfpaoldmaaGreatDoor
open Go.RowKit

/-- The numeral of a number. -/
def numB (u : Nat) : List UInt8 := if u < 128 then [UInt8.ofNat u] else UInt8.ofNat (u % 128 + 128) :: numB (u / 128)
termination_by u
theorem numB_small (u : Nat) (h : u < 128) : numB u = [UInt8.ofNat u] := by rw [numB, if_pos h]
theorem numB_step (u : Nat) (h : 128 ≤ u) : numB u = UInt8.ofNat (u % 128 + 128) :: numB (u / 128) := by rw [numB, if_neg (by omega)]
theorem numB_len (k : Nat) : ∀ u, u < 128 ^ k → 0 < k → (numB u).length ≤ k := by
  induction k with
  | zero => intro u _ h; omega
  | succ k ih =>
    intro u hu _
    by_cases h : u < 128
    · rw [numB_small u h]; simp
    · rw [numB_step u (by omega)]
      have h1 : u / 128 < 128 ^ k := by
        rw [Nat.div_lt_iff_lt_mul (by decide)]
        rw [Nat.pow_succ] at hu
        exact hu
      have h2 : 0 < k := by
        rcases Nat.eq_zero_or_pos k with h0 | h0
        · subst h0; simp at h1; omega
        · exact h0
      have := ih (u / 128) h1 h2
      simp only [List.length_cons]
      omega
theorem numB_len10 (u : Nat) (h : u < 18446744073709551616) : (numB u).length ≤ 10 := numB_len 10 u (by omega) (by decide)
/-- The encodings of an integer that is not negative, of a text, of a list of encodings. -/
def intB (n : Nat) : List UInt8 := 1 :: numB (2 * n)
def textB (l : List UInt8) : List UInt8 := 2 :: (numB l.length ++ l)
def listB (es : List (List UInt8)) : List UInt8 := 3 :: (numB es.length ++ es.flatten)
theorem or128_all : ∀ x : Fin 256, bits .or .u8 ((x.val : Nat) : Int) 128 = ((x.val % 128 + 128 : Nat) : Int) := by decide +kernel
theorem or128 (u : Nat) : bits .or .u8 ((u : Int) % 256) 128 = ((UInt8.ofNat (u % 128 + 128)).toNat : Int) := by
  have h := or128_all ⟨u % 256, Nat.mod_lt _ (by decide)⟩
  simp only at h
  rw [UInt8.toNat_ofNat_of_lt' (by omega : u % 128 + 128 < 256), show ((u : Int) % 256) = ((u % 256 : Nat) : Int) from by omega, h, show u % 256 % 128 = u % 128 from by omega]
theorem u8_id (u : Nat) (h : u < 128) : (u : Int) = ((UInt8.ofNat u).toNat : Int) := by
  rw [UInt8.toNat_ofNat_of_lt' (by omega : u < 256)]
theorem u8_mod (u : Nat) (h : u < 128) : (u : Int) % 256 = ((UInt8.ofNat u).toNat : Int) := by
  rw [UInt8.toNat_ofNat_of_lt' (by omega : u < 256)]; omega
end Go.Proofs.YtkkcbkfpaoldmaaGreatDoor

/- A region that draws its order: its first n operations only read (their callees may draw), the rest comes in one order behind them. -/
namespace Go.Proofs.YtkkcbkfpaoldmaaGreatDoor
open Go

section
variable {P : Program} {ops : Array Oper} {md : Region.Mode} {C : World → Prop} {n : Nat} {R : Act → Prop}

/-- f operations of the head are still to come, in whatever order; then the rest is ready in one order, and R holds. -/
def HeadQ (P : Program) (md : Region.Mode) (ops : Array Oper) (C : World → Prop) (n : Nat) (R : Act → Prop) : Nat → Array Bool → Act → Prop
  | 0, listed, a => Region.seqB md ops (ops.size - n) n listed = true ∧ R a
  | f + 1, listed, a => Region.ready md ops listed ≠ [] ∧ ∀ i, i ∈ Region.ready md ops listed → i < n ∧ qOp P ops C i (HeadQ P md ops C n R f (listed.setIfInBounds i true)) a

theorem HeadQ.any {l : List Oper} {Q' : Exit → Act → World → Prop} (hl : ∀ j, l[j]? = ops[n + j]?) (hg : l.length = ops.size - n) (hR : ∀ a w, C w → R a → wpList P ops Q' l a w) (f : Nat) :
    ∀ (listed : Array Bool) (a : Act) (w : World), C w → HeadQ P md ops C n R f listed a → wpAny P md ops Q' (f + l.length) listed a w := by
  induction f with
  | zero =>
    intro listed a w hw h
    rw [Nat.zero_add]
    exact wpAny_of_seq l n listed a w hl (by rw [hg]; exact h.1) (hR a w hw h.2)
  | succ f ih =>
    intro listed a w hw h
    rw [Nat.add_right_comm]
    exact ⟨fun e => absurd e h.1, fun i hi => wpOp_of_qOp hw (fun a' w' hw' h' => ih _ a' w' hw' h') (h.2 i hi).2⟩

/-- If operation i can come first, it may as well come later. -/
theorem HeadQ.first {i : Nat} {oi : Oper} {v : Value} (hi : ops[i]? = some oi) (hsel : ∀ (j : Nat) (o : Oper) cs b, ops[j]? = some o → o.op ≠ .select cs b)
    (hs : Region.sinkB md ops n = true) (hc : Region.chainB md ops n = true) (hn : n < ops.size) (hin : i < n) (f : Nat) :
    ∀ (listed : Array Bool) (a : Act), HeadInv md ops n listed →
      (∀ j oj, ops[j]? = some oj → j ≠ i → listed.getD j true = false → (∀ e ∈ oj.after, Region.binds md e = true → e.on ≠ i) → oi.apart ops oj = true) →
      i ∈ Region.ready md ops listed → YieldsIn P ops C oi v a →
      HeadQ P md ops C n R f (listed.setIfInBounds i true) (a.put oi.dst v) → HeadQ P md ops C n R (f + 1) listed a := by
  induction f with
  | zero =>
    intro listed a inv _ hr hy H
    refine ⟨List.ne_nil_of_mem hr, fun j hj => ?_⟩
    have hjn : j < n := Nat.lt_of_not_le fun h => tail_waits hs hc hn inv _ i rfl hin (mem_ready.1 hr).1 j h hj
    refine ⟨hjn, ?_⟩
    by_cases e : j = i
    · subst e
      exact hy.qOp hi H
    · exact absurd (seqB_ready H.1 j (ready_mono hj e)) (by omega)
  | succ f ih =>
    intro listed a inv hfree hr hy H
    refine ⟨List.ne_nil_of_mem hr, fun j hj => ?_⟩
    have hjn : j < n := Nat.lt_of_not_le fun h => tail_waits hs hc hn inv _ i rfl hin (mem_ready.1 hr).1 j h hj
    refine ⟨hjn, ?_⟩
    by_cases e : j = i
    · subst e
      exact hy.qOp hi H
    · obtain ⟨hjun, oj, hoj, hall⟩ := mem_ready.1 hj
      have hnot : ∀ x ∈ oj.after, Region.binds md x = true → x.on ≠ i := by
        intro x hx hb ex
        have h0 := hall x hx hb
        rw [ex, getD_both (mem_ready.1 hr).1] at h0
        cases h0
      have hmove := qOp_put hoj (hfree j oj hoj e hjun hnot) (fun cs b => hsel i oi cs b hi) (fun cs b => hsel j oj cs b hoj) hy (H.2 j (ready_mono hj e)).2
      refine qOp_mono (fun a' h3 => ih (listed.setIfInBounds j true) a' (inv.set hj hjn) ?_ (ready_mono hr (Ne.symm e)) h3.1 ?_) hmove
      · intro k ok hk hki hun hno
        refine hfree k ok hk hki ?_ hno
        by_cases ejk : j = k
        · subst ejk
          exact hjun
        · rwa [getD_set_ne true ejk] at hun
      · rw [Array.setIfInBounds_comm _ _ e]
        exact h3.2

theorem HeadQ.lex (hsel : Region.noSelect ops = true) (hs : Region.sinkB md ops n = true) (hc : Region.chainB md ops n = true) (hn : n < ops.size) (l : List Oper) :
    ∀ (k : Nat) (listed : Array Bool) (a : Act), (∀ j, j < l.length → l[j]? = ops[k + j]?) → k + l.length = n → HeadInv md ops n listed →
    Region.lexHead md ops (ops.size - n) l.length k listed = true → wpQuiet P ops C R l a → HeadQ P md ops C n R l.length listed a := by
  induction l with
  | nil =>
    intro k listed a _ hk _ hB h
    obtain rfl : k = n := by simpa using hk
    exact ⟨by simpa [Region.lexHead] using hB, h⟩
  | cons o l ih =>
    intro k listed a hl hk inv hB h
    have h0 : ops[k]? = some o := by simpa using (hl 0 (by simp)).symm
    simp only [List.length_cons] at hk
    simp only [List.length_cons, Region.lexHead, Bool.and_eq_true, List.contains_iff_mem] at hB
    have hq : qOp P ops C k (wpQuiet P ops C R l) a := by unfold qOp; simp only [h0]; exact h
    obtain ⟨v, hy, hK⟩ := yieldsIn_of_qOp h0 hq
    refine HeadQ.first h0 (Region.noSelect_spec hsel) hs hc hn (by omega) l.length listed a inv (Region.free_spec h0 hB.1.2) hB.1.1 hy ?_
    refine ih (k + 1) _ _ (fun j hj => ?_) (by omega) (inv.set hB.1.1 (by omega)) hB.2 hK
    have := hl (j + 1) (by simpa using hj)
    rwa [List.getElem?_cons_succ, show k + (j + 1) = k + 1 + j by omega] at this

/-- The head is walked once, in the order of the text, in any world that differs from w by draws alone; then the tail. -/
theorem wp_region_quiet_tail {id : Nat} {Q : Exit → Act → World → Prop} {a : Act} {w : World} {l : List Oper} (n : Nat) (hm : P.follows .mixedOrders = true) (hB : Region.lexTailB .any l.toArray n = true)
    (h : wpQuiet P l.toArray (fun w' => ∃ q, w' = w.drewN q) (fun a' => ∀ w', (∃ q, w' = w.drewN q) → wpList P l.toArray Q (l.drop n) a' w') (l.take n) a) : (Code.region id l.toArray true).wp P Q a w := by
  simp only [Region.lexTailB, Bool.and_eq_true, decide_eq_true_eq] at hB
  obtain ⟨⟨⟨⟨hsel, hn⟩, hs⟩, hc⟩, hlex⟩ := hB
  have hn' : n < l.length := by simpa using hn
  have htl : (l.take n).length = n := by simp; omega
  have inv0 : HeadInv .any l.toArray n (Array.replicate l.toArray.size false) :=
    ⟨by simp, fun j oj _ hl => (by rw [getD_replicate_false] at hl; cases hl), fun t _ ht => getD_in (by simpa using ht) (getD_replicate_false _ _)⟩
  have H := HeadQ.lex (md := .any) hsel hs hc hn (l.take n) 0 _ a (fun j hj => by rw [htl] at hj; simp [hj]) (by rw [htl, Nat.zero_add]) inv0 (by rw [htl]; exact hlex) h
  refine wp_region_any hm ?_
  have := HeadQ.any (l := l.drop n) (Q' := Q) (fun j => by simp [List.getElem?_drop]) (by simp) (fun a' w' hw' h' => h' w' hw') _ _ _ { w with drawn := w.drawn + 1 } ⟨1, rfl⟩ H
  rwa [htl, List.length_drop, show n + (l.length - n) = l.toArray.size by simp; omega] at this
end
end Go.Proofs.YtkkcbkfpaoldmaaGreatDoor

/- A region's walk in whatever order, turned into the walk within a round of a loop over an iterator. -/
namespace Go.Proofs.YtkkcbkfpaoldmaaGreatDoor
open Go

section
variable {P : Program} {ops : Array Oper} {md : Region.Mode} {Q : Exit → Act → World → Prop} {l n : Nat}

theorem rowsIn_of {row : String} {args : Array Value} {w : World} {R : Value → World → Prop} (h : Rows P row args w R) : RowsIn (Fence.wide.inRound l) n P row args w R := fun c cs _ => by
  obtain ⟨v, w', hr, hs⟩ := h c cs
  exact ⟨v, w', hr, stepsIn_wide.2 hs⟩
theorem opIn_of_op {o : Oper} {a : Act} {w : World} {K : Act → World → Prop} (hnd : ∀ c, o.op ≠ .defer c) (h : o.wp P a w K Q) : o.wpIn (Fence.wide.inRound l) n P a w K Q := by
  refine ⟨fun f _ => trivial, ?_⟩
  show o.uponIn (Fence.wide.inRound l) n P a K Q ((o.semAt (some l) a.eval).run P w)
  rw [Oper.semAt_some l _ _ hnd]
  unfold Oper.wp at h
  generalize (execOp a.eval o).run P w = r at *
  cases r with
  | ok nx w' =>
    cases nx with
    | value v => exact h
    | skip => exact h
    | defer d => exact h
    | enter f args => exact ⟨fun e => (by cases e), CallsIn.inRound l (callsIn_wide.2 h)⟩
    | row row args => exact ⟨fun e => (by cases e), rowsIn_of h⟩
    | _ => exact h.elim
  | halt x w' => cases x <;> first | exact h | exact h.elim
theorem wpOpIn_of {i : Nat} {a : Act} {w : World} {K : Act → World → Prop} (hnd : ∀ (j : Nat) (o : Oper), ops[j]? = some o → ∀ c, o.op ≠ .defer c) (hlo : ¬ LetsOut Q) (h : wpOp P ops Q i K a w) : wpOpIn (Fence.wide.inRound l) n P ops Q i K a w := by
  unfold wpOp at h
  unfold wpOpIn
  split
  · next ho => simpa only [ho] using h
  · next o ho =>
    simp only [ho] at h
    split
    · next hw =>
      simp only [hw, if_true] at h
      rcases h with h | ⟨_, h⟩
      · exact opIn_of_op (hnd i o ho) h
      · exact absurd h hlo
    · next hw =>
      simp only [hw] at h
      exact ⟨fun f _ => trivial, h⟩
theorem wpAnyIn_of (hnd : ∀ (j : Nat) (o : Oper), ops[j]? = some o → ∀ c, o.op ≠ .defer c) (hlo : ¬ LetsOut Q) : ∀ (fuel : Nat) (listed : Array Bool) (a : Act) (w : World), wpAny P md ops Q fuel listed a w → wpAnyIn (Fence.wide.inRound l) n P md ops Q fuel listed a w
  | 0, _, _, _, h => h
  | fuel + 1, _, _, _, h => ⟨h.1, fun i hi => wpOpIn_of hnd hlo (wpOp_mono (fun a' w' h' => wpAnyIn_of hnd hlo fuel _ a' w' h') (h.2 i hi))⟩
/-- No operation of the region defers (a look for the kernel). -/
def noDefer (ops : Array Oper) : Bool := ops.all fun o => match o.op with | .defer _ => false | _ => true
theorem noDefer_spec (h : noDefer ops = true) : ∀ (j : Nat) (o : Oper), ops[j]? = some o → ∀ c, o.op ≠ .defer c := fun j o ho c e => by
  have := (Array.all_eq_true_iff_forall_mem.1 h) o (Array.mem_of_getElem? ho)
  rw [e] at this
  cases this
/-- A plain region's operations within a round: walked with the plain laws for 'wpList'. -/
theorem wpListIn_of (hlo : ¬ LetsOut Q) : ∀ (rest : List Oper) (_ : ∀ o ∈ rest, ∀ c, o.op ≠ .defer c) (a : Act) (w : World), wpList P ops Q rest a w → wpListIn (Fence.wide.inRound l) n P ops Q rest a w
  | [], _, _, _, h => h
  | o :: rest, hnd, a, w, h => by
    unfold wpList at h
    unfold wpListIn
    split
    · next hw =>
      rw [if_pos hw] at h
      rcases h with h | ⟨_, h⟩
      · exact opIn_of_op (hnd o (List.mem_cons_self ..)) (Oper.wp_mono (fun a' w' h' => wpListIn_of hlo rest (fun o' ho' => hnd o' (List.mem_cons_of_mem _ ho')) a' w' h') h)
      · exact absurd h hlo
    · next hw =>
      rw [if_neg hw] at h
      exact ⟨fun f _ => trivial, wpListIn_of hlo rest (fun o' ho' => hnd o' (List.mem_cons_of_mem _ ho')) _ _ h⟩
theorem wpIn_region_list_of {id : Nat} {L : List Oper} {a : Act} {w : World} (hnd : noDefer L.toArray = true) (hlo : ¬ LetsOut Q)
    (h : wpList P L.toArray Q L a w) : (Code.region id L.toArray false).wpIn (Fence.wide.inRound l) n P Q a w :=
  wpIn_region_lit (wpListIn_of hlo L (fun o ho c e => by
    have := (Array.all_eq_true_iff_forall_mem.1 hnd) o (by simpa using ho)
    rw [e] at this
    cases this) a w h)
/-- A region that draws, within a round: walked with the plain laws for 'wpAnyH'. -/
theorem wpIn_region_held {S : World → Prop} {id : Nat} {a : Act} {w : World} (hm : P.follows .mixedOrders = true) (hnd : noDefer ops = true) (hlo : ¬ LetsOut Q) (hS : S w.drew)
    (h : S w.drew → wpAnyH P .any ops Q S ops.size (Array.replicate ops.size false) a w.drew) : (Code.region id ops true).wpIn (Fence.wide.inRound l) n P Q a w :=
  wpIn_region_any hm (wpAnyIn_of (noDefer_spec hnd) hlo _ _ _ _ (wpAny_of_held _ _ _ _ (h hS)))
end
end Go.Proofs.YtkkcbkfpaoldmaaGreatDoor

/- Walks: rotations, words. -/
namespace Go.Proofs.YtkkcbkfpaoldmaaGreatDoor
open Go.RowKit

set_option maxHeartbeats 400000 in
theorem rotl_any (x k : Int) (n : Nat) (w : World) (hk : bits .and .u64 (IntKind.u64.wrap k) 31 = (n : Int)) (hn : n ≤ 31) :
    Calls Tryz.prog 149 #[.int .u32 x, .int .i64 k] w fun e w' => e = .returned (.int .u32 (rotL x n)) ∧ w = w' := by
  go_enter Tryz.func149, Tryz.ntmps149
  go_wp2
  go_ret
  exact ⟨rfl, rfl⟩

set_option maxHeartbeats 400000 in
theorem rotated_a (x : Int) (w : World) :
    Calls Tryz.prog 150 #[.int .u32 x, .int .i64 6, .int .i64 11, .int .i64 25] w fun e w' => e = .returned (.int .u32 (rot3 x 6 11 25)) ∧ w = w' := by
  go_enter Tryz.func150, Tryz.ntmps150
  go_wp2_with fail
  refine (rotl_any _ (-6) 26 _ (by decide) (by decide)).mono ?_; rintro e w' ⟨rfl, rfl⟩
  go_wp2_with fail
  refine (rotl_any _ (-11) 21 _ (by decide) (by decide)).mono ?_; rintro e w' ⟨rfl, rfl⟩
  go_wp2_with fail
  refine (rotl_any _ (-25) 7 _ (by decide) (by decide)).mono ?_; rintro e w' ⟨rfl, rfl⟩
  go_wp2_with fail
  go_ret
  exact ⟨rfl, rfl⟩

set_option maxHeartbeats 400000 in
theorem rotated_b (x : Int) (w : World) :
    Calls Tryz.prog 150 #[.int .u32 x, .int .i64 2, .int .i64 13, .int .i64 22] w fun e w' => e = .returned (.int .u32 (rot3 x 2 13 22)) ∧ w = w' := by
  go_enter Tryz.func150, Tryz.ntmps150
  go_wp2_with fail
  refine (rotl_any _ (-2) 30 _ (by decide) (by decide)).mono ?_; rintro e w' ⟨rfl, rfl⟩
  go_wp2_with fail
  refine (rotl_any _ (-13) 19 _ (by decide) (by decide)).mono ?_; rintro e w' ⟨rfl, rfl⟩
  go_wp2_with fail
  refine (rotl_any _ (-22) 10 _ (by decide) (by decide)).mono ?_; rintro e w' ⟨rfl, rfl⟩
  go_wp2_with fail
  go_ret
  exact ⟨rfl, rfl⟩

set_option maxHeartbeats 400000 in
theorem word_any (b off len cap : Nat) (f : Nat → Int) (w : World) (hcap : 4 ≤ cap) (hc : ∀ k, k < 4 → w.cell? ⟨b, off + k, none⟩ = some (.int .u8 (f k))) :
    Calls Tryz.prog 148 #[.slice (some ⟨b, off, none⟩) len cap] w fun e w' => e = .returned (.int .u32 (wordTo f 4)) ∧ w = w' := by
  go_enter Tryz.func148, Tryz.ntmps148
  go_wp2
  go_loop [2, 8] (fun n i => ∃ k : Nat, k ≤ 4 ∧ i = .int .i64 k ∧ n = .int .u32 (wordTo f k)) (fun _ i => 4 - (intOf i).toNat)
  case atStart => exact ⟨0, Nat.zero_le _, rfl, rfl⟩
  case round =>
    obtain ⟨k, hk, rfl, rfl⟩ := hrel
    by_cases hlt : k < 4
    · have hcell := hc k hlt
      go_wp2
      go_round
      case rel => exact ⟨k + 1, by omega, by go_num, rfl⟩
      case measure => simp [intOf]; omega
    · go_wp2
      go_ret
      obtain rfl : k = 4 := by omega
      exact ⟨rfl, rfl⟩

end Go.Proofs.YtkkcbkfpaoldmaaGreatDoor

/- Walk: digest.put. -/
namespace Go.Proofs.YtkkcbkfpaoldmaaGreatDoor
open Go.RowKit

def PutPost (g : Nat) (t : TypeId) (cs : Array Value) (w : World) (e : Ending) (w' : World) : Prop := e = .returned (.tuple #[]) ∧ Blk w' g t cs ∧ Only w w' g

set_option maxHeartbeats 400000 in
theorem put_any (g off n cap : Nat) (t : TypeId) (cs : Array Value) (x : Int) (w : World) (hB : Blk w g t cs) (hn : n ≤ 8) (hfit : off + n ≤ cs.size) :
    Calls Tryz.prog 144 #[.slice (some ⟨g, off, none⟩) n cap, .int .u64 x] w (PutPost g t (putTo cs off n x n) w) := by
  go_enter Tryz.func144, Tryz.ntmps144
  go_wp2
  go_loopw [7] (fun i wr => ∃ k : Nat, k ≤ n ∧ i = .int .i64 k ∧ Blk wr g t (putTo cs off n x k) ∧ Only w wr g) (fun i _ => n - (intOf i).toNat)
  case atStart => exact ⟨0, Nat.zero_le _, rfl, hB, Only.refl _ _⟩
  case round =>
    obtain ⟨k, hk, rfl, hb, ho⟩ := hrel
    by_cases hlt : k < n
    · obtain ⟨v, hcell⟩ := hb.some_ (i := off + (n - 1 - k)) (by rw [putTo_size]; omega)
      have hfz := hb.frozen (off + (n - 1 - k))
      go_wp2
      go_roundw
      case rel => exact ⟨k + 1, by omega, by go_num, hb.set _ _, ho.set (.inl rfl) _⟩
      case measure => simp [intOf]; omega
    · go_wp2
      go_end0
      obtain rfl : k = n := by omega
      exact ⟨rfl, hb, ho⟩
end Go.Proofs.YtkkcbkfpaoldmaaGreatDoor

/- Walk: draw.Take. -/
namespace Go.Proofs.YtkkcbkfpaoldmaaGreatDoor
open Go.RowKit

/-- What draw.Take returns. -/
def takeOf (word n : Int) : Int × Bool × Int :=
  if word < 0 ∨ 4294967296 ≤ word ∨ n < 1 ∨ 4096 < n then (0, false, 1) else if 4294967296 - 4294967296 % n ≤ word then (0, false, 0) else (word % n, true, 0)
def takeV (r : Int × Bool × Int) : Value := .tuple #[.int .i64 r.1, .bool r.2.1, .int .i64 r.2.2]
set_option maxRecDepth 100000 in
set_option maxHeartbeats 1000000 in
theorem take_any (word n : Int) (h0 : -9223372036854775808 ≤ word) (h1 : word < 9223372036854775808) (h2 : -9223372036854775808 ≤ n) (h3 : n < 9223372036854775808) (w : World) :
    Calls Tryz.prog 102 #[.int .i64 word, .int .i64 n] w (fun e w' => e = .returned (takeV (takeOf word n)) ∧ w = w') := by
  have hmod : 0 < n → 0 ≤ 4294967296 % n ∧ 4294967296 % n < n := fun h => ⟨Int.emod_nonneg _ (by omega), Int.emod_lt_of_pos _ h⟩
  by_cases c1 : word < 0
  · rw [show takeOf word n = (0, false, 1) from if_pos (.inl c1)]
    clear hmod
    go_enter Tryz.func102, Tryz.ntmps102
    go_wp2
    all_goals go_ret3
    all_goals exact ⟨rfl, rfl⟩
  by_cases c2 : 4294967296 ≤ word
  · rw [show takeOf word n = (0, false, 1) from if_pos (.inr (.inl c2))]
    clear hmod
    go_enter Tryz.func102, Tryz.ntmps102
    go_wp2
    all_goals go_ret3
    all_goals exact ⟨rfl, rfl⟩
  by_cases c3 : n < 1
  · rw [show takeOf word n = (0, false, 1) from if_pos (.inr (.inr (.inl c3)))]
    clear hmod
    go_enter Tryz.func102, Tryz.ntmps102
    go_wp2
    all_goals go_ret3
    all_goals exact ⟨rfl, rfl⟩
  by_cases c4 : 4096 < n
  · rw [show takeOf word n = (0, false, 1) from if_pos (.inr (.inr (.inr c4)))]
    clear hmod
    go_enter Tryz.func102, Tryz.ntmps102
    go_wp2
    all_goals go_ret3
    all_goals exact ⟨rfl, rfl⟩
  obtain ⟨m0, m1⟩ := hmod (by omega)
  have hr0 : 0 ≤ word % n := Int.emod_nonneg _ (by omega)
  have hr1 : word % n < n := Int.emod_lt_of_pos _ (by omega)
  have hm : (4294967296 : Int).tmod n = 4294967296 % n := Int.tmod_eq_emod_of_nonneg (by omega)
  have hw : word.tmod n = word % n := Int.tmod_eq_emod_of_nonneg (by omega)
  by_cases c5 : 4294967296 - 4294967296 % n ≤ word
  · rw [show takeOf word n = (0, false, 0) by rw [takeOf, if_neg (by omega), if_pos c5]]
    go_enter Tryz.func102, Tryz.ntmps102
    go_wp2
    all_goals go_ret3
    all_goals exact ⟨rfl, rfl⟩
  · rw [show takeOf word n = (word % n, true, 0) by rw [takeOf, if_neg (by omega), if_neg c5]]
    go_enter Tryz.func102, Tryz.ntmps102
    go_wp2
    all_goals go_ret3
    all_goals exact ⟨rfl, rfl⟩
end Go.Proofs.YtkkcbkfpaoldmaaGreatDoor

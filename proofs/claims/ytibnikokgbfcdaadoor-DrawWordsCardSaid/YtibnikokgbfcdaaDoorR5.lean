/- Walk: podiumref02.padded. -/
import Derived.Test.YtibnikokgbfcdaaDoorR1
namespace Go.Proofs.YtibnikokgbfcdaaDoor
open Go.RowKit

theorem byteAt_append (a b : List UInt8) (k : Nat) : byteAt (a ++ b) k = if k < a.length then byteAt a k else byteAt b (k - a.length) := by
  unfold byteAt
  simp only [List.getD_eq_getElem?_getD]
  split
  · next h => rw [List.getElem?_append_left h]
  · next h => rw [List.getElem?_append_right (by omega)]
theorem byteAt_range (l : List UInt8) (k : Nat) : 0 ≤ byteAt l k ∧ byteAt l k < 256 := by
  have := (l.getD k 0).toNat_lt
  unfold byteAt
  omega
def padTo (l : List UInt8) (z : Nat) : List UInt8 := l ++ 128 :: List.replicate z 0
def lenOf : Value → Nat
  | .slice _ n _ => n
  | _ => 0
theorem padTo_len (l : List UInt8) (z : Nat) : (padTo l z).length = l.length + 1 + z := by simp [padTo]; omega
theorem padTo_succ (l : List UInt8) (z : Nat) : padTo l (z + 1) = padTo l z ++ [0] := by simp [padTo, List.replicate_succ']
def beL (x : Int) (j : Nat) : List UInt8 := (List.range (8 - j)).map fun t => UInt8.ofNat (byteOf x (7 - t)).toNat
theorem beL_len (x : Int) (j : Nat) : (beL x j).length = 8 - j := by simp [beL]
theorem beL_step (x : Int) (i : Nat) (h : i < 8) : beL x i = beL x (i + 1) ++ [UInt8.ofNat (byteOf x i).toNat] := by
  rw [beL, beL, show 8 - i = 8 - (i + 1) + 1 by omega, List.range_succ, List.map_append, List.map_singleton, show 7 - (8 - (i + 1)) = i by omega]
def zerosOf (n : Nat) : Nat := 64 * ((n + 8) / 64) + 56 - (n + 1)
def padL (l : List UInt8) : List UInt8 := padTo l (zerosOf l.length) ++ beL (l.length * 8) 0
theorem padL_len (l : List UInt8) : (padL l).length = 64 * ((l.length + 8) / 64 + 1) := by
  rw [padL, List.length_append, padTo_len, beL_len, zerosOf]
  omega
theorem padL_get (l : List UInt8) (k : Nat) (hk : k < 64 * ((l.length + 8) / 64 + 1)) : byteAt (padL l) k = padAt (byteAt l) l.length k := by
  rw [padL, byteAt_append, padTo_len, zerosOf, padAt]
  by_cases h1 : k < l.length
  · rw [if_pos (by omega), if_pos h1, padTo, byteAt_append, if_pos h1]
  · rw [if_neg h1]
    by_cases h2 : k = l.length
    · rw [if_pos (by omega), if_pos h2, padTo, byteAt_append, if_neg h1, h2, Nat.sub_self]
      rfl
    · rw [if_neg h2]
      by_cases h3 : k < 64 * ((l.length + 8) / 64) + 56
      · rw [if_pos (by omega), if_pos h3, padTo, byteAt_append, if_neg h1]
        obtain ⟨m, hm⟩ : ∃ m, k - l.length = m + 1 := ⟨k - l.length - 1, by omega⟩
        rw [hm]
        unfold byteAt
        rw [List.getD_eq_getElem?_getD, List.getElem?_cons_succ, List.getElem?_replicate]
        split <;> rfl
      · rw [if_neg (by omega), if_neg h3]
        obtain ⟨m, hm, hm8⟩ : ∃ m, k - (l.length + 1 + (64 * ((l.length + 8) / 64) + 56 - (l.length + 1))) = m ∧ m < 8 := ⟨_, rfl, by omega⟩
        rw [hm, show 64 * ((l.length + 8) / 64) + 63 - k = 7 - m by omega]
        unfold byteAt beL
        rw [List.getD_eq_getElem?_getD, List.getElem?_map, List.getElem?_range (by omega)]
        have hb := byteOf_range ((l.length : Int) * 8) (7 - m)
        exact u8_of _ hb.1 hb.2
theorem padAt_range (l : List UInt8) (k : Nat) : 0 ≤ padAt (byteAt l) l.length k ∧ padAt (byteAt l) l.length k < 256 := by
  unfold padAt
  split
  · exact byteAt_range l k
  · split
    · decide
    · split
      · decide
      · exact byteOf_range _ _

set_option maxRecDepth 100000 in
set_option maxHeartbeats 2000000 in
theorem rpadded_any (l : List UInt8) (A : Option Addr) (c : Nat) (w : World) (hA : RdB w w.heap.size A l) (hl : l.length ≤ 140737488300000) :
    Calls Tryd.prog 131 #[.slice A l.length c] w (OwnPost (padL l) w) := by
  obtain ⟨n, hn⟩ : ∃ n, n = l.length := ⟨_, rfl⟩
  have hs0 := fun W (hb : Below w.heap.size w W) => src_bytes W (c := c) (hA.below hb)
  rw [← hn] at hl hs0 ⊢
  have HS := Lib.hid hs0
  have HN := Lib.hid hn
  have h8 : IntKind.u64.wrap (n : Int) = n := by rw [IntKind.wrap_u64]; omega
  clear hs0 hn hA
  have hO0 : (w.alloc (.cells #[] 5)).ownsRow w.heap.size 5 1 (.slice (some ⟨w.heap.size, 0, none⟩) 0 0) 0 [] := own_bytes_new w w.heap.size (Nat.le_refl _) [] (by simp only [maxLen, List.length_nil]; omega)
  have hB0 : Below w.heap.size w (w.alloc (.cells #[] 5)) := (Below.refl _ w).alloc (Nat.le_refl _) _
  go_enter Tryd.func131, Tryd.ntmps131
  go_wp2_with (first
    | (at_builtin; refine app_bytes _ rfl _ _ 39 rfl w.heap.size _ 0 [] rfl hO0 _ n (bcells l) rfl (HS.out _ hB0) (by omega) hB0.size ?_; intro v2 w2 hown2 hg2; have hsz2 : w.heap.size ≤ w2.heap.size := Nat.le_trans hB0.size hg2.1.size; rw [Nat.zero_add, List.nil_append] at hown2)
    | (at_builtin; refine app_byte rfl _ _ rfl w.heap.size w2 v2 n (bcells l) rfl hown2 128 128 rfl _ rfl (by omega) hsz2 ?_; intro v3 w3 hown3 hg3))
  have hB2 : Below w.heap.size w w2 := hB0.trans (hg2.below hB0.size fun k hk => (hO0.lt k hk).1)
  have hB3 : Below w.heap.size w w3 := hB2.trans (hg3.below hsz2 fun k hk => (hown2.lt k hk).1)
  clear hO0 hB0 hB2 hg2 hg3 hown2 hsz2
  obtain ⟨Z, hZ⟩ : ∃ Z, Z = zerosOf n := ⟨_, rfl⟩
  have hZ' : Z = 64 * ((n + 8) / 64) + 56 - (n + 1) := hZ
  go_loopw [3] (fun v wr => ∃ z : Nat, z ≤ Z ∧ wr.ownsRow w.heap.size 5 1 v (n + 1 + z) (bcells (padTo l z)) ∧ Below w.heap.size w wr) (fun v _ => Z - (lenOf v - (n + 1)))
  case atStart => exact ⟨0, by omega, by simpa [padTo, bcells] using hown3, hB3⟩
  case round =>
    clear hown3 hB3
    obtain ⟨z, hz, hown, hB⟩ := hrel
    obtain ⟨A3, c3, rfl⟩ : ∃ A3 c3, u3 = .slice A3 (n + 1 + z) c3 := by
      rcases hown.2 with ⟨_, h0⟩ | ⟨g, cap, cur, e, _⟩
      · omega
      · exact ⟨_, _, e⟩
    by_cases hlt : z < Z
    · have hne : ¬ (((n : Int) + 1 + (z : Int)) % 64 = 56) := by omega
      go_wp2_with (at_builtin; refine app_byte rfl _ _ rfl w.heap.size wr (.slice A3 (n + 1 + z) c3) (n + 1 + z) (bcells (padTo l z)) rfl hown 0 0 rfl _ rfl (by omega) hB.size ?_; intro v4 w4 hown4 hg4)
      go_roundw
      case rel => exact ⟨z + 1, by omega, by rw [padTo_succ, bcells_append]; exact hown4, hB.trans (hg4.below hB.size fun k hk => (hown.lt k hk).1)⟩
      case measure =>
        obtain ⟨A4, c4, rfl⟩ : ∃ A4 c4, v4 = .slice A4 (n + 1 + z + 1) c4 := by
          rcases hown4.2 with ⟨_, h0⟩ | ⟨g, cap, cur, e, _⟩
          · omega
          · exact ⟨_, _, e⟩
        simp [lenOf]; omega
    · obtain rfl : z = Z := by omega
      have hne : ((n : Int) + 1 + (z : Int)) % 64 = 56 := by omega
      have HZ := Lib.hid hZ
      have hz70 : z ≤ 64 := by omega
      clear hlt hz hZ hZ'
      go_wp2_with fail
      clear hne
      go_loopw [3, 5] (fun v x wr => ∃ j : Nat, j ≤ 8 ∧ x = .int .i64 ((j : Int) - 1) ∧ wr.ownsRow w.heap.size 5 1 v (n + 1 + z + (8 - j)) (bcells (padTo l z ++ beL ((n : Int) * 8) j)) ∧ Below w.heap.size w wr) (fun _ x _ => (intOf x + 1).toNat)
      case atStart => exact ⟨8, by omega, rfl, by simpa [beL] using hown, hB⟩
      case round =>
        clear hown hB
        obtain ⟨j, hj, hx, hown, hB⟩ := hrel
        cases j with
        | zero =>
          obtain rfl : u5 = .int .i64 (-1) := hx
          go_wp2
          go_ret
          refine ⟨_, rfl, ?_, hB⟩
          have hn := HN.out
          have hz := HZ.out
          subst hn
          rw [padL_len]
          have e : l.length + 1 + z + (8 - 0) = 64 * ((l.length + 8) / 64 + 1) := by rw [hz, zerosOf]; omega
          rw [e] at hown
          rw [padL, ← hz]
          exact hown
        | succ i =>
          obtain rfl : u5 = .int .i64 i := hx.trans (by congr 1; omega)
          have hb := byteOf_range ((n : Int) * 8) i
          have HU := Lib.hid (u8_of _ hb.1 hb.2)
          clear hx hb
          go_wp2_with (at_builtin; refine app_byte rfl _ _ rfl w.heap.size wr u3 (n + 1 + z + (8 - (i + 1))) (bcells (padTo l z ++ beL ((n : Int) * 8) (i + 1))) rfl hown (UInt8.ofNat (byteOf ((n : Int) * 8) i).toNat) _ HU.out.symm _ rfl (by omega) hB.size ?_; intro v4 w4 hown4 hg4)
          go_roundw
          case rel =>
            refine ⟨i, by omega, by go_num, ?_, hB.trans (hg4.below hB.size fun k hk => (hown.lt k hk).1)⟩
            rw [beL_step _ i (by omega), ← List.append_assoc, bcells_append (padTo l z ++ beL _ (i + 1)), show n + 1 + z + (8 - i) = n + 1 + z + (8 - (i + 1)) + 1 by omega]
            exact hown4
          case measure => simp [intOf]
end Go.Proofs.YtibnikokgbfcdaaDoor

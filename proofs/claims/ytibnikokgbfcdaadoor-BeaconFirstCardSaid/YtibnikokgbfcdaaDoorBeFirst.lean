/- The law podiumlaw31.BeaconFirst: for every digest and two numbers she returns true. -/
import Derived.Test.YtibnikokgbfcdaaDoorB10
import Derived.IntWalk
namespace Go.Proofs.YtibnikokgbfcdaaDoor
open Go Go.RowKit

theorem rd_at {w : World} {A : Option Addr} {n : Nat} {f : Nat → Value} (h : Rd w w.heap.size A n f) {k : Nat} (hk : k < n) : ∃ b off, A = some ⟨b, off, none⟩ ∧ w.cell? ⟨b, off + k, none⟩ = some (f k) := by
  obtain ⟨b, off, e, hb, hc⟩ := h (by omega)
  exact ⟨b, off, e, hc k hk⟩
set_option maxRecDepth 100000 in
set_option linter.unusedSimpArgs false in
set_option linter.unusedVariables false in
set_option maxHeartbeats 8000000 in
theorem first_lt (d : List UInt8) (hd : d.length = 32) (a b i k : Nat) (ha : a < 65536) (hb : b < 65536) (hi : a % 4097 = i) (hk : b % 4097 = k) (h : i < k) (w : World) (hL : Laid w) :
    Calls Tryd.prog 20 #[.agg (dig d), .int .u16 a, .int .u16 b] w (Ret (.bool true) w) := by
  have HS := Lib.hid (fun W h => sane31_ok W h)
  have HL := Lib.hid hL
  have hi4 : i ≤ 4096 := by have := Nat.mod_lt a (show 0 < 4097 by decide); omega
  have hk4 : k ≤ 4096 := by have := Nat.mod_lt b (show 0 < 4097 by decide); omega
  have HBP := Lib.hid (fun W (hW : Laid W) => bBits_ok d hd i (by omega) W hW)
  have HBQ := Lib.hid (fun W (hW : Laid W) => bBits_ok d hd k (by omega) W hW)
  have ra : (a : Int) % 4097 = (i : Int) := by omega
  have rb : (b : Int) % 4097 = (k : Int) := by omega
  have hle : (i : Int) ≤ (k : Int) := by omega
  have hlt2 : (i : Int) < (k : Int) := by omega
  clear hL hi hk
  go_enter Tryd.func20, Tryd.ntmps20
  go_wp2_with fail
  refine calls_gen (fun W => Blk W w.heap.size 23 (dig d) ∧ Below w.heap.size w W) ⟨Blk.new _ _ _, (Below.refl _ _).alloc (Nat.le_refl _) _⟩ (fun w0 ⟨bv0, hB0⟩ => ?_)
  refine (HS.out w0 (HL.out.below hB0)).mono ?_
  rintro e w1 ⟨rfl, hb1⟩
  have bv1 := bv0.below hb1 bv0.lt
  have hB1 := hB0.trans (hb1.mono hB0.size)
  clear bv0 hB0 hb1
  go_wp2_with (refine load_dig rfl _ rfl d hd bv1 rfl ?_)
  refine (HBP.out w1 (HL.out.below hB1)).mono ?_
  rintro e w2 ⟨X, xc, rfl, hxc, -, rx2, hb2⟩
  have bv2 := bv1.below hb2 bv1.lt
  have hB2 := hB1.trans (hb2.mono hB1.size)
  clear bv1 hB1 hb2
  go_wp2_with (refine load_dig rfl _ rfl d hd bv2 rfl ?_)
  refine (HBQ.out w2 (HL.out.below hB2)).mono ?_
  rintro e w3 ⟨Y, yc, rfl, hyc, -, ry3, hb3⟩
  have rx3 := (Rd.below rx2 hb3).more hb3.size
  have hB3 := hB2.trans (hb3.mono hB2.size)
  clear bv2 hB2 hb3 rx2
  have n1 : ((i : Int) != (i : Int)) = false := by simp
  have n2 : ((k : Int) != (k : Int)) = false := by simp
  have RX := Lib.hid rx3
  have RY := Lib.hid ry3
  clear rx3 ry3
  go_wp2_with fail
  go_loopw [63] (fun jj wr => ∃ t : Nat, t ≤ k ∧ jj = .int .i64 t ∧ Below w3.heap.size w3 wr) (fun jj _ => k - (intOf jj).toNat)
  case atStart => exact ⟨0, by omega, rfl, Below.refl _ _⟩
  case round =>
    obtain ⟨t, ht, rfl, hBr⟩ := hrel
    by_cases hlt : t < k
    · obtain ⟨yb, yo, rfl, cy⟩ := rd_at ((Rd.below RY.out hBr).more hBr.size) hlt
      rw [show (bitsL d k).getD t 0 = bitAt d t from bitsL_getD d hlt] at cy
      by_cases hx : t < i
      · obtain ⟨xb, xo, rfl, cx⟩ := rd_at ((Rd.below RX.out hBr).more hBr.size) hx
        rw [show (bitsL d i).getD t 0 = bitAt d t from bitsL_getD d hx] at cx
        have g1 : decide ((t : Int) < (i : Int)) = true := decide_eq_true (by omega)
        rcases bitAt_range d t with hbt | hbt
        all_goals
          rw [hbt] at cx cy
          go_wp2_with (refine wpList_skip (by rfl) ?_)
          go_roundw
          case rel => exact ⟨t + 1, by omega, by go_num, hBr⟩
          case measure => simp [intOf]; omega
      · have g1 : decide ((t : Int) < (i : Int)) = false := decide_eq_false (by omega)
        rcases bitAt_range d t with hbt | hbt
        all_goals
          rw [hbt] at cy
          go_wp2_with (refine wpList_skip (by rfl) ?_)
          go_roundw
          case rel => exact ⟨t + 1, by omega, by go_num, hBr⟩
          case measure => simp [intOf]; omega
    · go_wp2_with fail
      go_ret
      exact ⟨rfl, hB3.trans (hBr.mono hB3.size)⟩
set_option maxRecDepth 100000 in
set_option linter.unusedSimpArgs false in
set_option linter.unusedVariables false in
set_option maxHeartbeats 8000000 in
theorem first_eq (d : List UInt8) (hd : d.length = 32) (a b i : Nat) (ha : a < 65536) (hb : b < 65536) (hi : a % 4097 = i) (hk : b % 4097 = i) (w : World) (hL : Laid w) :
    Calls Tryd.prog 20 #[.agg (dig d), .int .u16 a, .int .u16 b] w (Ret (.bool true) w) := by
  have HS := Lib.hid (fun W h => sane31_ok W h)
  have HL := Lib.hid hL
  have hi4 : i ≤ 4096 := by have := Nat.mod_lt a (show 0 < 4097 by decide); omega
  have hk4 : i ≤ 4096 := by have := Nat.mod_lt b (show 0 < 4097 by decide); omega
  have HBP := Lib.hid (fun W (hW : Laid W) => bBits_ok d hd i (by omega) W hW)
  have HBQ := Lib.hid (fun W (hW : Laid W) => bBits_ok d hd i (by omega) W hW)
  have ra : (a : Int) % 4097 = (i : Int) := by omega
  have rb : (b : Int) % 4097 = (i : Int) := by omega
  clear hL hi hk
  go_enter Tryd.func20, Tryd.ntmps20
  go_wp2_with fail
  refine calls_gen (fun W => Blk W w.heap.size 23 (dig d) ∧ Below w.heap.size w W) ⟨Blk.new _ _ _, (Below.refl _ _).alloc (Nat.le_refl _) _⟩ (fun w0 ⟨bv0, hB0⟩ => ?_)
  refine (HS.out w0 (HL.out.below hB0)).mono ?_
  rintro e w1 ⟨rfl, hb1⟩
  have bv1 := bv0.below hb1 bv0.lt
  have hB1 := hB0.trans (hb1.mono hB0.size)
  clear bv0 hB0 hb1
  go_wp2_with (refine load_dig rfl _ rfl d hd bv1 rfl ?_)
  refine (HBP.out w1 (HL.out.below hB1)).mono ?_
  rintro e w2 ⟨X, xc, rfl, hxc, -, rx2, hb2⟩
  have bv2 := bv1.below hb2 bv1.lt
  have hB2 := hB1.trans (hb2.mono hB1.size)
  clear bv1 hB1 hb2
  go_wp2_with (refine load_dig rfl _ rfl d hd bv2 rfl ?_)
  refine (HBQ.out w2 (HL.out.below hB2)).mono ?_
  rintro e w3 ⟨Y, yc, rfl, hyc, -, ry3, hb3⟩
  have rx3 := (Rd.below rx2 hb3).more hb3.size
  have hB3 := hB2.trans (hb3.mono hB2.size)
  clear bv2 hB2 hb3 rx2
  have n1 : ((i : Int) != (i : Int)) = false := by simp
  have n2 : ((i : Int) != (i : Int)) = false := by simp
  have RX := Lib.hid rx3
  have RY := Lib.hid ry3
  clear rx3 ry3
  go_wp2_with fail
  go_loopw [63] (fun jj wr => ∃ t : Nat, t ≤ i ∧ jj = .int .i64 t ∧ Below w3.heap.size w3 wr) (fun jj _ => i - (intOf jj).toNat)
  case atStart => exact ⟨0, by omega, rfl, Below.refl _ _⟩
  case round =>
    obtain ⟨t, ht, rfl, hBr⟩ := hrel
    by_cases hlt : t < i
    · obtain ⟨yb, yo, rfl, cy⟩ := rd_at ((Rd.below RY.out hBr).more hBr.size) hlt
      rw [show (bitsL d i).getD t 0 = bitAt d t from bitsL_getD d hlt] at cy
      by_cases hx : t < i
      · obtain ⟨xb, xo, rfl, cx⟩ := rd_at ((Rd.below RX.out hBr).more hBr.size) hx
        rw [show (bitsL d i).getD t 0 = bitAt d t from bitsL_getD d hx] at cx
        have g1 : decide ((t : Int) < (i : Int)) = true := decide_eq_true (by omega)
        rcases bitAt_range d t with hbt | hbt
        all_goals
          rw [hbt] at cx cy
          go_wp2_with (refine wpList_skip (by rfl) ?_)
          go_roundw
          case rel => exact ⟨t + 1, by omega, by go_num, hBr⟩
          case measure => simp [intOf]; omega
      · exact absurd hlt hx
    · go_wp2_with fail
      go_ret
      exact ⟨rfl, hB3.trans (hBr.mono hB3.size)⟩
set_option maxRecDepth 100000 in
set_option linter.unusedSimpArgs false in
set_option linter.unusedVariables false in
set_option maxHeartbeats 8000000 in
theorem first_gt (d : List UInt8) (hd : d.length = 32) (a b i k : Nat) (ha : a < 65536) (hb : b < 65536) (hi : a % 4097 = i) (hk : b % 4097 = k) (h : k < i) (w : World) (hL : Laid w) :
    Calls Tryd.prog 20 #[.agg (dig d), .int .u16 a, .int .u16 b] w (Ret (.bool true) w) := by
  have HS := Lib.hid (fun W h => sane31_ok W h)
  have HL := Lib.hid hL
  have hi4 : i ≤ 4096 := by have := Nat.mod_lt a (show 0 < 4097 by decide); omega
  have hk4 : k ≤ 4096 := by have := Nat.mod_lt b (show 0 < 4097 by decide); omega
  have HBP := Lib.hid (fun W (hW : Laid W) => bBits_ok d hd k (by omega) W hW)
  have HBQ := Lib.hid (fun W (hW : Laid W) => bBits_ok d hd i (by omega) W hW)
  have ra : (a : Int) % 4097 = (i : Int) := by omega
  have rb : (b : Int) % 4097 = (k : Int) := by omega
  have hle : ¬ (i : Int) ≤ (k : Int) := by omega
  have hlt2 : (k : Int) < (i : Int) := by omega
  clear hL hi hk
  go_enter Tryd.func20, Tryd.ntmps20
  go_wp2_with fail
  refine calls_gen (fun W => Blk W w.heap.size 23 (dig d) ∧ Below w.heap.size w W) ⟨Blk.new _ _ _, (Below.refl _ _).alloc (Nat.le_refl _) _⟩ (fun w0 ⟨bv0, hB0⟩ => ?_)
  refine (HS.out w0 (HL.out.below hB0)).mono ?_
  rintro e w1 ⟨rfl, hb1⟩
  have bv1 := bv0.below hb1 bv0.lt
  have hB1 := hB0.trans (hb1.mono hB0.size)
  clear bv0 hB0 hb1
  go_wp2_with (refine load_dig rfl _ rfl d hd bv1 rfl ?_)
  refine (HBP.out w1 (HL.out.below hB1)).mono ?_
  rintro e w2 ⟨X, xc, rfl, hxc, -, rx2, hb2⟩
  have bv2 := bv1.below hb2 bv1.lt
  have hB2 := hB1.trans (hb2.mono hB1.size)
  clear bv1 hB1 hb2
  go_wp2_with (refine load_dig rfl _ rfl d hd bv2 rfl ?_)
  refine (HBQ.out w2 (HL.out.below hB2)).mono ?_
  rintro e w3 ⟨Y, yc, rfl, hyc, -, ry3, hb3⟩
  have rx3 := (Rd.below rx2 hb3).more hb3.size
  have hB3 := hB2.trans (hb3.mono hB2.size)
  clear bv2 hB2 hb3 rx2
  have n1 : ((k : Int) != (k : Int)) = false := by simp
  have n2 : ((i : Int) != (i : Int)) = false := by simp
  have RX := Lib.hid rx3
  have RY := Lib.hid ry3
  clear rx3 ry3
  go_wp2_with fail
  go_loopw [63] (fun jj wr => ∃ t : Nat, t ≤ i ∧ jj = .int .i64 t ∧ Below w3.heap.size w3 wr) (fun jj _ => i - (intOf jj).toNat)
  case atStart => exact ⟨0, by omega, rfl, Below.refl _ _⟩
  case round =>
    obtain ⟨t, ht, rfl, hBr⟩ := hrel
    by_cases hlt : t < i
    · obtain ⟨yb, yo, rfl, cy⟩ := rd_at ((Rd.below RY.out hBr).more hBr.size) hlt
      rw [show (bitsL d i).getD t 0 = bitAt d t from bitsL_getD d hlt] at cy
      by_cases hx : t < k
      · obtain ⟨xb, xo, rfl, cx⟩ := rd_at ((Rd.below RX.out hBr).more hBr.size) hx
        rw [show (bitsL d k).getD t 0 = bitAt d t from bitsL_getD d hx] at cx
        have g1 : decide ((t : Int) < (k : Int)) = true := decide_eq_true (by omega)
        rcases bitAt_range d t with hbt | hbt
        all_goals
          rw [hbt] at cx cy
          go_wp2_with (refine wpList_skip (by rfl) ?_)
          go_roundw
          case rel => exact ⟨t + 1, by omega, by go_num, hBr⟩
          case measure => simp [intOf]; omega
      · have g1 : decide ((t : Int) < (k : Int)) = false := decide_eq_false (by omega)
        rcases bitAt_range d t with hbt | hbt
        all_goals
          rw [hbt] at cy
          go_wp2_with (refine wpList_skip (by rfl) ?_)
          go_roundw
          case rel => exact ⟨t + 1, by omega, by go_num, hBr⟩
          case measure => simp [intOf]; omega
    · go_wp2_with fail
      go_ret
      exact ⟨rfl, hB3.trans (hBr.mono hB3.size)⟩
theorem beaconFirst_any (d : List UInt8) (hd : d.length = 32) (n : Int) (hn : 0 ≤ n ∧ n < 65536) (m : Int) (hm : 0 ≤ m ∧ m < 65536) (w : World) (hL : Laid w) :
    Calls Tryd.prog 20 #[.agg (dig d), .int .u16 n, .int .u16 m] w (Ret (.bool true) w) := by
  obtain ⟨a, rfl⟩ : ∃ a : Nat, n = a := ⟨n.toNat, by omega⟩
  obtain ⟨b, rfl⟩ : ∃ b : Nat, m = b := ⟨m.toNat, by omega⟩
  rcases Nat.lt_or_ge (b % 4097) (a % 4097) with h | h
  · exact first_gt d hd a b _ _ (by omega) (by omega) rfl rfl h w hL
  · rcases Nat.lt_or_ge (a % 4097) (b % 4097) with h2 | h2
    · exact first_lt d hd a b _ _ (by omega) (by omega) rfl rfl h2 w hL
    · exact first_eq d hd a b _ (by omega) (by omega) rfl (by omega) w hL
end Go.Proofs.YtibnikokgbfcdaaDoor

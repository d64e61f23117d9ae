/- The law podiumlaw31.BeaconBitsSpec: for every digest and number she returns true. -/
import Derived.Test.YtibnikokgbfcdaaDoorB10
import Derived.Test.YtibnikokgbfcdaaDoorBRB
namespace Go.Proofs.YtibnikokgbfcdaaDoor
open Go Go.RowKit

set_option maxRecDepth 100000 in
set_option linter.unusedSimpArgs false in
set_option linter.unusedVariables false in
set_option maxHeartbeats 8000000 in
theorem beaconBits_good (d : List UInt8) (hd : d.length = 32) (n : Nat) (hn : n ≤ 4096) (w : World) (hL : Laid w) : Calls Tryd.prog 15 #[.agg (dig d), .int .i64 n] w (Ret (.bool true) w) := by
  have HS := Lib.hid (fun W h => sane31_ok W h)
  have HL := Lib.hid hL
  have HB := Lib.hid (fun W (hW : Laid W) => bBits_ok d hd n hn W hW)
  have HR := Lib.hid (fun W => r31Bits_good d hd n hn W)
  clear hL
  go_enter Tryd.func15, Tryd.ntmps15
  go_wp2_with fail
  refine calls_gen (fun W => Blk W w.heap.size 23 (dig d) ∧ Below w.heap.size w W) ⟨Blk.new _ _ _, (Below.refl _ _).alloc (Nat.le_refl _) _⟩ (fun w0 ⟨bv0, hB0⟩ => ?_)
  refine (HS.out w0 (HL.out.below hB0)).mono ?_
  rintro e w1 ⟨rfl, hb1⟩
  have bv1 := bv0.below hb1 bv0.lt
  have hB1 := hB0.trans (hb1.mono hB0.size)
  clear bv0 hB0 hb1
  go_wp2_with (refine load_dig rfl _ rfl d hd bv1 rfl ?_)
  refine (HB.out w1 (HL.out.below hB1)).mono ?_
  rintro e w2 ⟨X, xc, rfl, hxc, -, rx2, hb2⟩
  have bv2 := bv1.below hb2 bv1.lt
  have hB2 := hB1.trans (hb2.mono hB1.size)
  clear bv1 hB1 hb2
  go_wp2_with (refine load_dig rfl _ rfl d hd bv2 rfl ?_)
  refine (HR.out w2).mono ?_
  rintro e w3 ⟨Y, yc, rfl, hyc, -, ry3, hb3⟩
  have rx3 := (Rd.below rx2 hb3).more hb3.size
  have hB3 := hB2.trans (hb3.mono hB2.size)
  have hsm := r31Same_any X Y (bitsL d n) (bitsL d n) xc yc w3 (by rw [bitsL_length]; exact rx3) (by rw [bitsL_length]; exact ry3) (by rw [bitsL_length]; omega)
  rw [decide_eq_true rfl, bitsL_length] at hsm
  have HSM := Lib.hid hsm
  clear bv2 hB2 hb3 rx2 rx3 ry3 hsm
  go_wp2_with fail
  refine HSM.out.mono ?_
  rintro e w4 ⟨rfl, hb4⟩
  go_wp2_with fail
  go_ret
  exact ⟨rfl, hB3.trans (hb4.mono hB3.size)⟩
set_option maxRecDepth 100000 in
set_option linter.unusedSimpArgs false in
set_option linter.unusedVariables false in
set_option maxHeartbeats 8000000 in
theorem beaconBits_bad (d : List UInt8) (hd : d.length = 32) (n : Int) (h : n < 0 ∨ 4096 < n) (w : World) (hL : Laid w) : Calls Tryd.prog 15 #[.agg (dig d), .int .i64 n] w (Ret (.bool true) w) := by
  have HS := Lib.hid (fun W h => sane31_ok W h)
  have HL := Lib.hid hL
  have HB := Lib.hid (fun W => bBits_bad d n h W)
  have HR := Lib.hid (fun W => r31Bits_bad d n h W)
  clear hL h
  go_enter Tryd.func15, Tryd.ntmps15
  go_wp2_with fail
  refine calls_gen (fun W => Blk W w.heap.size 23 (dig d) ∧ Below w.heap.size w W) ⟨Blk.new _ _ _, (Below.refl _ _).alloc (Nat.le_refl _) _⟩ (fun w0 ⟨bv0, hB0⟩ => ?_)
  refine (HS.out w0 (HL.out.below hB0)).mono ?_
  rintro e w1 ⟨rfl, hb1⟩
  have bv1 := bv0.below hb1 bv0.lt
  have hB1 := hB0.trans (hb1.mono hB0.size)
  clear bv0 hB0 hb1
  go_wp2_with (refine load_dig rfl _ rfl d hd bv1 rfl ?_)
  refine (HB.out w1).mono ?_
  rintro e w2 ⟨rfl, hb2⟩
  have bv2 := bv1.below hb2 bv1.lt
  have hB2 := hB1.trans (hb2.mono hB1.size)
  clear bv1 hB1 hb2
  go_wp2_with (refine load_dig rfl _ rfl d hd bv2 rfl ?_)
  refine (HR.out w2).mono ?_
  rintro e w3 ⟨rfl, hb3⟩
  have hB3 := hB2.trans (hb3.mono hB2.size)
  have hsm := r31Same_any none none [] [] 0 0 w3 Rd.zero Rd.zero (by decide)
  rw [decide_eq_true rfl] at hsm
  have HSM := Lib.hid hsm
  clear bv2 hB2 hb3 hsm
  go_wp2_with fail
  refine HSM.out.mono ?_
  rintro e w4 ⟨rfl, hb4⟩
  go_wp2_with fail
  go_ret
  exact ⟨rfl, hB3.trans (hb4.mono hB3.size)⟩
theorem beaconBits_any (n0 : List UInt8) (hd : n0.length = 32) (n : Int) (w : World) (hL : Laid w) : Calls Tryd.prog 15 #[.agg (dig n0), .int .i64 n] w (Ret (.bool true) w) := by
  by_cases h : n < 0 ∨ 4096 < n
  · exact beaconBits_bad n0 hd n h w hL
  · obtain ⟨k, rfl⟩ : ∃ k : Nat, n = k := ⟨n.toNat, by omega⟩
    exact beaconBits_good n0 hd k (by omega) w hL
end Go.Proofs.YtibnikokgbfcdaaDoor

/- The law podiumlaw55.SampleSpec: for all digests and numbers she returns true. -/
import Derived.Test.YtibnikokgbfcdaaDoorSamp3
namespace Go.Proofs.YtibnikokgbfcdaaDoor
open Go.RowKit

set_option maxRecDepth 100000 in
set_option maxHeartbeats 4000000 in
theorem sampleSpec_good (d : List UInt8) (hd : d.length = 32) (n k : Nat) (hk : k ≤ n) (hn : n ≤ 4096) (w : World) (hL : Laid w) : Calls Tryd.prog 21 #[.agg (dig d), .int .i64 n, .int .i64 k] w (Ret (.bool true) w) := by
  have HS := Lib.hid (fun W h => sane55_ok W h)
  have HF := Lib.hid (fun W => r55Few_any n none none 0 0 0 0 [] (by decide) (by decide) W Rd.zero)
  have HA := Lib.hid (fun W h => sdraw_view d hd n k hk hn W h)
  have HR := Lib.hid (fun W => rdraw_good d hd n k hk hn W)
  have HL := Lib.hid hL
  clear hL
  go_enter Tryd.func21, Tryd.ntmps21
  go_wp2_with fail
  have hD0 : Blk (w.alloc (.cells (dig d) 23)) w.heap.size 23 (dig d) := Blk.new _ _ _
  have hB0 : Below w.heap.size w (w.alloc (.cells (dig d) 23)) := (Below.refl _ w).alloc (Nat.le_refl _) _
  generalize w.alloc (.cells (dig d) 23) = w0 at hD0 hB0 ⊢
  refine (HS.out _ (HL.out.below hB0)).mono ?_
  rintro e w1 ⟨rfl, hb1⟩
  have hD1 := hD0.below hb1 hD0.lt
  have hB1 := hB0.trans (hb1.mono hB0.size)
  clear hD0 hB0 hb1
  go_wp2_with fail
  refine (HF.out _).mono ?_
  rintro e w2 ⟨⟨b, rfl⟩, rfl⟩
  cases b
  · go_wp2_with fail
    go_ret
    exact ⟨rfl, hB1⟩
  · go_wp2_with (refine load_dig rfl _ rfl d hd hD1 rfl ?_)
    refine (HA.out _ (HL.out.below hB1)).mono ?_
    rintro e w2 ⟨A, rfl, hr2, hb2⟩
    have hD2 := hD1.below hb2 hD1.lt
    have hB2 := hB1.trans (hb2.mono hB1.size)
    clear hD1 hB1 hb2
    go_wp2_with (refine load_dig rfl _ rfl d hd hD2 rfl ?_)
    refine (HR.out _).mono ?_
    rintro e w3 ⟨B, c, rfl, -, -, hh3, hb3⟩
    have hr3 := (hr2.below hb3).more hb3.size
    have hB3 := hB2.trans (hb3.mono hB2.size)
    have hq3 := hh3.rd
    clear hD2 hB2 hb3 hr2 hh3
    go_wp2_with fail
    refine (sameInts_yes A B k k c _ _ (fun i _ => rfl) (by omega) w3 hr3 hq3).mono ?_
    rintro e w4 ⟨rfl, q, hq⟩
    have hB4 : Below w.heap.size w w4 := by rw [hq]; exact below_drewN hB3 q
    clear hr3 hq3 hq
    go_wp2_with fail
    go_ret
    exact ⟨rfl, hB4⟩
set_option maxRecDepth 100000 in
set_option maxHeartbeats 4000000 in
theorem sampleSpec_bad (d : List UInt8) (hd : d.length = 32) (n k : Int) (h : k < 0 ∨ n < k ∨ 4096 < n) (w : World) (hL : Laid w) : Calls Tryd.prog 21 #[.agg (dig d), .int .i64 n, .int .i64 k] w (Ret (.bool true) w) := by
  have HS := Lib.hid (fun W h => sane55_ok W h)
  have HF := Lib.hid (fun W => r55Few_any n none none 0 0 0 0 [] (by decide) (by decide) W Rd.zero)
  have HA := Lib.hid (fun W => sdraw_bad d n k h W)
  have HR := Lib.hid (fun W => rdraw_bad d n k h W)
  have HL := Lib.hid hL
  clear hL h
  go_enter Tryd.func21, Tryd.ntmps21
  go_wp2_with fail
  have hD0 : Blk (w.alloc (.cells (dig d) 23)) w.heap.size 23 (dig d) := Blk.new _ _ _
  have hB0 : Below w.heap.size w (w.alloc (.cells (dig d) 23)) := (Below.refl _ w).alloc (Nat.le_refl _) _
  generalize w.alloc (.cells (dig d) 23) = w0 at hD0 hB0 ⊢
  refine (HS.out _ (HL.out.below hB0)).mono ?_
  rintro e w1 ⟨rfl, hb1⟩
  have hD1 := hD0.below hb1 hD0.lt
  have hB1 := hB0.trans (hb1.mono hB0.size)
  clear hD0 hB0 hb1
  go_wp2_with fail
  refine (HF.out _).mono ?_
  rintro e w2 ⟨⟨b, rfl⟩, rfl⟩
  cases b
  · go_wp2_with fail
    go_ret
    exact ⟨rfl, hB1⟩
  · go_wp2_with (refine load_dig rfl _ rfl d hd hD1 rfl ?_)
    refine (HA.out _).mono ?_
    rintro e w2 ⟨rfl, hb2⟩
    have hD2 := hD1.below hb2 hD1.lt
    have hB2 := hB1.trans (hb2.mono hB1.size)
    clear hD1 hB1 hb2
    go_wp2_with (refine load_dig rfl _ rfl d hd hD2 rfl ?_)
    refine (HR.out _).mono ?_
    rintro e w3 ⟨rfl, hb3⟩
    have hB3 := hB2.trans (hb3.mono hB2.size)
    clear hD2 hB2 hb3
    go_wp2_with fail
    refine (sameInts_yes none none 0 0 0 (fun _ => 0) (fun _ => 0) (fun i _ => rfl) (by decide) w3 Rd.zero Rd.zero).mono ?_
    rintro e w4 ⟨rfl, q, hq⟩
    have hB4 : Below w.heap.size w w4 := by rw [hq]; exact below_drewN hB3 q
    clear hq
    go_wp2_with fail
    go_ret
    exact ⟨rfl, hB4⟩
theorem sampleSpec_any (d : List UInt8) (hd : d.length = 32) (n k : Int) (w : World) (hL : Laid w) : Calls Tryd.prog 21 #[.agg (dig d), .int .i64 n, .int .i64 k] w (Ret (.bool true) w) := by
  by_cases h : k < 0 ∨ n < k ∨ 4096 < n
  · exact sampleSpec_bad d hd n k h w hL
  · obtain ⟨a, rfl⟩ : ∃ a : Nat, n = a := ⟨n.toNat, by omega⟩
    obtain ⟨b, rfl⟩ : ∃ b : Nat, k = b := ⟨k.toNat, by omega⟩
    exact sampleSpec_good d hd a b (by omega) (by omega) w hL
end Go.Proofs.YtibnikokgbfcdaaDoor

/- The law podiumlaw32.DrawOrderSpec: for all digests and numbers she returns true. -/
import Derived.Test.YtibnikokgbfcdaaDoorR8
import Derived.BigQuiet
namespace Go.Proofs.YtibnikokgbfcdaaDoor
open Go.RowKit

theorem rorder_view (d : List UInt8) (hd : d.length = 32) (n : Nat) (hn : n ≤ 4096) (w : World) : Calls Tryd.prog 33 #[.agg (dig d), .int .i64 n] w (ViewPost (orderOf d n) n w) := by
  refine (rorder_good d hd n hn w).mono ?_
  rintro e w' ⟨v, rfl, hown, hb⟩
  obtain ⟨A, c, rfl, h1, h2, h3⟩ := hown.shape
  rw [orderOf_length] at h1 h3 ⊢
  exact ⟨A, c, rfl, h1, h2, h3, hb⟩
set_option maxRecDepth 100000 in
set_option maxHeartbeats 4000000 in
theorem drawOrd_good (d : List UInt8) (hd : d.length = 32) (n : Nat) (hn : n ≤ 40) (w : World) (hL : Laid w) :
    Calls Tryd.prog 4 #[.agg (dig d), .int .i64 n] w (Ret (.bool true) w) := by
  have HS := Lib.hid (fun W h => sane32_ok W h)
  have hF := fun W => few_any (n : Int) W
  rw [decide_eq_true (.inl (by omega))] at hF
  have HF := Lib.hid hF
  have HO := Lib.hid (fun W h => order_view d hd n (by omega) W h)
  have HO2 := Lib.hid (fun W => rorder_view d hd n (by omega) W)
  have HL := Lib.hid hL
  obtain ⟨l, hl⟩ : ∃ l, l = orderOf d n := ⟨_, rfl⟩
  have hln : l.length = n := by rw [hl]; exact orderOf_length d n
  rw [← hl] at HO HO2
  have HLN := Lib.hid hln
  clear hL hF hl hln
  go_enter Tryd.func4, Tryd.ntmps4
  go_wp2_with fail
  have hD0 : Blk (w.alloc (.cells (dig d) 23)) w.heap.size 23 (dig d) := Blk.new _ _ _
  have hB0 : Below w.heap.size w (w.alloc (.cells (dig d) 23)) := (Below.refl _ w).alloc (Nat.le_refl _) _
  generalize w.alloc (.cells (dig d) 23) = w0 at hD0 hB0 ⊢
  refine (HS.out _ (HL.out.below hB0)).mono ?_
  rintro e w1 ⟨rfl, hb1⟩
  have hD1 := hD0.below hb1 hD0.lt
  have hB1 := hB0.trans (hb1.mono hB0.size)
  clear hD0 hB0 hb1
  go_wp2_with fail
  refine (HF.out _).mono ?_
  rintro e w2 ⟨rfl, rfl⟩
  go_wp2_with (refine load_dig rfl _ rfl d hd hD1 rfl ?_)
  refine (HO.out _ (HL.out.below hB1)).mono ?_
  rintro e w2 ⟨A, c, rfl, -, -, hr2, hb2⟩
  have hD2 := hD1.below hb2 hD1.lt
  have hB2 := hB1.trans (hb2.mono hB1.size)
  clear hD1 hB1 hb2
  go_wp2_with (refine load_dig rfl _ rfl d hd hD2 rfl ?_)
  refine (HO2.out _).mono ?_
  rintro e w3 ⟨A3, c3, rfl, -, -, hr3, hb3⟩
  have hr2' := (hr2.below hb3).more hb3.size
  have hB3 := hB2.trans (hb3.mono hB2.size)
  clear hD2 hB2 hb3 hr2
  go_wp2_with fail
  have hSI := sameInts_any A A3 l l c c3 w3 (by rw [HLN.out]; exact hr2') (by rw [HLN.out]; exact hr3) (by rw [HLN.out]; omega)
  rw [HLN.out, decide_eq_true rfl] at hSI
  refine hSI.mono ?_
  rintro e w4 ⟨rfl, hb4⟩
  have hB4 := hB3.trans (hb4.mono hB3.size)
  go_wp2_with fail
  go_ret
  exact ⟨rfl, hB4⟩
set_option maxRecDepth 100000 in
set_option maxHeartbeats 4000000 in
theorem drawOrd_bad (d : List UInt8) (hd : d.length = 32) (n : Int) (hn : n < 0 ∨ 4096 < n) (w : World) (hL : Laid w) :
    Calls Tryd.prog 4 #[.agg (dig d), .int .i64 n] w (Ret (.bool true) w) := by
  have HS := Lib.hid (fun W h => sane32_ok W h)
  have hF := fun W => few_any n W
  rw [decide_eq_true (by omega)] at hF
  have HF := Lib.hid hF
  have HO := Lib.hid (fun W => order_bad d n hn W)
  have HO2 := Lib.hid (fun W => rorder_bad d n hn W)
  have HL := Lib.hid hL
  clear hL hF hn
  go_enter Tryd.func4, Tryd.ntmps4
  go_wp2_with fail
  have hD0 : Blk (w.alloc (.cells (dig d) 23)) w.heap.size 23 (dig d) := Blk.new _ _ _
  have hB0 : Below w.heap.size w (w.alloc (.cells (dig d) 23)) := (Below.refl _ w).alloc (Nat.le_refl _) _
  generalize w.alloc (.cells (dig d) 23) = w0 at hD0 hB0 ⊢
  refine (HS.out _ (HL.out.below hB0)).mono ?_
  rintro e w1 ⟨rfl, hb1⟩
  have hD1 := hD0.below hb1 hD0.lt
  have hB1 := hB0.trans (hb1.mono hB0.size)
  clear hD0 hB0 hb1
  go_wp2_with fail
  refine (HF.out _).mono ?_
  rintro e w2 ⟨rfl, rfl⟩
  go_wp2_with (refine load_dig rfl _ rfl d hd hD1 rfl ?_)
  refine (HO.out _).mono ?_
  rintro e w2 ⟨rfl, hb2⟩
  have hD2 := hD1.below hb2 hD1.lt
  have hB2 := hB1.trans (hb2.mono hB1.size)
  clear hD1 hB1 hb2
  go_wp2_with (refine load_dig rfl _ rfl d hd hD2 rfl ?_)
  refine (HO2.out _).mono ?_
  rintro e w3 ⟨rfl, hb3⟩
  have hB3 := hB2.trans (hb3.mono hB2.size)
  clear hD2 hB2 hb3
  go_wp2_with fail
  have hSI := sameInts_any none none [] [] 0 0 w3 Rd.zero Rd.zero (by decide)
  rw [decide_eq_true rfl] at hSI
  refine hSI.mono ?_
  rintro e w4 ⟨rfl, hb4⟩
  have hB4 := hB3.trans (hb4.mono hB3.size)
  go_wp2_with fail
  go_ret
  exact ⟨rfl, hB4⟩
set_option maxRecDepth 100000 in
set_option maxHeartbeats 4000000 in
theorem drawOrd_many (d : List UInt8) (n : Int) (h1 : 40 < n) (h2 : n ≤ 4096) (w : World) (hL : Laid w) :
    Calls Tryd.prog 4 #[.agg (dig d), .int .i64 n] w (Ret (.bool true) w) := by
  have hB0 : Below w.heap.size w (w.alloc (.cells (dig d) 23)) := (Below.refl _ w).alloc (Nat.le_refl _) _
  have HS := Lib.hid (sane32_ok _ (hL.below hB0))
  have hF := fun W => few_any n W
  rw [decide_eq_false (by omega)] at hF
  have HF := Lib.hid hF
  clear hL hF
  go_enter Tryd.func4, Tryd.ntmps4
  go_wp2_with fail
  refine HS.out.mono ?_
  rintro e w1 ⟨rfl, hb1⟩
  go_wp2_with fail
  refine (HF.out _).mono ?_
  rintro e w2 ⟨rfl, rfl⟩
  go_wp2_with fail
  go_ret
  exact ⟨rfl, hB0.trans (hb1.mono hB0.size)⟩
theorem drawOrd_any (d : List UInt8) (hd : d.length = 32) (n : Int) (w : World) (hL : Laid w) : Calls Tryd.prog 4 #[.agg (dig d), .int .i64 n] w (Ret (.bool true) w) := by
  by_cases h : n < 0 ∨ 4096 < n
  · exact drawOrd_bad d hd n h w hL
  · by_cases h2 : n ≤ 40
    · obtain ⟨m, rfl⟩ : ∃ m : Nat, n = m := ⟨n.toNat, by omega⟩
      exact drawOrd_good d hd m (by omega) w hL
    · exact drawOrd_many d n (by omega) (by omega) w hL
end Go.Proofs.YtibnikokgbfcdaaDoor

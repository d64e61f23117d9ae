/- The law podiumlaw55.SampleFirst: for all digests and numbers she returns true. -/
import Derived.Test.YtibnikokgbfcdaaDoorSamp3
namespace Go.Proofs.YtibnikokgbfcdaaDoor
open Go.RowKit

theorem slice_off (W : World) (b off n k : Nat) (h : k ≤ n) : (Instr.slice 32 (.slice (some ⟨b, off, none⟩) n n) none (some (.int .i64 (k : Int))) none).run Tryd.prog W = .ok (.slice (some ⟨b, off, none⟩) k n) W := by
  simp [Instr.slice, run_underlying Tryd.underlying32, Instr.sliceBounds, Instr.sliceBound, asIntOf, h, Addr.add_mid]
/-- What Draw returns at all arguments. -/
def SDAny (n k : Int) (w : World) (e : Ending) (w' : World) : Prop :=
  ∃ A c x, e = .returned (.tuple #[.slice A c c, .int .i64 x]) ∧ ((x = 1 ∧ (k < 0 ∨ n < k ∨ 4096 < n)) ∨ (x = 0 ∧ 0 ≤ k ∧ k ≤ n ∧ n ≤ 4096 ∧ (c : Int) = k)) ∧ Below w.heap.size w w'
theorem sdraw_any (d : List UInt8) (hd : d.length = 32) (n k : Int) (w : World) (hL : Laid w) : Calls Tryd.prog 62 #[.agg (dig d), .int .i64 n, .int .i64 k] w (SDAny n k w) := by
  by_cases h : k < 0 ∨ n < k ∨ 4096 < n
  · exact (sdraw_bad d n k h w).mono fun e w' ⟨he, hb⟩ => ⟨none, 0, 1, he, .inl ⟨rfl, h⟩, hb⟩
  · obtain ⟨a, rfl⟩ : ∃ a : Nat, n = a := ⟨n.toNat, by omega⟩
    obtain ⟨b, rfl⟩ : ∃ b : Nat, k = b := ⟨k.toNat, by omega⟩
    exact (sdraw_view d hd a b (by omega) (by omega) w hL).mono fun e w' ⟨A, he, _, hb⟩ => ⟨A, b, 0, he, .inr ⟨rfl, by omega, by omega, by omega, rfl⟩, hb⟩
set_option maxRecDepth 100000 in
set_option maxHeartbeats 4000000 in
/-- Out of bounds, or a draw that fails. -/
theorem sampleFirst_bad (d : List UInt8) (hd : d.length = 32) (n k m : Int) (h : 40 < n ∨ m < k ∨ k < 0 ∨ n < m) (w : World) (hL : Laid w) : Calls Tryd.prog 24 #[.agg (dig d), .int .i64 n, .int .i64 k, .int .i64 m] w (Ret (.bool true) w) := by
  have HS := Lib.hid (fun W h => sane55_ok W h)
  have HA := Lib.hid (fun W h => sdraw_any d hd n k W h)
  have HB := Lib.hid (fun W h => sdraw_any d hd n m W h)
  have HL := Lib.hid hL
  have HH := Lib.hid h
  clear hL h
  go_enter Tryd.func24, Tryd.ntmps24
  go_wp2_with fail
  have hD0 : Blk (w.alloc (.cells (dig d) 23)) w.heap.size 23 (dig d) := Blk.new _ _ _
  have hB0 : Below w.heap.size w (w.alloc (.cells (dig d) 23)) := (Below.refl _ w).alloc (Nat.le_refl _) _
  generalize w.alloc (.cells (dig d) 23) = w0 at hD0 hB0 ⊢
  refine (HS.out _ (HL.out.below hB0)).mono ?_
  rintro e w1 ⟨rfl, hb1⟩
  have hD1 := hD0.below hb1 hD0.lt
  have hB1 := hB0.trans (hb1.mono hB0.size)
  clear hD0 hB0 hb1
  by_cases c1 : 40 < n
  · go_wp2_with fail
    go_ret
    exact ⟨rfl, hB1⟩
  by_cases c2 : m < k
  · go_wp2_with fail
    go_ret
    exact ⟨rfl, hB1⟩
  have h34 : k < 0 ∨ n < m := by have := HH.out; omega
  go_wp2_with (refine load_dig rfl _ rfl d hd hD1 rfl ?_)
  refine (HA.out _ (HL.out.below hB1)).mono ?_
  rintro e w2 ⟨A, c, x, rfl, hx, hb2⟩
  have hD2 := hD1.below hb2 hD1.lt
  have hB2 := hB1.trans (hb2.mono hB1.size)
  clear hD1 hB1 hb2
  go_wp2_with (refine load_dig rfl _ rfl d hd hD2 rfl ?_)
  refine (HB.out _ (HL.out.below hB2)).mono ?_
  rintro e w3 ⟨B, c3, y, rfl, hy, hb3⟩
  have hB3 := hB2.trans (hb3.mono hB2.size)
  clear hD2 hB2 hb3
  rcases hx with ⟨rfl, hx⟩ | ⟨rfl, hx⟩
  · rcases hy with ⟨rfl, hy⟩ | ⟨rfl, hy⟩
    · clear hx hy h34
      go_wp2_with fail
      go_ret
      exact ⟨rfl, hB3⟩
    · have hk0 : k < 0 := by omega
      clear hx hy h34
      go_wp2_with fail
      go_ret
      exact ⟨rfl, hB3⟩
  · rcases hy with ⟨rfl, hy⟩ | ⟨rfl, hy⟩
    · clear hx hy h34
      go_wp2_with fail
      go_ret
      exact ⟨rfl, hB3⟩
    · omega
set_option maxRecDepth 100000 in
set_option maxHeartbeats 4000000 in
theorem sampleFirst_good (d : List UInt8) (hd : d.length = 32) (n k m : Nat) (hk : k ≤ m) (hm : m ≤ n) (hn : n ≤ 40) (w : World) (hL : Laid w) : Calls Tryd.prog 24 #[.agg (dig d), .int .i64 n, .int .i64 k, .int .i64 m] w (Ret (.bool true) w) := by
  have HS := Lib.hid (fun W h => sane55_ok W h)
  have HA := Lib.hid (fun W h => sdraw_view d hd n k (by omega) (by omega) W h)
  have HB := Lib.hid (fun W h => sdraw_view d hd n m hm (by omega) W h)
  have HL := Lib.hid hL
  clear hL
  go_enter Tryd.func24, Tryd.ntmps24
  go_wp2_with fail
  have hD0 : Blk (w.alloc (.cells (dig d) 23)) w.heap.size 23 (dig d) := Blk.new _ _ _
  have hB0 : Below w.heap.size w (w.alloc (.cells (dig d) 23)) := (Below.refl _ w).alloc (Nat.le_refl _) _
  generalize w.alloc (.cells (dig d) 23) = w0 at hD0 hB0 ⊢
  refine (HS.out _ (HL.out.below hB0)).mono ?_
  rintro e w1 ⟨rfl, hb1⟩
  have hD1 := hD0.below hb1 hD0.lt
  have hB1 := hB0.trans (hb1.mono hB0.size)
  clear hD0 hB0 hb1
  go_wp2_with (refine load_dig rfl _ rfl d hd hD1 rfl ?_)
  refine (HA.out _ (HL.out.below hB1)).mono ?_
  rintro e w2 ⟨A, rfl, hr2, hb2⟩
  have hD2 := hD1.below hb2 hD1.lt
  have hB2 := hB1.trans (hb2.mono hB1.size)
  clear hD1 hB1 hb2
  go_wp2_with (refine load_dig rfl _ rfl d hd hD2 rfl ?_)
  refine (HB.out _ (HL.out.below hB2)).mono ?_
  rintro e w3 ⟨B, rfl, hq3, hb3⟩
  have hr3 := (hr2.below hb3).more hb3.size
  have hB3 := hB2.trans (hb3.mono hB2.size)
  clear hD2 hB2 hb3 hr2
  have hsl : ∀ W : World, ∃ B', (Instr.slice 32 (.slice B m m) none (some (.int .i64 (k : Int))) none).run Tryd.prog W = .ok (.slice B' k m) W ∧ Rd w3 w3.heap.size B' k (fun i => .int .i64 ((orderOf d n).getD i 0)) := fun W => by
    rcases Nat.eq_zero_or_pos m with h0 | h0
    · subst h0
      obtain rfl : k = 0 := by omega
      refine ⟨B, ?_, Rd.zero⟩
      simp [Instr.slice, run_underlying Tryd.underlying32, Instr.sliceBounds, Instr.sliceBound, asIntOf]
    · obtain ⟨b, off, rfl, _, _⟩ := hq3 h0
      exact ⟨_, slice_off W b off m k hk, hq3.take hk⟩
  obtain ⟨B', hslW, hr'⟩ := hsl w3
  clear hsl
  go_wp2_with fail
  refine (sameInts_yes A B' k k m _ _ (fun i _ => rfl) (by omega) w3 hr3 hr').mono ?_
  rintro e w4 ⟨rfl, q, hq⟩
  have hB4 : Below w.heap.size w w4 := by rw [hq]; exact below_drewN hB3 q
  have hq4 : Rd w4 w4.heap.size B m (fun i => .int .i64 ((orderOf d n).getD i 0)) := by rw [hq]; exact hq3.drewN q
  clear hr3 hr' hq hslW hB3 hq3
  go_wp2_with fail
  obtain ⟨hol, hod, _, hor⟩ := full_order d n
  have HOD := Lib.hid hod
  have HOR := Lib.hid hor
  have HOL := Lib.hid hol
  have HQ := Lib.hid hq4
  clear hol hod hor hq4
  go_loopw [13] (fun x wr => ∃ i : Nat, i ≤ m ∧ x = .int .i64 i ∧ w4 = wr) (fun x _ => m - (intOf x).toNat)
  case atStart => exact ⟨0, by omega, rfl, rfl⟩
  case round =>
    obtain ⟨i, hi, rfl, rfl⟩ := hrel
    by_cases hlt : i < m
    · obtain ⟨b, off, rfl, _, hc⟩ := HQ.out.at_ (k := i) hlt
      obtain ⟨a, ha, ea⟩ := HOR.out i (by omega)
      have hI := index_found (some ⟨b, off, none⟩) (fun i => (orderOf d n).getD i 0) m m i (a : Int) w4 HQ.out (by omega) hlt ea (fun j hj e => by
        have := HOD.out j i (by rw [HOL.out]; omega) (by rw [HOL.out]; omega) (e.trans ea.symm)
        omega)
      rw [ea] at hc
      have HI := Lib.hid hI
      clear hI ea
      go_wp2_with fail
      refine HI.out.mono ?_
      rintro e w5 ⟨rfl, rfl⟩
      go_wp2_with fail
      go_roundw
      case rel => exact ⟨i + 1, by omega, by go_num, trivial⟩
      case measure => simp [intOf]; omega
    · obtain rfl : i = m := by omega
      go_wp2_with fail
      go_ret
      exact ⟨rfl, hB4⟩
theorem sampleFirst_any (d : List UInt8) (hd : d.length = 32) (n k m : Int) (w : World) (hL : Laid w) : Calls Tryd.prog 24 #[.agg (dig d), .int .i64 n, .int .i64 k, .int .i64 m] w (Ret (.bool true) w) := by
  by_cases h : 40 < n ∨ m < k ∨ k < 0 ∨ n < m
  · exact sampleFirst_bad d hd n k m h w hL
  · obtain ⟨a, rfl⟩ : ∃ a : Nat, n = a := ⟨n.toNat, by omega⟩
    obtain ⟨b, rfl⟩ : ∃ b : Nat, k = b := ⟨k.toNat, by omega⟩
    obtain ⟨c, rfl⟩ : ∃ c : Nat, m = c := ⟨m.toNat, by omega⟩
    exact sampleFirst_good d hd a b c (by omega) (by omega) (by omega) w hL
end Go.Proofs.YtibnikokgbfcdaaDoor

/- Walks: takes, SameInts, and the sanity look of podiumlaw32. -/
import Derived.Test.YtibnikokgbfcdaaDoorW16
import Derived.BigQuiet
namespace Go.Proofs.YtibnikokgbfcdaaDoor
open Go.RowKit

set_option maxRecDepth 100000 in
set_option maxHeartbeats 1000000 in
theorem takes_ok (word n want : Int) (h0 : -9223372036854775808 ≤ word) (h1 : word < 9223372036854775808) (h2 : -9223372036854775808 ≤ n) (h3 : n < 9223372036854775808) (h : takeOf word n = (want, true, 0)) (w : World) :
    Calls Tryd.prog 70 #[.int .i64 word, .int .i64 n, .int .i64 want] w (fun e w' => e = .returned (.bool true) ∧ w = w') := by
  have hT := take_any word n h0 h1 h2 h3 w
  rw [h] at hT
  have HT := Lib.hid hT
  clear hT h
  go_enter Tryd.func70, Tryd.ntmps70
  go_wp2_with fail
  refine HT.out.mono ?_
  rintro e w' ⟨rfl, rfl⟩
  simp only [takeV]
  go_wp2
  go_ret
  exact ⟨rfl, rfl⟩

set_option maxRecDepth 100000 in
set_option maxHeartbeats 1000000 in
theorem sameInts_any (A B : Option Addr) (l m : List Int) (c c2 : Nat) (w : World) (hA : Rd w w.heap.size A l.length (fun k => .int .i64 (l.getD k 0))) (hB : Rd w w.heap.size B m.length (fun k => .int .i64 (m.getD k 0)))
    (hl : l.length ≤ 4611686018427387903) : Calls Tryd.prog 34 #[.slice A l.length c, .slice B m.length c2] w (Ret (.bool (decide (l = m))) w) := by
  obtain ⟨n, hn⟩ : ∃ n, n = l.length := ⟨_, rfl⟩
  obtain ⟨n2, hn2⟩ : ∃ n2, n2 = m.length := ⟨_, rfl⟩
  rw [← hn, ← hn2]
  have HN := Lib.hid hn
  have HN2 := Lib.hid hn2
  have HA := Lib.hid hA
  have HB := Lib.hid hB
  rw [← hn] at hl
  clear hA hB hn hn2
  by_cases h : n = n2
  · subst h
    go_enter Tryd.func34, Tryd.ntmps34
    go_wp2_with fail
    go_loopw [5] (fun x wr => ∃ j : Nat, j ≤ n ∧ x = .int .i64 j ∧ (∀ i, i < j → l.getD i 0 = m.getD i 0) ∧ Below w.heap.size w wr) (fun x _ => n - (intOf x).toNat)
    case atStart => exact ⟨0, by omega, rfl, fun i hi => absurd hi (by omega), Below.refl _ _⟩
    case round =>
      obtain ⟨j, hj, rfl, hs, hBw⟩ := hrel
      have HS := Lib.hid hs
      clear hs
      by_cases hlt : j < n
      · obtain ⟨b, off, rfl, _, hc⟩ := (HA.out.below hBw).at_ (k := j) (by rw [← HN.out]; exact hlt)
        obtain ⟨b2, off2, rfl, _, hc2⟩ := (HB.out.below hBw).at_ (k := j) (by rw [← HN2.out]; exact hlt)
        obtain ⟨x, hx⟩ : ∃ x, x = l.getD j 0 := ⟨_, rfl⟩
        obtain ⟨y, hy⟩ : ∃ y, y = m.getD j 0 := ⟨_, rfl⟩
        rw [← hx] at hc
        rw [← hy] at hc2
        have HX := Lib.hid hx
        have HY := Lib.hid hy
        clear hx hy
        by_cases hxy : x = y
        · subst hxy
          go_wp2_with fail
          go_quiet (fail)
          go_wp2
          go_roundw
          case rel => exact ⟨j + 1, by omega, by go_num, fun i hi => by
            rcases Nat.lt_or_ge i j with h | h
            · exact HS.out i h
            · obtain rfl : i = j := by omega
              rw [← HX.out, ← HY.out], below_drewN hBw _⟩
          case measure => simp [intOf]; omega
        · go_wp2_with fail
          go_quiet (fail)
          go_wp2
          go_ret
          refine ⟨?_, below_drewN hBw _⟩
          rw [decide_eq_false (fun e => hxy (by rw [HX.out, HY.out, e]))]
          rfl
      · go_wp2
        go_ret
        refine ⟨?_, hBw⟩
        have h1 := HN.out
        have h2 := HN2.out
        have key : l = m := List.ext_getElem (by omega) fun i h3 h4 => by
          have := HS.out i (by omega)
          rwa [List.getD_eq_getElem?_getD, List.getD_eq_getElem?_getD, List.getElem?_eq_getElem h3, List.getElem?_eq_getElem h4] at this
        rw [decide_eq_true key]
        rfl
  · have hne : ¬ (l = m) := fun e => h (by rw [HN.out, HN2.out, e])
    go_enter Tryd.func34, Tryd.ntmps34
    go_wp2
    go_ret
    exact ⟨by rw [decide_eq_false hne]; rfl, Below.refl _ _⟩

def zd : List UInt8 := List.replicate 32 0
theorem zd_eq : Value.agg (dig zd) = .agg #[.int .u8 0, .int .u8 0, .int .u8 0, .int .u8 0, .int .u8 0, .int .u8 0, .int .u8 0, .int .u8 0, .int .u8 0, .int .u8 0, .int .u8 0, .int .u8 0, .int .u8 0, .int .u8 0, .int .u8 0, .int .u8 0, .int .u8 0, .int .u8 0, .int .u8 0, .int .u8 0, .int .u8 0, .int .u8 0, .int .u8 0, .int .u8 0, .int .u8 0, .int .u8 0, .int .u8 0, .int .u8 0, .int .u8 0, .int .u8 0, .int .u8 0, .int .u8 0] := rfl
theorem take_is (word n v : Int) (ok : Bool) (er : Int) (h : takeOf word n = (v, ok, er)) (h0 : -9223372036854775808 ≤ word) (h1 : word < 9223372036854775808) (h2 : -9223372036854775808 ≤ n) (h3 : n < 9223372036854775808) (w : World) :
    Calls Tryd.prog 27 #[.int .i64 word, .int .i64 n] w (fun e w' => e = .returned (.tuple #[.int .i64 v, .bool ok, .int .i64 er]) ∧ w = w') := by
  have hT := take_any word n h0 h1 h2 h3 w
  rw [h] at hT
  exact hT
def ViewPost (l : List Int) (n : Nat) (w : World) (e : Ending) (w' : World) : Prop :=
  ∃ A c, e = .returned (.tuple #[.slice A n c, .int .i64 0]) ∧ n ≤ c ∧ c ≤ 9223372036854775807 ∧ Rd w' w'.heap.size A n (fun k => .int .i64 (l.getD k 0)) ∧ Below w.heap.size w w'
theorem order_view (d : List UInt8) (hd : d.length = 32) (n : Nat) (hn : n ≤ 4096) (w : World) (hL : Laid w) : Calls Tryd.prog 32 #[.agg (dig d), .int .i64 n] w (ViewPost (orderOf d n) n w) := by
  refine (order_good d hd n hn w hL).mono ?_
  rintro e w' ⟨v, rfl, hown, hb⟩
  obtain ⟨A, c, rfl, h1, h2, h3⟩ := hown.shape
  rw [orderOf_length] at h1 h3 ⊢
  exact ⟨A, c, rfl, h1, h2, h3, hb⟩
theorem order_bad2 (d : List UInt8) (n : Int) (h : n < 0 ∨ 4096 < n) (w : World) : Calls Tryd.prog 32 #[.agg (dig d), .int .i64 n] w (Ret (.tuple #[.slice none 0 0, .int .i64 1]) w) := order_bad d n h w

set_option maxRecDepth 100000 in
set_option maxHeartbeats 8000000 in
theorem sane32_ok (w : World) (hL : Laid w) : Calls Tryd.prog 26 #[] w (Ret (.bool true) w) := by
  have T1 := Lib.hid (fun W => take_is 4294967296 3 0 false 1 (by decide) (by decide) (by decide) (by decide) (by decide) W)
  have T2 := Lib.hid (fun W => take_is 4294967295 3 0 false 0 (by decide) (by decide) (by decide) (by decide) (by decide) W)
  have T3 := Lib.hid (fun W => take_is 0 0 0 false 1 (by decide) (by decide) (by decide) (by decide) (by decide) W)
  have O0 := Lib.hid (fun W h => order_view zd rfl 0 (by decide) W h)
  have O1 := Lib.hid (fun W h => order_view zd rfl 1 (by decide) W h)
  have O2 := Lib.hid (fun W h => order_view zd rfl 2 (by decide) W h)
  have OB := Lib.hid (fun W => order_bad2 zd (-1) (.inl (by decide)) W)
  have NB := Lib.hid (fun W => number_bad zd (-1) 1 (.inl (by decide)) W)
  have K1 := Lib.hid (fun W => takes_ok 7 1 0 (by decide) (by decide) (by decide) (by decide) (by decide) W)
  have K2 := Lib.hid (fun W => takes_ok 7 4096 7 (by decide) (by decide) (by decide) (by decide) (by decide) W)
  have K3 := Lib.hid (fun W => takes_ok 4294967295 4096 4095 (by decide) (by decide) (by decide) (by decide) (by decide) W)
  have K4 := Lib.hid (fun W => takes_ok 4294967294 3 2 (by decide) (by decide) (by decide) (by decide) (by decide) W)
  rw [zd_eq] at O0 O1 O2 OB NB
  have HL := Lib.hid hL
  clear hL
  go_enter Tryd.func26, Tryd.ntmps26
  go_wp2_with fail
  refine (T1.out _).mono ?_
  rintro e w1 ⟨rfl, rfl⟩
  go_wp2_with fail
  refine (T2.out _).mono ?_
  rintro e w1 ⟨rfl, rfl⟩
  go_wp2_with fail
  refine (T3.out _).mono ?_
  rintro e w1 ⟨rfl, rfl⟩
  go_wp2_with fail
  refine (O0.out _ HL.out).mono ?_
  rintro e w1 ⟨A0, c0, rfl, -, -, -, hb1⟩
  have hL1 := HL.out.below hb1
  go_wp2_with fail
  refine (O1.out _ hL1).mono ?_
  rintro e w2 ⟨A1, c1, rfl, hc1, hc1', hr1, hb2⟩
  have hB2 := hb1.trans (hb2.mono hb1.size)
  clear hb1 hL1 hb2
  go_wp2_with fail
  refine (OB.out _).mono ?_
  rintro e w3 ⟨rfl, hb3⟩
  have hr3 := (hr1.below hb3).more hb3.size
  have hB3 := hB2.trans (hb3.mono hB2.size)
  clear hB2 hb3 hr1
  go_wp2_with fail
  refine (NB.out _).mono ?_
  rintro e w4 ⟨rfl, hb4⟩
  have hr4 := (hr3.below hb4).more hb4.size
  have hB4 := hB3.trans (hb4.mono hB3.size)
  clear hB3 hb4 hr3
  simp only [numV]
  go_wp2_with fail
  refine (O2.out _ (HL.out.below hB4)).mono ?_
  rintro e w5 ⟨A2, c2, rfl, -, -, -, hb5⟩
  have hr5 := (hr4.below hb5).more hb5.size
  have hB5 := hB4.trans (hb5.mono hB4.size)
  clear hB4 hb5 hr4
  go_wp2_with fail
  have hX : Blk (w5.alloc (.cells #[.int .i64 0] 3)) w5.heap.size 3 #[.int .i64 0] := Blk.new _ _ _
  have hB6 : Below w.heap.size w (w5.alloc (.cells #[.int .i64 0] 3)) := hB5.alloc hB5.size _
  have hr6 := (hr5.alloc (Nat.le_refl _) (.cells #[.int .i64 0] 3)).more (B' := (w5.alloc (.cells #[.int .i64 0] 3)).heap.size) (by simp)
  generalize w5.alloc (.cells #[.int .i64 0] 3) = w6 at hX hB6 hr6 ⊢
  clear hr5 hB5
  have hS := sameInts_any A1 (some ⟨w5.heap.size, 0, none⟩) (orderOf zd 1) [0] c1 1 w6 hr6 (Rd.of_blk hX hX.lt fun k hk => by
    rcases k with _ | k
    · rfl
    · exact absurd hk (by simp)) (by decide)
  rw [show decide (orderOf zd 1 = [0]) = true from by decide] at hS
  have hS' : Calls Tryd.prog 34 #[.slice A1 1 c1, .slice (some ⟨w5.heap.size, 0, none⟩) 1 1] w6 (Ret (.bool true) w6) := hS
  refine hS'.mono ?_
  rintro e w7 ⟨rfl, hb7⟩
  have hB7 := hB6.trans (hb7.mono hB6.size)
  clear hb7 hB6 hr6 hX hS hS'
  go_wp2_with fail
  refine (K1.out _).mono ?_
  rintro e w8 ⟨rfl, rfl⟩
  go_wp2_with fail
  refine (K2.out _).mono ?_
  rintro e w8 ⟨rfl, rfl⟩
  go_wp2_with fail
  refine (K3.out _).mono ?_
  rintro e w8 ⟨rfl, rfl⟩
  go_wp2_with fail
  refine (K4.out _).mono ?_
  rintro e w8 ⟨rfl, rfl⟩
  go_wp2_with fail
  go_ret
  exact ⟨rfl, hB7⟩
end Go.Proofs.YtibnikokgbfcdaaDoor

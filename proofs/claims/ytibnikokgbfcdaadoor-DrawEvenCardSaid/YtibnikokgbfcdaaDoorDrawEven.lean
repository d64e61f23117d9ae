/- The law podiumlaw32.DrawEven: for all words and numbers she returns true. -/
import Derived.Test.YtibnikokgbfcdaaDoorW17
namespace Go.Proofs.YtibnikokgbfcdaaDoor
open Go.RowKit

def evenIn (word n u : Int) : Prop := 0 ≤ word ∧ word < 4294967296 ∧ 1 ≤ n ∧ n ≤ 4096 ∧ 0 ≤ u ∧ u < n
theorem takeOf_no {word n : Int} (h0 : 0 ≤ word) (h1 : word < 4294967296) (h2 : 1 ≤ n) (h3 : n ≤ 4096) (h : 4294967296 - 4294967296 % n ≤ word) : takeOf word n = (0, false, 0) := by
  rw [takeOf, if_neg (by omega), if_pos h]
theorem takeOf_yes {word n : Int} (h0 : 0 ≤ word) (h1 : word < 4294967296) (h2 : 1 ≤ n) (h3 : n ≤ 4096) (h : word < 4294967296 - 4294967296 % n) : takeOf word n = (word % n, true, 0) := by
  rw [takeOf, if_neg (by omega), if_neg (by omega)]
/-- The other word of the same block of n words. -/
theorem takeOf_other {word n u : Int} (h : evenIn word n u) (hy : word < 4294967296 - 4294967296 % n) : takeOf (word - word % n + u) n = (u, true, 0) := by
  obtain ⟨h0, h1, h2, h3, h4, h5⟩ := h
  have a1 : 0 ≤ word % n := Int.emod_nonneg _ (by omega)
  have a2 : word % n < n := Int.emod_lt_of_pos _ (by omega)
  have a3 : word - word % n = n * (word / n) := by have := Int.emod_add_mul_ediv word n; omega
  have a4 : 4294967296 - 4294967296 % n = n * (4294967296 / n) := by have := Int.emod_add_mul_ediv 4294967296 n; omega
  have a5 : word / n < 4294967296 / n := by
    have hlt : n * (word / n) < n * (4294967296 / n) := by omega
    exact Int.lt_of_mul_lt_mul_left hlt (by omega)
  have a6 : n * (word / n) + n ≤ n * (4294967296 / n) := by
    have : n * (word / n + 1) ≤ n * (4294967296 / n) := Int.mul_le_mul_of_nonneg_left (by omega) (by omega)
    rw [Int.mul_add, Int.mul_one] at this
    exact this
  have a7 : 0 ≤ n * (word / n) := Int.mul_nonneg (by omega) (Int.ediv_nonneg (by omega) (by omega))
  have a8 : 0 ≤ 4294967296 % n := Int.emod_nonneg _ (by omega)
  have a9 : (n * (word / n) + u) % n = u := by rw [Int.add_comm, Int.add_mul_emod_self_left, Int.emod_eq_of_lt (by omega) (by omega)]
  rw [a3, takeOf_yes (by omega) (by omega) h2 h3 (by omega), a9]

set_option maxRecDepth 100000 in
set_option maxHeartbeats 8000000 in
theorem drawEven_in (word n u : Int) (h : evenIn word n u) (w : World) (hL : Laid w) : Calls Tryd.prog 5 #[.int .i64 word, .int .i64 n, .int .i64 u] w (Ret (.bool true) w) := by
  have HO := Lib.hid (fun hy => takeOf_other h hy)
  obtain ⟨h0, h1, h2, h3, h4, h5⟩ := h
  have HS := Lib.hid (sane32_ok w hL)
  have hr0 : 0 ≤ word % n := Int.emod_nonneg _ (by omega)
  have hr1 : word % n < n := Int.emod_lt_of_pos _ (by omega)
  have hrw : word % n ≤ word := by have := Int.emod_add_mul_ediv word n; have := Int.mul_nonneg (show 0 ≤ n by omega) (Int.ediv_nonneg h0 (show 0 ≤ n by omega)); omega
  have hm0 : 0 ≤ 4294967296 % n := Int.emod_nonneg _ (by omega)
  have hm1 : 4294967296 % n < n := Int.emod_lt_of_pos _ (by omega)
  clear hL
  by_cases hy : 4294967296 - 4294967296 % n ≤ word
  · have T1 := Lib.hid (fun W => take_is word n 0 false 0 (takeOf_no h0 h1 h2 h3 hy) (by omega) (by omega) (by omega) (by omega) W)
    have T2 := Lib.hid (fun W => take_is 4294967295 n 0 false 0 (takeOf_no (by decide) (by decide) h2 h3 (by omega)) (by omega) (by omega) (by omega) (by omega) W)
    have hwn : 4294967296 - n < word := by omega
    clear hm0 hm1 hy HO hr0 hr1 hrw
    go_enter Tryd.func5, Tryd.ntmps5
    go_wp2_with fail
    refine HS.out.mono ?_
    rintro e w1 ⟨rfl, hb1⟩
    go_wp2_with fail
    refine (T1.out _).mono ?_
    rintro e w1 ⟨rfl, rfl⟩
    go_wp2_with fail
    refine (T2.out _).mono ?_
    rintro e w1 ⟨rfl, rfl⟩
    go_wp2_with fail
    go_ret
    exact ⟨rfl, hb1⟩
  · have T1 := Lib.hid (fun W => take_is word n (word % n) true 0 (takeOf_yes h0 h1 h2 h3 (by omega)) (by omega) (by omega) (by omega) (by omega) W)
    have T2 := Lib.hid (fun W => take_is (word - word % n + u) n u true 0 (HO.out (by omega)) (by omega) (by omega) (by omega) (by omega) W)
    obtain ⟨r, hr⟩ : ∃ r, r = word % n := ⟨_, rfl⟩
    rw [← hr] at T1 T2 hr0 hr1 hrw
    clear hm0 hm1 hy HO hr
    go_enter Tryd.func5, Tryd.ntmps5
    go_wp2_with fail
    refine HS.out.mono ?_
    rintro e w1 ⟨rfl, hb1⟩
    go_wp2_with fail
    refine (T1.out _).mono ?_
    rintro e w1 ⟨rfl, rfl⟩
    go_wp2_with fail
    refine (T2.out _).mono ?_
    rintro e w1 ⟨rfl, rfl⟩
    go_wp2_with fail
    go_ret
    exact ⟨rfl, hb1⟩

set_option maxRecDepth 100000 in
set_option maxHeartbeats 8000000 in
theorem drawEven_out (word n u : Int) (h : ¬ evenIn word n u) (w : World) (hL : Laid w) : Calls Tryd.prog 5 #[.int .i64 word, .int .i64 n, .int .i64 u] w (Ret (.bool true) w) := by
  have h' : word < 0 ∨ 4294967296 ≤ word ∨ n < 1 ∨ 4096 < n ∨ u < 0 ∨ n ≤ u := by unfold evenIn at h; omega
  have HS := Lib.hid (sane32_ok w hL)
  clear h hL
  by_cases c1 : word < 0
  · clear h'
    go_enter Tryd.func5, Tryd.ntmps5
    go_wp2_with (refine HS.out.mono ?_; rintro e w1 ⟨rfl, hb1⟩)
    go_ret
    exact ⟨rfl, hb1⟩
  by_cases c2 : 4294967296 ≤ word
  · clear h'
    go_enter Tryd.func5, Tryd.ntmps5
    go_wp2_with (refine HS.out.mono ?_; rintro e w1 ⟨rfl, hb1⟩)
    go_ret
    exact ⟨rfl, hb1⟩
  by_cases c3 : n < 1
  · clear h'
    go_enter Tryd.func5, Tryd.ntmps5
    go_wp2_with (refine HS.out.mono ?_; rintro e w1 ⟨rfl, hb1⟩)
    go_ret
    exact ⟨rfl, hb1⟩
  by_cases c4 : 4096 < n
  · clear h'
    go_enter Tryd.func5, Tryd.ntmps5
    go_wp2_with (refine HS.out.mono ?_; rintro e w1 ⟨rfl, hb1⟩)
    go_ret
    exact ⟨rfl, hb1⟩
  by_cases c5 : u < 0
  · clear h'
    go_enter Tryd.func5, Tryd.ntmps5
    go_wp2_with (refine HS.out.mono ?_; rintro e w1 ⟨rfl, hb1⟩)
    go_ret
    exact ⟨rfl, hb1⟩
  · have c6 : n ≤ u := by omega
    clear h'
    go_enter Tryd.func5, Tryd.ntmps5
    go_wp2_with (refine HS.out.mono ?_; rintro e w1 ⟨rfl, hb1⟩)
    go_ret
    exact ⟨rfl, hb1⟩
theorem drawEven_any (word n u : Int) (w : World) (hL : Laid w) : Calls Tryd.prog 5 #[.int .i64 word, .int .i64 n, .int .i64 u] w (Ret (.bool true) w) := by
  by_cases h : evenIn word n u
  · exact drawEven_in word n u h w hL
  · exact drawEven_out word n u h w hL
end Go.Proofs.YtibnikokgbfcdaaDoor

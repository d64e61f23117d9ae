/- Walks: rotations, words. -/
import Derived.Test.YtibnikokgbfcdaaDoorProg
import Derived.Test.YtibnikokgbfcdaaDoorWords
import Derived.WalkKit
import Derived.WalkSpells
import Derived.WalkLawsBesides
namespace Go.Proofs.YtibnikokgbfcdaaDoor
open Go.RowKit

set_option maxHeartbeats 400000 in
theorem rotl_any (x k : Int) (n : Nat) (w : World) (hk : bits .and .u64 (IntKind.u64.wrap k) 31 = (n : Int)) (hn : n ≤ 31) :
    Calls Tryd.prog 134 #[.int .u32 x, .int .i64 k] w fun e w' => e = .returned (.int .u32 (rotL x n)) ∧ w = w' := by
  go_enter Tryd.func134, Tryd.ntmps134
  go_wp2
  go_ret
  exact ⟨rfl, rfl⟩

set_option maxHeartbeats 400000 in
theorem rotated_a (x : Int) (w : World) :
    Calls Tryd.prog 135 #[.int .u32 x, .int .i64 6, .int .i64 11, .int .i64 25] w fun e w' => e = .returned (.int .u32 (rot3 x 6 11 25)) ∧ w = w' := by
  go_enter Tryd.func135, Tryd.ntmps135
  go_wp2_with fail
  refine (rotl_any _ (-6) 26 _ (by decide) (by decide)).mono ?_; rintro e w' ⟨rfl, rfl⟩
  go_wp2_with fail
  refine (rotl_any _ (-11) 21 _ (by decide) (by decide)).mono ?_; rintro e w' ⟨rfl, rfl⟩
  go_wp2_with fail
  refine (rotl_any _ (-25) 7 _ (by decide) (by decide)).mono ?_; rintro e w' ⟨rfl, rfl⟩
  go_wp2_with fail
  go_ret
  exact ⟨rfl, rfl⟩

set_option maxHeartbeats 400000 in
theorem rotated_b (x : Int) (w : World) :
    Calls Tryd.prog 135 #[.int .u32 x, .int .i64 2, .int .i64 13, .int .i64 22] w fun e w' => e = .returned (.int .u32 (rot3 x 2 13 22)) ∧ w = w' := by
  go_enter Tryd.func135, Tryd.ntmps135
  go_wp2_with fail
  refine (rotl_any _ (-2) 30 _ (by decide) (by decide)).mono ?_; rintro e w' ⟨rfl, rfl⟩
  go_wp2_with fail
  refine (rotl_any _ (-13) 19 _ (by decide) (by decide)).mono ?_; rintro e w' ⟨rfl, rfl⟩
  go_wp2_with fail
  refine (rotl_any _ (-22) 10 _ (by decide) (by decide)).mono ?_; rintro e w' ⟨rfl, rfl⟩
  go_wp2_with fail
  go_ret
  exact ⟨rfl, rfl⟩

set_option maxHeartbeats 400000 in
theorem word_any (b off len cap : Nat) (f : Nat → Int) (w : World) (hcap : 4 ≤ cap) (hc : ∀ k, k < 4 → w.cell? ⟨b, off + k, none⟩ = some (.int .u8 (f k))) :
    Calls Tryd.prog 133 #[.slice (some ⟨b, off, none⟩) len cap] w fun e w' => e = .returned (.int .u32 (wordTo f 4)) ∧ w = w' := by
  go_enter Tryd.func133, Tryd.ntmps133
  go_wp2
  go_loop [2, 8] (fun n i => ∃ k : Nat, k ≤ 4 ∧ i = .int .i64 k ∧ n = .int .u32 (wordTo f k)) (fun _ i => 4 - (intOf i).toNat)
  case atStart => exact ⟨0, Nat.zero_le _, rfl, rfl⟩
  case round =>
    obtain ⟨k, hk, rfl, rfl⟩ := hrel
    by_cases hlt : k < 4
    · have hcell := hc k hlt
      go_wp2
      go_round
      case rel => exact ⟨k + 1, by omega, by go_num, rfl⟩
      case measure => simp [intOf]; omega
    · go_wp2
      go_ret
      obtain rfl : k = 4 := by omega
      exact ⟨rfl, rfl⟩

end Go.Proofs.YtibnikokgbfcdaaDoor

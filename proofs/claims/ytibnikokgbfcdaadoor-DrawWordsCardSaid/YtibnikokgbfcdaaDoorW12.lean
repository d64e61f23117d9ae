/- Walk: draw.Take. -/
import Derived.Test.YtibnikokgbfcdaaDoorProg
import Derived.WalkKit
import Derived.WalkSpells
namespace Go.Proofs.YtibnikokgbfcdaaDoor
open Go.RowKit

/-- What draw.Take returns. -/
def takeOf (word n : Int) : Int × Bool × Int :=
  if word < 0 ∨ 4294967296 ≤ word ∨ n < 1 ∨ 4096 < n then (0, false, 1) else if 4294967296 - 4294967296 % n ≤ word then (0, false, 0) else (word % n, true, 0)
def takeV (r : Int × Bool × Int) : Value := .tuple #[.int .i64 r.1, .bool r.2.1, .int .i64 r.2.2]
set_option maxRecDepth 100000 in
set_option maxHeartbeats 1000000 in
theorem take_any (word n : Int) (h0 : -9223372036854775808 ≤ word) (h1 : word < 9223372036854775808) (h2 : -9223372036854775808 ≤ n) (h3 : n < 9223372036854775808) (w : World) :
    Calls Tryd.prog 27 #[.int .i64 word, .int .i64 n] w (fun e w' => e = .returned (takeV (takeOf word n)) ∧ w = w') := by
  have hmod : 0 < n → 0 ≤ 4294967296 % n ∧ 4294967296 % n < n := fun h => ⟨Int.emod_nonneg _ (by omega), Int.emod_lt_of_pos _ h⟩
  by_cases c1 : word < 0
  · rw [show takeOf word n = (0, false, 1) from if_pos (.inl c1)]
    clear hmod
    go_enter Tryd.func27, Tryd.ntmps27
    go_wp2
    all_goals go_ret3
    all_goals exact ⟨rfl, rfl⟩
  by_cases c2 : 4294967296 ≤ word
  · rw [show takeOf word n = (0, false, 1) from if_pos (.inr (.inl c2))]
    clear hmod
    go_enter Tryd.func27, Tryd.ntmps27
    go_wp2
    all_goals go_ret3
    all_goals exact ⟨rfl, rfl⟩
  by_cases c3 : n < 1
  · rw [show takeOf word n = (0, false, 1) from if_pos (.inr (.inr (.inl c3)))]
    clear hmod
    go_enter Tryd.func27, Tryd.ntmps27
    go_wp2
    all_goals go_ret3
    all_goals exact ⟨rfl, rfl⟩
  by_cases c4 : 4096 < n
  · rw [show takeOf word n = (0, false, 1) from if_pos (.inr (.inr (.inr c4)))]
    clear hmod
    go_enter Tryd.func27, Tryd.ntmps27
    go_wp2
    all_goals go_ret3
    all_goals exact ⟨rfl, rfl⟩
  obtain ⟨m0, m1⟩ := hmod (by omega)
  have hr0 : 0 ≤ word % n := Int.emod_nonneg _ (by omega)
  have hr1 : word % n < n := Int.emod_lt_of_pos _ (by omega)
  have hm : (4294967296 : Int).tmod n = 4294967296 % n := Int.tmod_eq_emod_of_nonneg (by omega)
  have hw : word.tmod n = word % n := Int.tmod_eq_emod_of_nonneg (by omega)
  by_cases c5 : 4294967296 - 4294967296 % n ≤ word
  · rw [show takeOf word n = (0, false, 0) by rw [takeOf, if_neg (by omega), if_pos c5]]
    go_enter Tryd.func27, Tryd.ntmps27
    go_wp2
    all_goals go_ret3
    all_goals exact ⟨rfl, rfl⟩
  · rw [show takeOf word n = (word % n, true, 0) by rw [takeOf, if_neg (by omega), if_neg c5]]
    go_enter Tryd.func27, Tryd.ntmps27
    go_wp2
    all_goals go_ret3
    all_goals exact ⟨rfl, rfl⟩
end Go.Proofs.YtibnikokgbfcdaaDoor

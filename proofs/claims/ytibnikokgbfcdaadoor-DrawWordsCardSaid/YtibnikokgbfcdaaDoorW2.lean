/- Walk: digest.put. -/
import Derived.Test.YtibnikokgbfcdaaDoorProg
import Derived.Test.YtibnikokgbfcdaaDoorWords
import Derived.Test.YtibnikokgbfcdaaDoorMem
import Derived.WalkKit
import Derived.WalkSpells
import Derived.WalkLawsBesides
namespace Go.Proofs.YtibnikokgbfcdaaDoor
open Go.RowKit

def PutPost (g : Nat) (t : TypeId) (cs : Array Value) (w : World) (e : Ending) (w' : World) : Prop := e = .returned (.tuple #[]) ∧ Blk w' g t cs ∧ Only w w' g

set_option maxHeartbeats 400000 in
theorem put_any (g off n cap : Nat) (t : TypeId) (cs : Array Value) (x : Int) (w : World) (hB : Blk w g t cs) (hn : n ≤ 8) (hfit : off + n ≤ cs.size) :
    Calls Tryd.prog 118 #[.slice (some ⟨g, off, none⟩) n cap, .int .u64 x] w (PutPost g t (putTo cs off n x n) w) := by
  go_enter Tryd.func118, Tryd.ntmps118
  go_wp2
  go_loopw [7] (fun i wr => ∃ k : Nat, k ≤ n ∧ i = .int .i64 k ∧ Blk wr g t (putTo cs off n x k) ∧ Only w wr g) (fun i _ => n - (intOf i).toNat)
  case atStart => exact ⟨0, Nat.zero_le _, rfl, hB, Only.refl _ _⟩
  case round =>
    obtain ⟨k, hk, rfl, hb, ho⟩ := hrel
    by_cases hlt : k < n
    · obtain ⟨v, hcell⟩ := hb.some_ (i := off + (n - 1 - k)) (by rw [putTo_size]; omega)
      have hfz := hb.frozen (off + (n - 1 - k))
      go_wp2
      go_roundw
      case rel => exact ⟨k + 1, by omega, by go_num, hb.set _ _, ho.set (.inl rfl) _⟩
      case measure => simp [intOf]; omega
    · go_wp2
      go_end0
      obtain rfl : k = n := by omega
      exact ⟨rfl, hb, ho⟩
end Go.Proofs.YtibnikokgbfcdaaDoor

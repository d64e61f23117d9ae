/- Walk: digest.Tagged. -/
import Derived.Test.YtibnikokgbfcdaaDoorW5
import Derived.Test.YtibnikokgbfcdaaDoorOps
namespace Go.Proofs.YtibnikokgbfcdaaDoor
open Go.RowKit

/-- The hash of bytes under a tag. -/
def tagged (t l : List UInt8) : List UInt8 := sha (sha t ++ l)
theorem tagged_length (t l : List UInt8) : (tagged t l).length = 32 := sha_length _

set_option maxRecDepth 100000 in
set_option maxHeartbeats 1000000 in
theorem tagged_any (s : ByteArray) (A : Option Addr) (l : List UInt8) (cap : Nat) (w : World) (hL : Laid w) (hA : RdB w w.heap.size A l) (hl : l.length ≤ 140737488000000) (hs : s.size ≤ 140737488000000) :
    Calls Tryd.prog 58 #[.string s, .slice A l.length cap] w (Ret (.agg (dig (tagged s.data.toList l))) w) := by
  go_enter Tryd.func58, Tryd.ntmps58
  go_wp2_with (refine conv_str rfl _ rfl _ s (by omega) rfl ?_; intro c1 w1 hc1 hc2 hr1 hb1 hz1; have hB1 : Below w.heap.size w w1 := ((Below.refl _ w).alloc (Nat.le_refl _) _).trans (hb1.mono (by simp)); have hD1 := (Blk.new w 23 _).below hb1 (by simp); simp only [World.size_alloc] at hr1 hz1; clear hb1)
  refine (sum_bytes s.data.toList _ _ _ (hL.below hB1) hr1 hc1 hc2 (Nat.le_trans hs (by omega))).mono ?_
  rintro e w2 ⟨rfl, hb2⟩
  have hB2 := hB1.trans (hb2.mono hB1.size)
  have hD2 := hD1.below hb2 hD1.lt
  have hz2 : w.heap.size + 2 ≤ w2.heap.size := by have := hb2.size; omega
  clear hD1 hr1
  go_wp2_with (refine store_dig_new rfl _ _ rfl _ _ _ (sha s.data.toList) (sha_length _) rfl rfl rfl ?_)
  have hr2 := hA.below hB2
  have hA3 : RdB ((w2.alloc (.cells (dig (sha s.data.toList)) 23)).alloc (.cells #[.slice (some ⟨w2.heap.size, 0, none⟩) 32 32, .slice A l.length cap] 39)) ((w2.alloc (.cells (dig (sha s.data.toList)) 23)).alloc (.cells #[.slice (some ⟨w2.heap.size, 0, none⟩) 32 32, .slice A l.length cap] 39)).heap.size A l :=
    ((hr2.more (B' := w2.heap.size) hB2.size).alloc (Nat.le_refl _) _ |>.alloc (by simp) _).more (by simp; omega)
  have hT : Blk ((w2.alloc (.cells (dig (sha s.data.toList)) 23)).alloc (.cells #[.slice (some ⟨w2.heap.size, 0, none⟩) 32 32, .slice A l.length cap] 39)) w2.heap.size 23 (dig (sha s.data.toList)) := (Blk.new w2 _ _).alloc _
  have hS : Blk ((w2.alloc (.cells (dig (sha s.data.toList)) 23)).alloc (.cells #[.slice (some ⟨w2.heap.size, 0, none⟩) 32 32, .slice A l.length cap] 39)) (w2.heap.size + 1) 39 #[.slice (some ⟨w2.heap.size, 0, none⟩) 32 32, .slice A l.length cap] := heap_alloc2_new w2 _ _
  have hB3 : Below w.heap.size w ((w2.alloc (.cells (dig (sha s.data.toList)) 23)).alloc (.cells #[.slice (some ⟨w2.heap.size, 0, none⟩) 32 32, .slice A l.length cap] 39)) := (hB2.alloc hB2.size _).alloc (Nat.le_trans hB2.size (by simp)) _
  have hD3 := (hD2.alloc (.cells (dig (sha s.data.toList)) 23)).alloc (.cells #[.slice (some ⟨w2.heap.size, 0, none⟩) 32 32, .slice A l.length cap] 39)
  clear hr2 hD2
  generalize (w2.alloc (.cells (dig (sha s.data.toList)) 23)).alloc (.cells #[.slice (some ⟨w2.heap.size, 0, none⟩) 32 32, .slice A l.length cap] 39) = w3 at hA3 hT hS hB3 hD3 ⊢
  refine (concat_two (w2.heap.size + 1) 0 2 (some ⟨w2.heap.size, 0, none⟩) A 32 cap 32 l.length (sha s.data.toList) l w3 (sha_length _).symm rfl (hS.cell 0) (hS.cell 1)
    (RdB.of_blk hT fun k hk => by rw [Nat.zero_add]; exact dig_get _ k hk) hA3 (by omega) (by omega)).mono ?_
  intro e w4 hp
  obtain ⟨M, hM⟩ : ∃ M, M = sha s.data.toList ++ l := ⟨_, rfl⟩
  have hMl : M.length = 32 + l.length := by rw [hM, List.length_append, sha_length]
  rw [← hM] at hp
  have HM := Lib.hid hM
  clear hM
  obtain ⟨v, rfl, hown, hb4⟩ := hp
  have hB4 := hB3.trans (hb4.mono hB3.size)
  have hD4 := hD3.below hb4 hD3.lt
  clear hT hS hA3 hD3 hb4
  have hform : ∃ g cap', v = .slice (some ⟨g, 0, none⟩) M.length cap' ∧ M.length ≤ cap' ∧ cap' ≤ maxLen := by
    rcases hown.2 with ⟨rfl, h0⟩ | ⟨g, cap', cur, rfl, _, _, h1, h2, _⟩
    · omega
    · exact ⟨g, cap', rfl, h1, h2⟩
  obtain ⟨g, cap', rfl, hg1, hg2⟩ := hform
  have hr4 := (RdB.of_own hown).2
  have hlen : M.length ≤ 281474976710656 := by omega
  unfold maxLen at hg2
  clear hown hMl
  go_wp2_with fail
  refine (sum_bytes M _ _ _ (hL.below hB4) hr4 hg1 hg2 hlen).mono ?_
  rintro e w5 ⟨rfl, hb5⟩
  have hB5 := hB4.trans (hb5.mono hB4.size)
  have hD5 := hD4.below hb5 hD4.lt
  clear hD4 hr4 hb5
  go_wp2_with (refine store_dig rfl _ _ rfl hD5 (sha M) (sha_length _) rfl rfl rfl ?_; intro w6 hD6 hO6 hz6)
  refine bodyPost_ret (results_cell_row rfl _ _ w.heap.size 23 _ (0, 0) _ rfl hD6 Tryd.underlying23 rfl (dig_info _ (sha_length _))) rfl ?_
  rw [tagged, ← HM.out]
  exact ⟨rfl, hB5.trans (hO6.toBelow hB5.size (Nat.le_refl _))⟩
end Go.Proofs.YtibnikokgbfcdaaDoor

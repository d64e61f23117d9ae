/- Walks: bytes.Clone; chain.Add. -/
import Derived.Test.YtibnikokgbfcdaaDoorC1
import Derived.Lib.SliceRun
namespace Go.Proofs.YtibnikokgbfcdaaDoor
open Go Go.RowKit

set_option maxRecDepth 100000 in
set_option maxHeartbeats 2000000 in
theorem bClone_any (A : Option Addr) (l : List UInt8) (n c : Nat) (hn : n = l.length) (hl : n ≤ 140737488000000) (w : World) (hA : RdB w w.heap.size A l) (hnone : A = none → n = 0 ∧ c = 0) :
    Calls Tryd.prog 77 #[.slice A n c] w (OwnPost l w) := by
  have q : ∀ (w : World) (a : Option Addr) (n c n' c' : Nat), (binOp .eql 39 (.slice a n c) (.slice none n' c')).run Tryd.prog w = .ok (.bool a.isNone) w := fun w a n c n' c' => Lib.run_eql_slice_nil w _ _ a n c n' c' Tryd.underlying39
  cases A with
  | none =>
    obtain ⟨rfl, rfl⟩ := hnone rfl
    obtain rfl : l = [] := List.eq_nil_of_length_eq_zero hn.symm
    clear hnone hA hn
    go_enter Tryd.func77, Tryd.ntmps77
    go_wp2
    go_ret
    exact ⟨_, rfl, World.ownsRow_nil _ _ _ _, Below.refl _ _⟩
  | some p =>
    have hsrc : Src Tryd.prog 1 39 (.slice (some p) n c) n (bcells l) (w.alloc (.cells #[] 5)) := by
      rw [hn]
      exact src_bytes _ (hA.alloc (Nat.le_refl _) _)
    have hown : (w.alloc (.cells #[] 5)).ownsRow w.heap.size 5 1 (.slice (some ⟨w.heap.size, 0, none⟩) 0 0) 0 [] := own_bytes_new w w.heap.size (Nat.le_refl _) [] (by simp only [maxLen, List.length_nil]; omega)
    have HS := Lib.hid hsrc
    have HO := Lib.hid hown
    have HN := Lib.hid hn
    have hB0 : Below w.heap.size w (w.alloc (.cells #[] 5)) := (Below.refl _ w).alloc (Nat.le_refl _) _
    have HB0 := Lib.hid hB0
    clear hsrc hown hn hnone hA hB0
    go_enter Tryd.func77, Tryd.ntmps77
    go_wp2_with (refine app_bytes _ rfl _ _ 39 rfl w.heap.size _ 0 [] rfl HO.out _ n (bcells l) rfl HS.out (by omega) (by simp) ?_; intro v' w' h1 h2; have hR := Lib.hid h1; have hG := Lib.hid h2; clear h1 h2)
    go_ret
    have h := hR.out
    rw [Nat.zero_add, List.nil_append, HN.out] at h
    refine ⟨v', rfl, h, ?_⟩
    exact HB0.out.trans (hG.out.below HB0.out.size (fun k hk => by cases hk; exact Nat.le_refl _))
end Go.Proofs.YtibnikokgbfcdaaDoor

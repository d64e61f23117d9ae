/- Walks: slices.Grow, slices.Concat of two slices of bytes, digest.Tagged. -/
import Derived.Test.YtibnikokgbfcdaaDoorBytes
namespace Go.Proofs.YtibnikokgbfcdaaDoor
open Go.RowKit

def GrowPost (w : World) (e : Ending) (w' : World) : Prop := ∃ v, e = .returned v ∧ w'.ownsRow w.heap.size 5 1 v 0 [] ∧ Below w.heap.size w w'
set_option maxHeartbeats 1000000 in
theorem grow_nil (n : Nat) (w : World) (h0 : 0 < n) (hn : n ≤ 140737488355328) :
    Calls Tryd.prog 119 #[.slice none 0 0, .int .i64 n] w (GrowPost w) := by
  have happ := fun ty => run_append_zeros_nil (P := Tryd.prog) w 39 3 ty 5 bInfo (.int .u8 0) .i64 Tryd.underlying39 Tryd.underlying3 bInfo_eq bInfo_zero (by rw [bInfo_size]; decide) n h0 (by omega) (by rw [bInfo_bytes]; omega)
  have hc : grownCap w n 0 5 ≤ maxLen := grownCap_le_maxLen w n 0 _ (by simp only [maxLen]; omega)
  have hge := grownCap_ge w n 0 5
  obtain ⟨C, hC⟩ : ∃ C, C = grownCap w n 0 5 := ⟨_, rfl⟩
  obtain ⟨Z, hZ⟩ : ∃ Z, Z = Builtin.zeroCells (Value.int .u8 0).cells n ++ Builtin.zeroCells (Value.int .u8 0).cells (grownCap w n 0 5 - n) := ⟨_, rfl⟩
  have hZs : Z.size = C := by rw [hZ, hC, Array.size_append, size_zeroCells, size_zeroCells]; simp [Value.cells]; omega
  rw [← hZ, ← hC] at happ
  rw [← hC] at hc hge
  have HZS := Lib.hid hZs
  have HC := Lib.hid hc
  clear hZ hC hZs hc
  have hi0 : (0 : Int) < n := by omega
  go_enter Tryd.func119, Tryd.ntmps119
  have HA := Lib.hid happ
  clear happ
  go_wp2_with (at_builtin; refine wpList_append_run _ rfl _ _ 39 3 rfl _ _ rfl rfl _ _ HA.out ?_)
  go_ret
  refine ⟨_, rfl, ?_, (Below.refl _ w).drew.alloc (by simp) _⟩
  have h := World.ownsRow_made w.drew (e := 5) (size := 1) (base := w.heap.size) Z C (Nat.le_refl _) HC.out (by rw [HZS.out, Nat.mul_one])
  exact h

def OwnPost (l : List UInt8) (w : World) (e : Ending) (w' : World) : Prop := ∃ v, e = .returned v ∧ w'.ownsRow w.heap.size 5 1 v l.length (bcells l) ∧ Below w.heap.size w w'
set_option maxHeartbeats 1000000 in
theorem concat_two (g off c : Nat) (A1 A2 : Option Addr) (c1 c2 n1 n2 : Nat) (l1 l2 : List UInt8) (w : World) (e1 : n1 = l1.length) (e2 : n2 = l2.length) (h1 : w.cell? ⟨g, off, none⟩ = some (.slice A1 n1 c1)) (h2 : w.cell? ⟨g, off + 1, none⟩ = some (.slice A2 n2 c2))
    (r1 : RdB w w.heap.size A1 l1) (r2 : RdB w w.heap.size A2 l2) (hpos : 0 < n1 + n2) (hmax : n1 + n2 ≤ 140737488355328) :
    Calls Tryd.prog 102 #[.slice (some ⟨g, off, none⟩) 2 c] w (OwnPost (l1 ++ l2) w) := by
  have E1 := Lib.hid e1
  have E2 := Lib.hid e2
  clear e1 e2
  have hgl : g < w.heap.size := World.block_lt_of_cell? w _ h1
  go_enter Tryd.func102, Tryd.ntmps102
  go_wp2_with fail
  go_loop [3, 11] (fun s i => (i = .int .i64 0 ∧ s = .int .i64 0) ∨ (i = .int .i64 1 ∧ s = .int .i64 n1) ∨ (i = .int .i64 2 ∧ s = .int .i64 ((n1 : Int) + n2))) (fun _ i => 2 - (intOf i).toNat)
  case atStart => exact .inl ⟨rfl, rfl⟩
  case round =>
    rcases hrel with ⟨rfl, rfl⟩ | ⟨rfl, rfl⟩ | ⟨rfl, rfl⟩
    · go_wp2_with fail
      go_round
      case rel => exact .inr (.inl ⟨rfl, rfl⟩)
      case measure => simp [intOf]
    · go_wp2_with fail
      go_round
      case rel => exact .inr (.inr ⟨rfl, rfl⟩)
      case measure => simp [intOf]
    · go_wp2_with fail
      refine (grow_nil (n1 + n2) w hpos hmax).mono ?_
      rintro e w1 ⟨v, rfl, hown, hb⟩
      have h1' := (hb.cell (p := ⟨g, off, none⟩) hgl).trans h1
      have h2' := (hb.cell (p := ⟨g, off + 1, none⟩) hgl).trans h2
      have r1' := r1.below hb
      have r2' := r2.below hb
      clear h1 h2 r1 r2
      go_wp2_with fail
      go_loopw [6, 27] (fun v i wr => ((i = .int .i64 0 ∧ wr.ownsRow w.heap.size 5 1 v 0 []) ∨ (i = .int .i64 1 ∧ wr.ownsRow w.heap.size 5 1 v n1 (bcells l1)) ∨ (i = .int .i64 2 ∧ wr.ownsRow w.heap.size 5 1 v (n1 + n2) (bcells l1 ++ bcells l2))) ∧ Below w.heap.size w1 wr) (fun _ i _ => 2 - (intOf i).toNat)
      case atStart => exact ⟨.inl ⟨rfl, hown⟩, Below.refl _ _⟩
      case round =>
        clear hown
        obtain ⟨hcase, hb1⟩ := hrel
        have h1 := (hb1.cell (p := ⟨g, off, none⟩) hgl).trans h1'
        have h2 := (hb1.cell (p := ⟨g, off + 1, none⟩) hgl).trans h2'
        have s1 : Src Tryd.prog 1 39 (.slice A1 n1 c1) n1 (bcells l1) wr := by rw [E1.out]; exact src_bytes wr (r1'.below hb1)
        have s2 : Src Tryd.prog 1 39 (.slice A2 n2 c2) n2 (bcells l2) wr := by rw [E2.out]; exact src_bytes wr (r2'.below hb1)
        have hB : w.heap.size ≤ wr.heap.size := Nat.le_trans hb.size hb1.size
        clear h1' h2' r1' r2'
        rcases hcase with ⟨rfl, hown⟩ | ⟨rfl, hown⟩ | ⟨rfl, hown⟩
        · go_wp2_with (at_builtin; refine app_bytes wr rfl _ _ 39 rfl w.heap.size _ 0 [] rfl hown _ n1 _ rfl s1 (by omega) hB ?_; intro v' w2 hown' hgr)
          rw [Nat.zero_add, List.nil_append] at hown'
          go_roundw
          case rel => exact ⟨.inr (.inl ⟨rfl, hown'⟩), hb1.trans (hgr.below hB fun k hk => (hown.lt k hk).1)⟩
          case measure => simp [intOf]
        · go_wp2_with (at_builtin; refine app_bytes wr rfl _ _ 39 rfl w.heap.size _ n1 _ rfl hown _ n2 _ rfl s2 (by omega) hB ?_; intro v' w2 hown' hgr)
          go_roundw
          case rel => exact ⟨.inr (.inr ⟨rfl, hown'⟩), hb1.trans (hgr.below hB fun k hk => (hown.lt k hk).1)⟩
          case measure => simp [intOf]
        · go_wp2_with fail
          go_ret
          refine ⟨_, rfl, ?_, hb.trans hb1⟩
          rw [List.length_append, bcells_append, ← E1.out, ← E2.out]
          exact hown
end Go.Proofs.YtibnikokgbfcdaaDoor

/- The iterator over digits from the last one on: slices.Backward, nat.down. -/
import Derived.Test.YtkkcbkfpaoldmaaGreatDoorN3
import Derived.Test.YtkkcbkfpaoldmaaGreatDoorM02
import Derived.RangeFuncNested
import Derived.RangeFuncBound
import Derived.RangeFuncCalls
import Derived.RangeFuncLeaves
import Derived.Shelf.Abstract
import Derived.Shelf.RegionOpen
import Derived.OwnWalkIn
import Derived.TacticsInMore
import Derived.LoopNIn
import Derived.LoopIn
import Derived.Deep.Cut
import Derived.BigQuiet
import Derived.OwnWalk
namespace Go.Proofs.YtkkcbkfpaoldmaaGreatDoor
open Go Go.RowKit Go.Shelf
attribute [local go_sem] Oper.semAt_some

/-- What lay below n₀, and block bs, lie as they lay. -/
def Kept (n₀ bs : Nat) (W W' : World) : Prop := Below n₀ W W' ∧ ∀ o, W.heap[bs]? = some o → W'.heap[bs]? = some o
theorem Kept.refl (n₀ bs : Nat) (W : World) : Kept n₀ bs W W := ⟨Below.refl _ _, fun _ ho => ho⟩
theorem Kept.trans {n₀ bs : Nat} {X Y Z : World} (h : Kept n₀ bs X Y) (k : Kept n₀ bs Y Z) : Kept n₀ bs X Z := ⟨h.1.trans k.1, fun o ho => k.2 o (h.2 o ho)⟩
theorem Kept.of_below {n₀ bs : Nat} {W W' : World} (h : Below W.heap.size W W') (hn : n₀ ≤ W.heap.size) : Kept n₀ bs W W' := ⟨h.mono hn, fun _ ho => (h.block bs (Array.getElem?_eq_some_iff.1 ho).1).trans ho⟩
theorem fin_take (m k : Nat) (h : k < m) : (List.finRange m).take (k + 1) = (List.finRange m).take k ++ [⟨k, h⟩] := by
  rw [List.take_add_one]
  simp [h]
theorem fin_take_length (m k : Nat) (h : k ≤ m) : ((List.finRange m).take k).length = k := by simp; omega
/-- What the k-th round gets: the k-th digit from the end. -/
def backEnc (L : List Int) (m : Nat) (x : Fin m) : Array Value := #[.int .i64 ((m - 1 - x.1 : Nat) : Int), .int .i64 (dg L (m - 1 - x.1))]
set_option maxRecDepth 100000 in
set_option linter.unusedSimpArgs false in
set_option linter.unusedVariables false in
set_option maxHeartbeats 4000000 in
theorem back1_in (n : Nat) (l bs n₀ : Nat) (A : Option Addr) (c m : Nat) (L : List Int) (hm : m ≤ 1000000) (ts : TypeId) (J Jx : List (Fin m) → World → Prop)
    (W : World)
    (hY : ∀ pre x W1, J pre W1 → pre.length < m → YieldAt Fence.wide (n - 1) Tryz.prog l (backEnc L m x) W1 fun e W' =>
      (e = .returned (.bool true) ∧ J (pre ++ [x]) W' ∧ Kept n₀ bs W1 W') ∨ (e = .returned (.bool false) ∧ Jx (pre ++ [x]) W'))
    (hD : Blk W bs ts #[.slice A m c]) (hR : Rd W n₀ A m (fun i => .int .i64 (dg L i))) (h0 : J [] W) :
    Calls Tryz.prog 137 #[.func (.yield l) #[] #[], .pointer (some ⟨bs, 0, none⟩)] W fun e W' => (∃ v, e = .returned v) ∧
      ((∃ xs, xs = List.finRange m ∧ J xs W') ∨ (∃ pre, pre <+: List.finRange m ∧ Jx pre W')) := by
  have HY := Lib.hid hY
  have HR := Lib.hid hR
  have HD := Lib.hid hD
  have cs : W.cell? ⟨bs, 0, none⟩ = some (.slice A m c) := hD.cell 0
  have hw0 : wrap64 ((m : Int) - 1) = (m : Int) - 1 := wrap_in _ (by omega)
  clear hY hR hD
  go_enter Tryz.func137, Tryz.ntmps137
  go_wp2_with fail
  clear cs hw0
  go_loopw [3] (fun i wr => ∃ k : Nat, k ≤ m ∧ i = .int .i64 ((m : Int) - 1 - k) ∧ J ((List.finRange m).take k) wr ∧ Kept n₀ bs W wr) (fun i _ => ((intOf i) + 1).toNat)
  case atStart => exact ⟨0, by omega, by simp, h0, Kept.refl _ _ _⟩
  case round =>
    obtain ⟨k, hk, rfl, hJs, hB⟩ := hrel
    by_cases hlt : k < m
    · obtain ⟨s, hs⟩ : ∃ s, s = m - 1 - k := ⟨_, rfl⟩
      have hsm : s < m := by omega
      have e1 : (m : Int) - 1 - k = (s : Int) := by omega
      rw [e1]
      obtain ⟨b, off, rfl, _, hc⟩ := (HR.out.below hB.1).at_ (k := s) hsm
      have hd := hB.2 _ HD.out
      have cb : wr.cell? ⟨bs, 0, none⟩ = some (.slice (some ⟨b, off, none⟩) m c) := (show Blk wr bs ts #[.slice (some ⟨b, off, none⟩) m c] from hd).cell 0
      obtain ⟨x, hx⟩ : ∃ x, x = dg L s := ⟨_, rfl⟩
      rw [← hx] at hc
      have HW1 := Lib.hid (show (s : Int) - 1 = (m : Int) - 1 - ((k + 1 : Nat) : Int) by omega)
      have g1 : decide ((0 : Int) ≤ (s : Int)) = true := decide_eq_true (by omega)
      obtain ⟨fn, tmps, assign, body, hy, hRo⟩ := HY.out ((List.finRange m).take k) ⟨k, hlt⟩ wr hJs (by rw [fin_take_length _ _ hk]; exact hlt)
      have hy' : (Instr.yield l #[.int .i64 (s : Int), .int .i64 x]).run Tryz.prog wr = .ok (.round l fn tmps assign body) wr := by rw [hx, hs]; exact hy
      have HSS := Lib.hid hs
      clear hy hx hd hs
      go_upto_region 3 with fail
      refine (wpIn_wide (n := n)).1 ?_
      gi_wp2
      refine ⟨fun h => (by cases h), hRo.mono ?_⟩
      rintro e5 W5 (⟨rfl, hJ5, hk5⟩ | ⟨rfl, hJx5⟩)
      · gi_wp2
        go_wp2_with fail
        go_roundw
        case rel => exact ⟨k + 1, by omega, by rw [← HW1.out], by rw [fin_take _ _ hlt]; exact hJ5, hB.trans hk5⟩
        case measure => simp [intOf]
      · gi_wp2
        go_wp2_with fail
        refine bodyPost_ret (results_none rfl _ _ _) rfl ?_
        exact ⟨⟨_, rfl⟩, .inr ⟨_, by rw [← fin_take _ _ hlt]; exact List.take_prefix _ _, hJx5⟩⟩
    · obtain rfl : k = m := by omega
      have e1 : (k : Int) - 1 - k = -1 := by omega
      rw [e1]
      go_wp2_with fail
      go_end0
      rw [List.take_of_length_le (by simp)] at hJs
      exact ⟨⟨_, rfl⟩, .inl ⟨_, rfl, hJs⟩⟩
/-- The iterator's contract. -/
theorem back_stops (n : Nat) (bs n₀ : Nat) (A : Option Addr) (c m : Nat) (L : List Int) (hm : m ≤ 1000000) (ts : TypeId) (w : World) (hn0 : n₀ ≤ w.heap.size)
    (hD : Blk w bs ts #[.slice A m c]) (hR : Rd w n₀ A m (fun i => .int .i64 (dg L i))) :
    SeqM Fence.wide n Tryz.prog 137 #[.pointer (some ⟨bs, 0, none⟩)] (backEnc L m) (Kept n₀ bs) none (fun _ => True) (fun xs => xs = List.finRange m) (fun pre => pre <+: List.finRange m) (fun _ _ => True) m w := fun l J Jx W hW _ _ _ hY h0 => by
  refine callsIn_wide.2 ((back1_in n l bs n₀ A c m L hm ts J Jx W hY (hD.below hW hD.lt) (hR.below (hW.mono hn0)) h0).mono fun e W' h => ?_)
  rcases h with ⟨h1, ⟨xs, h2, h3⟩ | h2⟩
  · exact ⟨h1, .inl ⟨xs, h2, h3, trivial⟩⟩
  · exact ⟨h1, .inr h2⟩
set_option maxRecDepth 100000 in
set_option maxHeartbeats 1000000 in
theorem backward_any (A : Option Addr) (m c : Nat) (w : World) :
    Calls Tryz.prog 122 #[.slice A m c] w fun e w' => e = .returned (.func (.func 137) #[] #[.pointer (some ⟨w.heap.size, 0, none⟩)]) ∧ w' = w.alloc (.cells #[.slice A m c] 131) := by
  go_enter Tryz.func122, Tryz.ntmps122
  go_wp2
  go_ret
  exact ⟨rfl, rfl⟩
set_option maxRecDepth 100000 in
set_option maxHeartbeats 1000000 in
theorem ndown_any (A : Option Addr) (m c : Nat) (w : World) :
    Calls Tryz.prog 100 #[.slice A m c] w fun e w' => e = .returned (.func (.func 137) #[] #[.pointer (some ⟨w.heap.size, 0, none⟩)]) ∧ w' = w.alloc (.cells #[.slice A m c] 131) := by
  go_enter Tryz.func100, Tryz.ntmps100
  go_wp2_with fail
  refine (backward_any A m c w).mono ?_
  rintro e w1 ⟨rfl, rfl⟩
  go_wp2_with fail
  go_ret
  exact ⟨rfl, rfl⟩
end Go.Proofs.YtkkcbkfpaoldmaaGreatDoor

/- Walk: podiumref31.SameInts. -/
import Derived.Test.YtibnikokgbfcdaaDoorDraw1
namespace Go.Proofs.YtibnikokgbfcdaaDoor
open Go Go.RowKit

set_option maxRecDepth 100000 in
set_option maxHeartbeats 1000000 in
theorem r31Same_any (A B : Option Addr) (l m : List Int) (c c2 : Nat) (w : World) (hA : Rd w w.heap.size A l.length (fun k => .int .i64 (l.getD k 0))) (hB : Rd w w.heap.size B m.length (fun k => .int .i64 (m.getD k 0)))
    (hl : l.length ≤ 4611686018427387903) : Calls Tryd.prog 53 #[.slice A l.length c, .slice B m.length c2] w (Ret (.bool (decide (l = m))) w) := by
  obtain ⟨n, hn⟩ : ∃ n, n = l.length := ⟨_, rfl⟩
  obtain ⟨n2, hn2⟩ : ∃ n2, n2 = m.length := ⟨_, rfl⟩
  rw [← hn, ← hn2]
  have HN := Lib.hid hn
  have HN2 := Lib.hid hn2
  have HA := Lib.hid hA
  have HB := Lib.hid hB
  rw [← hn] at hl
  clear hA hB hn hn2
  by_cases h : n = n2
  · subst h
    go_enter Tryd.func53, Tryd.ntmps53
    go_wp2_with fail
    go_loopw [5] (fun x wr => ∃ j : Nat, j ≤ n ∧ x = .int .i64 j ∧ (∀ i, i < j → l.getD i 0 = m.getD i 0) ∧ Below w.heap.size w wr) (fun x _ => n - (intOf x).toNat)
    case atStart => exact ⟨0, by omega, rfl, fun i hi => absurd hi (by omega), Below.refl _ _⟩
    case round =>
      obtain ⟨j, hj, rfl, hs, hBw⟩ := hrel
      have HS := Lib.hid hs
      clear hs
      by_cases hlt : j < n
      · obtain ⟨b, off, rfl, _, hc⟩ := (HA.out.below hBw).at_ (k := j) (by rw [← HN.out]; exact hlt)
        obtain ⟨b2, off2, rfl, _, hc2⟩ := (HB.out.below hBw).at_ (k := j) (by rw [← HN2.out]; exact hlt)
        obtain ⟨x, hx⟩ : ∃ x, x = l.getD j 0 := ⟨_, rfl⟩
        obtain ⟨y, hy⟩ : ∃ y, y = m.getD j 0 := ⟨_, rfl⟩
        rw [← hx] at hc
        rw [← hy] at hc2
        have HX := Lib.hid hx
        have HY := Lib.hid hy
        clear hx hy
        by_cases hxy : x = y
        · subst hxy
          go_wp2_with fail
          go_quiet (fail)
          go_wp2
          go_roundw
          case rel => exact ⟨j + 1, by omega, by go_num, fun i hi => by
            rcases Nat.lt_or_ge i j with h | h
            · exact HS.out i h
            · obtain rfl : i = j := by omega
              rw [← HX.out, ← HY.out], below_drewN hBw _⟩
          case measure => simp [intOf]; omega
        · go_wp2_with fail
          go_quiet (fail)
          go_wp2
          go_ret
          refine ⟨?_, below_drewN hBw _⟩
          rw [decide_eq_false (fun e => hxy (by rw [HX.out, HY.out, e]))]
          rfl
      · go_wp2
        go_ret
        refine ⟨?_, hBw⟩
        have h1 := HN.out
        have h2 := HN2.out
        have key : l = m := List.ext_getElem (by omega) fun i h3 h4 => by
          have := HS.out i (by omega)
          rwa [List.getD_eq_getElem?_getD, List.getD_eq_getElem?_getD, List.getElem?_eq_getElem h3, List.getElem?_eq_getElem h4] at this
        rw [decide_eq_true key]
        rfl
  · have hne : ¬ (l = m) := fun e => h (by rw [HN.out, HN2.out, e])
    go_enter Tryd.func53, Tryd.ntmps53
    go_wp2
    go_ret
    exact ⟨by rw [decide_eq_false hne]; rfl, Below.refl _ _⟩

end Go.Proofs.YtibnikokgbfcdaaDoor

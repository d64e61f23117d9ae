/- The law podiumlaw32.DrawPerm: for all digests and numbers she returns true. -/
import Derived.Test.YtibnikokgbfcdaaDoorW18
import Derived.BigQuiet
namespace Go.Proofs.YtibnikokgbfcdaaDoor
open Go.RowKit

theorem number_pick (d : List UInt8) (i : Nat) (hi : i < 4096) : numberOf d i ((i : Int) + 1) = (((pick d i : Nat) : Int), 0) := by
  refine Prod.ext (pick_cast d i).symm ?_
  rw [numberOf, if_neg (by omega)]

def PRel (d : List UInt8) (n g : Nat) (w : World) (x : Value) (wr : World) : Prop :=
  ∃ (j : Nat) (L : List Int), j ≤ n ∧ x = .int .i64 ((j : Int) - 1) ∧ IOwn wr g (.slice (some ⟨g, 0, none⟩) n n) L ∧ L.length = n ∧ Dis L ∧ shuf (pick d) (j - 1) L = orderOf d n ∧ Below g w wr
theorem PRel.swap {d : List UInt8} {n g : Nat} {w wr : World} {i : Nat} {L : List Int} (hown : IOwn wr g (.slice (some ⟨g, 0, none⟩) n n) L) (hLn : L.length = n) (hd : Dis L) (hi : i < n) (hs : shuf (pick d) i L = orderOf d n) (hB : Below g w wr) (hg : g ≤ wr.heap.size)
    (x : Value) (hx : x = .int .i64 ((i : Int) - 1)) (k : Nat) (hk : k = pick d i) (u v : Value) (hu : u = .int .i64 (L.getD k 0)) (hv : v = .int .i64 (L.getD i 0)) :
    PRel d n g w x ((wr.setCell ⟨g, i, none⟩ u).setCell ⟨g, k, none⟩ v) := by
  subst hu hv hx hLn hk
  obtain ⟨h1, g1⟩ := hown.swap i (pick d i)
  have hp := pick_le d i
  exact ⟨i, swapL L i (pick d i), by omega, rfl, h1, swapL_length _ _ _, hd.swap _ _ hi (by omega), (shuf_step (pick d) (pick_le d) i L hi).trans hs, hB.trans (g1.below hg fun k e => by have : g = k := Option.some.inj e; omega)⟩
theorem PRel.drew {d : List UInt8} {n g : Nat} {w wr : World} {x : Value} (h : PRel d n g w x wr) : PRel d n g w x wr.drew := by
  obtain ⟨j, L, h1, h2, h3, h4, h5, h6, h7⟩ := h
  exact ⟨j, L, h1, h2, own_drew h3, h4, h5, h6, h7.drew⟩

set_option maxRecDepth 100000 in
set_option maxHeartbeats 8000000 in
theorem drawPerm_in (d : List UInt8) (hd : d.length = 32) (n : Nat) (hn : n ≤ 40) (w : World) (hL : Laid w) : Calls Tryd.prog 6 #[.agg (dig d), .int .i64 n] w (Ret (.bool true) w) := by
  have HS := Lib.hid (fun W h => sane32_ok W h)
  have HO := Lib.hid (fun W h => order_view d hd n (by omega) W h)
  have HL := Lib.hid hL
  clear hL
  go_enter Tryd.func6, Tryd.ntmps6
  go_wp2_with fail
  have hD0 : Blk (w.alloc (.cells (dig d) 23)) w.heap.size 23 (dig d) := Blk.new _ _ _
  have hB0 : Below w.heap.size w (w.alloc (.cells (dig d) 23)) := (Below.refl _ w).alloc (Nat.le_refl _) _
  have hlt0 := hD0.lt
  generalize w.alloc (.cells (dig d) 23) = w0 at hD0 hB0 hlt0 ⊢
  refine (HS.out _ (HL.out.below hB0)).mono ?_
  rintro e w1 ⟨rfl, hb1⟩
  have hD1 := hD0.below hb1 hlt0
  have hB1 := hB0.trans (hb1.mono hB0.size)
  clear hD0 hB0 hb1 hlt0
  go_wp2_with (refine load_dig rfl _ rfl d hd hD1 rfl ?_)
  refine (HO.out _ (HL.out.below hB1)).mono ?_
  rintro e w2 ⟨A, c, rfl, hc1, hc2, hr2, hb2⟩
  have hD2 := hD1.below hb2 hD1.lt
  have hlt2 := hD2.lt
  have hB2 := hB1.trans (hb2.mono hB1.size)
  clear hD1 hB1 hb2
  go_wp2_with (refine make_int rfl _ rfl w2.heap.size n rfl (by omega) (Nat.le_refl _) ?_; intro w3 hown3 hg3)
  have hB3 : Below w2.heap.size w2 w3 := ⟨hg3.os, hg3.tape, hg3.output, hg3.size, fun i hi => hg3.block i hi (by simp)⟩
  obtain ⟨g, hg⟩ : ∃ g, g = w2.heap.size := ⟨_, rfl⟩
  rw [← hg] at hown3 hB3 hr2 hlt2 ⊢
  have HG := Lib.hid hg
  clear hg3 hg
  go_loopw [39] (fun x wr => ∃ j : Nat, j ≤ n ∧ x = .int .i64 j ∧ IOwn wr g (.slice (some ⟨g, 0, none⟩) n n) (fillL n j) ∧ Below g w2 wr) (fun x _ => n - (intOf x).toNat)
  case atStart => exact ⟨0, by omega, rfl, by rw [fillL_zero]; exact hown3, hB3⟩
  case round =>
    clear hown3 hB3
    obtain ⟨j, hj, rfl, hown, hB⟩ := hrel
    have hgs : g ≤ wr.heap.size := by rw [HG.out]; exact hB.size
    by_cases hlt : j < n
    · have cj := hown.cellAt (fillL_length n j hj) hlt
      have fj := hown.frozenAt (fillL_length n j hj) j
      have HF := Lib.hid (hown.fill hlt)
      generalize (fillL n j).getD j 0 = z at cj
      clear hown
      go_wp2_with fail
      go_roundw
      case rel => exact ⟨j + 1, by omega, by go_num, HF.out.1, hB.trans (HF.out.2.below hgs fun k e => by have : g = k := Option.some.inj e; omega)⟩
      case measure => simp [intOf]; omega
    · obtain rfl : j = n := by omega
      rw [fillL_all] at hown
      clear hlt hj
      go_wp2_with fail
      go_loopw [9] (fun x wr => PRel d j g w2 x wr) (fun x _ => (intOf x + 1).toNat)
      case atStart => exact ⟨j, iota j, Nat.le_refl _, rfl, hown, iota_length j, dis_iota j, rfl, hB⟩
      case round =>
        clear hown hB hgs
        obtain ⟨m, L, hm, hx, hown, hLn, hdis, hs, hB⟩ := hrel
        have hgs : g ≤ wr.heap.size := by rw [HG.out]; exact hB.size
        cases m with
        | zero =>
          obtain rfl : u9 = .int .i64 (-1) := hx
          clear hs hdis hown
          go_wp2
          go_ret
          exact ⟨rfl, hB2.trans (by rw [HG.out] at hB; exact hB.mono hB2.size)⟩
        | succ i =>
          obtain rfl : u9 = .int .i64 i := hx.trans (by congr 1; omega)
          have hi : i < j := by omega
          have hs' : shuf (pick d) i L = orderOf d j := hs
          have HLN := Lib.hid hLn
          have hpl := pick_le d i
          have hat : (orderOf d j).getD i 0 = L.getD (pick d i) 0 := by rw [← hs', shuf_at (pick d) (pick_le d) i L (by omega)]
          obtain ⟨b, off, rfl, hbg, hcl⟩ := (hr2.below hB).at_ hi
          rw [hat] at hcl
          obtain ⟨k, hk⟩ : ∃ k, k = pick d i := ⟨_, rfl⟩
          obtain ⟨lk, hlk⟩ : ∃ lk, lk = L.getD k 0 := ⟨_, rfl⟩
          obtain ⟨li, hli⟩ : ∃ li, li = L.getD i 0 := ⟨_, rfl⟩
          rw [← hk] at hcl hpl
          rw [← hlk] at hcl
          have HI := Lib.hid (fun q => index_found (some ⟨g, 0, none⟩) (fun p => L.getD p 0) (i + 1) j k lk (wr.drewN q) (((hown.rd hLn).take (by omega)).drewN q) (by omega) (by omega) hlk.symm
            (fun p hp e => by have := hdis p k (by omega) (by omega) (e.trans hlk); omega))
          have hsl : ∀ W : World, (Instr.slice 32 (.slice (some ⟨g, 0, none⟩) j j) none (some (.int .i64 ((i : Int) + 1))) none).run Tryd.prog W = .ok (.slice (some ⟨g, 0, none⟩) (i + 1) j) W := fun W => slice_upto W g (i + 1) j (by omega)
          have hDr := hD2.below hB hlt2
          have hkj : k < j := by omega
          have HK := Lib.hid hk
          have HLI := Lib.hid hli
          have HLK := Lib.hid hlk
          have HN := Lib.hid (fun W hW => number_any d hd i ((i : Int) + 1) W hW)
          rw [number_pick d i (by omega), ← hk] at HN
          have HOWN := Lib.hid hown
          have HDIS := Lib.hid hdis
          have HSH := Lib.hid hs'
          clear hk hli hlk hx hs hs' hat hown hdis
          go_wp2_with fail
          go_quiet ((go_at_call 35; exact Calls.quiet_of_same (still_of (HI.out _))))
          have hownq : IOwn (wr.drewN nq) g (.slice (some ⟨g, 0, none⟩) j j) L := HOWN.out
          have hBq : Below g w2 (wr.drewN nq) := below_drewN hB _
          have hDq : Blk (wr.drewN nq) w.heap.size 23 (dig d) := hDr
          have hgq : g ≤ (wr.drewN nq).heap.size := hgs
          clear HI HOWN hDr hcl hB
          generalize wr.drewN nq = wq at hownq hBq hDq hgq ⊢
          go_wp2_with (refine load_dig rfl _ rfl d hd hDq rfl ?_)
          simp only [numV] at HN
          refine (HN.out wq (HL.out.below (hB2.trans (hBq.mono (Nat.le_of_lt hlt2))))).mono ?_
          rintro e w3 ⟨rfl, hb3⟩
          have hown3 := hownq.below hb3
          have hB3 := hBq.trans (hb3.mono hgq)
          have hg3 : g ≤ w3.heap.size := Nat.le_trans hgq hb3.size
          have HS3 := Lib.hid (fun x hx u v hu hv => PRel.swap hown3 HLN.out HDIS.out hi HSH.out hB3 hg3 x hx k HK.out u v hu hv)
          have ci := hown3.cellAt HLN.out hi
          have ck := hown3.cellAt HLN.out hkj
          rw [← HLI.out] at ci
          rw [← HLK.out] at ck
          have fi := hown3.frozenAt HLN.out i
          have fk := hown3.frozenAt HLN.out k
          clear hownq hBq hDq hb3 hown3 hB3
          by_cases h0 : (0 : Int) < (i : Int)
          all_goals
            go_wp2_with fail
            obtain ⟨_, c15⟩ := cell?_setCell_some (p := ⟨g, i, none⟩) (x := .int .i64 lk) ck
            go_region
            clear ci ck fi fk c15
            go_wp2_with fail
            go_roundw
            case rel => exact (HS3.out _ (by go_num) (.int .i64 lk) (.int .i64 li) (by rw [HLK.out]) (by rw [HLI.out])).drew
            case measure => simp [intOf]

set_option maxRecDepth 100000 in
set_option maxHeartbeats 8000000 in
theorem drawPerm_out (d : List UInt8) (n : Int) (h : n < 0 ∨ 40 < n) (w : World) (hL : Laid w) : Calls Tryd.prog 6 #[.agg (dig d), .int .i64 n] w (Ret (.bool true) w) := by
  have hB0 : Below w.heap.size w (w.alloc (.cells (dig d) 23)) := (Below.refl _ w).alloc (Nat.le_refl _) _
  have HS := Lib.hid (sane32_ok _ (hL.below hB0))
  clear hL
  by_cases c1 : n < 0
  · clear h
    go_enter Tryd.func6, Tryd.ntmps6
    go_wp2_with (refine HS.out.mono ?_; rintro e w1 ⟨rfl, hb1⟩)
    go_ret
    exact ⟨rfl, hB0.trans (hb1.mono hB0.size)⟩
  · have c2 : 40 < n := by omega
    clear h
    go_enter Tryd.func6, Tryd.ntmps6
    go_wp2_with (refine HS.out.mono ?_; rintro e w1 ⟨rfl, hb1⟩)
    go_ret
    exact ⟨rfl, hB0.trans (hb1.mono hB0.size)⟩
theorem drawPerm_any (d : List UInt8) (hd : d.length = 32) (n : Int) (w : World) (hL : Laid w) : Calls Tryd.prog 6 #[.agg (dig d), .int .i64 n] w (Ret (.bool true) w) := by
  by_cases h : n < 0 ∨ 40 < n
  · exact drawPerm_out d n h w hL
  · obtain ⟨m, rfl⟩ : ∃ m : Nat, n = m := ⟨n.toNat, by omega⟩
    exact drawPerm_in d hd m (by omega) w hL
end Go.Proofs.YtibnikokgbfcdaaDoor

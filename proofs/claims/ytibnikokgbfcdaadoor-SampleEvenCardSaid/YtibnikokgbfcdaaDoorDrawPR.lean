/- Several texts in one: DrawPerm, DrawReached. -/
import Derived.Test.YtibnikokgbfcdaaDoorDraw1
import Derived.BigQuiet
/- The law podiumlaw32.DrawPerm: for all digests and numbers she returns true. -/
namespace Go.Proofs.YtibnikokgbfcdaaDoor
open Go.RowKit

theorem number_pick (d : List UInt8) (i : Nat) (hi : i < 4096) : numberOf d i ((i : Int) + 1) = (((pick d i : Nat) : Int), 0) := by
  refine Prod.ext (pick_cast d i).symm ?_
  rw [numberOf, if_neg (by omega)]

def PRel (d : List UInt8) (n g : Nat) (w : World) (x : Value) (wr : World) : Prop :=
  ∃ (j : Nat) (L : List Int), j ≤ n ∧ x = .int .i64 ((j : Int) - 1) ∧ IOwn wr g (.slice (some ⟨g, 0, none⟩) n n) L ∧ L.length = n ∧ Dis L ∧ shuf (pick d) (j - 1) L = orderOf d n ∧ Below g w wr
theorem PRel.swap {d : List UInt8} {n g : Nat} {w wr : World} {i : Nat} {L : List Int} (hown : IOwn wr g (.slice (some ⟨g, 0, none⟩) n n) L) (hLn : L.length = n) (hd : Dis L) (hi : i < n) (hs : shuf (pick d) i L = orderOf d n) (hB : Below g w wr) (hg : g ≤ wr.heap.size)
    (x : Value) (hx : x = .int .i64 ((i : Int) - 1)) (k : Nat) (hk : k = pick d i) (u v : Value) (hu : u = .int .i64 (L.getD k 0)) (hv : v = .int .i64 (L.getD i 0)) :
    PRel d n g w x ((wr.setCell ⟨g, i, none⟩ u).setCell ⟨g, k, none⟩ v) := by
  subst hu hv hx hLn hk
  obtain ⟨h1, g1⟩ := hown.swap i (pick d i)
  have hp := pick_le d i
  exact ⟨i, swapL L i (pick d i), by omega, rfl, h1, swapL_length _ _ _, hd.swap _ _ hi (by omega), (shuf_step (pick d) (pick_le d) i L hi).trans hs, hB.trans (g1.below hg fun k e => by have : g = k := Option.some.inj e; omega)⟩
theorem PRel.drew {d : List UInt8} {n g : Nat} {w wr : World} {x : Value} (h : PRel d n g w x wr) : PRel d n g w x wr.drew := by
  obtain ⟨j, L, h1, h2, h3, h4, h5, h6, h7⟩ := h
  exact ⟨j, L, h1, h2, own_drew h3, h4, h5, h6, h7.drew⟩

set_option maxRecDepth 100000 in
set_option maxHeartbeats 8000000 in
theorem drawPerm_in (d : List UInt8) (hd : d.length = 32) (n : Nat) (hn : n ≤ 40) (w : World) (hL : Laid w) : Calls Tryd.prog 6 #[.agg (dig d), .int .i64 n] w (Ret (.bool true) w) := by
  have HS := Lib.hid (fun W h => sane32_ok W h)
  have HO := Lib.hid (fun W h => order_view d hd n (by omega) W h)
  have HL := Lib.hid hL
  clear hL
  go_enter Tryd.func6, Tryd.ntmps6
  go_wp2_with fail
  have hD0 : Blk (w.alloc (.cells (dig d) 23)) w.heap.size 23 (dig d) := Blk.new _ _ _
  have hB0 : Below w.heap.size w (w.alloc (.cells (dig d) 23)) := (Below.refl _ w).alloc (Nat.le_refl _) _
  have hlt0 := hD0.lt
  generalize w.alloc (.cells (dig d) 23) = w0 at hD0 hB0 hlt0 ⊢
  refine (HS.out _ (HL.out.below hB0)).mono ?_
  rintro e w1 ⟨rfl, hb1⟩
  have hD1 := hD0.below hb1 hlt0
  have hB1 := hB0.trans (hb1.mono hB0.size)
  clear hD0 hB0 hb1 hlt0
  go_wp2_with (refine load_dig rfl _ rfl d hd hD1 rfl ?_)
  refine (HO.out _ (HL.out.below hB1)).mono ?_
  rintro e w2 ⟨A, c, rfl, hc1, hc2, hr2, hb2⟩
  have hD2 := hD1.below hb2 hD1.lt
  have hlt2 := hD2.lt
  have hB2 := hB1.trans (hb2.mono hB1.size)
  clear hD1 hB1 hb2
  go_wp2_with (refine make_int rfl _ rfl w2.heap.size n rfl (by omega) (Nat.le_refl _) ?_; intro w3 hown3 hg3)
  have hB3 : Below w2.heap.size w2 w3 := ⟨hg3.os, hg3.tape, hg3.output, hg3.size, fun i hi => hg3.block i hi (by simp)⟩
  obtain ⟨g, hg⟩ : ∃ g, g = w2.heap.size := ⟨_, rfl⟩
  rw [← hg] at hown3 hB3 hr2 hlt2 ⊢
  have HG := Lib.hid hg
  clear hg3 hg
  go_loopw [39] (fun x wr => ∃ j : Nat, j ≤ n ∧ x = .int .i64 j ∧ IOwn wr g (.slice (some ⟨g, 0, none⟩) n n) (fillL n j) ∧ Below g w2 wr) (fun x _ => n - (intOf x).toNat)
  case atStart => exact ⟨0, by omega, rfl, by rw [fillL_zero]; exact hown3, hB3⟩
  case round =>
    clear hown3 hB3
    obtain ⟨j, hj, rfl, hown, hB⟩ := hrel
    have hgs : g ≤ wr.heap.size := by rw [HG.out]; exact hB.size
    by_cases hlt : j < n
    · have cj := hown.cellAt (fillL_length n j hj) hlt
      have fj := hown.frozenAt (fillL_length n j hj) j
      have HF := Lib.hid (hown.fill hlt)
      generalize (fillL n j).getD j 0 = z at cj
      clear hown
      go_wp2_with fail
      go_roundw
      case rel => exact ⟨j + 1, by omega, by go_num, HF.out.1, hB.trans (HF.out.2.below hgs fun k e => by have : g = k := Option.some.inj e; omega)⟩
      case measure => simp [intOf]; omega
    · obtain rfl : j = n := by omega
      rw [fillL_all] at hown
      clear hlt hj
      go_wp2_with fail
      go_loopw [9] (fun x wr => PRel d j g w2 x wr) (fun x _ => (intOf x + 1).toNat)
      case atStart => exact ⟨j, iota j, Nat.le_refl _, rfl, hown, iota_length j, dis_iota j, rfl, hB⟩
      case round =>
        clear hown hB hgs
        obtain ⟨m, L, hm, hx, hown, hLn, hdis, hs, hB⟩ := hrel
        have hgs : g ≤ wr.heap.size := by rw [HG.out]; exact hB.size
        cases m with
        | zero =>
          obtain rfl : u9 = .int .i64 (-1) := hx
          clear hs hdis hown
          go_wp2
          go_ret
          exact ⟨rfl, hB2.trans (by rw [HG.out] at hB; exact hB.mono hB2.size)⟩
        | succ i =>
          obtain rfl : u9 = .int .i64 i := hx.trans (by congr 1; omega)
          have hi : i < j := by omega
          have hs' : shuf (pick d) i L = orderOf d j := hs
          have HLN := Lib.hid hLn
          have hpl := pick_le d i
          have hat : (orderOf d j).getD i 0 = L.getD (pick d i) 0 := by rw [← hs', shuf_at (pick d) (pick_le d) i L (by omega)]
          obtain ⟨b, off, rfl, hbg, hcl⟩ := (hr2.below hB).at_ hi
          rw [hat] at hcl
          obtain ⟨k, hk⟩ : ∃ k, k = pick d i := ⟨_, rfl⟩
          obtain ⟨lk, hlk⟩ : ∃ lk, lk = L.getD k 0 := ⟨_, rfl⟩
          obtain ⟨li, hli⟩ : ∃ li, li = L.getD i 0 := ⟨_, rfl⟩
          rw [← hk] at hcl hpl
          rw [← hlk] at hcl
          have HI := Lib.hid (fun q => index_found (some ⟨g, 0, none⟩) (fun p => L.getD p 0) (i + 1) j k lk (wr.drewN q) (((hown.rd hLn).take (by omega)).drewN q) (by omega) (by omega) hlk.symm
            (fun p hp e => by have := hdis p k (by omega) (by omega) (e.trans hlk); omega))
          have hsl : ∀ W : World, (Instr.slice 32 (.slice (some ⟨g, 0, none⟩) j j) none (some (.int .i64 ((i : Int) + 1))) none).run Tryd.prog W = .ok (.slice (some ⟨g, 0, none⟩) (i + 1) j) W := fun W => slice_upto W g (i + 1) j (by omega)
          have hDr := hD2.below hB hlt2
          have hkj : k < j := by omega
          have HK := Lib.hid hk
          have HLI := Lib.hid hli
          have HLK := Lib.hid hlk
          have HN := Lib.hid (fun W hW => number_any d hd i ((i : Int) + 1) W hW)
          rw [number_pick d i (by omega), ← hk] at HN
          have HOWN := Lib.hid hown
          have HDIS := Lib.hid hdis
          have HSH := Lib.hid hs'
          clear hk hli hlk hx hs hs' hat hown hdis
          go_wp2_with fail
          go_quiet ((go_at_call 35; exact Calls.quiet_of_same (still_of (HI.out _))))
          have hownq : IOwn (wr.drewN nq) g (.slice (some ⟨g, 0, none⟩) j j) L := HOWN.out
          have hBq : Below g w2 (wr.drewN nq) := below_drewN hB _
          have hDq : Blk (wr.drewN nq) w.heap.size 23 (dig d) := hDr
          have hgq : g ≤ (wr.drewN nq).heap.size := hgs
          clear HI HOWN hDr hcl hB
          generalize wr.drewN nq = wq at hownq hBq hDq hgq ⊢
          go_wp2_with (refine load_dig rfl _ rfl d hd hDq rfl ?_)
          simp only [numV] at HN
          refine (HN.out wq (HL.out.below (hB2.trans (hBq.mono (Nat.le_of_lt hlt2))))).mono ?_
          rintro e w3 ⟨rfl, hb3⟩
          have hown3 := hownq.below hb3
          have hB3 := hBq.trans (hb3.mono hgq)
          have hg3 : g ≤ w3.heap.size := Nat.le_trans hgq hb3.size
          have HS3 := Lib.hid (fun x hx u v hu hv => PRel.swap hown3 HLN.out HDIS.out hi HSH.out hB3 hg3 x hx k HK.out u v hu hv)
          have ci := hown3.cellAt HLN.out hi
          have ck := hown3.cellAt HLN.out hkj
          rw [← HLI.out] at ci
          rw [← HLK.out] at ck
          have fi := hown3.frozenAt HLN.out i
          have fk := hown3.frozenAt HLN.out k
          clear hownq hBq hDq hb3 hown3 hB3
          by_cases h0 : (0 : Int) < (i : Int)
          all_goals
            go_wp2_with fail
            obtain ⟨_, c15⟩ := cell?_setCell_some (p := ⟨g, i, none⟩) (x := .int .i64 lk) ck
            go_region
            clear ci ck fi fk c15
            go_wp2_with fail
            go_roundw
            case rel => exact (HS3.out _ (by go_num) (.int .i64 lk) (.int .i64 li) (by rw [HLK.out]) (by rw [HLI.out])).drew
            case measure => simp [intOf]

set_option maxRecDepth 100000 in
set_option maxHeartbeats 8000000 in
theorem drawPerm_out (d : List UInt8) (n : Int) (h : n < 0 ∨ 40 < n) (w : World) (hL : Laid w) : Calls Tryd.prog 6 #[.agg (dig d), .int .i64 n] w (Ret (.bool true) w) := by
  have hB0 : Below w.heap.size w (w.alloc (.cells (dig d) 23)) := (Below.refl _ w).alloc (Nat.le_refl _) _
  have HS := Lib.hid (sane32_ok _ (hL.below hB0))
  clear hL
  by_cases c1 : n < 0
  · clear h
    go_enter Tryd.func6, Tryd.ntmps6
    go_wp2_with (refine HS.out.mono ?_; rintro e w1 ⟨rfl, hb1⟩)
    go_ret
    exact ⟨rfl, hB0.trans (hb1.mono hB0.size)⟩
  · have c2 : 40 < n := by omega
    clear h
    go_enter Tryd.func6, Tryd.ntmps6
    go_wp2_with (refine HS.out.mono ?_; rintro e w1 ⟨rfl, hb1⟩)
    go_ret
    exact ⟨rfl, hB0.trans (hb1.mono hB0.size)⟩
theorem drawPerm_any (d : List UInt8) (hd : d.length = 32) (n : Int) (w : World) (hL : Laid w) : Calls Tryd.prog 6 #[.agg (dig d), .int .i64 n] w (Ret (.bool true) w) := by
  by_cases h : n < 0 ∨ 40 < n
  · exact drawPerm_out d n h w hL
  · obtain ⟨m, rfl⟩ : ∃ m : Nat, n = m := ⟨n.toNat, by omega⟩
    exact drawPerm_in d hd m (by omega) w hL
end Go.Proofs.YtibnikokgbfcdaaDoor

/- The law podiumlaw32.DrawReached: for all picks and digests she returns true. -/
namespace Go.Proofs.YtibnikokgbfcdaaDoor
open Go.RowKit

/-- The numbers below n, each once. -/
def Full (n : Nat) (l : List Int) : Prop := l.length = n ∧ Dis l ∧ (∀ a, a < n → ∃ b, b < n ∧ l.getD b 0 = (a : Int)) ∧ ∀ b, b < n → ∃ a : Nat, a < n ∧ l.getD b 0 = (a : Int)
theorem full_iota (n : Nat) : Full n (iota n) := ⟨iota_length n, dis_iota n, fun a h => ⟨a, h, iota_getD n a h⟩, fun b h => ⟨b, h, iota_getD n b h⟩⟩
theorem Full.swap {n : Nat} {l : List Int} (h : Full n l) (i k : Nat) (hi : i < n) (hk : k < n) : Full n (swapL l i k) := by
  obtain ⟨h1, h2, h3, h4⟩ := h
  have g := fun p => getD_swapL l i k p (by omega) (by omega)
  refine ⟨(swapL_length _ _ _).trans h1, h2.swap _ _ (by omega) (by omega), fun a ha => ?_, fun b hb => ?_⟩
  · obtain ⟨b, hb, e⟩ := h3 a ha
    by_cases e1 : b = i
    · exact ⟨k, hk, by rw [g, if_pos rfl, ← e1, e]⟩
    · by_cases e2 : b = k
      · refine ⟨i, hi, ?_⟩
        rw [g]
        split
        · next e3 => exact absurd (e2.trans e3.symm) e1
        · rw [if_pos rfl, ← e2, e]
      · exact ⟨b, hb, by rw [g, if_neg e2, if_neg e1, e]⟩
  · rw [g]
    split
    · exact h4 i hi
    · split
      · exact h4 k hk
      · exact h4 b hb
theorem Full.find {n m : Nat} {M L : List Int} (hM : Full n M) (hL : Full n L) (h1 : 1 ≤ m) (hm : m ≤ n) (h : ∀ p, m ≤ p → p < n → M.getD p 0 = L.getD p 0) : ∃ k, k < m ∧ M.getD k 0 = L.getD (m - 1) 0 := by
  obtain ⟨a, ha, ea⟩ := hL.2.2.2 (m - 1) (by omega)
  obtain ⟨b, hb, eb⟩ := hM.2.2.1 a ha
  refine ⟨b, ?_, eb.trans ea.symm⟩
  rcases Nat.lt_or_ge b m with h' | h'
  · exact h'
  · have := hL.2.1 b (m - 1) (by have := hL.1; omega) (by have := hL.1; omega) (((h b h' hb).symm.trans eb).trans ea.symm)
    omega
theorem Full.same {n : Nat} {M L : List Int} (hM : Full n M) (hL : Full n L) (h : ∀ p, 1 ≤ p → p < n → M.getD p 0 = L.getD p 0) : M = L := by
  refine List.ext_getElem (hM.1.trans hL.1.symm) fun i h3 h4 => ?_
  have key : M.getD i 0 = L.getD i 0 := by
    rcases Nat.eq_zero_or_pos i with rfl | hi
    · obtain ⟨k, hk, e⟩ := hM.find hL (Nat.le_refl 1) (by have := hM.1; omega) h
      obtain rfl : k = 0 := by omega
      exact e
    · exact h i hi (by have := hM.1; omega)
  rwa [List.getD_eq_getElem?_getD, List.getD_eq_getElem?_getD, List.getElem?_eq_getElem h3, List.getElem?_eq_getElem h4] at key
theorem agree_swap {n i k : Nat} {M L : List Int} (hn : M.length = n) (hi : i < n) (hk : k ≤ i) (e : M.getD k 0 = L.getD i 0) (h : ∀ p, i + 1 ≤ p → p < n → M.getD p 0 = L.getD p 0) : ∀ p, i ≤ p → p < n → (swapL M i k).getD p 0 = L.getD p 0 := by
  intro p h1 h2
  rw [getD_swapL M i k p (by omega) (by omega)]
  split
  · next h3 =>
    obtain rfl : i = k := by omega
    rw [h3, e]
  · split
    · next h4 => rw [e, h4]
    · exact h p (by omega) h2

def WRel (n g : Nat) (w : World) (x : Value) (wr : World) : Prop :=
  ∃ (j : Nat) (L : List Int), j ≤ n ∧ x = .int .i64 j ∧ IOwn wr g (.slice (some ⟨g, 0, none⟩) n n) L ∧ Full n L ∧ Below g w wr
theorem WRel.swap {n g : Nat} {w wr : World} {L : List Int} (hown : IOwn wr g (.slice (some ⟨g, 0, none⟩) n n) L) (hF : Full n L) (hB : Below g w wr) (hg : g ≤ wr.heap.size) {j k : Nat} (hj : j < n) (hk : k < n) (x : Value) (hx : x = .int .i64 ((j + 1 : Nat) : Int))
    (u v : Value) (hu : u = .int .i64 (L.getD k 0)) (hv : v = .int .i64 (L.getD j 0)) : WRel n g w x ((wr.setCell ⟨g, j, none⟩ u).setCell ⟨g, k, none⟩ v).drew := by
  subst hu hv hx
  have hn := hF.1
  subst hn
  obtain ⟨h1, g1⟩ := hown.swap j k
  exact ⟨j + 1, swapL L j k, by omega, rfl, own_drew h1, hF.swap _ _ hj hk, (hB.trans (g1.below hg fun k e => by have : g = k := Option.some.inj e; omega)).drew⟩
def RRel (n g : Nat) (L : List Int) (w : World) (x : Value) (wr : World) : Prop :=
  ∃ (m : Nat) (M : List Int), m ≤ n ∧ x = .int .i64 ((m : Int) - 1) ∧ IOwn wr g (.slice (some ⟨g, 0, none⟩) n n) M ∧ Full n M ∧ (∀ p, m ≤ p → p < n → M.getD p 0 = L.getD p 0) ∧ Below g w wr
theorem RRel.swap {n g : Nat} {L M : List Int} {w wr : World} (hown : IOwn wr g (.slice (some ⟨g, 0, none⟩) n n) M) (hF : Full n M) (hB : Below g w wr) (hg : g ≤ wr.heap.size) {i k : Nat} (hi : i < n) (hk : k ≤ i) (e : M.getD k 0 = L.getD i 0)
    (ha : ∀ p, i + 1 ≤ p → p < n → M.getD p 0 = L.getD p 0) (x : Value) (hx : x = .int .i64 ((i : Int) - 1)) (u v : Value) (hu : u = .int .i64 (M.getD k 0)) (hv : v = .int .i64 (M.getD i 0)) :
    RRel n g L w x ((wr.setCell ⟨g, i, none⟩ u).setCell ⟨g, k, none⟩ v).drew := by
  subst hu hv hx
  have hn := hF.1
  subst hn
  obtain ⟨h1, g1⟩ := hown.swap i k
  exact ⟨i, swapL M i k, by omega, rfl, own_drew h1, hF.swap _ _ hi (by omega), agree_swap rfl hi hk e ha, (hB.trans (g1.below hg fun k e => by have : g = k := Option.some.inj e; omega)).drew⟩

theorem take_self (k i : Nat) (hi : i < 40) (hk : k ≤ i) : takeOf (k : Int) ((i : Int) + 1) = ((k : Int), true, 0) := by
  have h0 : 4294967296 % ((i : Int) + 1) < (i : Int) + 1 := Int.emod_lt_of_pos _ (by omega)
  rw [takeOf, if_neg (by omega), if_neg (by omega), Int.emod_eq_of_lt (by omega) (by omega)]
theorem rem_nat (x : Int) (h0 : 0 ≤ x) (n j : Nat) (h : j < n) : ∃ r : Nat, x.tmod ((n : Int) - (j : Int)) = (r : Int) ∧ j + r < n := by
  have h1 : x.tmod ((n : Int) - (j : Int)) = x % ((n : Int) - (j : Int)) := Int.tmod_eq_emod_of_nonneg h0
  have h2 : 0 ≤ x % ((n : Int) - (j : Int)) := Int.emod_nonneg _ (by omega)
  have h3 : x % ((n : Int) - (j : Int)) < (n : Int) - (j : Int) := Int.emod_lt_of_pos _ (by omega)
  exact ⟨(x % ((n : Int) - (j : Int))).toNat, by omega, by omega⟩

set_option maxRecDepth 100000 in
set_option maxHeartbeats 16000000 in
theorem drawReached_in (P : Option Addr) (l : List UInt8) (c : Nat) (d : List UInt8) (hd : d.length = 32) (hl : l.length ≤ 40) (w : World) (hP : RdB w w.heap.size P l) (hL : Laid w) :
    Calls Tryd.prog 7 #[.slice P l.length c, .agg (dig d)] w (Ret (.bool true) w) := by
  obtain ⟨n, hn⟩ : ∃ n, n = l.length := ⟨_, rfl⟩
  have hP' : Rd w w.heap.size P n fun k => .int .u8 (byteAt l k) := by rw [hn]; exact hP
  rw [← hn] at hl ⊢
  have HS := Lib.hid (fun W h => sane32_ok W h)
  have HO := Lib.hid (fun W h => order_view d hd n (by omega) W h)
  have HL := Lib.hid hL
  have HP := Lib.hid hP'
  clear hL hP hn hP'
  go_enter Tryd.func7, Tryd.ntmps7
  go_wp2_with fail
  have hD0 : Blk (w.alloc (.cells (dig d) 23)) w.heap.size 23 (dig d) := Blk.new _ _ _
  have hB0 : Below w.heap.size w (w.alloc (.cells (dig d) 23)) := (Below.refl _ w).alloc (Nat.le_refl _) _
  have hlt0 := hD0.lt
  generalize w.alloc (.cells (dig d) 23) = w0 at hD0 hB0 hlt0 ⊢
  refine (HS.out _ (HL.out.below hB0)).mono ?_
  rintro e w1 ⟨rfl, hb1⟩
  have hD1 := hD0.below hb1 hlt0
  have hB1 := hB0.trans (hb1.mono hB0.size)
  clear hD0 hB0 hb1 hlt0
  have hlt1 := hD1.lt
  go_wp2_with (refine make_int rfl _ rfl w1.heap.size n rfl (by omega) (Nat.le_refl _) ?_; intro w2 hown2 hg2)
  have hB2 : Below w1.heap.size w1 w2 := ⟨hg2.os, hg2.tape, hg2.output, hg2.size, fun i hi => hg2.block i hi (by simp)⟩
  obtain ⟨g, hg⟩ : ∃ g, g = w1.heap.size := ⟨_, rfl⟩
  rw [← hg] at hown2 hB2 hlt1 ⊢
  have HG := Lib.hid hg
  clear hg2 hg
  go_loopw [29] (fun x wr => ∃ j : Nat, j ≤ n ∧ x = .int .i64 j ∧ IOwn wr g (.slice (some ⟨g, 0, none⟩) n n) (fillL n j) ∧ Below g w1 wr) (fun x _ => n - (intOf x).toNat)
  case atStart => exact ⟨0, by omega, rfl, by rw [fillL_zero]; exact hown2, hB2⟩
  case round =>
    clear hown2 hB2
    obtain ⟨j, hj, rfl, hown, hB⟩ := hrel
    have hgs : g ≤ wr.heap.size := by rw [HG.out]; exact hB.size
    by_cases hlt : j < n
    · have cj := hown.cellAt (fillL_length n j hj) hlt
      have fj := hown.frozenAt (fillL_length n j hj) j
      have HF := Lib.hid (hown.fill hlt)
      generalize (fillL n j).getD j 0 = z at cj
      clear hown
      go_wp2_with fail
      go_roundw
      case rel => exact ⟨j + 1, by omega, by go_num, HF.out.1, hB.trans (HF.out.2.below hgs fun k e => by have : g = k := Option.some.inj e; omega)⟩
      case measure => simp [intOf]; omega
    · obtain rfl : j = n := by omega
      rw [fillL_all] at hown
      clear hlt hj
      go_wp2_with fail
      go_loopw [39] (fun x wr => WRel j g w1 x wr) (fun x _ => j - (intOf x).toNat)
      case atStart => exact ⟨0, iota j, by omega, rfl, hown, full_iota j, hB⟩
      case round =>
        clear hown hB hgs
        obtain ⟨i, L, hi, rfl, hown, hF, hB⟩ := hrel
        have hgs : g ≤ wr.heap.size := by rw [HG.out]; exact hB.size
        by_cases hlt : i < j
        · obtain ⟨b, off, rfl, hbw, hcp⟩ := ((HP.out.below hB1).below (hB.mono (by rw [HG.out]; exact hB1.size))).at_ hlt
          have hx0 : 0 ≤ byteAt l i := by unfold byteAt; omega
          have hx1 : byteAt l i < 256 := by have := (l.getD i 0).toNat_lt; unfold byteAt; omega
          obtain ⟨r, hr, hjr⟩ := rem_nat (byteAt l i) hx0 j i hlt
          obtain ⟨x, hx⟩ : ∃ x, x = byteAt l i := ⟨_, rfl⟩
          rw [← hx] at hcp hx0 hx1 hr
          obtain ⟨k, hk⟩ : ∃ k, k = i + r := ⟨_, rfl⟩
          have hki : (i : Int) + (r : Int) = (k : Int) := by omega
          have hkj : k < j := by omega
          have HW := Lib.hid (fun x hx u v hu hv => WRel.swap hown hF hB hgs hlt hkj x hx u v hu hv)
          have ci := hown.cellAt hF.1 hlt
          have ck := hown.cellAt hF.1 hkj
          have fi := hown.frozenAt hF.1 i
          have fk := hown.frozenAt hF.1 k
          obtain ⟨li, hli⟩ : ∃ li, li = L.getD i 0 := ⟨_, rfl⟩
          obtain ⟨lk, hlk⟩ : ∃ lk, lk = L.getD k 0 := ⟨_, rfl⟩
          rw [← hli] at ci
          rw [← hlk] at ck
          have HLI := Lib.hid hli
          have HLK := Lib.hid hlk
          clear hli hlk hx hown hF hk
          go_wp2_with fail
          obtain ⟨_, c15⟩ := cell?_setCell_some (p := ⟨g, i, none⟩) (x := .int .i64 lk) ck
          go_region
          clear ci ck fi fk c15
          go_wp2_with fail
          go_roundw
          case rel => exact HW.out _ (by go_num) (.int .i64 lk) (.int .i64 li) (by rw [HLK.out]) (by rw [HLI.out])
          case measure => simp [intOf]; omega
        · obtain rfl : i = j := by omega
          clear hlt hi
          have hltD := hlt1
          go_wp2_with (refine make_int rfl _ rfl wr.heap.size i rfl (by omega) (Nat.le_refl _) ?_; intro w3 hown3 hg3)
          have hB3 : Below wr.heap.size wr w3 := ⟨hg3.os, hg3.tape, hg3.output, hg3.size, fun i hi => hg3.block i hi (by simp)⟩
          have hRL := hown.rd hF.1
          obtain ⟨h, hh⟩ : ∃ h, h = wr.heap.size := ⟨_, rfl⟩
          rw [← hh] at hown3 hB3 hgs hRL ⊢
          have HH := Lib.hid hh
          have HBW := Lib.hid hB
          clear hg3 hh hown hB
          have hhw : w.heap.size < h := by omega
          obtain ⟨wo, rfl⟩ : ∃ wo : World, wo = wr := ⟨_, rfl⟩
          go_loopw [72] (fun x wr2 => ∃ j : Nat, j ≤ i ∧ x = .int .i64 j ∧ IOwn wr2 h (.slice (some ⟨h, 0, none⟩) i i) (fillL i j) ∧ Below h wo wr2) (fun x _ => i - (intOf x).toNat)
          case atStart => exact ⟨0, by omega, rfl, by rw [fillL_zero]; exact hown3, hB3⟩
          case round =>
            clear hown3 hB3
            obtain ⟨j, hj, rfl, hown, hB⟩ := hrel
            have hhs : h ≤ wr.heap.size := by rw [HH.out]; exact hB.size
            by_cases hlt : j < i
            · have cj := hown.cellAt (fillL_length i j hj) hlt
              have fj := hown.frozenAt (fillL_length i j hj) j
              have HFI := Lib.hid (hown.fill hlt)
              generalize (fillL i j).getD j 0 = z at cj
              clear hown
              go_wp2_with fail
              go_roundw
              case rel => exact ⟨j + 1, by omega, by go_num, HFI.out.1, hB.trans (HFI.out.2.below hhs fun k e => by have : h = k := Option.some.inj e; omega)⟩
              case measure => simp [intOf]; omega
            · obtain rfl : j = i := by omega
              rw [fillL_all] at hown
              clear hlt hj
              have hBL := HBW.out
              have HFL := Lib.hid hF
              have hroom : wo.heap.size = h := HH.out.symm
              clear hF
              go_wp2_with fail
              go_loopw [12] (fun x wr2 => RRel j h L wo x wr2) (fun x _ => (intOf x + 1).toNat)
              case atStart => exact ⟨j, iota j, Nat.le_refl _, rfl, hown, full_iota j, fun p h1 h2 => by omega, hB⟩
              case round =>
                clear hown hB hhs
                obtain ⟨m, M, hm, hx, hown, hFM, hag, hB⟩ := hrel
                have hhs : h ≤ wr.heap.size := by rw [HH.out]; exact hB.size
                have hRL' := hRL.below hB
                by_cases h2 : 2 ≤ m
                · obtain ⟨i, rfl⟩ : ∃ i, m = i + 1 := ⟨m - 1, by omega⟩
                  obtain rfl : u12 = .int .i64 i := hx.trans (by congr 1; omega)
                  have hi : i < j := by omega
                  obtain ⟨k, hk, hke⟩ := hFM.find HFL.out (by omega) hm hag
                  rw [Nat.add_sub_cancel] at hke
                  have hki : k ≤ i := by omega
                  obtain ⟨b, off, hbo, hbg, hcl⟩ := hRL'.at_ hi
                  simp only [Option.some.injEq, Addr.mk.injEq, and_true] at hbo
                  obtain ⟨rfl, rfl⟩ := hbo
                  rw [← hke] at hcl
                  obtain ⟨lk, hlk⟩ : ∃ lk, lk = M.getD k 0 := ⟨_, rfl⟩
                  obtain ⟨li, hli⟩ : ∃ li, li = M.getD i 0 := ⟨_, rfl⟩
                  rw [← hlk, Nat.zero_add] at hcl
                  have hrd := hown.rd hFM.1
                  have HI := Lib.hid (fun q => index_found (some ⟨h, 0, none⟩) (fun p => M.getD p 0) (i + 1) j k lk (wr.drewN q) ((hrd.take (by omega)).drewN q) (by omega) hk hlk.symm
                    (fun p hp e => by have := hFM.2.1 p k (by have := hFM.1; omega) (by have := hFM.1; omega) (e.trans hlk); omega))
                  have hsl : ∀ W : World, (Instr.slice 32 (.slice (some ⟨h, 0, none⟩) j j) none (some (.int .i64 ((i : Int) + 1))) none).run Tryd.prog W = .ok (.slice (some ⟨h, 0, none⟩) (i + 1) j) W := fun W => slice_upto W h (i + 1) j (by omega)
                  have HT := Lib.hid (fun W => take_is (k : Int) ((i : Int) + 1) k true 0 (take_self k i (by omega) hki) (by omega) (by omega) (by omega) (by omega) W)
                  have hkj : k < j := by omega
                  have HW := Lib.hid (fun q x hx u v hu hv => RRel.swap (L := L) (wr := wr.drewN q) hown hFM (below_drewN hB q) hhs hi hki hke hag x hx u v hu hv)
                  have ci := hown.cellAt hFM.1 hi
                  have ck := hown.cellAt hFM.1 hkj
                  have fi := hown.frozenAt hFM.1 i
                  have fk := hown.frozenAt hFM.1 k
                  rw [← hli] at ci
                  rw [← hlk] at ck
                  have HLI := Lib.hid hli
                  have HLK := Lib.hid hlk
                  clear hx hke hlk hli hrd hown hFM hag
                  go_wp2_with fail
                  go_quiet ((go_at_call 35; exact Calls.quiet_of_same (still_of (HI.out _))))
                  go_wp2_with fail
                  refine (HT.out _).mono ?_
                  rintro e w4 ⟨rfl, rfl⟩
                  have ci' : (wr.drewN nq).cell? ⟨h, i, none⟩ = some (.int .i64 li) := ci
                  have ck' : (wr.drewN nq).cell? ⟨h, k, none⟩ = some (.int .i64 lk) := ck
                  have fi' : (wr.drewN nq).frozen? ⟨h, i, none⟩ = false := fi
                  have fk' : (wr.drewN nq).frozen? ⟨h, k, none⟩ = false := fk
                  have HWq := Lib.hid (HW.out nq)
                  clear ci ck fi fk HW HI hcl
                  generalize wr.drewN nq = wq at ci' ck' fi' fk' HWq ⊢
                  go_wp2_with fail
                  obtain ⟨_, c15⟩ := cell?_setCell_some (p := ⟨h, i, none⟩) (x := .int .i64 lk) ck'
                  go_region
                  clear ci' ck' fi' fk' c15
                  go_wp2_with fail
                  go_roundw
                  case rel => exact HWq.out _ (by go_num) (.int .i64 lk) (.int .i64 li) (by rw [HLK.out]) (by rw [HLI.out])
                  case measure => simp [intOf]
                · have hsame := hFM.same HFL.out (fun p h1 h2 => hag p (by omega) h2)
                  subst hsame
                  have hxc : ∃ z : Int, z < 1 ∧ u12 = .int .i64 z := ⟨(m : Int) - 1, by omega, hx⟩
                  obtain ⟨z, hz, rfl⟩ := hxc
                  have hDr := (hD1.below hBL hlt1).below hB hhw
                  have hrd := hown.rd hFM.1
                  have HBr : Below w.heap.size w wr := hB1.trans ((hBL.mono (Nat.le_of_lt hlt1)).trans (hB.mono (Nat.le_of_lt hhw)))
                  have HMn := Lib.hid hFM.1
                  clear hx hag hm h2
                  go_wp2_with (refine load_dig rfl _ rfl d hd hDr rfl ?_)
                  refine (HO.out wr (HL.out.below HBr)).mono ?_
                  rintro e w5 ⟨A5, c5, rfl, -, -, -, hb5⟩
                  have hB5 := HBr.trans (hb5.mono HBr.size)
                  go_wp2_with fail
                  have hS := sameInts_any (some ⟨h, 0, none⟩) (some ⟨g, 0, none⟩) M M j j w5 (by rw [HMn.out]; exact (hrd.below hb5).more hb5.size) (by rw [HMn.out]; exact ((hRL'.more hhs).below hb5).more hb5.size) (by rw [HMn.out]; omega)
                  rw [HMn.out, decide_eq_true rfl] at hS
                  refine hS.mono ?_
                  rintro e w6 ⟨rfl, hb6⟩
                  go_wp2_with fail
                  go_ret
                  exact ⟨rfl, hB5.trans (hb6.mono hB5.size)⟩

set_option maxRecDepth 100000 in
set_option maxHeartbeats 8000000 in
theorem drawReached_out (P : Option Addr) (l : List UInt8) (c : Nat) (d : List UInt8) (hl : 40 < l.length) (hc : l.length ≤ 9223372036854775807) (w : World) (hL : Laid w) :
    Calls Tryd.prog 7 #[.slice P l.length c, .agg (dig d)] w (Ret (.bool true) w) := by
  have hB0 : Below w.heap.size w (w.alloc (.cells (dig d) 23)) := (Below.refl _ w).alloc (Nat.le_refl _) _
  have HS := Lib.hid (sane32_ok _ (hL.below hB0))
  clear hL
  generalize l.length = n at hl hc ⊢
  go_enter Tryd.func7, Tryd.ntmps7
  go_wp2_with (refine HS.out.mono ?_; rintro e w1 ⟨rfl, hb1⟩)
  go_ret
  exact ⟨rfl, hB0.trans (hb1.mono hB0.size)⟩
theorem drawReached_any (P : Option Addr) (l : List UInt8) (c : Nat) (hlc : l.length ≤ c) (hc : c ≤ 9223372036854775807) (d : List UInt8) (hd : d.length = 32) (w : World) (hL : Laid w) (hR : RdB w w.heap.size P l) :
    Calls Tryd.prog 7 #[.slice P l.length c, .agg (dig d)] w (Ret (.bool true) w) := by
  by_cases h : l.length ≤ 40
  · exact drawReached_in P l c d hd h w hR hL
  · exact drawReached_out P l c d (by omega) (by omega) w hL
end Go.Proofs.YtibnikokgbfcdaaDoor

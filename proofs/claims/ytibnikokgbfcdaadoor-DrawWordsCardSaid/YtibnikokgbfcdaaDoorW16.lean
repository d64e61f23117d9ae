/- Walk: draw.Order. -/
import Derived.Test.YtibnikokgbfcdaaDoorInts
import Derived.Test.YtibnikokgbfcdaaDoorW15
namespace Go.Proofs.YtibnikokgbfcdaaDoor
open Go.RowKit

theorem takeOf_range (word n : Int) (hn : 1 ≤ n) : 0 ≤ (takeOf word n).1 ∧ (takeOf word n).1 < n := by
  have h1 : 0 ≤ word % n := Int.emod_nonneg _ (by omega)
  have h2 : word % n < n := Int.emod_lt_of_pos _ (by omega)
  unfold takeOf
  split
  · exact ⟨by simp, by simp; omega⟩
  · split
    · exact ⟨by simp, by simp; omega⟩
    · exact ⟨h1, h2⟩
theorem firstOf_range (n : Int) (hn : 1 ≤ n) : ∀ l, 0 ≤ firstOf n l ∧ firstOf n l < n
  | [] => ⟨by simp [firstOf], by simp [firstOf]; omega⟩
  | x :: l => by
    rw [firstOf]
    split
    · exact takeOf_range _ n hn
    · exact firstOf_range n hn l
theorem numberOf_range (d : List UInt8) (no n : Int) (hn : 1 ≤ n) : 0 ≤ (numberOf d no n).1 ∧ (numberOf d no n).1 < n := by
  rw [numberOf]
  split
  · exact ⟨by simp, by simp; omega⟩
  · exact firstOf_range n hn _
/-- The number that is drawn for place i of an order. -/
def pick (d : List UInt8) (i : Nat) : Nat := (numberOf d i ((i : Int) + 1)).1.toNat
theorem pick_le (d : List UInt8) (i : Nat) : pick d i ≤ i := by
  have := numberOf_range d i ((i : Int) + 1) (by omega)
  unfold pick
  omega
theorem pick_cast (d : List UInt8) (i : Nat) : ((pick d i : Nat) : Int) = (numberOf d i ((i : Int) + 1)).1 := by
  have := numberOf_range d i ((i : Int) + 1) (by omega)
  unfold pick
  omega
/-- What draw.Order returns. -/
def orderOf (d : List UInt8) (n : Nat) : List Int := shuf (pick d) (n - 1) (iota n)
theorem orderOf_length (d : List UInt8) (n : Nat) : (orderOf d n).length = n := by rw [orderOf, shuf_length, iota_length]

def OrderPost (d : List UInt8) (n : Nat) (w : World) (e : Ending) (w' : World) : Prop := ∃ v, e = .returned (.tuple #[v, .int .i64 0]) ∧ IOwn w' w.heap.size v (orderOf d n) ∧ Below w.heap.size w w'
def BadPost (w : World) (e : Ending) (w' : World) : Prop := e = .returned (.tuple #[.slice none 0 0, .int .i64 1]) ∧ Below w.heap.size w w'
def ORel (w : World) (d : List UInt8) (n : Nat) (x v : Value) (wr : World) : Prop :=
  ∃ j : Nat, j ≤ n ∧ x = .int .i64 j ∧ IOwn wr (w.heap.size + 1) v (iota j) ∧ Blk wr w.heap.size 23 (dig d) ∧ Below w.heap.size w wr

def ORel2 (w : World) (d : List UInt8) (n : Nat) (v x : Value) (wr : World) : Prop :=
  ∃ (i : Nat) (L : List Int), (x = .int .i64 i ∨ (i = 0 ∧ x = .int .i64 (-1))) ∧ (i < n ∨ i = 0) ∧ IOwn wr (w.heap.size + 1) v L ∧ L.length = n ∧ shuf (pick d) i L = orderOf d n ∧ Blk wr w.heap.size 23 (dig d) ∧ Below w.heap.size w wr
theorem ORel2.start {w : World} {d : List UInt8} {n : Nat} {v : Value} {wr : World} (hown : IOwn wr (w.heap.size + 1) v (iota n)) (hD : Blk wr w.heap.size 23 (dig d)) (hB : Below w.heap.size w wr) : ORel2 w d n v (.int .i64 ((n : Int) - 1)) wr := by
  rcases Nat.eq_zero_or_pos n with rfl | h
  · exact ⟨0, iota 0, .inr ⟨rfl, rfl⟩, .inr rfl, hown, rfl, rfl, hD, hB⟩
  · exact ⟨n - 1, iota n, .inl (by congr 1; omega), .inl (by omega), hown, iota_length n, rfl, hD, hB⟩
theorem ORel2.drew {w wr : World} {d : List UInt8} {n : Nat} {v x : Value} (h : ORel2 w d n v x wr) : ORel2 w d n v x wr.drew := by
  obtain ⟨i, L, h1, h2, h3, h4, h5, h6, h7⟩ := h
  exact ⟨i, L, h1, h2, own_drew h3, h4, h5, h6, h7.drew⟩
theorem IOwn.row {w : World} {base : Nat} {v : Value} {l : List Int} {n : Nat} (h : IOwn w base v l) (hn : l.length = n) (h0 : 0 < n) : ∃ g c, v = .slice (some ⟨g, 0, none⟩) n c ∧ n ≤ c ∧ w.ownsRow base 3 1 (.slice (some ⟨g, 0, none⟩) n c) n (icells l) := by
  subst hn
  rcases h.2 with ⟨_, h1⟩ | ⟨g, cap, cur, rfl, _, _, hnc, _, _, _⟩
  · omega
  · exact ⟨g, cap, rfl, hnc, h⟩
theorem ORel2.swap {w wr : World} {d : List UInt8} {n i g c : Nat} {L : List Int} (hrow : wr.ownsRow (w.heap.size + 1) 3 1 (.slice (some ⟨g, 0, none⟩) n c) n (icells L)) (hLn : L.length = n) (hi : 0 < i) (hin : i < n) (hs : shuf (pick d) i L = orderOf d n)
    (hD : Blk wr w.heap.size 23 (dig d)) (hB : Below w.heap.size w wr) (x : Value) (hx : x = .int .i64 ((i : Int) - 1)) (k : Nat) (hk : k = pick d i) (u v : Value) (hu : u = .int .i64 (L.getD k 0)) (hv : v = .int .i64 (L.getD i 0)) :
    ORel2 w d n (.slice (some ⟨g, 0, none⟩) n c) x ((wr.setCell ⟨g, i, none⟩ u).setCell ⟨g, k, none⟩ v) := by
  subst hk hu hv hx hLn
  have hown : IOwn wr (w.heap.size + 1) (.slice (some ⟨g, 0, none⟩) L.length c) L := hrow
  obtain ⟨h1, g1⟩ := hown.swap i (pick d i)
  obtain ⟨i, rfl⟩ : ∃ j, i = j + 1 := ⟨i - 1, by omega⟩
  have hlt := World.ownsRow.lt hown g rfl
  refine ⟨i, swapL L (i + 1) (pick d (i + 1)), .inl (by congr 1; omega), .inl (by omega), h1, swapL_length _ _ _, hs, hD.grown g1.1 (fun e => by have : w.heap.size = g := Option.some.inj e; omega), hB.trans (g1.below hB.size fun k e => by have : g = k := Option.some.inj e; omega)⟩

set_option maxRecDepth 100000 in
set_option maxHeartbeats 4000000 in
theorem order_good (d : List UInt8) (hd : d.length = 32) (n : Nat) (hn : n ≤ 4096) (w : World) (hL : Laid w) :
    Calls Tryd.prog 32 #[.agg (dig d), .int .i64 n] w (OrderPost d n w) := by
  go_enter Tryd.func32, Tryd.ntmps32
  go_wp2_with fail
  go_loopw [4, 17] (fun v x wr => ORel w d n x v wr) (fun _ x _ => n - (intOf x).toNat)
  case atStart => exact ⟨0, by omega, rfl, IOwn.nil _ _, Blk.new _ _ _, (Below.refl _ w).alloc (Nat.le_refl _) _⟩
  case round =>
    obtain ⟨j, hj, rfl, hown, hD, hB⟩ := hrel
    have hlt0 := hD.lt
    by_cases hlt : j < n
    · have hO1 := hown.alloc (.cells #[.int .i64 j] 3)
      have hlen : (iota j).length = j := iota_length j
      go_wp2_with (at_builtin; refine app_int rfl _ _ rfl (w.heap.size + 1) u4 _ rfl hO1 j (Blk.new _ _ _) rfl (by omega) (by simp; omega) ?_; intro v2 w2 hown2 hg2)
      go_roundw
      case rel =>
        have hg := hg2.alloc_first
        refine ⟨j + 1, by omega, by go_num, by rw [iota_succ]; exact hown2, hD.grown hg.1 (fun e => by have := (World.ownsRow.lt hown _ e.symm).1; omega), hB.trans (hg.below hB.size fun k hk => by have := (World.ownsRow.lt hown _ hk).1; omega)⟩
      case measure => simp [intOf]; omega
    · obtain rfl : j = n := by omega
      go_wp2_with fail
      have hst := ORel2.start hown hD hB
      have HL := Lib.hid hL
      clear hown hD hB hlt hlt0 hL
      go_loopw [7] (fun x wr => ORel2 w d j u4 x wr) (fun x _ => (intOf x).toNat)
      case atStart => exact hst
      case round =>
        clear hst
        obtain ⟨i, L, hx, hin, hown, hLn, hs, hD, hB⟩ := hrel
        by_cases hi : 0 < i
        · obtain rfl : u7 = .int .i64 i := by
            rcases hx with h | h
            · exact h
            · omega
          have hij : i < j := by omega
          have hkle := pick_le d i
          have hpc := pick_cast d i
          have hNN := Lib.hid (fun W hW => number_any d hd i ((i : Int) + 1) W hW)
          clear hx hin
          go_wp2_with (refine load_dig rfl _ rfl d hd hD rfl ?_)
          obtain ⟨er, her⟩ : ∃ er, numV (numberOf d i ((i : Int) + 1)) = .tuple #[.int .i64 ((pick d i : Nat) : Int), .int .i64 er] := ⟨_, by rw [hpc]; rfl⟩
          rw [her] at hNN
          obtain ⟨k, hk⟩ : ∃ k, k = pick d i := ⟨_, rfl⟩
          rw [← hk] at hNN hkle
          have HK := Lib.hid hk
          clear her hk hpc
          refine (hNN.out wr (HL.out.below hB)).mono ?_
          rintro e w2 ⟨rfl, hb2⟩
          have hown2 := hown.below hb2
          have hD2 := hD.below hb2 hD.lt
          have hB2 := hB.trans (hb2.mono hB.size)
          clear hown hD hB hb2 hNN
          obtain ⟨g, c, rfl, hlc, hrow⟩ := hown2.row hLn (by omega)
          clear hown2
          have HS := Lib.hid (fun x hx u v hu hv => ORel2.swap hrow hLn hi hij hs hD2 hB2 x hx k HK.out u v hu hv)
          have ci : w2.cell? ⟨g, i, none⟩ = some (.int .i64 (L.getD i 0)) := (World.ownsRow.cellAt hrow i (by omega)).trans (icells_get L i (by omega))
          have ck : w2.cell? ⟨g, k, none⟩ = some (.int .i64 (L.getD k 0)) := (World.ownsRow.cellAt hrow k (by omega)).trans (icells_get L k (by omega))
          have fi := World.ownsRow.frozenAt hrow i
          have fk := World.ownsRow.frozenAt hrow k
          clear hrow hD2 hB2
          obtain ⟨li, hli⟩ : ∃ li, li = L.getD i 0 := ⟨_, rfl⟩
          obtain ⟨lk, hlk⟩ : ∃ lk, lk = L.getD k 0 := ⟨_, rfl⟩
          rw [← hli] at ci
          rw [← hlk] at ck
          have HLI := Lib.hid hli
          have HLK := Lib.hid hlk
          clear hli hlk
          go_wp2_with fail
          have hkj : k < j := by omega
          obtain ⟨_, c15⟩ := cell?_setCell_some (p := ⟨g, i, none⟩) (x := .int .i64 lk) ck
          go_region
          clear ci ck fi fk c15
          go_wp2_with fail
          go_roundw
          case rel => exact (HS.out _ rfl (.int .i64 lk) (.int .i64 li) (by rw [HLK.out]) (by rw [HLI.out])).drew
          case measure => simp [intOf]; omega
        · obtain ⟨A, c, rfl, -⟩ := hown.shape
          have ho : i = 0 := by omega
          subst ho
          rcases hx with rfl | ⟨-, rfl⟩
          all_goals
            go_wp2
            go_ret2
            refine ⟨_, rfl, ?_, hB⟩
            have ho2 : L = orderOf d j := hs
            rw [← ho2]
            have h4 := own_weaken hown (Nat.le_succ _)
            rw [hLn] at h4
            show World.ownsRow wr w.heap.size 3 1 _ L.length (icells L)
            rw [hLn]
            exact h4

set_option maxRecDepth 100000 in
set_option maxHeartbeats 1000000 in
theorem order_bad (d : List UInt8) (n : Int) (h : n < 0 ∨ 4096 < n) (w : World) : Calls Tryd.prog 32 #[.agg (dig d), .int .i64 n] w (BadPost w) := by
  by_cases c1 : n < 0
  · clear h
    go_enter Tryd.func32, Tryd.ntmps32
    go_wp2
    go_ret2
    exact ⟨rfl, (Below.refl _ w).alloc (Nat.le_refl _) _⟩
  · have c2 : 4096 < n := by omega
    clear h
    go_enter Tryd.func32, Tryd.ntmps32
    go_wp2
    go_ret2
    exact ⟨rfl, (Below.refl _ w).alloc (Nat.le_refl _) _⟩
end Go.Proofs.YtibnikokgbfcdaaDoor

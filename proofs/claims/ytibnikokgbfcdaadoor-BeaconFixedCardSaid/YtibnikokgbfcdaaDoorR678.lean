/- Several texts in one: R6, R7, R8. -/
import Derived.Test.YtibnikokgbfcdaaDoorR34
import Derived.Test.YtibnikokgbfcdaaDoorR125
import Derived.Test.YtibnikokgbfcdaaDoorLow
import Derived.StillTailTactics
import Derived.Test.YtibnikokgbfcdaaDoorDraw1
/- Walks: podiumref02.Sum, Tagged. -/
namespace Go.Proofs.YtibnikokgbfcdaaDoor
open Go.RowKit

theorem slice_block (W : World) (b off c m j : Nat) (hj : 64 * j + 64 ≤ m) (hc : m ≤ c) : (Instr.slice 39 (.slice (some ⟨b, off, none⟩) m c) (some (.int .i64 (64 * (j : Int)))) (some (.int .i64 (64 * (j : Int) + 64))) none).run Tryd.prog W = .ok (.slice (some ⟨b, off + 64 * j, none⟩) 64 (c - 64 * j)) W := by
  have e1 : (64 * (j : Int)).toNat = 64 * j := by omega
  have e2 : (64 * (j : Int) + 64).toNat = 64 * j + 64 := by omega
  have n1 : 0 ≤ 64 * (j : Int) ∧ 64 * (j : Int) ≤ 64 * (j : Int) + 64 := by omega
  have n2 : 0 ≤ 64 * (j : Int) + 64 ∧ 64 * (j : Int) + 64 ≤ (c : Int) := by omega
  have n5 : ¬ (c = 64 * j) := by omega
  simp [Instr.slice, run_underlying Tryd.underlying39, Instr.sliceBounds, Instr.sliceBound, asIntOf, e1, e2, n1, n2, n5, Addr.add_mid]
theorem st_one (s : St) : s.cells.all (·.oneCell') = true := by simp [St.cells, Value.oneCell']
def z32 : Array Value := Array.replicate 32 (.int .u8 0)
theorem z32Size : (Tryd.prog.info? 23).map (·.size) = some z32.size := by kernel_rfl
theorem z32One : z32.all (·.oneCell') = true := by kernel_rfl
theorem dig_next {Y : St} {cs : Array Value} {i : Nat} (hs : cs.size = 32) (hc : ∀ t, t < i → cs[t]? = some (.int .u8 (digByte Y t))) (hi : i < 32) (z : Int) (hz : z = digByte Y i) :
    ∀ t, t < i + 1 → (cs.setIfInBounds i (.int .u8 z))[t]? = some (.int .u8 (digByte Y t)) := by
  subst hz
  intro t ht
  rw [Array.getElem?_setIfInBounds]
  by_cases h : i = t
  · subst h
    rw [if_pos rfl, if_pos (by omega)]
  · rw [if_neg h]
    exact hc t (by omega)
def RSmRel (w : World) (F : Nat → Int) (b off m q : Nat) (x : Value) (wr : World) : Prop :=
  ∃ j : Nat, j ≤ q ∧ x = .int .i64 (64 * (j : Int)) ∧ Blk wr (w.heap.size + 1) 139 (shaTo F j).cells ∧ (∃ z, Blk wr w.heap.size 23 z ∧ z.size = 32) ∧ (∀ k, k < m → wr.cell? ⟨b, off + k, none⟩ = some (.int .u8 (F k))) ∧ b < wr.heap.size ∧ Below w.heap.size w wr
def RDgRel (w : World) (Y : St) (g : Nat) (x : Value) (wr : World) : Prop :=
  ∃ i : Nat, i ≤ 32 ∧ x = .int .i64 i ∧ (∃ cs, Blk wr g 23 cs ∧ cs.size = 32 ∧ ∀ t, t < i → cs[t]? = some (.int .u8 (digByte Y t))) ∧ Blk wr (w.heap.size + 1) 139 Y.cells ∧ (∃ z, Blk wr w.heap.size 23 z ∧ z.size = 32) ∧ Below w.heap.size w wr
set_option maxRecDepth 100000 in
set_option maxHeartbeats 4000000 in
theorem rsum_any (l : List UInt8) (A : Option Addr) (c : Nat) (w : World) (hA : RdB w w.heap.size A l) (hl : l.length ≤ 140737488300000) :
    Calls Tryd.prog 112 #[.slice A l.length c] w (Ret (.agg (dig (sha l))) w) := by
  have HP := Lib.hid (fun W (hb : Below w.heap.size w W) => rpadded_any l A c W ((hA.below hb).more hb.size) hl)
  obtain ⟨n, hn⟩ : ∃ n, n = l.length := ⟨_, rfl⟩
  rw [← hn] at hl HP ⊢
  have HN := Lib.hid hn
  clear hA hn
  go_enter Tryd.func112, Tryd.ntmps112
  go_wp2_with fail
  refine (HP.out _ (((Below.refl _ w).alloc (Nat.le_refl _) _).alloc (by simp) _)).mono ?_
  rintro e w2 ⟨v2, rfl, hown2, hb2⟩
  have hX2 : Blk w2 (w.heap.size + 1) 139 (shaTo (padAt (byteAt l) l.length) 0).cells := Blk.below (w := (w.alloc _).alloc _) (Blk.new_at _ _ _ (by simp)) hb2 (by simp)
  have hD2 := Blk.below (w := (w.alloc _).alloc _) ((Blk.new w _ _).alloc _) hb2 (by simp; omega)
  have hB2 : Below w.heap.size w w2 := (((Below.refl _ w).alloc (Nat.le_refl _) _).alloc (by simp) _).trans (hb2.mono (by simp; omega))
  have hbase := hown2.lt
  obtain ⟨-, A2, c2, rfl, hc2, -, hr2⟩ := own_slice hown2
  have hpl := padL_len l
  obtain ⟨b, off, rfl, hbl, hcp⟩ := hr2 (by omega)
  have hb3 : w.heap.size + 2 ≤ b := by have := (hbase b rfl).1; simpa using this
  obtain ⟨m, hm⟩ : ∃ m, m = (padL l).length := ⟨_, rfl⟩
  obtain ⟨q, hq⟩ : ∃ q, q = (l.length + 8) / 64 + 1 := ⟨_, rfl⟩
  have hmq : m = 64 * q := by rw [hm, hpl, hq]
  have hcp' : ∀ k, k < m → w2.cell? ⟨b, off + k, none⟩ = some (.int .u8 (padAt (byteAt l) l.length k)) := fun k hk => by
    exact (hcp k (by rw [← hm]; exact hk)).trans (congrArg (fun z => some (Value.int .u8 z)) (padL_get l k (by rw [← hq, ← hmq]; exact hk)))
  rw [← hm] at hc2 ⊢
  have hz2 : (∃ z, Blk w2 w.heap.size 23 z ∧ z.size = 32) := ⟨_, hD2, rfl⟩
  obtain ⟨F, hF⟩ : ∃ F, F = padAt (byteAt l) l.length := ⟨_, rfl⟩
  have hFr : ∀ k, 0 ≤ F k ∧ F k < 256 := fun k => by rw [hF]; exact padAt_range l k
  rw [← hF] at hX2 hcp'
  have HQ := Lib.hid hq
  have HFF := Lib.hid hF
  have HFR := Lib.hid hFr
  have HM := Lib.hid hmq
  have hm70 : m ≤ 140737488355328 := by rw [hmq, hq]; have := HN.out; omega
  clear hown2 hb2 hbase hr2 hpl hcp hm hq hmq hD2 hF hFr
  go_wp2_with fail
  go_loopw [5] (fun x wr => RSmRel w F b off m q x wr) (fun x _ => m - (intOf x).toNat)
  case atStart => exact ⟨0, by omega, rfl, hX2, hz2, hcp', hbl, hB2⟩
  case round =>
    clear hX2 hz2 hcp' hB2 hbl
    obtain ⟨j, hj, rfl, hX, hz, hcp, hbl, hB⟩ := hrel
    have hmq := HM.out
    by_cases hlt : j < q
    · obtain ⟨X, hXX⟩ : ∃ X, X = shaTo F j := ⟨_, rfl⟩
      rw [← hXX] at hX
      have HXX := Lib.hid hXX
      have c0 : wr.cell? ⟨w.heap.size + 1, 0, none⟩ = some (.int .u32 X.a) := hX.cell 0
      have c1 : wr.cell? ⟨w.heap.size + 1, 1, none⟩ = some (.int .u32 X.b) := hX.cell 1
      have c2' : wr.cell? ⟨w.heap.size + 1, 2, none⟩ = some (.int .u32 X.c) := hX.cell 2
      have c3 : wr.cell? ⟨w.heap.size + 1, 3, none⟩ = some (.int .u32 X.d) := hX.cell 3
      have c4 : wr.cell? ⟨w.heap.size + 1, 4, none⟩ = some (.int .u32 X.e) := hX.cell 4
      have c5 : wr.cell? ⟨w.heap.size + 1, 5, none⟩ = some (.int .u32 X.f) := hX.cell 5
      have c6 : wr.cell? ⟨w.heap.size + 1, 6, none⟩ = some (.int .u32 X.g) := hX.cell 6
      have c7 : wr.cell? ⟨w.heap.size + 1, 7, none⟩ = some (.int .u32 X.h) := hX.cell 7
      have hsl := fun W => slice_block W b off c2 m j (by omega) hc2
      have hlt64 : 64 * (j : Int) < (m : Int) := by omega
      have ew : IntKind.i64.wrap (64 * (j : Int) + 64) = 64 * (j : Int) + 64 := IntWalk.i64_in _ (by omega)
      have HX := Lib.hid hX
      have HC := Lib.hid hcp
      clear hXX hX hmq hcp
      go_wp2_with fail
      refine wp_region_still_tail 6 (by kernel_rfl) (by kernel_rfl) ?_
      simp only [List.take_succ_cons, List.take_zero, List.drop_succ_cons, List.drop_zero]
      show wpStill _ _ (World.drew _) _ _ _
      repeat still_step
      refine wpStill_nil ?_
      show wpList _ _ _ _ _ (World.drew _)
      clear c0 c1 c2' c3 c4 c5 c6 c7
      go_wp2_with fail
      have hcall := rblock_any X b (off + 64 * j) (c2 - 64 * j) (fun k => F (64 * j + k)) wr.drew (by have := HM.out; omega) (fun k hk => by rw [Nat.add_assoc]; exact HC.out (64 * j + k) (by have := HM.out; omega)) (fun k _ => HFR.out _)
      have hcall' : Calls Tryd.prog 132 #[.agg #[.int .u32 X.a, .int .u32 X.b, .int .u32 X.c, .int .u32 X.d, .int .u32 X.e, .int .u32 X.f, .int .u32 X.g, .int .u32 X.h], .slice (some ⟨b, off + 64 * j, none⟩) 64 (c2 - 64 * j)] wr.drew (Ret (.agg (X.block fun k => F (64 * j + k)).cells) wr.drew) := hcall
      refine hcall'.mono ?_
      rintro e w5 ⟨rfl, hb5⟩
      have hX5 := (HX.out.drew).below hb5 HX.out.lt
      obtain ⟨Y, hY⟩ : ∃ Y, Y = X.block fun k => F (64 * j + k) := ⟨_, rfl⟩
      rw [← hY]
      have HY := Lib.hid hY
      clear hY hcall hcall'
      go_wp2_with (refine store_agg rfl 139 (.tmp 3) (.tmp 23) rfl hX5 Y.cells rfl rfl a8Size rfl (st_one Y) ?_; intro w6 hX6 hO6 hz6)
      go_roundw
      case rel =>
        obtain ⟨z, hzz, hz32⟩ := hz
        have hne : w.heap.size ≠ w.heap.size + 1 := by omega
        have hl5 : wr.heap.size ≤ w5.heap.size := hb5.size
        refine ⟨j + 1, by omega, by go_num, ?_, ⟨z, ((hzz.drew).below hb5 hzz.lt).grown hO6 (fun e => hne (Option.some.inj e)), hz32⟩, fun k hk => ?_, by omega, hB.drew.trans ((hb5.mono hB.size).trans (hO6.toBelow (Nat.le_trans hB.size hl5) (Nat.le_succ _)))⟩
        · rw [shaTo, ← HXX.out, ← HY.out]
          exact hX6
        · exact hO6.cell (a := ⟨b, off + k, none⟩) ((hb5.cell (p := ⟨b, off + k, none⟩) hbl).trans (HC.out k hk)) (fun e => by have : b = w.heap.size + 1 := Option.some.inj e; omega)
      case measure => simp [intOf]; omega
    · obtain rfl : j = q := by omega
      have hge : ¬ (64 * (j : Int) < (m : Int)) := by omega
      clear hmq hlt
      go_wp2_with (refine wpList_build_run rfl 23 _ rfl (.agg z32) (by as_aux_lemma => kernel_rfl) ?_; refine wpList_alloc_run rfl 23 rfl z32 (by as_aux_lemma => kernel_rfl) ?_; refine wpList_store_new rfl 23 _ _ rfl _ _ z32 23 rfl rfl z32Size rfl z32One ?_)
      obtain ⟨Y, hY⟩ : ∃ Y, Y = shaTo F j := ⟨_, rfl⟩
      rw [← hY] at hX
      have HY := Lib.hid hY
      have hg0 : Blk (wr.alloc (.cells z32 23)) wr.heap.size 23 z32 := Blk.new _ _ _
      have hX0 := hX.alloc (.cells z32 23)
      have hB0 := hB.alloc hB.size (.cells z32 23)
      have hz0 : ∃ z, Blk (wr.alloc (.cells z32 23)) w.heap.size 23 z ∧ z.size = 32 := by
        obtain ⟨z, h1, h2⟩ := hz
        exact ⟨z, h1.alloc _, h2⟩
      have hgl : w.heap.size + 1 < wr.heap.size := hX.lt
      generalize wr.alloc (.cells z32 23) = w4 at hg0 hX0 hB0 hz0 ⊢
      obtain ⟨g, hg⟩ : ∃ g, g = wr.heap.size := ⟨_, rfl⟩
      rw [← hg] at hg0 hgl ⊢
      clear hg hY hX hB hz hcp hge hbl
      go_loopw [7] (fun x wr => RDgRel w Y g x wr) (fun x _ => 32 - (intOf x).toNat)
      case atStart => exact ⟨0, by omega, rfl, ⟨z32, hg0, rfl, fun t h => absurd h (by omega)⟩, hX0, hz0, hB0⟩
      case round =>
        clear hg0 hX0 hB0 hz0
        obtain ⟨i, hi, rfl, ⟨cs, hcs, hs32, hci⟩, hX, hz, hB⟩ := hrel
        by_cases hlt : i < 32
        · obtain ⟨v, hcell⟩ := hcs.some_ (i := i) (by omega)
          have hfz := hcs.frozen i
          obtain ⟨u, hu⟩ : ∃ u, u = i / 4 := ⟨_, rfl⟩
          obtain ⟨r, hr⟩ : ∃ r, r = i % 4 := ⟨_, rfl⟩
          have cY : wr.cell? ⟨w.heap.size + 1, u, none⟩ = some (.int .u32 (Y.nth u)) := (hX.cell _).trans (cells_nth Y _ (by omega))
          have q1 : (i : Int).tdiv 4 = (u : Int) := by rw [Int.tdiv_eq_ediv_of_nonneg (by omega)]; omega
          have q2 : (i : Int) / 4 = (u : Int) := by omega
          have q3 : (i : Int).tmod 4 = (r : Int) := by rw [Int.tmod_eq_emod_of_nonneg (by omega)]; omega
          have q4 : (i : Int) % 4 = (r : Int) := by omega
          have q5 : (24 - 8 * (r : Int)).toNat = 8 * (3 - r) := by omega
          have q6 : 0 ≤ 24 - 8 * (r : Int) := by omega
          have q7 : (u : Int) < 8 := by omega
          have q8 : (i : Int) < 32 := by omega
          have hset := fun z (hz : z = digByte Y i) t (ht : t < i + 1) => dig_next (Y := Y) hs32 hci hlt z hz t ht
          have HSET := Lib.hid hset
          have HDB : Hid (digByte Y i = Y.nth u / 2 ^ (8 * (3 - r)) % 256) := by rw [hu, hr]; rfl
          clear hu hr hset hci
          go_wp2_with fail
          go_roundw
          case rel =>
            refine ⟨i + 1, by omega, by go_num, ⟨_, hcs.set i _, by simpa using hs32, HSET.out _ HDB.out.symm⟩, hX.far (p := ⟨g, i, none⟩) (by show w.heap.size + 1 ≠ g; omega) _, ?_, hB.setCell (p := ⟨g, i, none⟩) (by show w.heap.size ≤ g; omega) _⟩
            obtain ⟨z, h1, h2⟩ := hz
            exact ⟨z, h1.far (p := ⟨g, i, none⟩) (by show w.heap.size ≠ g; omega) _, h2⟩
          case measure => simp [intOf]; omega
        · obtain rfl : i = 32 := by omega
          obtain ⟨z, hzz, hz32⟩ := hz
          have hcsd : cs = dig (sha l) := dig_sha l cs hs32 fun t ht => by
            rw [hci t ht, shaEnd, ← HFF.out, ← HQ.out, ← HY.out]
          rw [hcsd] at hcs
          clear hcsd hci hs32
          go_wp2_with (first
            | refine load_dig rfl _ rfl (sha l) (sha_length _) hcs rfl ?_
            | (refine store_dig rfl _ _ rfl hzz (sha l) (sha_length _) rfl rfl hz32 ?_; intro w6 hD6 hO6 hz6))
          refine bodyPost_ret (results_cell_row rfl _ _ w.heap.size 23 _ (0, 0) _ rfl hD6 Tryd.underlying23 rfl (dig_info _ (sha_length _))) rfl ?_
          exact ⟨rfl, hB.trans (hO6.toBelow hB.size (Nat.le_refl _))⟩

set_option maxRecDepth 100000 in
set_option maxHeartbeats 2000000 in
theorem rtagged_any (s : ByteArray) (A : Option Addr) (l : List UInt8) (cap : Nat) (w : World) (hA : RdB w w.heap.size A l) (hl : l.length ≤ 140737488000000) (hs : s.size ≤ 140737488000000) :
    Calls Tryd.prog 76 #[.string s, .slice A l.length cap] w (Ret (.agg (dig (tagged s.data.toList l))) w) := by
  go_enter Tryd.func76, Tryd.ntmps76
  go_wp2_with (refine conv_str rfl _ rfl _ s (by omega) rfl ?_; intro c1 w1 hc1 hc2 hr1 hb1 hz1; have hB1 : Below w.heap.size w w1 := ((Below.refl _ w).alloc (Nat.le_refl _) _).trans (hb1.mono (by simp)); have hD1 := (Blk.new w 23 _).below hb1 (by simp); simp only [World.size_alloc] at hr1 hz1; clear hb1)
  refine (rsum_any s.data.toList _ _ _ hr1 (Nat.le_trans hs (by omega))).mono ?_
  rintro e w2 ⟨rfl, hb2⟩
  have hB2 := hB1.trans (hb2.mono hB1.size)
  have hD2 := hD1.below hb2 hD1.lt
  obtain ⟨D, hD⟩ : ∃ D, D = sha s.data.toList := ⟨_, rfl⟩
  have hDl : D.length = 32 := by rw [hD]; exact sha_length _
  rw [← hD]
  have HD := Lib.hid hD
  clear hD hD1 hr1 hb2 hB1
  have hT : Blk ((w2.alloc (.cells (dig D) 23)).alloc (.cells #[] 5)) w2.heap.size 23 (dig D) := (Blk.new w2 _ _).alloc _
  have hs1 : Src Tryd.prog 1 39 (.slice (some ⟨w2.heap.size, 0, none⟩) 32 32) 32 (bcells D) ((w2.alloc (.cells (dig D) 23)).alloc (.cells #[] 5)) := by
    have h := src_bytes ((w2.alloc (.cells (dig D) 23)).alloc (.cells #[] 5)) (c := 32) (RdB.of_blk (l := D) hT fun k hk => by rw [Nat.zero_add]; exact dig_get _ k hk)
    rwa [hDl] at h
  have hO0 : ((w2.alloc (.cells (dig D) 23)).alloc (.cells #[] 5)).ownsRow (w2.heap.size + 1) 5 1 (.slice (some ⟨w2.heap.size + 1, 0, none⟩) 0 0) 0 [] := by
    have h := own_bytes_new (w2.alloc (.cells (dig D) 23)) (w2.heap.size + 1) (by simp) [] (by simp only [maxLen, List.length_nil]; omega)
    simp only [World.size_alloc] at h
    exact h
  have hB3 : Below w.heap.size w ((w2.alloc (.cells (dig D) 23)).alloc (.cells #[] 5)) := (hB2.alloc hB2.size _).alloc (Nat.le_trans hB2.size (by simp)) _
  have hD3 := (hD2.alloc (.cells (dig D) 23)).alloc (.cells #[] 5)
  have hlt2 := hD2.lt
  have HS2 := Lib.hid (fun W (hb : Below w.heap.size w W) => src_bytes W (c := cap) (hA.below hb))
  clear hT hA
  go_wp2_with (first
    | refine store_dig_new rfl _ _ rfl _ _ _ D hDl rfl rfl rfl ?_
    | (at_builtin; refine app_bytes ((w2.alloc (.cells (dig D) 23)).alloc (.cells #[] 5)) rfl _ _ 39 rfl (w2.heap.size + 1) (.slice (some ⟨w2.heap.size + 1, 0, none⟩) 0 0) 0 [] rfl hO0 _ 32 (bcells D) rfl hs1 (by omega) (by simp) ?_
       intro v4 w4 hown4 hg4
       have hB4 : Below w.heap.size w w4 := hB3.trans (hg4.below hB3.size fun k hk => by have := (hO0.lt k hk).1; omega)
       have hD4 := hD3.grown hg4.1 (fun e => by have := (hO0.lt _ e.symm).1; omega)
       have hz4 : w2.heap.size + 1 ≤ w4.heap.size := Nat.le_trans (by simp) hg4.1.size)
    | (at_builtin; refine app_bytes w4 rfl _ _ 39 rfl (w2.heap.size + 1) v4 (0 + 32) ([] ++ bcells D) rfl hown4 _ l.length (bcells l) rfl (HS2.out w4 hB4) (by omega) hz4 ?_
       intro v5 w5 hown5 hg5
       have hB5 : Below w.heap.size w w5 := hB4.trans (hg5.below hB4.size fun k hk => by have := (hown4.lt k hk).1; omega)
       have hD5 := hD4.grown hg5.1 (fun e => by have := (hown4.lt _ e.symm).1; omega)))
  obtain ⟨M, hM⟩ : ∃ M, M = D ++ l := ⟨_, rfl⟩
  have hMl : M.length = 32 + l.length := by rw [hM, List.length_append, hDl]
  have hown6 : w5.ownsRow (w2.heap.size + 1) 5 1 v5 (32 + l.length) (bcells M) := by rw [hM, bcells_append]; simpa using hown5
  have HM := Lib.hid hM
  clear hM hown5 hown4 hO0 hs1 hg4 hg5 hB3 hD3
  obtain ⟨-, A5, c5, rfl, -, -, hr5⟩ := own_slice hown6
  have hMb : M.length ≤ 140737488300000 := by omega
  clear hown6 hMl
  go_wp2_with fail
  refine (rsum_any M A5 c5 w5 hr5 hMb).mono ?_
  rintro e w6 ⟨rfl, hb6⟩
  have hB6 := hB5.trans (hb6.mono hB5.size)
  have hD6 := hD5.below hb6 hD5.lt
  clear hD5 hr5 hb6
  go_wp2_with (refine store_dig rfl _ _ rfl hD6 (sha M) (sha_length _) rfl rfl rfl ?_; intro w7 hD7 hO7 hz7)
  refine bodyPost_ret (results_cell_row rfl _ _ w.heap.size 23 _ (0, 0) _ rfl hD7 Tryd.underlying23 rfl (dig_info _ (sha_length _))) rfl ?_
  rw [tagged, ← HD.out, ← HM.out]
  exact ⟨rfl, hB6.trans (hO7.toBelow hB6.size (Nat.le_refl _))⟩
end Go.Proofs.YtibnikokgbfcdaaDoor

/- Walks: podiumref01.Text, Int, List; podiumref32.Word. -/
namespace Go.Proofs.YtibnikokgbfcdaaDoor
open Go.RowKit

set_option maxRecDepth 100000 in
set_option maxHeartbeats 1000000 in
theorem rText_any (s : ByteArray) (w : World) : Calls Tryd.prog 74 #[.string s] w (Ret (.agg #[.int .i64 2, .int .i64 0, .string s, .slice none 0 0]) w) := by
  go_enter Tryd.func74, Tryd.ntmps74
  go_wp2
  refine bodyPost_ret (results_cell_row rfl _ _ w.heap.size 93 _ (0, 0) _ rfl (Blk.new w 93 #[.int .i64 2, .int .i64 0, .string s, .slice none 0 0]) Tryd.underlying93 rfl valueSize) rfl ?_
  exact ⟨rfl, (Below.refl _ w).alloc (Nat.le_refl _) _⟩
set_option maxRecDepth 100000 in
set_option maxHeartbeats 1000000 in
theorem rInt_any (k : Nat) (w : World) : Calls Tryd.prog 75 #[.int .i64 k] w (Ret (.agg #[.int .i64 1, .int .i64 k, .string ⟨#[]⟩, .slice none 0 0]) w) := by
  go_enter Tryd.func75, Tryd.ntmps75
  go_wp2
  refine bodyPost_ret (results_cell_row rfl _ _ w.heap.size 93 _ (0, 0) _ rfl (Blk.new w 93 #[.int .i64 1, .int .i64 k, .string ⟨#[]⟩, .slice none 0 0]) Tryd.underlying93 rfl valueSize) rfl ?_
  exact ⟨rfl, (Below.refl _ w).alloc (Nat.le_refl _) _⟩
set_option maxRecDepth 100000 in
set_option maxHeartbeats 1000000 in
theorem rList_any (A : Option Addr) (n c : Nat) (w : World) : Calls Tryd.prog 73 #[.slice A n c] w (Ret (.agg #[.int .i64 3, .int .i64 0, .string ⟨#[]⟩, .slice A n c]) w) := by
  go_enter Tryd.func73, Tryd.ntmps73
  go_wp2
  refine bodyPost_ret (results_cell_row rfl _ _ w.heap.size 93 _ (0, 0) _ rfl (Blk.new w 93 #[.int .i64 3, .int .i64 0, .string ⟨#[]⟩, .slice A n c]) Tryd.underlying93 rfl valueSize) rfl ?_
  exact ⟨rfl, (Below.refl _ w).alloc (Nat.le_refl _) _⟩

section
variable {ops : Array Oper} {rest : List Oper} {o : Oper} {a : Act} {Q : Exit → Act → World → Prop}
theorem to_str2 (hgd : o.guard = none) (x : Operand) (ho : o.op = .convert 39 9 x) {w : World} {B : Nat} {A : Option Addr} {l : List UInt8} {c n : Nat} (hx : a.eval x = .slice A n c) (hn : n = l.length) (hR : RdB w B A l)
    (h : wpList Tryd.prog ops Q rest (a.put o.dst (.string ⟨l.toArray⟩)) w) : wpList Tryd.prog ops Q (o :: rest) a w := by
  subst hn
  exact to_str hgd x ho hx hR h
end
theorem elems_three {w : World} {g : Nat} (s : ByteArray) (no i : Nat)
    (h : Blk w g 93 #[.int .i64 2, .int .i64 0, .string s, .slice none 0 0, .int .i64 1, .int .i64 no, .string ⟨#[]⟩, .slice none 0 0, .int .i64 1, .int .i64 i, .string ⟨#[]⟩, .slice none 0 0]) :
    Elems w w.heap.size (some ⟨g, 0, none⟩) [V4.text s, V4.int no, V4.int i] := fun _ => by
  refine ⟨g, 0, rfl, h.lt, fun k x hx => ?_⟩
  rcases k with _ | _ | _ | k
  · obtain rfl := Option.some.inj hx
    exact ⟨h.cell 0, h.cell 1, h.cell 2, h.cell 3⟩
  · obtain rfl := Option.some.inj hx
    exact ⟨h.cell 4, h.cell 5, h.cell 6, h.cell 7⟩
  · obtain rfl := Option.some.inj hx
    exact ⟨h.cell 8, h.cell 9, h.cell 10, h.cell 11⟩
  · cases hx
theorem be_four (H : List UInt8) : ((byteAt H 0 * 256 + byteAt H 1) * 256 + byteAt H 2) * 256 + byteAt H 3 = ((be H 4 : Nat) : Int) := by
  simp only [be, byteAt]
  omega
set_option maxRecDepth 100000 in
set_option maxHeartbeats 2000000 in
theorem rWord_any (d : List UInt8) (hd : d.length = 32) (no i : Nat) (hno : no ≤ 1099511627776) (hi : i ≤ 1000000) (w : World) :
    Calls Tryd.prog 36 #[.agg (dig d), .int .i64 no, .int .i64 i] w (Ret (.int .i64 (wordOf d no i : Nat)) w) := by
  have hlen := wordText_len d no i hd (by omega) (by omega)
  have HLEN := Lib.hid hlen
  clear hlen
  go_enter Tryd.func36, Tryd.ntmps36
  have hR0 : RdB (w.alloc (.cells (dig d) 23)) (w.heap.size + 1) (some ⟨w.heap.size, 0, none⟩) d := Rd.of_blk (Blk.new w _ _) (Nat.lt_succ_self _) fun k hk => by rw [Nat.zero_add]; exact dig_get d k hk
  have hB0 : Below w.heap.size w (w.alloc (.cells (dig d) 23)) := (Below.refl _ w).alloc (Nat.le_refl _) _
  go_wp2_with (refine to_str2 rfl _ rfl rfl hd.symm hR0 ?_)
  clear hR0
  generalize w.alloc (.cells (dig d) 23) = w0 at hB0 ⊢
  refine (rText_any _ w0).mono ?_
  rintro e w1 ⟨rfl, hb1⟩
  have hB1 := hB0.trans (hb1.mono hB0.size)
  clear hB0 hb1
  go_wp2_with fail
  refine (rInt_any no w1).mono ?_
  rintro e w2 ⟨rfl, hb2⟩
  have hB2 := hB1.trans (hb2.mono hB1.size)
  clear hB1 hb2
  go_wp2_with fail
  refine (rInt_any i w2).mono ?_
  rintro e w3 ⟨rfl, hb3⟩
  have hB3 := hB2.trans (hb3.mono hB2.size)
  clear hB2 hb3
  go_wp2_with fail
  have hX4 : Blk (w3.alloc (.cells #[.int .i64 2, .int .i64 0, .string ⟨d.toArray⟩, .slice none 0 0, .int .i64 1, .int .i64 no, .string ⟨#[]⟩, .slice none 0 0, .int .i64 1, .int .i64 i, .string ⟨#[]⟩, .slice none 0 0] 93)) w3.heap.size 93 _ := Blk.new _ _ _
  have hB4 := hB3.alloc hB3.size (.cells #[.int .i64 2, .int .i64 0, .string ⟨d.toArray⟩, .slice none 0 0, .int .i64 1, .int .i64 no, .string ⟨#[]⟩, .slice none 0 0, .int .i64 1, .int .i64 i, .string ⟨#[]⟩, .slice none 0 0] 93)
  generalize w3.alloc (.cells #[.int .i64 2, .int .i64 0, .string ⟨d.toArray⟩, .slice none 0 0, .int .i64 1, .int .i64 no, .string ⟨#[]⟩, .slice none 0 0, .int .i64 1, .int .i64 i, .string ⟨#[]⟩, .slice none 0 0] 93) = w4 at hX4 hB4 ⊢
  obtain ⟨g, hg⟩ : ∃ g, g = w3.heap.size := ⟨_, rfl⟩
  rw [← hg] at hX4 ⊢
  clear hg hB3
  refine (rList_any (some ⟨g, 0, none⟩) 3 3 w4).mono ?_
  rintro e w5 ⟨rfl, hb5⟩
  have hE5 := (elems_three _ no i hX4).later hb5
  have hB5 := hB4.trans (hb5.mono hB4.size)
  clear hX4 hB4 hb5
  have hx : REnc w5 (V4.list (some ⟨g, 0, none⟩) 3 3) (0 + 1) (wordText d no i) := by
    refine renc_list w5 (some ⟨g, 0, none⟩) [V4.text ⟨d.toArray⟩, V4.int no, V4.int i] [textB d, intB no, intB i] 3 0 rfl hE5 (Nat.le_refl _) (by omega) (by have := HLEN.out; rw [wordText] at this; omega) (by omega) fun k x e h1 h2 => ?_
    rcases k with _ | _ | _ | k
    · obtain rfl := Option.some.inj h1
      obtain rfl := Option.some.inj h2
      exact renc_text w5 ⟨d.toArray⟩ (by show d.toArray.size ≤ _; simp; omega)
    · obtain rfl := Option.some.inj h1
      obtain rfl := Option.some.inj h2
      exact renc_int w5 no (by omega)
    · obtain rfl := Option.some.inj h1
      obtain rfl := Option.some.inj h2
      exact renc_int w5 i (by omega)
    · cases h1
  have hcall : Calls Tryd.prog 72 #[.agg #[.int .i64 3, .int .i64 0, .string ⟨#[]⟩, .slice (some ⟨g, 0, none⟩) 3 3]] w5 (EncPost (wordText d no i) w5) := rEncode_ok (V4.list (some ⟨g, 0, none⟩) 3 3) (0 + 1) (wordText d no i) w5 hx (by omega)
  have HC := Lib.hid hcall
  clear hx hE5 hcall
  go_wp2_with fail
  refine HC.out.mono ?_
  rintro e w6 ⟨v6, rfl, hown6, hb6⟩
  have hB6 := hB5.trans (hb6.mono hB5.size)
  obtain ⟨T, hT⟩ : ∃ T, T = wordText d no i := ⟨_, rfl⟩
  have hTl : T.length ≤ 1000 := by rw [hT]; exact HLEN.out
  rw [← hT] at hown6
  have HT := Lib.hid hT
  obtain ⟨-, A6, c6, rfl, -, -, hr6⟩ := own_slice hown6
  have HTG := Lib.hid (rtagged_any ⟨#[100, 114, 97, 119]⟩ A6 T c6 w6 hr6 (by omega) (by decide))
  clear hown6 hb6 hB5 hT hr6
  go_wp2_with fail
  refine HTG.out.mono ?_
  rintro e w7 ⟨rfl, hb7⟩
  have hB7 := hB6.trans (hb7.mono hB6.size)
  obtain ⟨H, hH⟩ : ∃ H, H = tagged drawTag T := ⟨_, rfl⟩
  have hHl : H.length = 32 := by rw [hH]; exact tagged_length _ _
  have hH' : tagged (⟨#[100, 114, 97, 119]⟩ : ByteArray).data.toList T = H := hH.symm
  rw [hH']
  have HH := Lib.hid hH
  clear hH hH' hb7 hB6
  have hX8 : Blk (w7.alloc (.cells (dig H) 23)) w7.heap.size 23 (dig H) := Blk.new _ _ _
  have hB8 := hB7.alloc hB7.size (.cells (dig H) 23)
  have c0 : (w7.alloc (.cells (dig H) 23)).cell? ⟨w7.heap.size, 0, none⟩ = some (.int .u8 (byteAt H 0)) := (hX8.cell 0).trans (dig_get H 0 (by omega))
  have c1 : (w7.alloc (.cells (dig H) 23)).cell? ⟨w7.heap.size, 1, none⟩ = some (.int .u8 (byteAt H 1)) := (hX8.cell 1).trans (dig_get H 1 (by omega))
  have c2 : (w7.alloc (.cells (dig H) 23)).cell? ⟨w7.heap.size, 2, none⟩ = some (.int .u8 (byteAt H 2)) := (hX8.cell 2).trans (dig_get H 2 (by omega))
  have c3 : (w7.alloc (.cells (dig H) 23)).cell? ⟨w7.heap.size, 3, none⟩ = some (.int .u8 (byteAt H 3)) := (hX8.cell 3).trans (dig_get H 3 (by omega))
  have r0 := byteAt_range H 0
  have r1 := byteAt_range H 1
  have r2 := byteAt_range H 2
  have r3 := byteAt_range H 3
  have HBE := Lib.hid (be_four H)
  clear hX8
  obtain ⟨h0, e0⟩ : ∃ h0, h0 = byteAt H 0 := ⟨_, rfl⟩
  obtain ⟨h1, e1⟩ : ∃ h1, h1 = byteAt H 1 := ⟨_, rfl⟩
  obtain ⟨h2, e2⟩ : ∃ h2, h2 = byteAt H 2 := ⟨_, rfl⟩
  obtain ⟨h3, e3⟩ : ∃ h3, h3 = byteAt H 3 := ⟨_, rfl⟩
  rw [← e0] at c0 r0 HBE
  rw [← e1] at c1 r1 HBE
  rw [← e2] at c2 r2 HBE
  rw [← e3] at c3 r3 HBE
  clear e0 e1 e2 e3
  go_wp2_with (refine store_dig_new rfl _ _ rfl _ _ _ H hHl rfl rfl rfl ?_)
  go_ret
  refine ⟨?_, hB8⟩
  rw [wordOf, ← HT.out, ← HH.out, ← HBE.out]
  rfl
end Go.Proofs.YtibnikokgbfcdaaDoor

/- Walks: podiumref32.Take, Number, Order, Few. -/
namespace Go.Proofs.YtibnikokgbfcdaaDoor
open Go.RowKit

set_option maxRecDepth 100000 in
set_option maxHeartbeats 1000000 in
theorem rTake_any (word n : Int) (h0 : -9223372036854775808 ≤ word) (h1 : word < 9223372036854775808) (h2 : -9223372036854775808 ≤ n) (h3 : n < 9223372036854775808) (w : World) :
    Calls Tryd.prog 28 #[.int .i64 word, .int .i64 n] w (fun e w' => e = .returned (takeV (takeOf word n)) ∧ w = w') := by
  by_cases c1 : word < 0
  · rw [show takeOf word n = (0, false, 1) from if_pos (.inl c1)]
    go_enter Tryd.func28, Tryd.ntmps28
    go_wp2
    all_goals go_ret3
    all_goals exact ⟨rfl, rfl⟩
  by_cases c2 : 4294967296 ≤ word
  · rw [show takeOf word n = (0, false, 1) from if_pos (.inr (.inl c2))]
    go_enter Tryd.func28, Tryd.ntmps28
    go_wp2
    all_goals go_ret3
    all_goals exact ⟨rfl, rfl⟩
  by_cases c3 : n < 1
  · rw [show takeOf word n = (0, false, 1) from if_pos (.inr (.inr (.inl c3)))]
    go_enter Tryd.func28, Tryd.ntmps28
    go_wp2
    all_goals go_ret3
    all_goals exact ⟨rfl, rfl⟩
  by_cases c4 : 4096 < n
  · rw [show takeOf word n = (0, false, 1) from if_pos (.inr (.inr (.inr c4)))]
    go_enter Tryd.func28, Tryd.ntmps28
    go_wp2
    all_goals go_ret3
    all_goals exact ⟨rfl, rfl⟩
  have m0 : 0 ≤ 4294967296 % n := Int.emod_nonneg _ (by omega)
  have m1 : 4294967296 % n < n := Int.emod_lt_of_pos _ (by omega)
  have hr0 : 0 ≤ word % n := Int.emod_nonneg _ (by omega)
  have hr1 : word % n < n := Int.emod_lt_of_pos _ (by omega)
  have hw : word.tmod n = word % n := Int.tmod_eq_emod_of_nonneg (by omega)
  obtain ⟨q, hq⟩ : ∃ q, q = 4294967296 / n := ⟨_, rfl⟩
  have hqt : (4294967296 : Int).tdiv n = q := by rw [hq]; exact Int.tdiv_eq_ediv_of_nonneg (by omega)
  have hq0 : 0 ≤ q := by rw [hq]; exact Int.ediv_nonneg (by omega) (by omega)
  obtain ⟨L, hL⟩ : ∃ L, L = 4294967296 - 4294967296 % n := ⟨_, rfl⟩
  have hqn : q * n = L := by rw [hq, hL]; have := Int.emod_add_mul_ediv 4294967296 n; rw [Int.mul_comm]; omega
  have hqb : q ≤ 4294967296 := by
    have h : q * 1 ≤ q * n := Int.mul_le_mul_of_nonneg_left (by omega) hq0
    omega
  have hL1 : L ≤ 4294967296 := by omega
  have hL0 : 0 ≤ L := by omega
  have HQ := Lib.hid hq
  by_cases c5 : L ≤ word
  · rw [show takeOf word n = (0, false, 0) by rw [takeOf, if_neg (by omega), if_pos (by omega)]]
    clear hq hL m0 m1
    go_enter Tryd.func28, Tryd.ntmps28
    go_wp2
    all_goals go_ret3
    all_goals exact ⟨rfl, rfl⟩
  · rw [show takeOf word n = (word % n, true, 0) by rw [takeOf, if_neg (by omega), if_neg (by omega)]]
    clear hq hL m0 m1
    go_enter Tryd.func28, Tryd.ntmps28
    go_wp2
    all_goals go_ret3
    all_goals exact ⟨rfl, rfl⟩

set_option maxRecDepth 100000 in
set_option maxHeartbeats 2000000 in
theorem rnumber_good (d : List UInt8) (hd : d.length = 32) (no n : Nat) (hno : no ≤ 1099511627776) (hn0 : 1 ≤ n) (hn1 : n ≤ 4096) (w : World) :
    Calls Tryd.prog 30 #[.agg (dig d), .int .i64 no, .int .i64 n] w (Ret (numV (firstOf n (wordsOf d no 64), 0)) w) := by
  go_enter Tryd.func30, Tryd.ntmps30
  go_wp2_with fail
  go_loopw [8] (fun x wr => ∃ j : Nat, j ≤ 64 ∧ x = .int .i64 j ∧ (∀ y ∈ wordsOf d no j, (takeOf (y.1 : Int) n).2.1 = false) ∧ Blk wr w.heap.size 23 (dig d) ∧ Below w.heap.size w wr) (fun x _ => 64 - (intOf x).toNat)
  case atStart => exact ⟨0, by omega, rfl, by simp [wordsOf], Blk.new _ _ _, (Below.refl _ w).alloc (Nat.le_refl _) _⟩
  case round =>
    obtain ⟨j, hj, rfl, hp, hD, hB⟩ := hrel
    have HP := Lib.hid hp
    clear hp
    by_cases hlt : j < 64
    · have hwl := wordOf_lt d no j
      obtain ⟨⟨v, ok, er⟩, hr⟩ : ∃ r, r = takeOf ((wordOf d no j : Nat) : Int) n := ⟨_, rfl⟩
      have HW := Lib.hid (fun W => rWord_any d hd no j hno (by omega) W)
      obtain ⟨x, hx⟩ : ∃ x, x = wordOf d no j := ⟨_, rfl⟩
      rw [← hx] at hwl hr HW
      have HX := Lib.hid hx
      have HR := Lib.hid hr
      have HT := Lib.hid (fun W' => rTake_any (x : Int) n (by omega) (by omega) (by omega) (by omega) W')
      rw [← hr] at HT
      clear hx hr
      go_wp2_with (refine load_dig rfl _ rfl d hd hD rfl ?_)
      refine (HW.out wr).mono ?_
      rintro e w2 ⟨rfl, hb2⟩
      have hD2 := hD.below hb2 hD.lt
      have hB2 := hB.trans (hb2.mono hB.size)
      clear hD hB hb2
      go_wp2_with fail
      refine (HT.out w2).mono ?_
      rintro e w3 ⟨rfl, rfl⟩
      simp only [takeV]
      cases ok
      · go_wp2_with fail
        go_roundw
        case rel =>
          refine ⟨j + 1, by omega, by go_num, fun y hy => ?_, hD2, hB2⟩
          rw [wordsOf_succ] at hy
          rcases List.mem_append.1 hy with h | h
          · exact HP.out y h
          · obtain rfl : y = ⟨wordOf d no j, wordOf_lt d no j⟩ := by simpa using h
            show (takeOf ((wordOf d no j : Nat) : Int) n).2.1 = false
            rw [← HX.out, ← HR.out]
        case measure => simp [intOf]; omega
      · go_wp2_with fail
        go_ret2
        refine ⟨?_, hB2⟩
        obtain ⟨r, hr⟩ := wordsOf_prefix d no (j + 1) 64 (by omega)
        have e : firstOf n (wordsOf d no 64) = v := by
          rw [← hr, wordsOf_succ, List.append_assoc, List.singleton_append, firstOf_at n _ (by show (takeOf ((wordOf d no j : Nat) : Int) n).2.1 = true; rw [← HX.out, ← HR.out]) r _ HP.out]
          show (takeOf ((wordOf d no j : Nat) : Int) n).1 = v
          rw [← HX.out, ← HR.out]
        rw [e]
        rfl
    · obtain rfl : j = 64 := by omega
      have e : firstOf n (wordsOf d no 64) = 0 := firstOf_none n _ HP.out
      go_wp2_with fail
      go_ret2
      refine ⟨?_, hB⟩
      rw [e]
      rfl
set_option maxRecDepth 100000 in
set_option maxHeartbeats 1000000 in
theorem rnumber_bad (d : List UInt8) (no n : Int) (h : no < 0 ∨ 1099511627776 < no ∨ n < 1 ∨ 4096 < n) (w : World) :
    Calls Tryd.prog 30 #[.agg (dig d), .int .i64 no, .int .i64 n] w (Ret (numV (0, 1)) w) := by
  by_cases c1 : no < 0
  · clear h
    go_enter Tryd.func30, Tryd.ntmps30
    go_wp2
    go_ret2
    exact ⟨rfl, (Below.refl _ w).alloc (Nat.le_refl _) _⟩
  by_cases c2 : 1099511627776 < no
  · clear h
    go_enter Tryd.func30, Tryd.ntmps30
    go_wp2
    go_ret2
    exact ⟨rfl, (Below.refl _ w).alloc (Nat.le_refl _) _⟩
  by_cases c3 : n < 1
  · clear h
    go_enter Tryd.func30, Tryd.ntmps30
    go_wp2
    go_ret2
    exact ⟨rfl, (Below.refl _ w).alloc (Nat.le_refl _) _⟩
  · have c4 : 4096 < n := by omega
    clear h
    go_enter Tryd.func30, Tryd.ntmps30
    go_wp2
    go_ret2
    exact ⟨rfl, (Below.refl _ w).alloc (Nat.le_refl _) _⟩
theorem rNumber_any (d : List UInt8) (hd : d.length = 32) (no n : Int) (w : World) :
    Calls Tryd.prog 30 #[.agg (dig d), .int .i64 no, .int .i64 n] w (Ret (numV (numberOf d no n)) w) := by
  by_cases h : no < 0 ∨ 1099511627776 < no ∨ n < 1 ∨ 4096 < n
  · rw [numberOf, if_pos h]
    exact rnumber_bad d no n h w
  · rw [numberOf, if_neg h]
    obtain ⟨a, rfl⟩ : ∃ a : Nat, no = a := ⟨no.toNat, by omega⟩
    obtain ⟨b, rfl⟩ : ∃ b : Nat, n = b := ⟨n.toNat, by omega⟩
    exact rnumber_good d hd a b (by omega) (by omega) (by omega) w

set_option maxRecDepth 100000 in
set_option maxHeartbeats 1000000 in
theorem few_any (n : Int) (w : World) : Calls Tryd.prog 31 #[.int .i64 n] w (fun e w' => e = .returned (.bool (decide (n ≤ 40 ∨ 4096 < n))) ∧ w = w') := by
  by_cases c1 : n ≤ 40
  · rw [decide_eq_true (.inl c1)]
    go_enter Tryd.func31, Tryd.ntmps31
    go_wp2
    go_ret
    exact ⟨rfl, rfl⟩
  by_cases c2 : 4096 < n
  · rw [decide_eq_true (.inr c2)]
    go_enter Tryd.func31, Tryd.ntmps31
    go_wp2
    go_ret
    exact ⟨rfl, rfl⟩
  · rw [decide_eq_false (by omega)]
    go_enter Tryd.func31, Tryd.ntmps31
    go_wp2
    go_ret
    exact ⟨rfl, rfl⟩

theorem IOwn.empty_new (w : World) (base : Nat) (hb : base ≤ w.heap.size) : IOwn (w.alloc (.cells #[] 3)) base (.slice (some ⟨w.heap.size, 0, none⟩) 0 0) [] :=
  World.ownsRow_made w (e := 3) (size := 1) (base := base) #[] 0 hb (by simp only [maxLen]; omega) (by simp)
set_option maxRecDepth 100000 in
set_option maxHeartbeats 4000000 in
theorem rorder_good (d : List UInt8) (hd : d.length = 32) (n : Nat) (hn : n ≤ 4096) (w : World) :
    Calls Tryd.prog 33 #[.agg (dig d), .int .i64 n] w (OrderPost d n w) := by
  have hO0 := IOwn.empty_new (w.alloc (.cells (dig d) 23)) (w.heap.size + 1) (by simp)
  simp only [World.size_alloc] at hO0
  go_enter Tryd.func33, Tryd.ntmps33
  go_wp2_with fail
  go_loopw [6, 7] (fun v x wr => ORel w d n x v wr) (fun _ x _ => n - (intOf x).toNat)
  case atStart => exact ⟨0, by omega, rfl, hO0, (Blk.new _ _ _).alloc _, ((Below.refl _ w).alloc (Nat.le_refl _) _).alloc (by simp) _⟩
  case round =>
    clear hO0
    obtain ⟨j, hj, rfl, hown, hD, hB⟩ := hrel
    have hlt0 := hD.lt
    by_cases hlt : j < n
    · have hO1 := hown.alloc (.cells #[.int .i64 j] 3)
      have hlen : (iota j).length = j := iota_length j
      go_wp2_with (at_builtin; refine app_int rfl _ _ rfl (w.heap.size + 1) u6 _ rfl hO1 j (Blk.new _ _ _) rfl (by omega) (by simp; omega) ?_; intro v2 w2 hown2 hg2)
      go_roundw
      case rel =>
        have hg := hg2.alloc_first
        refine ⟨j + 1, by omega, by go_num, by rw [iota_succ]; exact hown2, hD.grown hg.1 (fun e => by have := (World.ownsRow.lt hown _ e.symm).1; omega), hB.trans (hg.below hB.size fun k hk => by have := (World.ownsRow.lt hown _ hk).1; omega)⟩
      case measure => simp [intOf]; omega
    · obtain rfl : j = n := by omega
      go_wp2_with fail
      have hst := ORel2.start hown hD hB
      clear hown hD hB hlt hlt0
      go_loopw [8] (fun x wr => ORel2 w d j u6 x wr) (fun x _ => (intOf x).toNat)
      case atStart => exact hst
      case round =>
        clear hst
        obtain ⟨i, L, hx, hin, hown, hLn, hs, hD, hB⟩ := hrel
        by_cases hi : 0 < i
        · obtain rfl : u8 = .int .i64 i := by
            rcases hx with h | h
            · exact h
            · omega
          have hij : i < j := by omega
          have hkle := pick_le d i
          have hpc := pick_cast d i
          have hNN := Lib.hid (fun W => rNumber_any d hd i ((i : Int) + 1) W)
          clear hx hin
          go_wp2_with (refine load_dig rfl _ rfl d hd hD rfl ?_)
          obtain ⟨er, her⟩ : ∃ er, numV (numberOf d i ((i : Int) + 1)) = .tuple #[.int .i64 ((pick d i : Nat) : Int), .int .i64 er] := ⟨_, by rw [hpc]; rfl⟩
          rw [her] at hNN
          obtain ⟨k, hk⟩ : ∃ k, k = pick d i := ⟨_, rfl⟩
          rw [← hk] at hNN hkle
          have HK := Lib.hid hk
          clear her hk hpc
          refine (hNN.out wr).mono ?_
          rintro e w2 ⟨rfl, hb2⟩
          have hown2 := hown.below hb2
          have hD2 := hD.below hb2 hD.lt
          have hB2 := hB.trans (hb2.mono hB.size)
          clear hown hD hB hb2 hNN
          obtain ⟨g, c, rfl, hlc, hrow⟩ := hown2.row hLn (by omega)
          clear hown2
          have HS := Lib.hid (fun x hx u v hu hv => ORel2.swap hrow hLn hi hij hs hD2 hB2 x hx k HK.out u v hu hv)
          have ci : w2.cell? ⟨g, i, none⟩ = some (.int .i64 (L.getD i 0)) := (World.ownsRow.cellAt hrow i (by omega)).trans (icells_get L i (by omega))
          have ck : w2.cell? ⟨g, k, none⟩ = some (.int .i64 (L.getD k 0)) := (World.ownsRow.cellAt hrow k (by omega)).trans (icells_get L k (by omega))
          have fi := World.ownsRow.frozenAt hrow i
          have fk := World.ownsRow.frozenAt hrow k
          clear hrow hD2 hB2
          obtain ⟨li, hli⟩ : ∃ li, li = L.getD i 0 := ⟨_, rfl⟩
          obtain ⟨lk, hlk⟩ : ∃ lk, lk = L.getD k 0 := ⟨_, rfl⟩
          rw [← hli] at ci
          rw [← hlk] at ck
          have HLI := Lib.hid hli
          have HLK := Lib.hid hlk
          clear hli hlk
          go_wp2_with fail
          have hkj : k < j := by omega
          obtain ⟨_, c15⟩ := cell?_setCell_some (p := ⟨g, i, none⟩) (x := .int .i64 lk) ck
          go_region
          clear ci ck fi fk c15
          go_wp2_with fail
          go_roundw
          case rel => exact (HS.out _ rfl (.int .i64 lk) (.int .i64 li) (by rw [HLK.out]) (by rw [HLI.out])).drew
          case measure => simp [intOf]; omega
        · obtain ⟨A, c, rfl, -⟩ := hown.shape
          have ho : i = 0 := by omega
          subst ho
          rcases hx with rfl | ⟨-, rfl⟩
          all_goals
            go_wp2
            go_ret2
            refine ⟨_, rfl, ?_, hB⟩
            have ho2 : L = orderOf d j := hs
            rw [← ho2]
            have h4 := own_weaken hown (Nat.le_succ _)
            rw [hLn] at h4
            show World.ownsRow wr w.heap.size 3 1 _ L.length (icells L)
            rw [hLn]
            exact h4
set_option maxRecDepth 100000 in
set_option maxHeartbeats 1000000 in
theorem rorder_bad (d : List UInt8) (n : Int) (h : n < 0 ∨ 4096 < n) (w : World) : Calls Tryd.prog 33 #[.agg (dig d), .int .i64 n] w (BadPost w) := by
  by_cases c1 : n < 0
  · clear h
    go_enter Tryd.func33, Tryd.ntmps33
    go_wp2
    go_ret2
    exact ⟨rfl, (Below.refl _ w).alloc (Nat.le_refl _) _⟩
  · have c2 : 4096 < n := by omega
    clear h
    go_enter Tryd.func33, Tryd.ntmps33
    go_wp2
    go_ret2
    exact ⟨rfl, (Below.refl _ w).alloc (Nat.le_refl _) _⟩
end Go.Proofs.YtibnikokgbfcdaaDoor

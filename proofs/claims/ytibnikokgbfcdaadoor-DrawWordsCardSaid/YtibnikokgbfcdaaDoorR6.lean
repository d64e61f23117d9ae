/- Walks: podiumref02.Sum, Tagged. -/
import Derived.Test.YtibnikokgbfcdaaDoorR4
import Derived.Test.YtibnikokgbfcdaaDoorR5
import Derived.Test.YtibnikokgbfcdaaDoorW6
import Derived.StillTailTactics
namespace Go.Proofs.YtibnikokgbfcdaaDoor
open Go.RowKit

theorem slice_block (W : World) (b off c m j : Nat) (hj : 64 * j + 64 ≤ m) (hc : m ≤ c) : (Instr.slice 39 (.slice (some ⟨b, off, none⟩) m c) (some (.int .i64 (64 * (j : Int)))) (some (.int .i64 (64 * (j : Int) + 64))) none).run Tryd.prog W = .ok (.slice (some ⟨b, off + 64 * j, none⟩) 64 (c - 64 * j)) W := by
  have e1 : (64 * (j : Int)).toNat = 64 * j := by omega
  have e2 : (64 * (j : Int) + 64).toNat = 64 * j + 64 := by omega
  have n1 : 0 ≤ 64 * (j : Int) ∧ 64 * (j : Int) ≤ 64 * (j : Int) + 64 := by omega
  have n2 : 0 ≤ 64 * (j : Int) + 64 ∧ 64 * (j : Int) + 64 ≤ (c : Int) := by omega
  have n5 : ¬ (c = 64 * j) := by omega
  simp [Instr.slice, run_underlying Tryd.underlying39, Instr.sliceBounds, Instr.sliceBound, asIntOf, e1, e2, n1, n2, n5, Addr.add_mid]
theorem st_one (s : St) : s.cells.all (·.oneCell') = true := by simp [St.cells, Value.oneCell']
def z32 : Array Value := Array.replicate 32 (.int .u8 0)
theorem z32Size : (Tryd.prog.info? 23).map (·.size) = some z32.size := by kernel_rfl
theorem z32One : z32.all (·.oneCell') = true := by kernel_rfl
theorem dig_next {Y : St} {cs : Array Value} {i : Nat} (hs : cs.size = 32) (hc : ∀ t, t < i → cs[t]? = some (.int .u8 (digByte Y t))) (hi : i < 32) (z : Int) (hz : z = digByte Y i) :
    ∀ t, t < i + 1 → (cs.setIfInBounds i (.int .u8 z))[t]? = some (.int .u8 (digByte Y t)) := by
  subst hz
  intro t ht
  rw [Array.getElem?_setIfInBounds]
  by_cases h : i = t
  · subst h
    rw [if_pos rfl, if_pos (by omega)]
  · rw [if_neg h]
    exact hc t (by omega)
def RSmRel (w : World) (F : Nat → Int) (b off m q : Nat) (x : Value) (wr : World) : Prop :=
  ∃ j : Nat, j ≤ q ∧ x = .int .i64 (64 * (j : Int)) ∧ Blk wr (w.heap.size + 1) 139 (shaTo F j).cells ∧ (∃ z, Blk wr w.heap.size 23 z ∧ z.size = 32) ∧ (∀ k, k < m → wr.cell? ⟨b, off + k, none⟩ = some (.int .u8 (F k))) ∧ b < wr.heap.size ∧ Below w.heap.size w wr
def RDgRel (w : World) (Y : St) (g : Nat) (x : Value) (wr : World) : Prop :=
  ∃ i : Nat, i ≤ 32 ∧ x = .int .i64 i ∧ (∃ cs, Blk wr g 23 cs ∧ cs.size = 32 ∧ ∀ t, t < i → cs[t]? = some (.int .u8 (digByte Y t))) ∧ Blk wr (w.heap.size + 1) 139 Y.cells ∧ (∃ z, Blk wr w.heap.size 23 z ∧ z.size = 32) ∧ Below w.heap.size w wr
set_option maxRecDepth 100000 in
set_option maxHeartbeats 4000000 in
theorem rsum_any (l : List UInt8) (A : Option Addr) (c : Nat) (w : World) (hA : RdB w w.heap.size A l) (hl : l.length ≤ 140737488300000) :
    Calls Tryd.prog 112 #[.slice A l.length c] w (Ret (.agg (dig (sha l))) w) := by
  have HP := Lib.hid (fun W (hb : Below w.heap.size w W) => rpadded_any l A c W ((hA.below hb).more hb.size) hl)
  obtain ⟨n, hn⟩ : ∃ n, n = l.length := ⟨_, rfl⟩
  rw [← hn] at hl HP ⊢
  have HN := Lib.hid hn
  clear hA hn
  go_enter Tryd.func112, Tryd.ntmps112
  go_wp2_with fail
  refine (HP.out _ (((Below.refl _ w).alloc (Nat.le_refl _) _).alloc (by simp) _)).mono ?_
  rintro e w2 ⟨v2, rfl, hown2, hb2⟩
  have hX2 : Blk w2 (w.heap.size + 1) 139 (shaTo (padAt (byteAt l) l.length) 0).cells := Blk.below (w := (w.alloc _).alloc _) (Blk.new_at _ _ _ (by simp)) hb2 (by simp)
  have hD2 := Blk.below (w := (w.alloc _).alloc _) ((Blk.new w _ _).alloc _) hb2 (by simp; omega)
  have hB2 : Below w.heap.size w w2 := (((Below.refl _ w).alloc (Nat.le_refl _) _).alloc (by simp) _).trans (hb2.mono (by simp; omega))
  have hbase := hown2.lt
  obtain ⟨-, A2, c2, rfl, hc2, -, hr2⟩ := own_slice hown2
  have hpl := padL_len l
  obtain ⟨b, off, rfl, hbl, hcp⟩ := hr2 (by omega)
  have hb3 : w.heap.size + 2 ≤ b := by have := (hbase b rfl).1; simpa using this
  obtain ⟨m, hm⟩ : ∃ m, m = (padL l).length := ⟨_, rfl⟩
  obtain ⟨q, hq⟩ : ∃ q, q = (l.length + 8) / 64 + 1 := ⟨_, rfl⟩
  have hmq : m = 64 * q := by rw [hm, hpl, hq]
  have hcp' : ∀ k, k < m → w2.cell? ⟨b, off + k, none⟩ = some (.int .u8 (padAt (byteAt l) l.length k)) := fun k hk => by
    exact (hcp k (by rw [← hm]; exact hk)).trans (congrArg (fun z => some (Value.int .u8 z)) (padL_get l k (by rw [← hq, ← hmq]; exact hk)))
  rw [← hm] at hc2 ⊢
  have hz2 : (∃ z, Blk w2 w.heap.size 23 z ∧ z.size = 32) := ⟨_, hD2, rfl⟩
  obtain ⟨F, hF⟩ : ∃ F, F = padAt (byteAt l) l.length := ⟨_, rfl⟩
  have hFr : ∀ k, 0 ≤ F k ∧ F k < 256 := fun k => by rw [hF]; exact padAt_range l k
  rw [← hF] at hX2 hcp'
  have HQ := Lib.hid hq
  have HFF := Lib.hid hF
  have HFR := Lib.hid hFr
  have HM := Lib.hid hmq
  have hm70 : m ≤ 140737488355328 := by rw [hmq, hq]; have := HN.out; omega
  clear hown2 hb2 hbase hr2 hpl hcp hm hq hmq hD2 hF hFr
  go_wp2_with fail
  go_loopw [5] (fun x wr => RSmRel w F b off m q x wr) (fun x _ => m - (intOf x).toNat)
  case atStart => exact ⟨0, by omega, rfl, hX2, hz2, hcp', hbl, hB2⟩
  case round =>
    clear hX2 hz2 hcp' hB2 hbl
    obtain ⟨j, hj, rfl, hX, hz, hcp, hbl, hB⟩ := hrel
    have hmq := HM.out
    by_cases hlt : j < q
    · obtain ⟨X, hXX⟩ : ∃ X, X = shaTo F j := ⟨_, rfl⟩
      rw [← hXX] at hX
      have HXX := Lib.hid hXX
      have c0 : wr.cell? ⟨w.heap.size + 1, 0, none⟩ = some (.int .u32 X.a) := hX.cell 0
      have c1 : wr.cell? ⟨w.heap.size + 1, 1, none⟩ = some (.int .u32 X.b) := hX.cell 1
      have c2' : wr.cell? ⟨w.heap.size + 1, 2, none⟩ = some (.int .u32 X.c) := hX.cell 2
      have c3 : wr.cell? ⟨w.heap.size + 1, 3, none⟩ = some (.int .u32 X.d) := hX.cell 3
      have c4 : wr.cell? ⟨w.heap.size + 1, 4, none⟩ = some (.int .u32 X.e) := hX.cell 4
      have c5 : wr.cell? ⟨w.heap.size + 1, 5, none⟩ = some (.int .u32 X.f) := hX.cell 5
      have c6 : wr.cell? ⟨w.heap.size + 1, 6, none⟩ = some (.int .u32 X.g) := hX.cell 6
      have c7 : wr.cell? ⟨w.heap.size + 1, 7, none⟩ = some (.int .u32 X.h) := hX.cell 7
      have hsl := fun W => slice_block W b off c2 m j (by omega) hc2
      have hlt64 : 64 * (j : Int) < (m : Int) := by omega
      have ew : IntKind.i64.wrap (64 * (j : Int) + 64) = 64 * (j : Int) + 64 := IntWalk.i64_in _ (by omega)
      have HX := Lib.hid hX
      have HC := Lib.hid hcp
      clear hXX hX hmq hcp
      go_wp2_with fail
      refine wp_region_still_tail 6 (by kernel_rfl) (by kernel_rfl) ?_
      simp only [List.take_succ_cons, List.take_zero, List.drop_succ_cons, List.drop_zero]
      show wpStill _ _ (World.drew _) _ _ _
      repeat still_step
      refine wpStill_nil ?_
      show wpList _ _ _ _ _ (World.drew _)
      clear c0 c1 c2' c3 c4 c5 c6 c7
      go_wp2_with fail
      have hcall := rblock_any X b (off + 64 * j) (c2 - 64 * j) (fun k => F (64 * j + k)) wr.drew (by have := HM.out; omega) (fun k hk => by rw [Nat.add_assoc]; exact HC.out (64 * j + k) (by have := HM.out; omega)) (fun k _ => HFR.out _)
      have hcall' : Calls Tryd.prog 132 #[.agg #[.int .u32 X.a, .int .u32 X.b, .int .u32 X.c, .int .u32 X.d, .int .u32 X.e, .int .u32 X.f, .int .u32 X.g, .int .u32 X.h], .slice (some ⟨b, off + 64 * j, none⟩) 64 (c2 - 64 * j)] wr.drew (Ret (.agg (X.block fun k => F (64 * j + k)).cells) wr.drew) := hcall
      refine hcall'.mono ?_
      rintro e w5 ⟨rfl, hb5⟩
      have hX5 := (HX.out.drew).below hb5 HX.out.lt
      obtain ⟨Y, hY⟩ : ∃ Y, Y = X.block fun k => F (64 * j + k) := ⟨_, rfl⟩
      rw [← hY]
      have HY := Lib.hid hY
      clear hY hcall hcall'
      go_wp2_with (refine store_agg rfl 139 (.tmp 3) (.tmp 23) rfl hX5 Y.cells rfl rfl a8Size rfl (st_one Y) ?_; intro w6 hX6 hO6 hz6)
      go_roundw
      case rel =>
        obtain ⟨z, hzz, hz32⟩ := hz
        have hne : w.heap.size ≠ w.heap.size + 1 := by omega
        have hl5 : wr.heap.size ≤ w5.heap.size := hb5.size
        refine ⟨j + 1, by omega, by go_num, ?_, ⟨z, ((hzz.drew).below hb5 hzz.lt).grown hO6 (fun e => hne (Option.some.inj e)), hz32⟩, fun k hk => ?_, by omega, hB.drew.trans ((hb5.mono hB.size).trans (hO6.toBelow (Nat.le_trans hB.size hl5) (Nat.le_succ _)))⟩
        · rw [shaTo, ← HXX.out, ← HY.out]
          exact hX6
        · exact hO6.cell (a := ⟨b, off + k, none⟩) ((hb5.cell (p := ⟨b, off + k, none⟩) hbl).trans (HC.out k hk)) (fun e => by have : b = w.heap.size + 1 := Option.some.inj e; omega)
      case measure => simp [intOf]; omega
    · obtain rfl : j = q := by omega
      have hge : ¬ (64 * (j : Int) < (m : Int)) := by omega
      clear hmq hlt
      go_wp2_with (refine wpList_build_run rfl 23 _ rfl (.agg z32) (by as_aux_lemma => kernel_rfl) ?_; refine wpList_alloc_run rfl 23 rfl z32 (by as_aux_lemma => kernel_rfl) ?_; refine wpList_store_new rfl 23 _ _ rfl _ _ z32 23 rfl rfl z32Size rfl z32One ?_)
      obtain ⟨Y, hY⟩ : ∃ Y, Y = shaTo F j := ⟨_, rfl⟩
      rw [← hY] at hX
      have HY := Lib.hid hY
      have hg0 : Blk (wr.alloc (.cells z32 23)) wr.heap.size 23 z32 := Blk.new _ _ _
      have hX0 := hX.alloc (.cells z32 23)
      have hB0 := hB.alloc hB.size (.cells z32 23)
      have hz0 : ∃ z, Blk (wr.alloc (.cells z32 23)) w.heap.size 23 z ∧ z.size = 32 := by
        obtain ⟨z, h1, h2⟩ := hz
        exact ⟨z, h1.alloc _, h2⟩
      have hgl : w.heap.size + 1 < wr.heap.size := hX.lt
      generalize wr.alloc (.cells z32 23) = w4 at hg0 hX0 hB0 hz0 ⊢
      obtain ⟨g, hg⟩ : ∃ g, g = wr.heap.size := ⟨_, rfl⟩
      rw [← hg] at hg0 hgl ⊢
      clear hg hY hX hB hz hcp hge hbl
      go_loopw [7] (fun x wr => RDgRel w Y g x wr) (fun x _ => 32 - (intOf x).toNat)
      case atStart => exact ⟨0, by omega, rfl, ⟨z32, hg0, rfl, fun t h => absurd h (by omega)⟩, hX0, hz0, hB0⟩
      case round =>
        clear hg0 hX0 hB0 hz0
        obtain ⟨i, hi, rfl, ⟨cs, hcs, hs32, hci⟩, hX, hz, hB⟩ := hrel
        by_cases hlt : i < 32
        · obtain ⟨v, hcell⟩ := hcs.some_ (i := i) (by omega)
          have hfz := hcs.frozen i
          obtain ⟨u, hu⟩ : ∃ u, u = i / 4 := ⟨_, rfl⟩
          obtain ⟨r, hr⟩ : ∃ r, r = i % 4 := ⟨_, rfl⟩
          have cY : wr.cell? ⟨w.heap.size + 1, u, none⟩ = some (.int .u32 (Y.nth u)) := (hX.cell _).trans (cells_nth Y _ (by omega))
          have q1 : (i : Int).tdiv 4 = (u : Int) := by rw [Int.tdiv_eq_ediv_of_nonneg (by omega)]; omega
          have q2 : (i : Int) / 4 = (u : Int) := by omega
          have q3 : (i : Int).tmod 4 = (r : Int) := by rw [Int.tmod_eq_emod_of_nonneg (by omega)]; omega
          have q4 : (i : Int) % 4 = (r : Int) := by omega
          have q5 : (24 - 8 * (r : Int)).toNat = 8 * (3 - r) := by omega
          have q6 : 0 ≤ 24 - 8 * (r : Int) := by omega
          have q7 : (u : Int) < 8 := by omega
          have q8 : (i : Int) < 32 := by omega
          have hset := fun z (hz : z = digByte Y i) t (ht : t < i + 1) => dig_next (Y := Y) hs32 hci hlt z hz t ht
          have HSET := Lib.hid hset
          have HDB : Hid (digByte Y i = Y.nth u / 2 ^ (8 * (3 - r)) % 256) := by rw [hu, hr]; rfl
          clear hu hr hset hci
          go_wp2_with fail
          go_roundw
          case rel =>
            refine ⟨i + 1, by omega, by go_num, ⟨_, hcs.set i _, by simpa using hs32, HSET.out _ HDB.out.symm⟩, hX.far (p := ⟨g, i, none⟩) (by show w.heap.size + 1 ≠ g; omega) _, ?_, hB.setCell (p := ⟨g, i, none⟩) (by show w.heap.size ≤ g; omega) _⟩
            obtain ⟨z, h1, h2⟩ := hz
            exact ⟨z, h1.far (p := ⟨g, i, none⟩) (by show w.heap.size ≠ g; omega) _, h2⟩
          case measure => simp [intOf]; omega
        · obtain rfl : i = 32 := by omega
          obtain ⟨z, hzz, hz32⟩ := hz
          have hcsd : cs = dig (sha l) := dig_sha l cs hs32 fun t ht => by
            rw [hci t ht, shaEnd, ← HFF.out, ← HQ.out, ← HY.out]
          rw [hcsd] at hcs
          clear hcsd hci hs32
          go_wp2_with (first
            | refine load_dig rfl _ rfl (sha l) (sha_length _) hcs rfl ?_
            | (refine store_dig rfl _ _ rfl hzz (sha l) (sha_length _) rfl rfl hz32 ?_; intro w6 hD6 hO6 hz6))
          refine bodyPost_ret (results_cell_row rfl _ _ w.heap.size 23 _ (0, 0) _ rfl hD6 Tryd.underlying23 rfl (dig_info _ (sha_length _))) rfl ?_
          exact ⟨rfl, hB.trans (hO6.toBelow hB.size (Nat.le_refl _))⟩

set_option maxRecDepth 100000 in
set_option maxHeartbeats 2000000 in
theorem rtagged_any (s : ByteArray) (A : Option Addr) (l : List UInt8) (cap : Nat) (w : World) (hA : RdB w w.heap.size A l) (hl : l.length ≤ 140737488000000) (hs : s.size ≤ 140737488000000) :
    Calls Tryd.prog 76 #[.string s, .slice A l.length cap] w (Ret (.agg (dig (tagged s.data.toList l))) w) := by
  go_enter Tryd.func76, Tryd.ntmps76
  go_wp2_with (refine conv_str rfl _ rfl _ s (by omega) rfl ?_; intro c1 w1 hc1 hc2 hr1 hb1 hz1; have hB1 : Below w.heap.size w w1 := ((Below.refl _ w).alloc (Nat.le_refl _) _).trans (hb1.mono (by simp)); have hD1 := (Blk.new w 23 _).below hb1 (by simp); simp only [World.size_alloc] at hr1 hz1; clear hb1)
  refine (rsum_any s.data.toList _ _ _ hr1 (Nat.le_trans hs (by omega))).mono ?_
  rintro e w2 ⟨rfl, hb2⟩
  have hB2 := hB1.trans (hb2.mono hB1.size)
  have hD2 := hD1.below hb2 hD1.lt
  obtain ⟨D, hD⟩ : ∃ D, D = sha s.data.toList := ⟨_, rfl⟩
  have hDl : D.length = 32 := by rw [hD]; exact sha_length _
  rw [← hD]
  have HD := Lib.hid hD
  clear hD hD1 hr1 hb2 hB1
  have hT : Blk ((w2.alloc (.cells (dig D) 23)).alloc (.cells #[] 5)) w2.heap.size 23 (dig D) := (Blk.new w2 _ _).alloc _
  have hs1 : Src Tryd.prog 1 39 (.slice (some ⟨w2.heap.size, 0, none⟩) 32 32) 32 (bcells D) ((w2.alloc (.cells (dig D) 23)).alloc (.cells #[] 5)) := by
    have h := src_bytes ((w2.alloc (.cells (dig D) 23)).alloc (.cells #[] 5)) (c := 32) (RdB.of_blk (l := D) hT fun k hk => by rw [Nat.zero_add]; exact dig_get _ k hk)
    rwa [hDl] at h
  have hO0 : ((w2.alloc (.cells (dig D) 23)).alloc (.cells #[] 5)).ownsRow (w2.heap.size + 1) 5 1 (.slice (some ⟨w2.heap.size + 1, 0, none⟩) 0 0) 0 [] := by
    have h := own_bytes_new (w2.alloc (.cells (dig D) 23)) (w2.heap.size + 1) (by simp) [] (by simp only [maxLen, List.length_nil]; omega)
    simp only [World.size_alloc] at h
    exact h
  have hB3 : Below w.heap.size w ((w2.alloc (.cells (dig D) 23)).alloc (.cells #[] 5)) := (hB2.alloc hB2.size _).alloc (Nat.le_trans hB2.size (by simp)) _
  have hD3 := (hD2.alloc (.cells (dig D) 23)).alloc (.cells #[] 5)
  have hlt2 := hD2.lt
  have HS2 := Lib.hid (fun W (hb : Below w.heap.size w W) => src_bytes W (c := cap) (hA.below hb))
  clear hT hA
  go_wp2_with (first
    | refine store_dig_new rfl _ _ rfl _ _ _ D hDl rfl rfl rfl ?_
    | (at_builtin; refine app_bytes ((w2.alloc (.cells (dig D) 23)).alloc (.cells #[] 5)) rfl _ _ 39 rfl (w2.heap.size + 1) (.slice (some ⟨w2.heap.size + 1, 0, none⟩) 0 0) 0 [] rfl hO0 _ 32 (bcells D) rfl hs1 (by omega) (by simp) ?_
       intro v4 w4 hown4 hg4
       have hB4 : Below w.heap.size w w4 := hB3.trans (hg4.below hB3.size fun k hk => by have := (hO0.lt k hk).1; omega)
       have hD4 := hD3.grown hg4.1 (fun e => by have := (hO0.lt _ e.symm).1; omega)
       have hz4 : w2.heap.size + 1 ≤ w4.heap.size := Nat.le_trans (by simp) hg4.1.size)
    | (at_builtin; refine app_bytes w4 rfl _ _ 39 rfl (w2.heap.size + 1) v4 (0 + 32) ([] ++ bcells D) rfl hown4 _ l.length (bcells l) rfl (HS2.out w4 hB4) (by omega) hz4 ?_
       intro v5 w5 hown5 hg5
       have hB5 : Below w.heap.size w w5 := hB4.trans (hg5.below hB4.size fun k hk => by have := (hown4.lt k hk).1; omega)
       have hD5 := hD4.grown hg5.1 (fun e => by have := (hown4.lt _ e.symm).1; omega)))
  obtain ⟨M, hM⟩ : ∃ M, M = D ++ l := ⟨_, rfl⟩
  have hMl : M.length = 32 + l.length := by rw [hM, List.length_append, hDl]
  have hown6 : w5.ownsRow (w2.heap.size + 1) 5 1 v5 (32 + l.length) (bcells M) := by rw [hM, bcells_append]; simpa using hown5
  have HM := Lib.hid hM
  clear hM hown5 hown4 hO0 hs1 hg4 hg5 hB3 hD3
  obtain ⟨-, A5, c5, rfl, -, -, hr5⟩ := own_slice hown6
  have hMb : M.length ≤ 140737488300000 := by omega
  clear hown6 hMl
  go_wp2_with fail
  refine (rsum_any M A5 c5 w5 hr5 hMb).mono ?_
  rintro e w6 ⟨rfl, hb6⟩
  have hB6 := hB5.trans (hb6.mono hB5.size)
  have hD6 := hD5.below hb6 hD5.lt
  clear hD5 hr5 hb6
  go_wp2_with (refine store_dig rfl _ _ rfl hD6 (sha M) (sha_length _) rfl rfl rfl ?_; intro w7 hD7 hO7 hz7)
  refine bodyPost_ret (results_cell_row rfl _ _ w.heap.size 23 _ (0, 0) _ rfl hD7 Tryd.underlying23 rfl (dig_info _ (sha_length _))) rfl ?_
  rw [tagged, ← HD.out, ← HM.out]
  exact ⟨rfl, hB6.trans (hO7.toBelow hB6.size (Nat.le_refl _))⟩
end Go.Proofs.YtibnikokgbfcdaaDoor

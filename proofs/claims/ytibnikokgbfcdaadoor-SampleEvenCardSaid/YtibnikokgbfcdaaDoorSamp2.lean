/- Several texts in one: S6, S7, S8, S9. -/
import Derived.Test.YtibnikokgbfcdaaDoorS5
import Derived.Test.YtibnikokgbfcdaaDoorOpens
import Derived.Test.YtibnikokgbfcdaaDoorSamp1
import Derived.Test.YtibnikokgbfcdaaDoorR678
import Derived.BigQuiet
import Derived.Test.YtibnikokgbfcdaaDoorDrawPR
import Derived.Deep.RegionHeld
/- Walk: sample.Strata where it refuses. -/
namespace Go.Proofs.YtibnikokgbfcdaaDoor
open Go Go.RowKit

set_option maxRecDepth 100000 in
set_option maxHeartbeats 2000000 in
theorem strata_limit (d : List UInt8) (AL AK : Option Addr) (m n cL cK : Nat) (hm : 64 < m) (hm2 : m ≤ 9223372036854775807) (w : World) :
    Calls Tryd.prog 64 #[.agg (dig d), .slice AL m cL, .slice AK n cK] w (Ret (.tuple #[.slice none 0 0, .int .i64 2]) w) := by
  go_enter Tryd.func64, Tryd.ntmps64
  go_wp2
  refine bodyPost_ret (v := .tuple #[.slice none 0 0, .int .i64 2]) ?_ rfl ⟨rfl, (((((Below.refl _ w).alloc (Nat.le_refl _) _).alloc (by simp) _).alloc (by simp; omega) _).alloc (by simp; omega) _).alloc (by simp; omega) _⟩
  simp [results, Tryd.f64, go_sem]
set_option maxRecDepth 100000 in
set_option maxHeartbeats 2000000 in
theorem strata_len (d : List UInt8) (AL AK : Option Addr) (m n cL cK : Nat) (hm : m ≤ 64) (hn : n ≠ m) (w : World) :
    Calls Tryd.prog 64 #[.agg (dig d), .slice AL m cL, .slice AK n cK] w (Ret (.tuple #[.slice none 0 0, .int .i64 550]) w) := by
  have hn' : ¬ (n : Int) = (m : Int) := by omega
  go_enter Tryd.func64, Tryd.ntmps64
  go_wp2
  refine bodyPost_ret (v := .tuple #[.slice none 0 0, .int .i64 550]) ?_ rfl ⟨rfl, (((((Below.refl _ w).alloc (Nat.le_refl _) _).alloc (by simp) _).alloc (by simp; omega) _).alloc (by simp; omega) _).alloc (by simp; omega) _⟩
  simp [results, Tryd.f64, go_sem]
set_option maxRecDepth 100000 in
set_option maxHeartbeats 4000000 in
theorem strata_at (d : List UInt8) (L K : List Int) (m p : Nat) (hm : m ≤ 64) (hp : p < m) (hs : ∀ i, i ≤ p → 0 ≤ sumTo L i ∧ sumTo L i ≤ 4096) (hv : ∀ i, i < p → 0 ≤ K.getD i 0 ∧ K.getD i 0 ≤ L.getD i 0)
    (hIL : IntL L) (hIK : IntL K) (hbad : K.getD p 0 < 0 ∨ L.getD p 0 < K.getD p 0 ∨ 4096 - sumTo L p < L.getD p 0)
    (AL AK : Option Addr) (cL cK : Nat) (w : World) (hRL : Rd w w.heap.size AL m (fun i => .int .i64 (L.getD i 0))) (hRK : Rd w w.heap.size AK m (fun i => .int .i64 (K.getD i 0))) :
    Calls Tryd.prog 64 #[.agg (dig d), .slice AL m cL, .slice AK m cK] w (Ret (.tuple #[.slice none 0 0, .int .i64 550]) w) := by
  have HS := Lib.hid hs
  have HV := Lib.hid hv
  have HRL := Lib.hid hRL
  have HRK := Lib.hid hRK
  have HIL := Lib.hid hIL
  have HIK := Lib.hid hIK
  have HBAD := Lib.hid hbad
  clear hs hv hRL hRK hIL hIK hbad
  have hX : ∃ W0, W0 = ((((w.alloc (.cells (dig d) 23)).alloc (.cells #[.slice AL m cL] 32)).alloc (.cells #[.slice AK m cK] 32)).alloc (.cells #[.slice none 0 0] 81)).alloc (.cells #[.int .i64 0] 25) := ⟨_, rfl⟩
  obtain ⟨W0, hW0⟩ := hX
  go_enter Tryd.func64, Tryd.ntmps64
  go_wp2_with fail
  rw [← hW0]
  have c1 : Blk W0 (w.heap.size + 1) 32 #[.slice AL m cL] := by rw [hW0]; exact (((Blk.new' _ _ _ (by simp)).alloc _).alloc _).alloc _
  have c2 : Blk W0 (w.heap.size + 1 + 1) 32 #[.slice AK m cK] := by rw [hW0]; exact ((Blk.new' _ _ _ (by simp)).alloc _).alloc _
  have c3 : Blk W0 (w.heap.size + 1 + 1 + 1) 81 #[.slice none 0 0] := by rw [hW0]; exact (Blk.new' _ _ _ (by simp)).alloc _
  have c4 : Blk W0 (w.heap.size + 1 + 1 + 1 + 1) 25 #[.int .i64 0] := by rw [hW0]; exact Blk.new' _ _ _ (by simp)
  have hB0 : Below w.heap.size w W0 := by
    rw [hW0]
    exact (((((Below.refl _ w).alloc (Nat.le_refl _) _).alloc (by simp) _).alloc (by simp; omega) _).alloc (by simp; omega) _).alloc (by simp; omega) _
  clear hW0
  have hk1 : W0.cell? ⟨w.heap.size + 1, 0, none⟩ = some (.slice AL m cL) := c1.cell 0
  have hk2 : W0.cell? ⟨w.heap.size + 1 + 1, 0, none⟩ = some (.slice AK m cK) := c2.cell 0
  have hk3 : W0.cell? ⟨w.heap.size + 1 + 1 + 1, 0, none⟩ = some (.slice none 0 0) := c3.cell 0
  have hk4 : W0.cell? ⟨w.heap.size + 1 + 1 + 1 + 1, 0, none⟩ = some (.int .i64 0) := c4.cell 0
  have hf3 := c3.frozen 0
  have hf4 := c4.frozen 0
  have HRL0 := Lib.hid (HRL.out.below hB0)
  have HRK0 := Lib.hid (HRK.out.below hB0)
  clear c1 c2 c3 c4
  go_loopw [8, 26] (fun left i wr => ∃ k : Nat, k ≤ p ∧ i = .int .i64 k ∧ left = .int .i64 (4096 - sumTo L k) ∧ W0 = wr) (fun _ i _ => m - (intOf i).toNat)
  case atStart => exact ⟨0, by omega, rfl, rfl, rfl⟩
  case round =>
    obtain ⟨k, hk, rfl, rfl, rfl⟩ := hrel
    have hkm : k < m := by omega
    obtain ⟨b, off, rfl, _, hc⟩ := HRL0.out.at_ (k := k) hkm
    obtain ⟨b', off', rfl, _, hc'⟩ := HRK0.out.at_ (k := k) hkm
    have s1 := HS.out k hk
    have r1 := HIL.out k
    have r2 := HIK.out k
    by_cases hlt : k < p
    · have s2 := HS.out (k + 1) hlt
      have s3 := HV.out k hlt
      rw [sumTo] at s2
      obtain ⟨x, hx⟩ : ∃ x, x = L.getD k 0 := ⟨_, rfl⟩
      obtain ⟨y, hy⟩ : ∃ y, y = K.getD k 0 := ⟨_, rfl⟩
      obtain ⟨s, hse⟩ : ∃ s, s = sumTo L k := ⟨_, rfl⟩
      rw [← hx] at hc s2 s3 r1
      rw [← hy] at hc' s3 r2
      rw [← hse] at s1 s2 ⊢
      have hnx : sumTo L (k + 1) = s + x := by rw [sumTo, hse, hx]
      have HNX := Lib.hid hnx
      have n1 : ¬ y < 0 := by omega
      have n2 : ¬ x < y := by omega
      have n3 : ¬ 4096 - s < x := by omega
      clear hx hy hse hnx
      go_wp2_with fail
      go_roundw
      case rel => exact ⟨k + 1, by omega, by go_num, by rw [HNX.out]; congr 1; omega, trivial⟩
      case measure => simp [intOf]; omega
    · obtain rfl : k = p := by omega
      have hb := HBAD.out
      obtain ⟨x, hx⟩ : ∃ x, x = L.getD k 0 := ⟨_, rfl⟩
      obtain ⟨y, hy⟩ : ∃ y, y = K.getD k 0 := ⟨_, rfl⟩
      obtain ⟨s, hse⟩ : ∃ s, s = sumTo L k := ⟨_, rfl⟩
      rw [← hx] at hc r1 hb
      rw [← hy] at hc' r2 hb
      rw [← hse] at s1 hb ⊢
      clear hx hy hse hlt
      have hset := two_set W0 _ _ (by omega) hk3 hk4 (.slice none 0 0) (.int .i64 550)
      have hBs := (hB0.setCell (p := ⟨w.heap.size + 1 + 1 + 1, 0, none⟩) (by show w.heap.size ≤ w.heap.size + 1 + 1 + 1; omega) (.slice none 0 0)).setCell (p := ⟨w.heap.size + 1 + 1 + 1 + 1, 0, none⟩) (by show w.heap.size ≤ w.heap.size + 1 + 1 + 1 + 1; omega) (.int .i64 550)
      by_cases n1 : y < 0
      · clear hb
        go_wp2_with fail
        refine bodyPost_ret (v := .tuple #[.slice none 0 0, .int .i64 550]) ?_ rfl ⟨rfl, hBs⟩
        simp [results, Tryd.f64, go_sem, hset.1, hset.2]
      by_cases n2 : x < y
      · clear hb
        go_wp2_with fail
        refine bodyPost_ret (v := .tuple #[.slice none 0 0, .int .i64 550]) ?_ rfl ⟨rfl, hBs⟩
        simp [results, Tryd.f64, go_sem, hset.1, hset.2]
      · have n3 : 4096 - s < x := by omega
        clear hb
        go_wp2_with fail
        refine bodyPost_ret (v := .tuple #[.slice none 0 0, .int .i64 550]) ?_ rfl ⟨rfl, hBs⟩
        simp [results, Tryd.f64, go_sem, hset.1, hset.2]
end Go.Proofs.YtibnikokgbfcdaaDoor

/- Walks: podiumref55.Few, Draw, Part, Same; podiumref32.SameInts where the lists are equal. -/
namespace Go.Proofs.YtibnikokgbfcdaaDoor
open Go.RowKit

set_option maxRecDepth 100000 in
set_option maxHeartbeats 1000000 in
theorem sameInts_yes (A B : Option Addr) (n c c2 : Nat) (f g : Nat → Int) (hfg : ∀ i, i < n → f i = g i) (hn : n ≤ 4611686018427387903) (w : World) (hA : Rd w w.heap.size A n (fun k => .int .i64 (f k))) (hB : Rd w w.heap.size B n (fun k => .int .i64 (g k))) :
    Calls Tryd.prog 34 #[.slice A n c, .slice B n c2] w (fun e w' => e = .returned (.bool true) ∧ ∃ q, w' = w.drewN q) := by
  have HA := Lib.hid hA
  have HB := Lib.hid hB
  have HFG := Lib.hid hfg
  clear hA hB hfg
  go_enter Tryd.func34, Tryd.ntmps34
  go_wp2_with fail
  go_loopw [5] (fun x wr => ∃ j q : Nat, j ≤ n ∧ x = .int .i64 j ∧ wr = w.drewN q) (fun x _ => n - (intOf x).toNat)
  case atStart => exact ⟨0, 0, by omega, rfl, rfl⟩
  case round =>
    obtain ⟨j, q, hj, rfl, hq⟩ := hrel
    have hAr : Rd wr w.heap.size A n (fun k => .int .i64 (f k)) := by rw [hq]; exact HA.out.drewN q
    have hBr : Rd wr w.heap.size B n (fun k => .int .i64 (g k)) := by rw [hq]; exact HB.out.drewN q
    have HQ := Lib.hid hq
    clear hq
    by_cases hlt : j < n
    · obtain ⟨b, off, rfl, _, hc⟩ := hAr.at_ (k := j) hlt
      obtain ⟨b2, off2, rfl, _, hc2⟩ := hBr.at_ (k := j) hlt
      clear hAr hBr
      have hxy := HFG.out j hlt
      obtain ⟨x, hx⟩ : ∃ x, x = f j := ⟨_, rfl⟩
      rw [← hxy] at hc2
      rw [← hx] at hc hc2
      clear hx hxy
      go_wp2_with fail
      go_quiet (fail)
      go_wp2
      go_roundw
      case rel => exact ⟨j + 1, _, by omega, by go_num, by rw [HQ.out]; exact World.drewN_drewN _ _ _⟩
      case measure => simp [intOf]; omega
    · go_wp2
      go_ret
      exact ⟨rfl, q, HQ.out⟩

def AnyBool (w : World) (e : Ending) (w' : World) : Prop := (∃ b, e = .returned (.bool b)) ∧ w = w'
set_option maxRecDepth 100000 in
set_option maxHeartbeats 4000000 in
theorem r55Few_any (n : Int) (A B : Option Addr) (m m2 c c2 : Nat) (L : List Int) (hm : m ≤ 9223372036854775807) (hm2 : m2 ≤ 9223372036854775807) (w : World) (hA : Rd w w.heap.size A m (fun k => .int .i64 (L.getD k 0))) :
    Calls Tryd.prog 61 #[.int .i64 n, .slice A m c, .slice B m2 c2] w (AnyBool w) := by
  have HA := Lib.hid hA
  clear hA
  go_enter Tryd.func61, Tryd.ntmps61
  go_wp2_with fail
  go_loopw [7, 8] (fun s i wr => ∃ (k : Nat) (x : Int), k ≤ 70 ∧ i = .int .i64 k ∧ s = .int .i64 x ∧ w = wr) (fun _ i _ => 70 - (intOf i).toNat)
  case atStart => exact ⟨0, 0, by omega, rfl, rfl, rfl⟩
  case round =>
    obtain ⟨k, s, hk, rfl, rfl, rfl⟩ := hrel
    by_cases hgo : k < m ∧ k < 70
    · obtain ⟨hlt, h70⟩ := hgo
      obtain ⟨b, off, rfl, _, hc⟩ := HA.out.at_ (k := k) hlt
      obtain ⟨x, hx⟩ : ∃ x, x = L.getD k 0 := ⟨_, rfl⟩
      rw [← hx] at hc
      clear hx
      by_cases h1 : 40 < x
      · by_cases h2 : x ≤ 4096
        · go_wp2
          all_goals
            go_ret
            exact ⟨⟨_, rfl⟩, rfl⟩
        · go_wp2
          all_goals
            go_roundw
            case rel => exact ⟨k + 1, _, by omega, by go_num, rfl, trivial⟩
            case measure => simp [intOf]; omega
      · go_wp2
        all_goals
          go_roundw
          case rel => exact ⟨k + 1, _, by omega, by go_num, rfl, trivial⟩
          case measure => simp [intOf]; omega
    · by_cases h40 : n ≤ 40
      all_goals by_cases hb : 4096 < n
      all_goals by_cases h70 : m ≤ 70
      all_goals by_cases k70 : m2 ≤ 70
      all_goals by_cases hs : s ≤ 300
      all_goals by_cases hlt : k < m
      all_goals try (exfalso; omega)
      all_goals
        go_wp2
        go_ret
        exact ⟨⟨_, rfl⟩, rfl⟩

def RSampPost (d : List UInt8) (n k : Nat) (w : World) (e : Ending) (w' : World) : Prop :=
  ∃ A c, e = .returned (.tuple #[.slice A k c, .int .i64 0]) ∧ k ≤ c ∧ c ≤ 9223372036854775807 ∧ Held w' w.heap.size A k (orderOf d n) ∧ Below w.heap.size w w'
theorem slice2_some (W : World) (g n c k : Nat) (h : k ≤ n) (hc : n ≤ c) : (Instr.slice 32 (.slice (some ⟨g, 0, none⟩) n c) none (some (.int .i64 (k : Int))) none).run Tryd.prog W = .ok (.slice (some ⟨g, 0, none⟩) k c) W := by
  have h1 : k ≤ c := by omega
  simp [Instr.slice, run_underlying Tryd.underlying32, Instr.sliceBounds, Instr.sliceBound, asIntOf, h1, Addr.add_mid]
theorem slice2_none (W : World) : (Instr.slice 32 (.slice none 0 0) none (some (.int .i64 ((0 : Nat) : Int))) none).run Tryd.prog W = .ok (.slice none 0 0) W := by
  simp [Instr.slice, run_underlying Tryd.underlying32, Instr.sliceBounds, Instr.sliceBound, asIntOf]
set_option maxRecDepth 100000 in
set_option maxHeartbeats 2000000 in
theorem rdraw_good (d : List UInt8) (hd : d.length = 32) (n k : Nat) (hk : k ≤ n) (hn : n ≤ 4096) (w : World) :
    Calls Tryd.prog 63 #[.agg (dig d), .int .i64 n, .int .i64 k] w (RSampPost d n k w) := by
  have hB0 : Below w.heap.size w (w.alloc (.cells (dig d) 23)) := (Below.refl _ w).alloc (Nat.le_refl _) _
  have HO := Lib.hid (rorder_good d hd n hn (w.alloc (.cells (dig d) 23)))
  go_enter Tryd.func63, Tryd.ntmps63
  go_wp2_with (refine load_dig rfl _ rfl d hd (Blk.new w _ _) rfl ?_)
  refine HO.out.mono ?_
  rintro e w1 ⟨v, rfl, hown, hb1⟩
  have hB1 := hB0.trans (hb1.mono hB0.size)
  rcases hown.2 with ⟨hv, h0⟩ | ⟨g, cap, cur, hv, hbg, hg, hnc, hcm, hcs, htake⟩
  · rw [orderOf_length] at h0
    subst h0
    obtain rfl : k = 0 := by omega
    subst hv
    have hsl := fun W => slice2_none W
    clear hown hb1 hB0
    go_wp2_with fail
    go_ret2
    exact ⟨none, 0, rfl, Nat.le_refl _, by omega, .inl rfl, hB1⟩
  · rw [orderOf_length] at hv hnc htake
    subst hv
    have hsl : ∀ W : World, (Instr.slice 32 (.slice (some ⟨g, 0, none⟩) n cap) none (some (.int .i64 (k : Int))) none).run Tryd.prog W = .ok (.slice (some ⟨g, 0, none⟩) k cap) W := fun W => slice2_some W g n cap k hk hnc
    have hheld : Held w1 w.heap.size (some ⟨g, 0, none⟩) k (orderOf d n) := by
      refine .inr ⟨g, cur, rfl, Nat.le_trans hB0.size hbg, hg, by omega, fun j hj => ?_⟩
      have h1 := icells_get (orderOf d n) j (by rw [orderOf_length]; omega)
      have h2 : (cur.toList.take (n * 1))[j]? = cur[j]? := by rw [List.getElem?_take_of_lt (by omega)]; simp
      rw [← h2, htake, h1]
    have HH := Lib.hid hheld
    have hcm' : cap ≤ 9223372036854775807 := by simp only [maxLen] at hcm; omega
    clear hown hb1 hB0 hheld hg hcs htake hbg hcm
    go_wp2_with fail
    go_ret2
    exact ⟨_, _, rfl, by omega, hcm', HH.out, hB1⟩
set_option maxRecDepth 100000 in
set_option maxHeartbeats 1000000 in
theorem rdraw_bad (d : List UInt8) (n k : Int) (h : k < 0 ∨ n < k ∨ 4096 < n) (w : World) : Calls Tryd.prog 63 #[.agg (dig d), .int .i64 n, .int .i64 k] w (BadPost w) := by
  by_cases c1 : k < 0
  · clear h
    go_enter Tryd.func63, Tryd.ntmps63
    go_wp2
    go_ret2
    exact ⟨rfl, (Below.refl _ w).alloc (Nat.le_refl _) _⟩
  by_cases c2 : n < k
  · clear h
    go_enter Tryd.func63, Tryd.ntmps63
    go_wp2
    go_ret2
    exact ⟨rfl, (Below.refl _ w).alloc (Nat.le_refl _) _⟩
  · have c3 : 4096 < n := by omega
    clear h
    go_enter Tryd.func63, Tryd.ntmps63
    go_wp2
    go_ret2
    exact ⟨rfl, (Below.refl _ w).alloc (Nat.le_refl _) _⟩

theorem elems_two {w : World} {g : Nat} (s : ByteArray) (i : Nat) (h : Blk w g 93 #[.int .i64 2, .int .i64 0, .string s, .slice none 0 0, .int .i64 1, .int .i64 i, .string ⟨#[]⟩, .slice none 0 0]) :
    Elems w w.heap.size (some ⟨g, 0, none⟩) [V4.text s, V4.int i] := fun _ => by
  refine ⟨g, 0, rfl, h.lt, fun k x hx => ?_⟩
  rcases k with _ | _ | k
  · obtain rfl := Option.some.inj hx
    exact ⟨h.cell 0, h.cell 1, h.cell 2, h.cell 3⟩
  · obtain rfl := Option.some.inj hx
    exact ⟨h.cell 4, h.cell 5, h.cell 6, h.cell 7⟩
  · cases hx
theorem partText_len (d : List UInt8) (hd : d.length = 32) (i : Nat) (hi : i ≤ 1000000) : (partText d i).length ≤ 1000 := by
  have a1 := numB_len10 32 (by omega)
  have a2 := numB_len10 (2 * i) (by omega)
  have a3 := numB_len10 (0 + 1 + 1) (by omega)
  simp only [partText, listB, textB, intB, List.length_cons, List.length_append, List.flatten_cons, List.flatten_nil, List.length_nil, hd]
  omega
set_option maxRecDepth 100000 in
set_option maxHeartbeats 2000000 in
theorem rpart_any (d : List UInt8) (hd : d.length = 32) (i : Nat) (hi : i ≤ 1000000) (w : World) :
    Calls Tryd.prog 105 #[.agg (dig d), .int .i64 i] w (Ret (.agg (dig (partDig d i))) w) := by
  have HLEN := Lib.hid (partText_len d hd i hi)
  go_enter Tryd.func105, Tryd.ntmps105
  have hR0 : RdB (w.alloc (.cells (dig d) 23)) (w.heap.size + 1) (some ⟨w.heap.size, 0, none⟩) d := Rd.of_blk (Blk.new w _ _) (Nat.lt_succ_self _) fun k hk => by rw [Nat.zero_add]; exact dig_get d k hk
  go_wp2_with (refine to_str2 rfl _ rfl rfl hd.symm (Rd.alloc hR0 (by simp) _) ?_)
  clear hR0
  refine (rText_any _ _).mono ?_
  rintro e w1 ⟨rfl, hb1⟩
  have hz1 : ∃ z, z.size = 32 ∧ Blk w1 (w.heap.size + 1) 23 z := by
    refine ⟨_, ?_, Blk.below (Blk.new' (w.alloc (.cells (dig d) 23)) _ _ (by simp)) hb1 (by simp)⟩
    rfl
  have hB1 : Below w.heap.size w w1 := (((Below.refl _ w).alloc (Nat.le_refl _) _).alloc (by simp) _).trans (hb1.mono (by simp; omega))
  clear hb1
  obtain ⟨z, hzs, hz1⟩ := hz1
  go_wp2_with fail
  refine (rInt_any i w1).mono ?_
  rintro e w2 ⟨rfl, hb2⟩
  have hB2 := hB1.trans (hb2.mono hB1.size)
  have hz2 := hz1.below hb2 hz1.lt
  clear hB1 hb2 hz1
  go_wp2_with fail
  have hX4 : Blk (w2.alloc (.cells #[.int .i64 2, .int .i64 0, .string ⟨d.toArray⟩, .slice none 0 0, .int .i64 1, .int .i64 i, .string ⟨#[]⟩, .slice none 0 0] 93)) w2.heap.size 93 _ := Blk.new _ _ _
  have hB4 := hB2.alloc hB2.size (.cells #[.int .i64 2, .int .i64 0, .string ⟨d.toArray⟩, .slice none 0 0, .int .i64 1, .int .i64 i, .string ⟨#[]⟩, .slice none 0 0] 93)
  have hz4 := hz2.alloc (.cells #[.int .i64 2, .int .i64 0, .string ⟨d.toArray⟩, .slice none 0 0, .int .i64 1, .int .i64 i, .string ⟨#[]⟩, .slice none 0 0] 93)
  generalize w2.alloc (.cells #[.int .i64 2, .int .i64 0, .string ⟨d.toArray⟩, .slice none 0 0, .int .i64 1, .int .i64 i, .string ⟨#[]⟩, .slice none 0 0] 93) = w4 at hX4 hB4 hz4 ⊢
  obtain ⟨g, hg⟩ : ∃ g, g = w2.heap.size := ⟨_, rfl⟩
  rw [← hg] at hX4 ⊢
  clear hg hB2 hz2
  refine (rList_any (some ⟨g, 0, none⟩) 2 2 w4).mono ?_
  rintro e w5 ⟨rfl, hb5⟩
  have hE5 := (elems_two _ i hX4).later hb5
  have hB5 := hB4.trans (hb5.mono hB4.size)
  have hz5 := hz4.below hb5 hz4.lt
  clear hX4 hB4 hb5 hz4
  have hx : REnc w5 (V4.list (some ⟨g, 0, none⟩) 2 2) (0 + 1) (partText d i) := by
    refine renc_list w5 (some ⟨g, 0, none⟩) [V4.text ⟨d.toArray⟩, V4.int i] [textB d, intB i] 2 0 rfl hE5 (Nat.le_refl _) (by omega) (by have := HLEN.out; rw [partText] at this; omega) (by omega) fun k x e h1 h2 => ?_
    rcases k with _ | _ | k
    · obtain rfl := Option.some.inj h1
      obtain rfl := Option.some.inj h2
      exact renc_text w5 ⟨d.toArray⟩ (by show d.toArray.size ≤ _; simp; omega)
    · obtain rfl := Option.some.inj h1
      obtain rfl := Option.some.inj h2
      exact renc_int w5 i (by omega)
    · cases h1
  have hcall : Calls Tryd.prog 72 #[.agg #[.int .i64 3, .int .i64 0, .string ⟨#[]⟩, .slice (some ⟨g, 0, none⟩) 2 2]] w5 (EncPost (partText d i) w5) := rEncode_ok (V4.list (some ⟨g, 0, none⟩) 2 2) (0 + 1) (partText d i) w5 hx (by omega)
  have HC := Lib.hid hcall
  clear hx hE5 hcall
  go_wp2_with fail
  refine HC.out.mono ?_
  rintro e w6 ⟨v6, rfl, hown6, hb6⟩
  have hB6 := hB5.trans (hb6.mono hB5.size)
  have hz6 := hz5.below hb6 hz5.lt
  obtain ⟨T, hT⟩ : ∃ T, T = partText d i := ⟨_, rfl⟩
  have hTl : T.length ≤ 1000 := by rw [hT]; exact HLEN.out
  rw [← hT] at hown6
  have HT := Lib.hid hT
  obtain ⟨-, A6, c6, rfl, -, -, hr6⟩ := own_slice hown6
  have HTG := Lib.hid (rtagged_any ⟨#[112, 97, 114, 116]⟩ A6 T c6 w6 hr6 (by omega) (by decide))
  clear hown6 hb6 hB5 hT hr6 hz5
  go_wp2_with fail
  refine HTG.out.mono ?_
  rintro e w7 ⟨rfl, hb7⟩
  have hB7 := hB6.trans (hb7.mono hB6.size)
  have hz7 := hz6.below hb7 hz6.lt
  obtain ⟨H, hH⟩ : ∃ H, H = tagged partTag T := ⟨_, rfl⟩
  have hHl : H.length = 32 := by rw [hH]; exact tagged_length _ _
  rw [show tagged (⟨#[112, 97, 114, 116]⟩ : ByteArray).data.toList T = H from hH.symm]
  have HH := Lib.hid hH
  clear hH hb7 hB6 hz6
  go_wp2_with (refine store_dig rfl _ _ rfl hz7 H hHl rfl rfl hzs ?_; intro w8 hD8 hO8 hz8)
  refine bodyPost_ret (results_cell_row rfl _ _ (w.heap.size + 1) 23 _ (0, 0) _ rfl hD8 Tryd.underlying23 rfl (dig_info _ hHl)) rfl ?_
  refine ⟨?_, hB7.trans (hO8.toBelow hB7.size (Nat.le_succ _))⟩
  rw [partDig, ← HT.out, ← HH.out]
end Go.Proofs.YtibnikokgbfcdaaDoor

/- Rows of slices as they read; podiumref55.Same where the rows read alike; every order holds each number once. -/
namespace Go.Proofs.YtibnikokgbfcdaaDoor
open Go.RowKit

theorem full_shuf (ks : Nat → Nat) (hks : ∀ i, ks i ≤ i) (n : Nat) : ∀ (i : Nat) (L : List Int), (i < n ∨ i = 0) → Full n L → Full n (shuf ks i L)
  | 0, _, _, h => h
  | i + 1, L, hi, h => full_shuf ks hks n i _ (by omega) (h.swap (i + 1) (ks (i + 1)) (by omega) (by have := hks (i + 1); omega))
theorem full_order (d : List UInt8) (n : Nat) : Full n (orderOf d n) := full_shuf _ (pick_le d) n _ _ (by omega) (full_iota n)

/-- Like SRow, whatever the capacities are. -/
def CRow (W : World) (base : Nat) (v : Value) (d : List UInt8) (L K : List Int) (pre : List Nat) : Prop :=
  ∃ xs : List Value, W.ownsRow base 32 1 v pre.length xs ∧ ∀ (j p : Nat), pre[j]? = some p → ∃ A c, xs[j]? = some (Value.slice A (cnt K p) c) ∧ Held W base A (cnt K p) (strat d L p)
section
variable {W W' : World} {base : Nat} {v v' : Value} {d : List UInt8} {L K : List Int} {pre : List Nat}
theorem SRow.toC (h : SRow W base v d L K pre) : CRow W base v d L K pre := by
  obtain ⟨xs, h1, h2⟩ := h
  exact ⟨xs, h1, fun j p hp => by obtain ⟨A, h3, h4⟩ := h2 j p hp; exact ⟨A, _, h3, h4⟩⟩
theorem CRow.nil (W : World) (base : Nat) (d : List UInt8) (L K : List Int) : CRow W base (.slice none 0 0) d L K [] := ⟨[], World.ownsRow_nil _ _ _ _, fun j p h => by cases h⟩
theorem CRow.stay (h : CRow W base v d L K pre) (hs : Stay base W W') : CRow W' base v d L K pre := by
  obtain ⟨xs, h1, h2⟩ := h
  refine ⟨xs, own_stay h1 hs, fun j p hp => ?_⟩
  obtain ⟨A, c, h3, h4⟩ := h2 j p hp
  exact ⟨A, c, h3, h4.stay hs⟩
theorem CRow.push {xs : List Value} {p : Nat} {A : Option Addr} {c : Nat}
    (h1 : W.ownsRow base 32 1 v pre.length xs) (h2 : ∀ (j q : Nat), pre[j]? = some q → ∃ A c, xs[j]? = some (Value.slice A (cnt K q) c) ∧ Held W base A (cnt K q) (strat d L q))
    (hp : Held W base A (cnt K p) (strat d L p)) (ho : W'.ownsRow base 32 1 v' (pre.length + 1) (xs ++ [Value.slice A (cnt K p) c])) (hg : Grew W W' v v') : CRow W' base v' d L K (pre ++ [p]) := by
  have hne : ∀ g cs, Blk W g 3 cs → some g ≠ v.ownBlock := fun g cs hb e => by
    rcases h1.2 with ⟨rfl, _⟩ | ⟨g', cap, cur, rfl, _, hg', _⟩
    · cases e
    · obtain rfl : g = g' := by simpa [Value.ownBlock] using e
      have := (Blk.inj hb hg').2
      exact absurd this (by decide)
  have hkeep : ∀ A k l, Held W base A k l → Held W' base A k l := fun A k l h => by
    rcases h with h | ⟨g, cs, a1, a2, a3, a4⟩
    · exact .inl h
    · exact .inr ⟨g, cs, a1, a2, a3.grown hg.1 (hne g cs a3), a4⟩
  have hxl : xs.length = pre.length := by have := h1.1; omega
  refine ⟨xs ++ [Value.slice A (cnt K p) c], by rw [List.length_append]; exact ho, fun j q hq => ?_⟩
  by_cases hj : j < pre.length
  · rw [List.getElem?_append_left hj] at hq
    obtain ⟨B, c', h3, h4⟩ := h2 j q hq
    exact ⟨B, c', by rw [List.getElem?_append_left (by omega)]; exact h3, hkeep _ _ _ h4⟩
  · rw [List.getElem?_append_right (by omega)] at hq
    obtain ⟨hj0, hq'⟩ : j - pre.length = 0 ∧ p = q := by
      rcases hjk : j - pre.length with _ | k
      · rw [hjk] at hq; exact ⟨rfl, by simpa using hq⟩
      · rw [hjk] at hq; simp at hq
    subst hq'
    exact ⟨A, c, by rw [List.getElem?_append_right (by omega), hxl, hj0]; rfl, hkeep _ _ _ hp⟩
end
/-- How the lists of the parts read. -/
def SView (w : World) (v : Value) (d : List UInt8) (L K : List Int) (m : Nat) : Prop :=
  ∃ A c, v = .slice A m c ∧ ∃ f : Nat → Value, Rd w w.heap.size A m f ∧ ∀ j, j < m → ∃ B c', f j = .slice B (cnt K j) c' ∧ Rd w w.heap.size B (cnt K j) (fun i => .int .i64 ((strat d L j).getD i 0))
theorem SView.below {w w' : World} {v : Value} {d : List UInt8} {L K : List Int} {m : Nat} (h : SView w v d L K m) (hb : Below w.heap.size w w') : SView w' v d L K m := by
  obtain ⟨A, c, rfl, f, h1, h2⟩ := h
  refine ⟨A, c, rfl, f, (h1.below hb).more hb.size, fun j hj => ?_⟩
  obtain ⟨B, c', h3, h4⟩ := h2 j hj
  exact ⟨B, c', h3, (h4.below hb).more hb.size⟩
theorem CRow.view {w : World} {base : Nat} {v : Value} {d : List UInt8} {L K : List Int} {m : Nat} (h : CRow w base v d L K (List.range m)) : SView w v d L K m := by
  obtain ⟨xs, h1, h2⟩ := h
  rw [List.length_range] at h1
  obtain ⟨A, c, rfl⟩ := own_form h1
  have hr := rd_of_own h1
  rw [Nat.mul_one] at hr
  refine ⟨A, c, rfl, _, hr, fun j hj => ?_⟩
  obtain ⟨B, c', h3, h4⟩ := h2 j j (by simp [hj])
  exact ⟨B, c', by rw [List.getD_eq_getElem?_getD, h3]; rfl, h4.rd⟩
def StrataView (d : List UInt8) (L K : List Int) (m : Nat) (w : World) (e : Ending) (w' : World) : Prop :=
  ∃ v, e = .returned (.tuple #[v, .int .i64 0]) ∧ SView w' v d L K m ∧ Below w.heap.size w w'
theorem strata_view (d : List UInt8) (hd : d.length = 32) (L K : List Int) (m : Nat) (hm : m ≤ 64) (hs : ∀ i, i ≤ m → 0 ≤ sumTo L i ∧ sumTo L i ≤ 4096) (hv : ∀ i, i < m → 0 ≤ K.getD i 0 ∧ K.getD i 0 ≤ L.getD i 0)
    (AL AK : Option Addr) (cL cK : Nat) (w : World) (hRL : Rd w w.heap.size AL m (fun i => .int .i64 (L.getD i 0))) (hRK : Rd w w.heap.size AK m (fun i => .int .i64 (K.getD i 0))) (hL : Laid w) :
    Calls Tryd.prog 64 #[.agg (dig d), .slice AL m cL, .slice AK m cK] w (StrataView d L K m w) :=
  (strata_good d hd L K m hm hs hv AL AK cL cK w hRL hRK hL).mono fun _ _ ⟨v, h1, h2, h3⟩ => ⟨v, h1, h2.toC.view, h3⟩
set_option maxRecDepth 100000 in
set_option maxHeartbeats 2000000 in
theorem same55_yes (v1 v2 : Value) (d : List UInt8) (L K : List Int) (m : Nat) (hm : m ≤ 64) (hK : ∀ j, j < m → cnt K j ≤ 4611686018427387903) (w : World) (h1 : SView w v1 d L K m) (h2 : SView w v2 d L K m) :
    Calls Tryd.prog 66 #[v1, v2] w (fun e w' => e = .returned (.bool true) ∧ ∃ q, w' = w.drewN q) := by
  obtain ⟨A, c, rfl, f, hA, hf⟩ := h1
  obtain ⟨B, c2, rfl, g, hB, hg⟩ := h2
  have HA := Lib.hid hA
  have HB := Lib.hid hB
  have HF := Lib.hid hf
  have HG := Lib.hid hg
  have HK := Lib.hid hK
  clear hA hB hf hg hK
  go_enter Tryd.func66, Tryd.ntmps66
  go_wp2_with fail
  go_loopw [5] (fun x wr => ∃ j q : Nat, j ≤ m ∧ x = .int .i64 j ∧ wr = w.drewN q) (fun x _ => m - (intOf x).toNat)
  case atStart => exact ⟨0, 0, by omega, rfl, rfl⟩
  case round =>
    obtain ⟨j, q, hj, rfl, hq⟩ := hrel
    have hW : ∀ (A : Option Addr) (n : Nat) (f : Nat → Value), Rd w w.heap.size A n f → Rd wr w.heap.size A n f := fun A n f h => by rw [hq]; exact h.drewN q
    have HQ := Lib.hid hq
    have HW := Lib.hid hW
    clear hq hW
    by_cases hlt : j < m
    · obtain ⟨b, off, rfl, _, hc⟩ := (HW.out _ _ _ HA.out).at_ (k := j) hlt
      obtain ⟨b2, off2, rfl, _, hc2⟩ := (HW.out _ _ _ HB.out).at_ (k := j) hlt
      obtain ⟨P, c3, e3, hr3⟩ := HF.out j hlt
      obtain ⟨Q, c4, e4, hr4⟩ := HG.out j hlt
      have hkj := HK.out j hlt
      obtain ⟨k, hk⟩ : ∃ k, k = cnt K j := ⟨_, rfl⟩
      rw [← hk] at hkj e3 e4 hr3 hr4
      rw [e3] at hc
      rw [e4] at hc2
      have HI := Lib.hid (fun n => sameInts_yes P Q k c3 c4 _ _ (fun i _ => rfl) hkj (wr.drewN n) (((HW.out _ _ _ hr3).drewN n).more (by rw [HQ.out]; exact Nat.le_refl _)) (((HW.out _ _ _ hr4).drewN n).more (by rw [HQ.out]; exact Nat.le_refl _)))
      clear e3 e4 hr3 hr4 hk
      go_wp2_with fail
      go_quiet ((go_at_call 34; exact Calls.quiet_of (HI.out _)))
      go_wp2
      go_roundw
      case rel => exact ⟨j + 1, _, by omega, by go_num, by rw [HQ.out]; exact World.drewN_drewN _ _ _⟩
      case measure => simp [intOf]; omega
    · go_wp2
      go_ret
      exact ⟨rfl, q, HQ.out⟩
end Go.Proofs.YtibnikokgbfcdaaDoor

/- Walk: podiumref55.Strata. -/
namespace Go.Proofs.YtibnikokgbfcdaaDoor
open Go Go.RowKit

def RStrataPost (d : List UInt8) (L K : List Int) (m : Nat) (w : World) (e : Ending) (w' : World) : Prop :=
  ∃ v, e = .returned (.tuple #[v, .int .i64 0]) ∧ CRow w' w.heap.size v d L K (List.range m) ∧ Below w.heap.size w w'
theorem held_of_own {w : World} {base : Nat} {A : Option Addr} {n c : Nat} {l : List Int} (h : IOwn w base (.slice A n c) l) (hn : l.length = n) : Held w base A n l := by
  subst hn
  rcases h.2 with ⟨e, h0⟩ | ⟨g, cap, cur, e, hbg, hg, hnc, hcm, hcs, htake⟩
  · exact .inl h0
  · injection e with e1 e2 e3
    subst e1
    refine .inr ⟨g, cur, rfl, hbg, hg, by omega, fun j hj => ?_⟩
    have h1 := icells_get l j hj
    have h2 : (cur.toList.take (l.length * 1))[j]? = cur[j]? := by rw [List.getElem?_take_of_lt (by omega)]; simp
    rw [← h2, htake, h1]
theorem Held.congr {w : World} {base : Nat} {A : Option Addr} {k : Nat} {l l' : List Int} (h : Held w base A k l) (e : ∀ j, j < k → l.getD j 0 = l'.getD j 0) : Held w base A k l' := by
  rcases h with h | ⟨g, cs, h1, h2, h3, h4, h5⟩
  · exact .inl h
  · exact .inr ⟨g, cs, h1, h2, h3, h4, fun j hj => by rw [h5 j hj, e j hj]⟩
/-- The first j numbers of o, b added to each. -/
def plusL (o : List Int) (b : Int) (j : Nat) : List Int := (List.range j).map fun i => b + o.getD i 0
theorem plusL_length (o : List Int) (b : Int) (j : Nat) : (plusL o b j).length = j := by simp [plusL]
theorem plusL_succ (o : List Int) (b : Int) (j : Nat) : plusL o b (j + 1) = plusL o b j ++ [b + o.getD j 0] := by simp [plusL, List.range_succ]
theorem plusL_get (o : List Int) (b : Int) (k j : Nat) (h : j < k) (hk : k ≤ o.length) : (plusL o b k).getD j 0 = (o.map (· + b)).getD j 0 := by
  simp [plusL, List.getD_eq_getElem?_getD, List.getElem?_range h, show j < o.length by omega, Int.add_comm]

set_option maxRecDepth 100000 in
set_option linter.unusedSimpArgs false in
set_option maxHeartbeats 4000000 in
theorem rstrata_good (d : List UInt8) (hd : d.length = 32) (L K : List Int) (m : Nat) (hm : m ≤ 64) (hs : ∀ i, i ≤ m → 0 ≤ sumTo L i ∧ sumTo L i ≤ 4096) (hv : ∀ i, i < m → 0 ≤ K.getD i 0 ∧ K.getD i 0 ≤ L.getD i 0)
    (AL AK : Option Addr) (cL cK : Nat) (w : World) (hRL : Rd w w.heap.size AL m (fun i => .int .i64 (L.getD i 0))) (hRK : Rd w w.heap.size AK m (fun i => .int .i64 (K.getD i 0))) :
    Calls Tryd.prog 65 #[.agg (dig d), .slice AL m cL, .slice AK m cK] w (RStrataPost d L K m w) := by
  have HS := Lib.hid hs
  have HV := Lib.hid hv
  have HRL := Lib.hid hRL
  have HRK := Lib.hid hRK
  clear hs hv hRL hRK
  go_enter Tryd.func65, Tryd.ntmps65
  go_wp2_with fail
  have hD0 : Blk (w.alloc (.cells (dig d) 23)) w.heap.size 23 (dig d) := Blk.new _ _ _
  have hB0 : Below w.heap.size w (w.alloc (.cells (dig d) 23)) := (Below.refl _ w).alloc (Nat.le_refl _) _
  generalize w.alloc (.cells (dig d) 23) = w0 at hD0 hB0 ⊢
  go_loopw [8, 9] (fun s i wr => ∃ k q : Nat, k ≤ m ∧ i = .int .i64 k ∧ s = .int .i64 (sumTo L k) ∧ wr = w0.drewN q) (fun _ i _ => m - (intOf i).toNat)
  case atStart => exact ⟨0, 0, by omega, rfl, rfl, rfl⟩
  case round =>
    obtain ⟨k, q, hk, rfl, rfl, hq⟩ := hrel
    have hBr : Below w.heap.size w wr := by rw [hq]; exact below_drewN hB0 q
    have HQ := Lib.hid hq
    clear hq
    by_cases hlt : k < m
    · obtain ⟨b, off, rfl, _, hc⟩ := (HRL.out.below hBr).at_ (k := k) hlt
      obtain ⟨b', off', rfl, _, hc'⟩ := (HRK.out.below hBr).at_ (k := k) hlt
      have s1 := HS.out k hk
      have s2 := HS.out (k + 1) hlt
      have s3 := HV.out k hlt
      rw [sumTo] at s2
      obtain ⟨x, hx⟩ : ∃ x, x = L.getD k 0 := ⟨_, rfl⟩
      obtain ⟨y, hy⟩ : ∃ y, y = K.getD k 0 := ⟨_, rfl⟩
      obtain ⟨s, hse⟩ : ∃ s, s = sumTo L k := ⟨_, rfl⟩
      rw [← hx] at hc s2 s3
      rw [← hy] at hc' s3
      rw [← hse] at s1 s2 ⊢
      have HNX := Lib.hid (show sumTo L (k + 1) = s + x by rw [sumTo, hse, hx])
      have n1 : decide (y < 0) = false := decide_eq_false (by omega)
      have n2 : decide (x < y) = false := decide_eq_false (by omega)
      have n3 : decide (4096 < x) = false := decide_eq_false (by omega)
      clear hx hy hse
      go_wp2_with fail
      go_quiet (fail)
      go_wp2_with fail
      go_roundw
      case rel => exact ⟨k + 1, _, by omega, by go_num, by rw [HNX.out], by rw [HQ.out]; exact World.drewN_drewN _ _ _⟩
      case measure => simp [intOf]; omega
    · obtain rfl : m = k := by omega
      have s1 := HS.out m hk
      obtain ⟨s, hse⟩ : ∃ s, s = sumTo L m := ⟨_, rfl⟩
      rw [← hse] at s1 ⊢
      have hDq : Blk wr w.heap.size 23 (dig d) := by rw [HQ.out]; exact hD0
      have hBq := hBr
      clear hD0 hB0 hse hBr
      go_wp2_with fail
      go_loopw [10, 11, 12] (fun v s i wr => ∃ j : Nat, j ≤ m ∧ i = .int .i64 j ∧ s = .int .i64 (sumTo L j) ∧ CRow wr (w.heap.size + 1) v d L K (List.range j) ∧ Blk wr w.heap.size 23 (dig d) ∧ Below w.heap.size w wr) (fun _ _ i _ => m - (intOf i).toNat)
      case atStart => exact ⟨0, by omega, rfl, rfl, CRow.nil _ _ _ _ _, hDq, hBq⟩
      case round =>
        clear hDq hBq
        obtain ⟨i, hi, rfl, rfl, hrow, hD, hB⟩ := hrel
        by_cases hlt : i < m
        · obtain ⟨wo, rfl⟩ : ∃ wo, wo = wr := ⟨_, rfl⟩
          obtain ⟨bl, ol, rfl, _, hcl⟩ := (HRL.out.below hB).at_ (k := i) hlt
          obtain ⟨bk, ok, rfl, _, hck⟩ := (HRK.out.below hB).at_ (k := i) hlt
          have s1 := HS.out i (by omega)
          have s2 := HS.out (i + 1) hlt
          have s3 := HV.out i hlt
          rw [sumTo] at s2
          obtain ⟨nn, hnn⟩ : ∃ nn, nn = (L.getD i 0).toNat := ⟨_, rfl⟩
          obtain ⟨kk, hkk⟩ : ∃ kk, kk = cnt K i := ⟨_, rfl⟩
          have hkk' : kk = (K.getD i 0).toNat := hkk
          have hnz : L.getD i 0 = (nn : Int) := by omega
          have HNZ := Lib.hid hnz
          have HNX := Lib.hid (show sumTo L (i + 1) = sumTo L i + (nn : Int) by rw [sumTo, hnz])
          rw [hnz] at hcl s2 s3
          rw [show K.getD i 0 = (kk : Int) by omega] at hck s3
          have hkn : kk ≤ nn := by omega
          have hn4 : nn ≤ 4096 := by omega
          obtain ⟨s, hse⟩ : ∃ s, s = sumTo L i := ⟨_, rfl⟩
          rw [← hse] at s1 s2 HNX ⊢
          have HNN := Lib.hid hnn
          have HKK := Lib.hid hkk
          have HSE := Lib.hid hse
          clear hnn hkk hkk' hse s3 hnz
          go_wp2_with fail
          refine wp_region_held_drew (S := fun W' => Below wo.heap.size wo W') (by kernel_rfl) (Below.refl _ _).drew (fun hS => ?_)
          refine wpAnyH_take (i := 0) (v := .agg (dig d)) rfl (by kernel_rfl) (by kernel_rfl) (by kernel_rfl) (fun _ _ _ h => h) (yields_dig (by rfl) _ rfl _ rfl d hd (fun W' hS' => hD.below hS' hD.lt)) hS ?_
          simp only [Act.put, List.setIfInBounds_toArray, List.set_cons_zero, List.set_cons_succ]
          refine wpAnyH_take (i := 1) (v := .int .i64 i) rfl (by kernel_rfl) (by kernel_rfl) (by kernel_rfl) (fun _ _ _ h => h) (Or.inl ⟨by rfl, fun W' hS' => by go_simp⟩) hS ?_
          simp only [Act.put, List.setIfInBounds_toArray, List.set_cons_zero, List.set_cons_succ]
          refine wpAnyH_take (i := 3) (v := .slice (some ⟨bl, ol, none⟩) m cL) rfl (by kernel_rfl) (by kernel_rfl) (by kernel_rfl) (fun _ _ _ h => h) (Or.inl ⟨by rfl, fun W' hS' => by go_simp⟩) hS ?_
          simp only [Act.put, List.setIfInBounds_toArray, List.set_cons_zero, List.set_cons_succ]
          refine wpAnyH_take (i := 4) (v := .int .i64 i) rfl (by kernel_rfl) (by kernel_rfl) (by kernel_rfl) (fun _ _ _ h => h) (Or.inl ⟨by rfl, fun W' hS' => by go_simp⟩) hS ?_
          simp only [Act.put, List.setIfInBounds_toArray, List.set_cons_zero, List.set_cons_succ]
          refine wpAnyH_take (i := 5) (v := .pointer (some ⟨bl, ol + i, none⟩)) rfl (by kernel_rfl) (by kernel_rfl) (by kernel_rfl) (fun _ _ _ h => h) (Or.inl ⟨by rfl, fun W' hS' => by go_simp⟩) hS ?_
          simp only [Act.put, List.setIfInBounds_toArray, List.set_cons_zero, List.set_cons_succ]
          refine wpAnyH_take (i := 6) (v := .int .i64 nn) rfl (by kernel_rfl) (by kernel_rfl) (by kernel_rfl) (fun _ _ _ h => h) (Or.inl ⟨by rfl, fun W' hS' => by have := (hS'.cell (p := ⟨bl, ol + i, none⟩) (World.block_lt_of_cell? wo _ hcl)).trans hcl; go_simp⟩) hS ?_
          simp only [Act.put, List.setIfInBounds_toArray, List.set_cons_zero, List.set_cons_succ]
          refine wpAnyH_take (i := 7) (v := .slice (some ⟨bk, ok, none⟩) m cK) rfl (by kernel_rfl) (by kernel_rfl) (by kernel_rfl) (fun _ _ _ h => h) (Or.inl ⟨by rfl, fun W' hS' => by go_simp⟩) hS ?_
          simp only [Act.put, List.setIfInBounds_toArray, List.set_cons_zero, List.set_cons_succ]
          refine wpAnyH_take (i := 8) (v := .int .i64 i) rfl (by kernel_rfl) (by kernel_rfl) (by kernel_rfl) (fun _ _ _ h => h) (Or.inl ⟨by rfl, fun W' hS' => by go_simp⟩) hS ?_
          simp only [Act.put, List.setIfInBounds_toArray, List.set_cons_zero, List.set_cons_succ]
          refine wpAnyH_take (i := 9) (v := .pointer (some ⟨bk, ok + i, none⟩)) rfl (by kernel_rfl) (by kernel_rfl) (by kernel_rfl) (fun _ _ _ h => h) (Or.inl ⟨by rfl, fun W' hS' => by go_simp⟩) hS ?_
          simp only [Act.put, List.setIfInBounds_toArray, List.set_cons_zero, List.set_cons_succ]
          refine wpAnyH_take (i := 10) (v := .int .i64 kk) rfl (by kernel_rfl) (by kernel_rfl) (by kernel_rfl) (fun _ _ _ h => h) (Or.inl ⟨by rfl, fun W' hS' => by have := (hS'.cell (p := ⟨bk, ok + i, none⟩) (World.block_lt_of_cell? wo _ hck)).trans hck; go_simp⟩) hS ?_
          simp only [Act.put, List.setIfInBounds_toArray, List.set_cons_zero, List.set_cons_succ]
          refine wpAnyH_ready (rs := [2]) (by kernel_rfl) (by simp) ?_
          refine AllReadyH.cons rfl (fun Kq hKq => ?_) AllReadyH.nil
          go_simp
          refine (rpart_any d hd i (by omega) _).mono ?_
          rintro e Wb ⟨rfl, hb2⟩
          have hS2 : Below wo.heap.size wo Wb := hS.trans (hb2.mono hS.size)
          refine hKq.out _ _ hS2 (fun _ => ?_)
          clear hKq Kq hb2 hS
          obtain ⟨D, hDe⟩ : ∃ D, D = partDig d i := ⟨_, rfl⟩
          have hDl : D.length = 32 := by rw [hDe]; exact tagged_length _ _
          rw [← hDe]
          have HDE := Lib.hid hDe
          clear hDe
          refine wpAnyH_ready (rs := [11]) (by kernel_rfl) (by simp) ?_
          refine AllReadyH.cons rfl (fun Kq hKq => ?_) AllReadyH.nil
          go_simp
          refine (rdraw_good D hDl nn kk hkn hn4 Wb).mono ?_
          rintro e Wc ⟨A, ca, rfl, hca, hca2, hheld, hb3⟩
          have hS3 : Below wo.heap.size wo Wc := hS2.trans (hb3.mono hS2.size)
          refine hKq.out _ _ hS3 (fun _ => ?_)
          clear hKq Kq
          have hheld' : Held Wc wo.heap.size A kk (orderOf D nn) := by
            rcases hheld with h | ⟨g, cs, a1, a2, a3⟩
            · exact .inl h
            · exact .inr ⟨g, cs, a1, Nat.le_trans hS2.size a2, a3⟩
          clear hheld hb3 hS2
          refine wpAnyH_take (i := 12) (v := .tuple #[.slice A kk ca, .int .i64 0]) rfl (by kernel_rfl) (by kernel_rfl) (by kernel_rfl) (fun _ _ _ h => h) (Or.inl ⟨by rfl, fun W' hS' => by go_simp⟩) hS3 ?_
          simp only [Act.put, List.setIfInBounds_toArray, List.set_cons_zero, List.set_cons_succ]
          refine wpAnyH_take (i := 13) (v := .slice A kk ca) rfl (by kernel_rfl) (by kernel_rfl) (by kernel_rfl) (fun _ _ _ h => h) (Or.inl ⟨by rfl, fun W' hS' => by go_simp⟩) hS3 ?_
          simp only [Act.put, List.setIfInBounds_toArray, List.set_cons_zero, List.set_cons_succ]
          refine wpAnyH_take (i := 14) (v := .int .i64 0) rfl (by kernel_rfl) (by kernel_rfl) (by kernel_rfl) (fun _ _ _ h => h) (Or.inl ⟨by rfl, fun W' hS' => by go_simp⟩) hS3 ?_
          simp only [Act.put, List.setIfInBounds_toArray, List.set_cons_zero, List.set_cons_succ]
          refine wpAnyH_take (i := 15) (v := .slice A kk ca) rfl (by kernel_rfl) (by kernel_rfl) (by kernel_rfl) (fun _ _ _ h => h) (Or.inl ⟨by rfl, fun W' hS' => by go_simp⟩) hS3 ?_
          simp only [Act.put, List.setIfInBounds_toArray, List.set_cons_zero, List.set_cons_succ]
          refine wpAnyH_take (i := 16) (v := .int .i64 0) rfl (by kernel_rfl) (by kernel_rfl) (by kernel_rfl) (fun _ _ _ h => h) (Or.inl ⟨by rfl, fun W' hS' => by go_simp⟩) hS3 ?_
          simp only [Act.put, List.setIfInBounds_toArray, List.set_cons_zero, List.set_cons_succ]
          refine wpAnyH_done (by kernel_rfl) ?_ _
          go_wp2_with fail
          have hMQ := hheld'
          obtain ⟨o, ho⟩ : ∃ o, o = orderOf D nn := ⟨_, rfl⟩
          have hor : ∀ i, 0 ≤ o.getD i 0 ∧ o.getD i 0 ≤ nn := fun i => by rw [ho]; exact orderOf_range D nn i
          have hol : o.length = nn := by rw [ho]; exact orderOf_length D nn
          rw [← ho] at hMQ
          have HO := Lib.hid ho
          clear ho hheld'
          have hRo := hMQ.rd
          go_loopw [15, 16] (fun v x wr => ∃ j : Nat, j ≤ kk ∧ x = .int .i64 j ∧ IOwn wr Wc.heap.size v (plusL o s j) ∧ Below Wc.heap.size Wc wr) (fun _ x _ => kk - (intOf x).toNat)
          case atStart => exact ⟨0, by omega, rfl, IOwn.nil _ _, Below.refl _ _⟩
          case round =>
            obtain ⟨j, hj, rfl, hown, hBq⟩ := hrel
            by_cases hjk : j < kk
            · obtain ⟨b, off, rfl, _, hc⟩ := (hRo.below hBq).at_ (k := j) hjk
              have hxr := hor j
              have hpl := plusL_length o s j
              have HPS := Lib.hid (plusL_succ o s j)
              obtain ⟨x, hx⟩ : ∃ x, x = o.getD j 0 := ⟨_, rfl⟩
              rw [← hx] at hc hxr HPS
              obtain ⟨P, hP⟩ : ∃ P, P = plusL o s j := ⟨_, rfl⟩
              rw [← hP] at hown hpl HPS
              have HP := Lib.hid hP
              have hO1 := hown.alloc (.cells #[.int .i64 (s + x)] 3)
              clear hx hP hor hMQ
              go_wp2_with (at_builtin; refine app_int rfl _ _ rfl Wc.heap.size u15 _ rfl hO1 (s + x) (Blk.new _ _ _) rfl (by omega) (by have := hBq.size; simp; omega) ?_; intro v2 w2 hown2 hg2)
              go_roundw
              case rel =>
                have hg := hg2.alloc_first
                exact ⟨j + 1, by omega, by go_num, by rw [HPS.out]; exact hown2, hBq.trans (hg.below hBq.size fun k hk => by have := (World.ownsRow.lt hown _ hk).1; omega)⟩
              case measure => simp [intOf]; omega
            · obtain rfl : j = kk := by omega
              obtain ⟨A2, c2, rfl, -⟩ := hown.shape
              have hpl := plusL_length o s j
              obtain ⟨P, hP⟩ : ∃ P, P = plusL o s j := ⟨_, rfl⟩
              rw [← hP] at hown hpl ⊢
              have HP := Lib.hid hP
              rw [hpl] at hown ⊢
              have hheld : Held wr (w.heap.size + 1) A2 j (strat d L i) := by
                have h1 : Held wr Wc.heap.size A2 j P := held_of_own hown hpl
                have h2 : Held wr Wc.heap.size A2 j (strat d L i) := h1.congr fun p hp => by
                  rw [HP.out, strat, partOrd, ← HNN.out, ← HSE.out, ← HDE.out, ← HO.out]
                  exact plusL_get o s j p hp (by omega)
                rcases h2 with h | ⟨g, cs, a1, a2, a3⟩
                · exact .inl h
                · exact .inr ⟨g, cs, a1, by have := hS3.size; have := hD.lt; omega, a3⟩
              have hBall : Below wo.heap.size wo wr := hS3.trans (hBq.mono hS3.size)
              obtain ⟨xs, h1, h2⟩ := hrow.stay (Stay.of_below hBall)
              have hBw : Below w.heap.size w wr := hB.trans (hBall.mono hB.size)
              have h1q := World.ownsRow.alloc h1 (.cells #[.slice A2 j c2] 32)
              have hBa : Below wr.heap.size wr (wr.alloc (.cells #[.slice A2 j c2] 32)) := (Below.refl _ wr).alloc (Nat.le_refl _) _
              have hBx : Below w.heap.size w (wr.alloc (.cells #[.slice A2 j c2] 32)) := hBw.trans (hBa.mono hBw.size)
              have hDx := (hD.below hBall hD.lt).below hBa (by have := hD.lt; have := hBall.size; omega)
              have hwb : w.heap.size + 1 ≤ wr.heap.size := by have := hD.lt; have := hBall.size; omega
              have HROW := Lib.hid (fun v2 w2 ho hg => CRow.push (W := wr.alloc (.cells #[.slice A2 j c2] 32)) (W' := w2) (v' := v2) (p := i) h1q (fun j q hq => by obtain ⟨B, c, x1, x2⟩ := h2 j q hq; exact ⟨B, c, x1, x2.below hBa⟩) (A := A2) (c := c2) (by rw [← HKK.out]; exact hheld.below hBa) ho hg)
              rw [← HKK.out] at HROW
              have HLEN := Lib.hid (show (List.range i).length = i from List.length_range)
              clear hown h1 h2 hrow hheld hRo hMQ hor hBq hS3
              go_wp2_with (at_builtin; refine app_slice rfl _ _ rfl (w.heap.size + 1) u10 _ xs rfl h1q (.slice A2 j c2) rfl (Blk.new _ _ _) rfl (by rw [HLEN.out]; omega) (by simp only [World.size_alloc]; omega) ?_; intro v2 w2 hown2 hg2
                           have hB2 : Below w.heap.size w w2 := hBx.trans (hg2.below hBx.size fun k hk => by have := (World.ownsRow.lt h1q _ hk).1; omega)
                           have hD2 := hDx.grown hg2.1 (fun e => by have := (World.ownsRow.lt h1q _ e.symm).1; omega)
                           have hcl2 : w2.cell? ⟨bl, ol + i, none⟩ = some (.int .i64 nn) := by
                             have hlb := (HRL.out.below hB2) (Nat.lt_of_le_of_lt (Nat.zero_le _) hlt)
                             obtain ⟨b9, o9, e9, -, hc9⟩ := hlb
                             obtain ⟨rfl, rfl⟩ : bl = b9 ∧ ol = o9 := by injection e9 with e9; injection e9 with e9 e10; exact ⟨e9, e10⟩
                             rw [hc9 i hlt]
                             show some (Value.int .i64 (L.getD i 0)) = _
                             rw [HNZ.out])
              have HR2 := Lib.hid (HROW.out v2 w2 hown2 hg2)
              clear h1q hBx hDx hown2 hg2
              go_roundw
              case rel => exact ⟨i + 1, by omega, by go_num, by rw [HNX.out], by rw [List.range_succ]; exact HR2.out, hD2, hB2⟩
              case measure => simp [intOf]; omega

        · obtain rfl : i = m := by omega
          obtain ⟨A2, c2, rfl⟩ : ∃ A c, u10 = .slice A i c := by
            obtain ⟨xs, h1, -⟩ := hrow
            have := own_form h1
            rwa [List.length_range] at this
          go_wp2
          go_ret2
          refine ⟨_, rfl, ?_, hB⟩
          obtain ⟨xs, h1, h2⟩ := hrow
          refine ⟨xs, own_weaken h1 (Nat.le_succ _), fun j p hp => ?_⟩
          obtain ⟨A, c, h3, h4⟩ := h2 j p hp
          refine ⟨A, c, h3, ?_⟩
          rcases h4 with h | ⟨g, cs, a1, a2, a3⟩
          · exact .inl h
          · exact .inr ⟨g, cs, a1, by omega, a3⟩
end Go.Proofs.YtibnikokgbfcdaaDoor

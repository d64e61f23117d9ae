/- Walk: digest.Sum. -/
import Derived.Test.YtibnikokgbfcdaaDoorBase
import Derived.Test.YtibnikokgbfcdaaDoorW3
namespace Go.Proofs.YtibnikokgbfcdaaDoor
open Go.RowKit

/-- The two package-level tables hold what they are declared to hold. -/
structure Laid (w : World) : Prop where
  start : ∀ i, i < 8 → w.cell? ⟨0, i, none⟩ = some (.int .u32 (St.start.nth i))
  nums : ∀ t, t < 64 → w.cell? ⟨1, t, none⟩ = some (.int .u32 (kAt t))
theorem Laid.lt0 {w : World} (h : Laid w) : 0 < w.heap.size := World.block_lt_of_cell? w _ (h.start 0 (by omega))
theorem Laid.lt1 {w : World} (h : Laid w) : 1 < w.heap.size := World.block_lt_of_cell? w _ (h.nums 0 (by omega))
theorem Laid.below {w w' : World} (h : Laid w) (hb : Below w.heap.size w w') : Laid w' :=
  ⟨fun i hi => (hb.cell (p := ⟨0, i, none⟩) h.lt0).trans (h.start i hi), fun t ht => (hb.cell (p := ⟨1, t, none⟩) h.lt1).trans (h.nums t ht)⟩

theorem Tryd.size5 : (Tryd.prog.info? 5).map (·.size) = some 1 := by kernel_rfl
theorem bInfo_all : ∃ i, Tryd.prog.info? 5 = some i ∧ i.zero = some (.int .u8 0) ∧ i.size = 1 ∧ i.bytes = 1 := by
  have h : (Tryd.prog.info? 5).map (fun i => (i.zero, i.size, i.bytes)) = some (some (.int .u8 0), 1, 1) := by kernel_rfl
  obtain ⟨i, hi, h0, h1, h2⟩ := info_parts h
  exact ⟨i, hi, h0, h1, h2⟩
noncomputable def bInfo : TypeInfo := bInfo_all.choose
theorem bInfo_eq : Tryd.prog.info? 5 = some bInfo := bInfo_all.choose_spec.1
theorem bInfo_zero : bInfo.zero = some (.int .u8 0) := bInfo_all.choose_spec.2.1
theorem bInfo_size : bInfo.size = 1 := bInfo_all.choose_spec.2.2.1
theorem bInfo_bytes : bInfo.bytes = 1 := bInfo_all.choose_spec.2.2.2

theorem Tryd.size23 : (Tryd.prog.info? 23).map (·.size) = some 32 := by kernel_rfl
theorem one_of (cs : Array Value) (h : ∀ i, i < cs.size → ∃ v, cs[i]? = some v ∧ v.oneCell' = true) : cs.all (·.oneCell') = true := by
  refine Array.all_eq_true_iff_forall_mem.2 fun v hv => ?_
  obtain ⟨i, hi, rfl⟩ := Array.mem_iff_getElem.1 hv
  obtain ⟨u, hu, h1⟩ := h i hi
  rw [Array.getElem?_eq_getElem hi] at hu
  injection hu with hu
  rw [hu]
  exact h1
theorem digCells_one (X : St) : (digCells X 8).all (·.oneCell') = true :=
  one_of _ fun i hi => ⟨_, digCells_get X 8 (Nat.le_refl _) i (by rw [digCells_size] at hi; omega), rfl⟩
theorem idx8 (X : St) (k : Nat) (hk : k < 8) (w : World) : (Instr.index 140 (.agg #[.int .u32 X.a, .int .u32 X.b, .int .u32 X.c, .int .u32 X.d, .int .u32 X.e, .int .u32 X.f, .int .u32 X.g, .int .u32 X.h]) (.int .i64 k)).run Tryd.prog w = .ok (.int .u32 (X.nth k)) w := by
  have h : (Instr.index 140 (.agg X.cells) (.int .i64 k)).run Tryd.prog w = .ok (.int .u32 (X.nth k)) w := by
    have hs : ∀ w, (sizeOf 74).run Tryd.prog w = .ok 1 w := fun _ => by kernel_rfl
    have ha : ∀ w, (isAgg 74).run Tryd.prog w = .ok false w := fun _ => by kernel_rfl
    have z1 : ¬ 8 ≤ k := by omega
    simp [Instr.index, asIntOf, run_underlying Tryd.underlying140, hs, part, ha, z1, cells_nth X k hk]
  exact h
theorem slice_dig (w : World) (g k : Nat) (hk : k < 8) : (Instr.sliceAt 23 (.pointer (some ⟨g, 0, none⟩)) (some (.int .i64 (4 * (k : Int)))) (some (.int .i64 (4 * (k : Int) + 4))) none).run Tryd.prog w = .ok (.slice (some ⟨g, 4 * k, none⟩) 4 (32 - 4 * k)) w := by
  have hs : ∀ w, (sizeOf 5).run Tryd.prog w = .ok 1 w := fun _ => by kernel_rfl
  have z0 : 0 ≤ 4 * (k : Int) := by omega
  have z1 : 4 * (k : Int) + 4 ≤ 32 := by omega
  have z2 : 0 ≤ 4 * (k : Int) + 4 := by omega
  have n1 : (4 * (k : Int) + 4).toNat = 4 * k + 4 := by omega
  have n2 : (4 * (k : Int)).toNat = 4 * k := by omega
  have n3 : ¬ 32 = 4 * k := by omega
  have n4 : ¬ 4 * (k : Int) + 4 < 4 * (k : Int) := by omega
  simp [Instr.sliceAt, Instr.sureAddr, run_underlying Tryd.underlying23, Instr.sliceBounds, Instr.sliceBound, asIntOf, hs, z0, z1, z2, n1, n2, n3, n4, Addr.add_mid]
def SumPost (s : St) (w : World) (e : Ending) (w' : World) : Prop := (∃ cs : Array Value, e = .returned (.agg cs) ∧ cs.size = 32 ∧ ∀ i, i < 32 → cs[i]? = some (.int .u8 (digByte s i))) ∧ Below w.heap.size w w'

set_option maxRecDepth 100000 in
set_option maxHeartbeats 1000000 in
theorem sum_any (A : Option Addr) (n cap : Nat) (f : Nat → Int) (w : World) (hL : Laid w) (hA : Rd w w.heap.size A n fun k => .int .u8 (f k)) (hn : n ≤ cap) (hcap : cap ≤ 9223372036854775807) (hn48 : n ≤ 281474976710656) :
    Calls Tryd.prog 101 #[.slice A n cap] w (SumPost (shaEnd f n) w) := by
  have s0 : w.cell? ⟨0, 0, none⟩ = some (.int .u32 St.start.a) := hL.start 0 (by omega)
  have s1 : w.cell? ⟨0, 1, none⟩ = some (.int .u32 St.start.b) := hL.start 1 (by omega)
  have s2 : w.cell? ⟨0, 2, none⟩ = some (.int .u32 St.start.c) := hL.start 2 (by omega)
  have s3 : w.cell? ⟨0, 3, none⟩ = some (.int .u32 St.start.d) := hL.start 3 (by omega)
  have s4 : w.cell? ⟨0, 4, none⟩ = some (.int .u32 St.start.e) := hL.start 4 (by omega)
  have s5 : w.cell? ⟨0, 5, none⟩ = some (.int .u32 St.start.f) := hL.start 5 (by omega)
  have s6 : w.cell? ⟨0, 6, none⟩ = some (.int .u32 St.start.g) := hL.start 6 (by omega)
  have s7 : w.cell? ⟨0, 7, none⟩ = some (.int .u32 St.start.h) := hL.start 7 (by omega)
  have l0 := hL.lt0
  go_enter Tryd.func101, Tryd.ntmps101
  go_wp2_with fail
  clear s0 s1 s2 s3 s4 s5 s6 s7
  obtain ⟨F, hF⟩ : ∃ F, F = padAt f n := ⟨_, rfl⟩
  have HF := Lib.hid hF
  clear hF
  go_loopw [5] (fun v wr => ∃ (j : Nat) (A' : Option Addr), 64 * j ≤ n ∧ v = .slice A' (n - 64 * j) (cap - 64 * j) ∧ Rd wr w.heap.size A' (n - 64 * j) (fun k => .int .u8 (f (64 * j + k))) ∧ Blk wr (w.heap.size + 1) 140 (shaTo F j).cells ∧ Blk wr w.heap.size 23 (Array.replicate 32 (.int .u8 0)) ∧ Below w.heap.size w wr)
    (fun v _ => match v with | .slice _ l _ => l | _ => 0)
  case atStart =>
    refine ⟨0, A, by omega, rfl, ?_, ?_, ?_, ?_⟩
    · simpa using (hA.alloc (Nat.le_refl _) _).alloc (by simp) _
    · exact heap_alloc2_new w _ _
    · exact (Blk.new w _ _).alloc _
    · exact ((Below.refl _ w).alloc (Nat.le_refl _) _).alloc (by simp) _
  case round =>
    obtain ⟨j, A', hj, rfl, hR, hS, hD, hB⟩ := hrel
    by_cases hlt : 64 * j + 64 ≤ n
    · obtain ⟨b, off, rfl, hb, hc⟩ := hR (by omega)
      have hcut := hR.cut (m := 64) (cap := cap - 64 * j) (by omega) (by omega)
      obtain ⟨m, hm⟩ : ∃ m, m = n - 64 * j := ⟨_, rfl⟩
      obtain ⟨c', hc'⟩ : ∃ c', c' = cap - 64 * j := ⟨_, rfl⟩
      rw [← hm, ← hc'] at hcut ⊢
      rw [← hm] at hc
      have hl : 64 ≤ m := by omega
      have hlc : m ≤ c' := by omega
      have hl2 : 64 ≤ c' := by omega
      have hcl : c' ≤ 9223372036854775807 := by omega
      have HM := Lib.hid hm
      have HC := Lib.hid hc'
      clear hm hc'
      go_wp2_with fail
      refine (absorb_any (w.heap.size + 1) b off _ _ (shaTo F j) (fun k => F (64 * j + k)) _ hS (Nat.le_refl _) hl2 hcl (fun k hk => ?_) (fun t ht => ?_)).mono ?_
      · rw [hc k (by omega), HF.out, padAt, if_pos (by omega)]
      · exact (hL.below hB).nums t ht
      rintro e w' ⟨rfl, hS', hO⟩
      have hB' : Below w.heap.size wr w' := hO.toBelow hB.size (Nat.le_succ _)
      have hD' := hD.grown hO (by simp)
      have hcut' := hcut.below hB'
      have hsz : w.heap.size ≤ w'.heap.size := Nat.le_trans hB.size hO.size
      by_cases hcp : c' = 64
      · obtain rfl : m = 64 := by omega
        subst hcp
        go_wp2_with fail
        go_roundw
        case rel =>
          have e1 := HM.out
          have e2 := HC.out
          exact ⟨j + 1, _, by omega, by rw [show n - 64 * (j + 1) = 0 from by omega, show cap - 64 * (j + 1) = 0 from by omega], by rw [show n - 64 * (j + 1) = 0 from by omega]; exact Rd.zero, hS', hD', hB.trans hB'⟩
        case measure => simp
      · rw [if_neg hcp] at hcut'
        go_wp2_with fail
        go_roundw
        case rel =>
          have e1 := HM.out
          have e2 := HC.out
          refine ⟨j + 1, _, by omega, by rw [show n - 64 * (j + 1) = m - 64 from by omega, show cap - 64 * (j + 1) = c' - 64 from by omega], ?_, hS', hD', hB.trans hB'⟩
          rw [show n - 64 * (j + 1) = m - 64 from by omega]
          refine (hcut').congr fun k _ => ?_
          rw [show 64 * (j + 1) + k = 64 * j + (64 + k) from by omega]
        case measure => simp; omega
    · generalize hr : n - 64 * j = r at hR ⊢
      generalize hc' : cap - 64 * j = c'
      have hr64 : r < 64 := by omega
      have hnr : n = 64 * j + r := by omega
      have HN := Lib.hid hnr
      clear hr hc' hnr hlt hj
      have hmk : ∀ W : World, (Instr.makeSlice 39 (.int .i64 64) (.int .i64 128)).run Tryd.prog W = .ok (.slice (some ⟨W.heap.size, 0, none⟩) 64 128) (W.alloc (.cells (zeros 128) 5)) := fun W => run_make_bytes (P := Tryd.prog) 39 5 bInfo Tryd.underlying39 bInfo_eq bInfo_zero bInfo_size bInfo_bytes 64 128 (by omega) (by omega) W
      obtain ⟨wo, rfl⟩ : ∃ wo : World, wo = wr := ⟨_, rfl⟩
      have hbz : Blk (wo.alloc (.cells (zeros 128) 5)) wo.heap.size 5 (zeros 128) := Blk.new _ _ _
      have hcopy := fun ty => run_copy_rd (P := Tryd.prog) (wo.alloc (.cells (zeros 128) 5)) 39 39 ty 5 Tryd.underlying39 Tryd.size5 hbz 0 64 128 (sCap := c') (hR.alloc hB.size (.cells (zeros 128) 5)) (by omega) (by rw [zeros_size]; omega) (fun _ _ => rfl)
      rw [World.setRow_alloc_new] at hcopy
      obtain ⟨E0, hE0⟩ : ∃ E0, E0 = splice (zeros 128) 0 r (fun k => .int .u8 (f (64 * j + k))) := ⟨_, rfl⟩
      rw [← hE0] at hcopy
      have hE0s : r < E0.size := by rw [hE0, splice_size _ _ _ _ (by rw [zeros_size]; omega), zeros_size]; omega
      have HS := Lib.hid (show E0.size = 128 by rw [hE0, splice_size _ _ _ _ (by rw [zeros_size]; omega), zeros_size])
      have hE0c : E0[r]? = some E0[r] := Array.getElem?_eq_getElem hE0s
      generalize E0[r] = e0 at hE0c
      have HE := Lib.hid hE0
      clear hE0 hE0s hbz
      have hws := hB.size
      have hDl := hD.lt
      have hSl := hS.lt
      rcases Nat.lt_or_ge 55 r with h55 | h55
      · have HQ := Lib.hid (show 2 = (r + 8) / 64 + 1 by omega)
        go_wp2_with fail
        refine (put_any wo.heap.size 120 8 _ 5 (E0.setIfInBounds r (.int .u8 128)) _ _ (Blk.new _ _ _) (Nat.le_refl _) (by rw [Array.size_setIfInBounds, HS.out]; omega)).mono ?_
        rintro e w1 ⟨rfl, hE, hO⟩
        have hE1 : Blk w1 wo.heap.size 5 (endCells f n j r 2) := by rw [endCells, ← HE.out]; exact hE
        have hS1 := (hS.alloc (.cells (E0.setIfInBounds r (.int .u8 128)) 5)).grown hO (by simp; omega)
        have hD1 := (hD.alloc (.cells (E0.setIfInBounds r (.int .u8 128)) 5)).grown hO (by simp; omega)
        have hB1 : Below w.heap.size w w1 := (hB.alloc hB.size _).trans (hO.toBelow (by simp; omega) hB.size)
        clear hcopy hE hO hmk hE0c hS hD hB hR
        go_wp2_with fail
        go_loopw [6] (fun v wr => ∃ i o : Nat, i ≤ 2 ∧ v = .slice (some ⟨wo.heap.size, o, none⟩) (64 * (2 - i)) (128 - 64 * i) ∧ (i < 2 → o = 64 * i) ∧ Blk wr wo.heap.size 5 (endCells f n j r 2) ∧ Blk wr (w.heap.size + 1) 140 (shaTo F (j + i)).cells ∧ Blk wr w.heap.size 23 (Array.replicate 32 (.int .u8 0)) ∧ Below w.heap.size w wr)
          (fun v _ => match v with | .slice _ l _ => l | _ => 0)
        case atStart => exact ⟨0, 0, by omega, rfl, fun _ => rfl, hE1, hS1, hD1, hB1⟩
        case round =>
          clear hE1 hS1 hD1 hB1
          obtain ⟨i, o, hi, rfl, ho, hE, hS, hD, hB⟩ := hrel
          have hcell : ∀ i, i < 2 → ∀ k, k < 64 → wr.cell? ⟨wo.heap.size, 64 * i + k, none⟩ = some (.int .u8 (F (64 * (j + i) + k))) := by
            intro i hi k hk
            rw [hE.cell, HF.out, endCells_get f n j r 2 HN.out hr64 HQ.out _ (by omega), show 64 * (j + i) + k = 64 * j + (64 * i + k) from by omega]
          by_cases hi0 : i = 0
          · subst hi0
            obtain rfl := ho (by omega)
            have HC := Lib.hid (hcell 0 (by omega))
            clear hcell ho
            simp only [Nat.reduceMul, Nat.mul_zero, Nat.sub_zero]
            go_wp2_with fail
            refine (absorb_any (w.heap.size + 1) wo.heap.size 0 _ _ (shaTo F (j + 0)) (fun k => F (64 * (j + 0) + k)) _ hS (by omega) (by omega) (by omega) HC.out (fun t ht => (hL.below hB).nums t ht)).mono ?_
            rintro e w2 ⟨rfl, hS', hO⟩
            have hE' := hE.grown hO (by simp; omega)
            have hD' := hD.grown hO (by simp)
            have hB' : Below w.heap.size w w2 := hB.trans (hO.toBelow hB.size (Nat.le_succ _))
            clear hE hS hD hB
            go_wp2_with fail
            go_roundw
            case rel => exact ⟨1, 64, by omega, rfl, fun h => by omega, hE', hS', hD', hB'⟩
            case measure => simp
          by_cases hi1 : i = 1
          · subst hi1
            obtain rfl := ho (by omega)
            have HC := Lib.hid (hcell 1 (by omega))
            clear hcell ho
            simp only [Nat.reduceMul, Nat.reduceSub]
            go_wp2_with fail
            refine (absorb_any (w.heap.size + 1) wo.heap.size 64 _ _ (shaTo F (j + 1)) (fun k => F (64 * (j + 1) + k)) _ hS (by omega) (by omega) (by omega) HC.out (fun t ht => (hL.below hB).nums t ht)).mono ?_
            rintro e w2 ⟨rfl, hS', hO⟩
            have hE' := hE.grown hO (by simp; omega)
            have hD' := hD.grown hO (by simp)
            have hB' : Below w.heap.size w w2 := hB.trans (hO.toBelow hB.size (Nat.le_succ _))
            clear hE hS hD hB
            go_wp2_with fail
            go_roundw
            case rel => exact ⟨2, 64, by omega, rfl, fun h => by omega, hE', hS', hD', hB'⟩
            case measure => simp
          have hiq : i = 2 := by omega
          subst hiq
          clear hcell ho hi0 hi1
          simp only [Nat.reduceMul, Nat.mul_zero, Nat.sub_self]
          have hend : shaTo F (j + 2) = shaEnd f n := by rw [shaEnd, HF.out, show (n + 8) / 64 + 1 = j + 2 from by have := HQ.out; have := HN.out; omega]
          rw [hend] at hS
          clear hend
          obtain ⟨X, hX⟩ : ∃ X, X = shaEnd f n := ⟨_, rfl⟩
          have hXf : X.Fits := by rw [hX]; exact shaEnd_fits f n
          rw [← hX] at hS
          have HX := Lib.hid hX
          clear hX
          have c0 : wr.cell? ⟨w.heap.size + 1, 0, none⟩ = some (.int .u32 X.a) := hS.cell 0
          have c1 : wr.cell? ⟨w.heap.size + 1, 1, none⟩ = some (.int .u32 X.b) := hS.cell 1
          have c2 : wr.cell? ⟨w.heap.size + 1, 2, none⟩ = some (.int .u32 X.c) := hS.cell 2
          have c3 : wr.cell? ⟨w.heap.size + 1, 3, none⟩ = some (.int .u32 X.d) := hS.cell 3
          have c4 : wr.cell? ⟨w.heap.size + 1, 4, none⟩ = some (.int .u32 X.e) := hS.cell 4
          have c5 : wr.cell? ⟨w.heap.size + 1, 5, none⟩ = some (.int .u32 X.f) := hS.cell 5
          have c6 : wr.cell? ⟨w.heap.size + 1, 6, none⟩ = some (.int .u32 X.g) := hS.cell 6
          have c7 : wr.cell? ⟨w.heap.size + 1, 7, none⟩ = some (.int .u32 X.h) := hS.cell 7
          go_wp2_with fail
          clear c0 c1 c2 c3 c4 c5 c6 c7 hS
          go_loopw [54] (fun i wr => ∃ k : Nat, k ≤ 8 ∧ i = .int .i64 k ∧ Blk wr w.heap.size 23 (digCells X k) ∧ Below w.heap.size w wr) (fun i _ => 8 - (intOf i).toNat)
          case atStart => exact ⟨0, by omega, rfl, hD, hB⟩
          case round =>
            clear hD hB
            obtain ⟨k, hk, rfl, hD, hB⟩ := hrel
            by_cases hlt : k < 8
            · have hidx := fun W => idx8 X k hlt W
              have hsl := fun W => slice_dig W w.heap.size k hlt
              obtain ⟨x0, x1⟩ := hXf k hlt
              generalize hxk : X.nth k = xk at hidx x0 x1
              have HXK := Lib.hid hxk
              clear hxk
              have z0 : 0 ≤ (k : Int) := by omega
              have zk : (k : Int) < 8 := by omega
              go_wp2_with fail
              refine (put_any w.heap.size (4 * k) 4 _ 23 (digCells X k) _ _ hD (by omega) (by rw [digCells_size]; omega)).mono ?_
              rintro e w2 ⟨rfl, hD', hO⟩
              have hB' := hB.trans (hO.toBelow hB.size (Nat.le_refl _))
              clear hidx hsl hD hB
              go_wp2_with fail
              go_roundw
              case rel => exact ⟨k + 1, by omega, by go_num, by rw [digCells, HXK.out]; exact hD', hB'⟩
              case measure => simp [intOf]; omega
            · obtain rfl : k = 8 := by omega
              have hsz : (Tryd.prog.info? 23).map (·.size) = some (digCells X 8).size := by rw [digCells_size]; exact Tryd.size23
              have hone : (digCells X 8).all (·.oneCell') = true := digCells_one X
              go_wp2_with (first | (refine wpList_load_row rfl 23 _ rfl w.heap.size rfl 23 (digCells X 8) (0, 0) _ hD Tryd.underlying23 rfl hsz ?_) | (refine wpList_store_row rfl 23 _ _ rfl w.heap.size (digCells X 8) rfl rfl 23 (digCells X 8) hD hsz rfl hone ?_))
              have hD2 : Blk (wr.setRow w.heap.size (digCells X 8)) w.heap.size 23 (digCells X 8) := setRow_heap wr _ _ _ _ _ hD
              refine bodyPost_ret (results_cell_row rfl _ _ w.heap.size 23 (digCells X 8) (0, 0) _ rfl hD2 Tryd.underlying23 rfl hsz) rfl ?_
              rw [← HX.out]
              exact ⟨⟨_, rfl, digCells_size _ _, fun i hi => digCells_get X 8 (Nat.le_refl _) i (by omega)⟩, below_setRow hB (Nat.le_refl _) _⟩
      · have HQ := Lib.hid (show 1 = (r + 8) / 64 + 1 by omega)
        go_wp2_with fail
        refine (put_any wo.heap.size 56 8 _ 5 (E0.setIfInBounds r (.int .u8 128)) _ _ (Blk.new _ _ _) (Nat.le_refl _) (by rw [Array.size_setIfInBounds, HS.out]; omega)).mono ?_
        rintro e w1 ⟨rfl, hE, hO⟩
        have hE1 : Blk w1 wo.heap.size 5 (endCells f n j r 1) := by rw [endCells, ← HE.out]; exact hE
        have hS1 := (hS.alloc (.cells (E0.setIfInBounds r (.int .u8 128)) 5)).grown hO (by simp; omega)
        have hD1 := (hD.alloc (.cells (E0.setIfInBounds r (.int .u8 128)) 5)).grown hO (by simp; omega)
        have hB1 : Below w.heap.size w w1 := (hB.alloc hB.size _).trans (hO.toBelow (by simp; omega) hB.size)
        clear hcopy hE hO hmk hE0c hS hD hB hR
        go_wp2_with fail
        go_loopw [6] (fun v wr => ∃ i o : Nat, i ≤ 1 ∧ v = .slice (some ⟨wo.heap.size, o, none⟩) (64 * (1 - i)) (128 - 64 * i) ∧ (i < 1 → o = 64 * i) ∧ Blk wr wo.heap.size 5 (endCells f n j r 1) ∧ Blk wr (w.heap.size + 1) 140 (shaTo F (j + i)).cells ∧ Blk wr w.heap.size 23 (Array.replicate 32 (.int .u8 0)) ∧ Below w.heap.size w wr)
          (fun v _ => match v with | .slice _ l _ => l | _ => 0)
        case atStart => exact ⟨0, 0, by omega, rfl, fun _ => rfl, hE1, hS1, hD1, hB1⟩
        case round =>
          clear hE1 hS1 hD1 hB1
          obtain ⟨i, o, hi, rfl, ho, hE, hS, hD, hB⟩ := hrel
          have hcell : ∀ i, i < 1 → ∀ k, k < 64 → wr.cell? ⟨wo.heap.size, 64 * i + k, none⟩ = some (.int .u8 (F (64 * (j + i) + k))) := by
            intro i hi k hk
            rw [hE.cell, HF.out, endCells_get f n j r 1 HN.out hr64 HQ.out _ (by omega), show 64 * (j + i) + k = 64 * j + (64 * i + k) from by omega]
          by_cases hi0 : i = 0
          · subst hi0
            obtain rfl := ho (by omega)
            have HC := Lib.hid (hcell 0 (by omega))
            clear hcell ho
            simp only [Nat.reduceMul, Nat.mul_zero, Nat.sub_zero]
            go_wp2_with fail
            refine (absorb_any (w.heap.size + 1) wo.heap.size 0 _ _ (shaTo F (j + 0)) (fun k => F (64 * (j + 0) + k)) _ hS (by omega) (by omega) (by omega) HC.out (fun t ht => (hL.below hB).nums t ht)).mono ?_
            rintro e w2 ⟨rfl, hS', hO⟩
            have hE' := hE.grown hO (by simp; omega)
            have hD' := hD.grown hO (by simp)
            have hB' : Below w.heap.size w w2 := hB.trans (hO.toBelow hB.size (Nat.le_succ _))
            clear hE hS hD hB
            go_wp2_with fail
            go_roundw
            case rel => exact ⟨1, 64, by omega, rfl, fun h => by omega, hE', hS', hD', hB'⟩
            case measure => simp
          have hiq : i = 1 := by omega
          subst hiq
          clear hcell ho hi0
          simp only [Nat.reduceMul, Nat.reduceSub, Nat.mul_zero, Nat.sub_self]
          have hend : shaTo F (j + 1) = shaEnd f n := by rw [shaEnd, HF.out, show (n + 8) / 64 + 1 = j + 1 from by have := HQ.out; have := HN.out; omega]
          rw [hend] at hS
          clear hend
          obtain ⟨X, hX⟩ : ∃ X, X = shaEnd f n := ⟨_, rfl⟩
          have hXf : X.Fits := by rw [hX]; exact shaEnd_fits f n
          rw [← hX] at hS
          have HX := Lib.hid hX
          clear hX
          have c0 : wr.cell? ⟨w.heap.size + 1, 0, none⟩ = some (.int .u32 X.a) := hS.cell 0
          have c1 : wr.cell? ⟨w.heap.size + 1, 1, none⟩ = some (.int .u32 X.b) := hS.cell 1
          have c2 : wr.cell? ⟨w.heap.size + 1, 2, none⟩ = some (.int .u32 X.c) := hS.cell 2
          have c3 : wr.cell? ⟨w.heap.size + 1, 3, none⟩ = some (.int .u32 X.d) := hS.cell 3
          have c4 : wr.cell? ⟨w.heap.size + 1, 4, none⟩ = some (.int .u32 X.e) := hS.cell 4
          have c5 : wr.cell? ⟨w.heap.size + 1, 5, none⟩ = some (.int .u32 X.f) := hS.cell 5
          have c6 : wr.cell? ⟨w.heap.size + 1, 6, none⟩ = some (.int .u32 X.g) := hS.cell 6
          have c7 : wr.cell? ⟨w.heap.size + 1, 7, none⟩ = some (.int .u32 X.h) := hS.cell 7
          go_wp2_with fail
          clear c0 c1 c2 c3 c4 c5 c6 c7 hS
          go_loopw [54] (fun i wr => ∃ k : Nat, k ≤ 8 ∧ i = .int .i64 k ∧ Blk wr w.heap.size 23 (digCells X k) ∧ Below w.heap.size w wr) (fun i _ => 8 - (intOf i).toNat)
          case atStart => exact ⟨0, by omega, rfl, hD, hB⟩
          case round =>
            clear hD hB
            obtain ⟨k, hk, rfl, hD, hB⟩ := hrel
            by_cases hlt : k < 8
            · have hidx := fun W => idx8 X k hlt W
              have hsl := fun W => slice_dig W w.heap.size k hlt
              obtain ⟨x0, x1⟩ := hXf k hlt
              generalize hxk : X.nth k = xk at hidx x0 x1
              have HXK := Lib.hid hxk
              clear hxk
              have z0 : 0 ≤ (k : Int) := by omega
              have zk : (k : Int) < 8 := by omega
              go_wp2_with fail
              refine (put_any w.heap.size (4 * k) 4 _ 23 (digCells X k) _ _ hD (by omega) (by rw [digCells_size]; omega)).mono ?_
              rintro e w2 ⟨rfl, hD', hO⟩
              have hB' := hB.trans (hO.toBelow hB.size (Nat.le_refl _))
              clear hidx hsl hD hB
              go_wp2_with fail
              go_roundw
              case rel => exact ⟨k + 1, by omega, by go_num, by rw [digCells, HXK.out]; exact hD', hB'⟩
              case measure => simp [intOf]; omega
            · obtain rfl : k = 8 := by omega
              have hsz : (Tryd.prog.info? 23).map (·.size) = some (digCells X 8).size := by rw [digCells_size]; exact Tryd.size23
              have hone : (digCells X 8).all (·.oneCell') = true := digCells_one X
              go_wp2_with (first | (refine wpList_load_row rfl 23 _ rfl w.heap.size rfl 23 (digCells X 8) (0, 0) _ hD Tryd.underlying23 rfl hsz ?_) | (refine wpList_store_row rfl 23 _ _ rfl w.heap.size (digCells X 8) rfl rfl 23 (digCells X 8) hD hsz rfl hone ?_))
              have hD2 : Blk (wr.setRow w.heap.size (digCells X 8)) w.heap.size 23 (digCells X 8) := setRow_heap wr _ _ _ _ _ hD
              refine bodyPost_ret (results_cell_row rfl _ _ w.heap.size 23 (digCells X 8) (0, 0) _ rfl hD2 Tryd.underlying23 rfl hsz) rfl ?_
              rw [← HX.out]
              exact ⟨⟨_, rfl, digCells_size _ _, fun i hi => digCells_get X 8 (Nat.le_refl _) i (by omega)⟩, below_setRow hB (Nat.le_refl _) _⟩
end Go.Proofs.YtibnikokgbfcdaaDoor

/- Walk: beacon.list. -/
import Derived.Test.YtibnikokgbfcdaaDoorSeq
namespace Go.Proofs.YtibnikokgbfcdaaDoor
open Go Go.RowKit

/-- What the parts of a list are: numbers, digests, values. -/
inductive Bt where
  | num (k : Nat)
  | dig (d : List UInt8)
  | val (x : V4)
def Bt.iface : Bt → Value
  | .num k => .iface 3 (.int .i64 k)
  | .dig d => .iface 23 (.agg (Go.Proofs.YtibnikokgbfcdaaDoor.dig d))
  | .val x => .iface 93 (.agg #[.int .i64 x.kind, x.n, x.s, x.l])
def Bt.v4 : Bt → V4
  | .num k => V4.int k
  | .dig d => V4.text ⟨d.toArray⟩
  | .val x => x
def Bt.ok : Bt → Prop
  | .num k => k ≤ 4611686018427387000
  | .dig d => d.length = 32
  | .val x => x.one
@[go_sem] theorem Tryd.noInt2 (v : Value) (w : World) : (Instr.typeAssert (.iface 93 v) 20 3 true).run Tryd.prog w = .ok (.tuple #[.int .i64 0, .bool false]) w := by kernel_rfl
@[go_sem] theorem Tryd.noDig2 (v : Value) (w : World) : (Instr.typeAssert (.iface 93 v) 20 23 true).run Tryd.prog w = .ok (.tuple #[zdig, .bool false]) w := by kernel_rfl
@[go_sem] theorem Tryd.asVal (v : Value) (w : World) : (Instr.typeAssert (.iface 93 v) 20 93 true).run Tryd.prog w = .ok (.tuple #[v, .bool true]) w := by kernel_rfl
def zv4 : Array Value := #[.int .i64 0, .int .i64 0, .string ⟨#[]⟩, .slice none 0 0]
/-- What the loop of beacon.list has laid after j parts. -/
def BRel (w : World) (l : List Bt) (m : Nat) (i : Value) (wr : World) : Prop :=
  ∃ (j : Nat) (v : Value), j ≤ m ∧ i = .int .i64 j ∧ Blk wr (w.heap.size + 1) 93 #[.int .i64 3, .int .i64 0, .string ⟨#[]⟩, v] ∧ Blk wr w.heap.size 93 zv4 ∧ VOwn wr (w.heap.size + 1 + 1) v ((l.take j).map Bt.v4) ∧ Below w.heap.size w wr
theorem BRel.step {w wr w' : World} {l : List Bt} {j : Nat} {v v' : Value} {x : Bt} (hx : l[j]? = some x) (hB : Below w.heap.size w wr) (hX : Blk wr (w.heap.size + 1) 93 #[.int .i64 3, .int .i64 0, .string ⟨#[]⟩, v]) (hZ : Blk wr w.heap.size 93 zv4) (hown : VOwn wr (w.heap.size + 1 + 1) v ((l.take j).map Bt.v4))
    (hg : Grew wr w' v v') (hO : VOwn w' (w.heap.size + 1 + 1) v' ((l.take j).map Bt.v4 ++ [x.v4])) (i : Value) (hi : i = .int .i64 (j + 1 : Nat)) (m : Nat) (hj : j + 1 ≤ m) :
    BRel w l m i (w'.setCell ⟨w.heap.size + 1, 3, none⟩ v') := by
  have hvk : some (w.heap.size + 1) ≠ v.ownBlock := fun e => by have := (World.ownsRow.lt hown _ e.symm).1; omega
  have hvz : some w.heap.size ≠ v.ownBlock := fun e => by have := (World.ownsRow.lt hown _ e.symm).1; omega
  have hvk' : some (w.heap.size + 1) ≠ v'.ownBlock := hg.ne hX.lt hvk
  have hb : Below w.heap.size w w' := hB.trans (hg.below hB.size fun k hk => by have := (World.ownsRow.lt hown _ hk).1; omega)
  refine ⟨j + 1, v', hj, hi, (hX.grown hg.1 hvk).set 3 v', (hZ.grown hg.1 hvz).far (p := ⟨w.heap.size + 1, 3, none⟩) (by show w.heap.size ≠ w.heap.size + 1; omega) _, ?_, hb.setCell (p := ⟨w.heap.size + 1, 3, none⟩) (Nat.le_succ _) _⟩
  have e : (l.take (j + 1)).map Bt.v4 = (l.take j).map Bt.v4 ++ [x.v4] := by rw [List.take_add_one, hx]; simp
  rw [e]
  exact ownsRow_setCell_below hO (Nat.lt_succ_self _) _
def ListPost (l : List V4) (n : Nat) (w : World) (e : Ending) (w' : World) : Prop :=
  ∃ A c, e = .returned (.agg #[.int .i64 3, .int .i64 0, .string ⟨#[]⟩, .slice A n c]) ∧ n ≤ c ∧ c ≤ 9223372036854775807 ∧ Elems w' w'.heap.size A l ∧ Below w.heap.size w w' ∧ ∀ b, A = some b → w.heap.size ≤ b.block

set_option maxRecDepth 100000 in
set_option maxHeartbeats 4000000 in
theorem blist_any (l : List Bt) (A : Option Addr) (c m : Nat) (hm : m = l.length) (w : World) (hR : Rd w w.heap.size A m (fun k => (l.getD k (.num 0)).iface)) (hn : m ≤ 1000) (hok : ∀ x ∈ l, x.ok) :
    Calls Tryd.prog 94 #[.slice A m c] w (ListPost (l.map Bt.v4) m w) := by
  have HM := Lib.hid hm
  have HOK := Lib.hid hok
  have HR := Lib.hid hR
  clear hm hok hR
  go_enter Tryd.func94, Tryd.ntmps94
  go_wp2_with fail
  go_loopw [12] (fun i wr => BRel w l m i wr) (fun i _ => m - (intOf i).toNat)
  case atStart =>
    have hx := Blk.new (w.alloc (.cells zv4 93)) 93 #[.int .i64 3, .int .i64 0, .string ⟨#[]⟩, .slice none 0 0]
    simp only [World.size_alloc] at hx
    exact ⟨0, .slice none 0 0, by omega, rfl, hx, (Blk.new w 93 zv4).alloc _, VOwn.nil _ _, ((Below.refl _ w).alloc (Nat.le_refl _) _).alloc (by simp) _⟩
  case round =>
    obtain ⟨j, v, hj, rfl, hX, hZ, hown, hB⟩ := hrel
    by_cases hlt : j < m
    · obtain ⟨x, hx⟩ : ∃ x, l[j]? = some x := ⟨_, List.getElem?_eq_getElem (by rw [← HM.out]; exact hlt)⟩
      obtain ⟨b, off, rfl, hbl, hcell⟩ := (HR.out.below hB).at_ (k := j) hlt
      have hxok := HOK.out x (List.mem_of_getElem? hx)
      rw [show l.getD j (Bt.num 0) = x by rw [List.getD_eq_getElem?_getD, hx]; rfl] at hcell
      have HS := Lib.hid (fun w' v' hg hO i hi => BRel.step (w' := w') (v' := v') hx hB hX hZ hown hg hO i hi m (by omega))
      have hvk : some (w.heap.size + 1) ≠ v.ownBlock := fun e => by have := (World.ownsRow.lt hown _ e.symm).1; omega
      have hsz := hB.size
      have hlen : ((l.take j).map Bt.v4).length ≤ 1000 := by rw [List.length_map, List.length_take]; omega
      have c3 : wr.cell? ⟨w.heap.size + 1, 3, none⟩ = some v := hX.cell 3
      have hlt0 := hX.lt
      clear hx hB hZ
      rcases x with k | d | x
      · have hcell' : wr.cell? ⟨b, off + j, none⟩ = some (.iface 3 (.int .i64 k)) := hcell
        clear hcell
        have hO1 := hown.alloc (.cells #[.int .i64 1, .int .i64 k, .string ⟨#[]⟩, .slice none 0 0] 93)
        have hX1 := hX.alloc (.cells #[.int .i64 1, .int .i64 k, .string ⟨#[]⟩, .slice none 0 0] 93)
        go_wp2_with (at_builtin; refine app_value rfl _ _ rfl (w.heap.size + 1 + 1) v _ rfl hO1 (V4.int k) ⟨rfl, rfl, rfl⟩ (Blk.new _ _ _) rfl (by omega) (by simp; omega) ?_; intro v2 w2 hown2 hg2; obtain ⟨A2, n2, cc2, rfl, -⟩ := hown2.shape; have hX2 := hX1.grown hg2.1 hvk; obtain ⟨_, e3⟩ := hX2.some_ (i := 3) (Nat.lt_succ_self 3); have f3 := hX2.frozen 3)
        go_roundw
        case rel => exact HS.out w2 _ hg2.alloc_first hown2 _ (by go_num)
        case measure => simp [intOf]; omega
      · have hcell' : wr.cell? ⟨b, off + j, none⟩ = some (.iface 23 (.agg (Go.Proofs.YtibnikokgbfcdaaDoor.dig d))) := hcell
        have hd : d.length = 32 := hxok
        clear hcell hxok
        have hD : Blk (wr.alloc (.cells (dig d) 23)) wr.heap.size 23 (dig d) := Blk.new _ _ _
        have hO1 := hown.alloc (.cells (dig d) 23)
        have hX1 := hX.alloc (.cells (dig d) 23)
        have hB1 : Below wr.heap.size wr (wr.alloc (.cells (dig d) 23)) := (Below.refl _ wr).alloc (Nat.le_refl _) _
        go_wp2_with (refine store_dig_new rfl _ _ rfl wr _ _ d hd rfl rfl rfl ?_)
        generalize wr.alloc (.cells (dig d) 23) = w1 at hD hO1 hX1 hB1 ⊢
        have hDR : RdB w1 w1.heap.size (some ⟨wr.heap.size, 0, none⟩) d := RdB.of_blk hD fun k hk => by rw [Nat.zero_add]; exact dig_get d k hk
        have d3 : w1.cell? ⟨w.heap.size + 1, 3, none⟩ = some v := hX1.cell 3
        have hsz1 := hB1.size
        have hcv : (convert 39 9 (.slice (some ⟨wr.heap.size, 0, none⟩) 32 32)).run Tryd.prog w1.drew = .ok (.string ⟨d.toArray⟩) w1.drew := by
          have := run_str (c := 32) hDR.drew
          rwa [hd] at this
        clear hD hDR
        have hlt1 := hX1.lt
        go_region_law (first
            | (refine step_value rfl _ _ rfl (w.heap.size + 1 + 1) _ v _ rfl (hO1.alloc _) (V4.text ⟨d.toArray⟩) ⟨rfl, rfl, rfl⟩ (Blk.new _ _ _) rfl (by omega) (by simp; omega) ?_; intro v2 w2 hown2 hg2; obtain ⟨A2, n2, cc2, rfl, -⟩ := hown2.shape; have hX2 := ((hX1.drew).alloc _).grown hg2.1 hvk; have hk3 : w2.cell? ⟨w.heap.size + 1, 3, none⟩ = some v := hX2.cell 3; have f3 := hX2.frozen 3))
        all_goals
          clear hcv
          go_wp2_with fail
          go_roundw
          case rel => exact HS.out w2 _ ((Grew.of_below (hB1.alloc hB1.size _).drew v).trans hg2) hown2 _ (by go_num)
          case measure => simp [intOf]; omega
      · obtain ⟨xk, xn, xs, xl⟩ := x
        have hcell' : wr.cell? ⟨b, off + j, none⟩ = some (.iface 93 (.agg #[.int .i64 xk, xn, xs, xl])) := hcell
        have hone : xn.oneCell' = true ∧ xs.oneCell' = true ∧ xl.oneCell' = true := hxok
        clear hcell hxok
        have HO := Lib.hid (one4 (xk : Int) xn xs xl hone.1 hone.2.1 hone.2.2)
        have HON := Lib.hid hone
        clear hone
        have hO1 := (hown.alloc (.cells #[.int .i64 xk, xn, xs, xl] 93)).alloc (.cells #[.int .i64 xk, xn, xs, xl] 93)
        have hX1 := (hX.alloc (.cells #[.int .i64 xk, xn, xs, xl] 93)).alloc (.cells #[.int .i64 xk, xn, xs, xl] 93)
        have hBN := Blk.new (wr.alloc (.cells #[.int .i64 xk, xn, xs, xl] 93)) 93 #[.int .i64 xk, xn, xs, xl]
        simp only [World.size_alloc] at hBN
        go_wp2_with (first
          | refine wpList_store_new rfl 93 _ _ rfl wr _ #[.int .i64 xk, xn, xs, xl] 93 rfl rfl valueSize rfl HO.out ?_
          | (at_builtin; refine app_value rfl _ _ rfl (w.heap.size + 1 + 1) v ((l.take j).map Bt.v4) rfl hO1 ⟨xk, xn, xs, xl⟩ HON.out hBN rfl (by omega) (by simp only [World.size_alloc]; omega) ?_; intro v2 w2 hown2 hg2; obtain ⟨A2, n2, cc2, rfl, -⟩ := hown2.shape; have hX2 := hX1.grown hg2.1 hvk; obtain ⟨_, e3⟩ := hX2.some_ (i := 3) (Nat.lt_succ_self 3); have f3 := hX2.frozen 3))
        go_roundw
        case rel => exact HS.out w2 _ (hg2.alloc_first.alloc_first) hown2 _ (by go_num)
        case measure => simp [intOf]; omega
    · have hjm : j = m := by omega
      obtain ⟨A2, n2, c2, rfl, hn2, hlc, hcc, hEl⟩ := hown.shape
      have HGE := Lib.hid (show ∀ b, A2 = some b → w.heap.size ≤ b.block from fun b e => by subst e; have := (World.ownsRow.lt hown b.block rfl).1; omega)
      have HNE := Lib.hid (show ∀ b, A2 = some b → b.block ≠ w.heap.size from fun b e => by subst e; have := (World.ownsRow.lt hown b.block rfl).1; omega)
      have hn2m : n2 = m := by rw [hn2, hjm, HM.out, List.take_length, List.length_map]
      have hE2 : Elems wr wr.heap.size A2 (l.map Bt.v4) := by
        have h3 := HM.out
        rw [hjm, h3, List.take_length] at hEl
        exact hEl
      subst hn2m
      have HE := Lib.hid hE2
      have hnj : ¬ (j < n2) := by omega
      clear hn2 hEl hown hE2 hjm hlt
      have e0 : wr.cell? ⟨w.heap.size + 1, 0, none⟩ = some (.int .i64 3) := hX.cell 0
      have e1 : wr.cell? ⟨w.heap.size + 1, 1, none⟩ = some (.int .i64 0) := hX.cell 1
      have e2 : wr.cell? ⟨w.heap.size + 1, 2, none⟩ = some (.string ⟨#[]⟩) := hX.cell 2
      have e3 : wr.cell? ⟨w.heap.size + 1, 3, none⟩ = some (.slice A2 n2 c2) := hX.cell 3
      have z0 : wr.cell? ⟨w.heap.size, 0, none⟩ = some (.int .i64 0) := hZ.cell 0
      have z1 : wr.cell? ⟨w.heap.size, 1, none⟩ = some (.int .i64 0) := hZ.cell 1
      have z2 : wr.cell? ⟨w.heap.size, 2, none⟩ = some (.string ⟨#[]⟩) := hZ.cell 2
      have z3 : wr.cell? ⟨w.heap.size, 3, none⟩ = some (.slice none 0 0) := hZ.cell 3
      have f0 := hZ.frozen 0
      have f1 := hZ.frozen 1
      have f2 := hZ.frozen 2
      have f3 := hZ.frozen 3
      have HXB := Lib.hid hB
      have hD6 := (((hZ.set 0 (.int .i64 3)).set 1 (.int .i64 0)).set 2 (.string ⟨#[]⟩)).set 3 (.slice A2 n2 c2)
      have HD6 := Lib.hid hD6
      clear hB hX hZ hD6
      go_wp2_with fail
      refine bodyPost_ret (results_cell_row rfl _ _ w.heap.size 93 _ (0, 0) _ rfl HD6.out Tryd.underlying93 rfl valueSize) rfl ?_
      refine ⟨A2, c2, rfl, hlc, hcc, ?_, (((HXB.out.setCell (p := ⟨w.heap.size, 0, none⟩) (Nat.le_refl _) _).setCell (p := ⟨w.heap.size, 1, none⟩) (Nat.le_refl _) _).setCell (p := ⟨w.heap.size, 2, none⟩) (Nat.le_refl _) _).setCell (p := ⟨w.heap.size, 3, none⟩) (Nat.le_refl _) _, HGE.out⟩
      have hE4 : ∀ (W : World) (k : Nat) (u : Value), Elems W W.heap.size A2 (l.map Bt.v4) → (∀ b, A2 = some b → b.block ≠ w.heap.size) → Elems (W.setCell ⟨w.heap.size, k, none⟩ u) (W.setCell ⟨w.heap.size, k, none⟩ u).heap.size A2 (l.map Bt.v4) := by
        intro W k u h hne hpos
        obtain ⟨b, off, rfl, hb, hc⟩ := h hpos
        have hbn : b ≠ w.heap.size := hne _ rfl
        have hk : ∀ q, (W.setCell ⟨w.heap.size, k, none⟩ u).cell? ⟨b, q, none⟩ = W.cell? ⟨b, q, none⟩ := fun q => World.cell?_setCell_other W _ _ _ (fun e => hbn (Addr.mk.inj e).1.symm)
        refine ⟨b, off, rfl, by simpa [World.setCell] using hb, fun i x hx => ?_⟩
        obtain ⟨h0, h1, h2, h3⟩ := hc i x hx
        exact ⟨(hk _).trans h0, (hk _).trans h1, (hk _).trans h2, (hk _).trans h3⟩
      have hne := HNE.out
      exact hE4 _ 3 _ (hE4 _ 2 _ (hE4 _ 1 _ (hE4 _ 0 _ HE.out hne) hne) hne) hne
end Go.Proofs.YtibnikokgbfcdaaDoor

/- Walk: draw.text. -/
import Derived.Test.YtibnikokgbfcdaaDoorVals
import Derived.Deep.RegionLaw
import Derived.Below
namespace Go.Proofs.YtibnikokgbfcdaaDoor
open Go Go.RowKit

/-- What the parts of a text are: numbers and digests. -/
inductive It where
  | num (k : Nat)
  | dig (d : List UInt8)
def It.iface : It → Value
  | .num k => .iface 3 (.int .i64 k)
  | .dig d => .iface 23 (.agg (Go.Proofs.YtibnikokgbfcdaaDoor.dig d))
def It.v4 : It → V4
  | .num k => V4.int k
  | .dig d => V4.text ⟨d.toArray⟩
def It.enc : It → List UInt8
  | .num k => intB k
  | .dig d => textB d
def It.ok : It → Prop
  | .num k => k ≤ 4611686018427387000
  | .dig d => d.length = 32
theorem It.v4_one (x : It) : x.v4.one := by cases x <;> exact ⟨rfl, rfl, rfl⟩
theorem It.enc_of (w : World) (x : It) (h : x.ok) : Enc w x.v4 0 x.enc := by
  cases x with
  | num k => exact enc_int w k h
  | dig d => exact enc_text w ⟨d.toArray⟩
def zdig : Value := .agg (dig (List.replicate 32 0))
@[go_sem] theorem Tryd.asInt (v : Value) (w : World) : (Instr.typeAssert (.iface 3 v) 20 3 true).run Tryd.prog w = .ok (.tuple #[v, .bool true]) w := by kernel_rfl
@[go_sem] theorem Tryd.noInt (v : Value) (w : World) : (Instr.typeAssert (.iface 23 v) 20 3 true).run Tryd.prog w = .ok (.tuple #[.int .i64 0, .bool false]) w := by kernel_rfl
@[go_sem] theorem Tryd.asDig (v : Value) (w : World) : (Instr.typeAssert (.iface 23 v) 20 23 true).run Tryd.prog w = .ok (.tuple #[v, .bool true]) w := by kernel_rfl

theorem VOwn.shape {w : World} {base : Nat} {v : Value} {l : List V4} (h : VOwn w base v l) : ∃ A n c, v = .slice A n c ∧ n = l.length ∧ n ≤ c ∧ c ≤ 9223372036854775807 ∧ Elems w w.heap.size A l := by
  obtain ⟨A, c, rfl, h1, h2, h3⟩ := h.elems
  exact ⟨A, _, c, rfl, rfl, h1, h2, h3⟩
/-- A whole encoding in a row of the call's own. -/
def BytesPost (e : List UInt8) (w : World) (en : Ending) (w' : World) : Prop := ∃ v, en = .returned v ∧ w'.ownsRow w.heap.size 5 1 v e.length (bcells e) ∧ Below w.heap.size w w'

/-- What the loop of draw.text has laid after j parts. -/
def DRel (w : World) (l : List It) (m : Nat) (i : Value) (wr : World) : Prop :=
  ∃ (j : Nat) (v : Value), j ≤ m ∧ i = .int .i64 j ∧ Blk wr w.heap.size 93 #[.int .i64 3, .int .i64 0, .string ⟨#[]⟩, v] ∧ VOwn wr (w.heap.size + 1) v ((l.take j).map It.v4) ∧ Below w.heap.size w wr
theorem DRel.step {w wr w' : World} {l : List It} {j : Nat} {v v' : Value} {x : It} (hx : l[j]? = some x) (hB : Below w.heap.size w wr) (hX : Blk wr w.heap.size 93 #[.int .i64 3, .int .i64 0, .string ⟨#[]⟩, v]) (hown : VOwn wr (w.heap.size + 1) v ((l.take j).map It.v4))
    (hg : Grew wr w' v v') (hO : VOwn w' (w.heap.size + 1) v' ((l.take j).map It.v4 ++ [x.v4])) (i : Value) (hi : i = .int .i64 (j + 1 : Nat)) (m : Nat) (hj : j + 1 ≤ m) :
    DRel w l m i (w'.setCell ⟨w.heap.size, 3, none⟩ v') := by
  have hvk : some w.heap.size ≠ v.ownBlock := fun e => by have := (World.ownsRow.lt hown _ e.symm).1; omega
  have hvk' : some w.heap.size ≠ v'.ownBlock := hg.ne hX.lt hvk
  have hb : Below w.heap.size w w' := hB.trans (hg.below hB.size fun k hk => by have := (World.ownsRow.lt hown _ hk).1; omega)
  refine ⟨j + 1, v', hj, hi, (hX.grown hg.1 hvk).set 3 v', ?_, hb.setCell (Nat.le_refl _) _⟩
  have e : (l.take (j + 1)).map It.v4 = (l.take j).map It.v4 ++ [x.v4] := by rw [List.take_add_one, hx]; simp
  rw [e]
  exact ownsRow_setCell_below hO (Nat.lt_succ_self _) _

set_option maxRecDepth 100000 in
set_option maxHeartbeats 2000000 in
theorem dtext_any (l : List It) (A : Option Addr) (c : Nat) (w : World) (hR : Rd w w.heap.size A l.length (fun k => (l.getD k (.num 0)).iface)) (hn : l.length ≤ 1000) (hok : ∀ x ∈ l, x.ok) (he : (listB (l.map It.enc)).length + 16 ≤ 140737488355328) :
    Calls Tryd.prog 109 #[.slice A l.length c] w (BytesPost (listB (l.map It.enc)) w) := by
  obtain ⟨m, hm⟩ : ∃ m, m = l.length := ⟨_, rfl⟩
  rw [← hm] at hn ⊢
  have HM := Lib.hid hm
  have HOK := Lib.hid hok
  have HE := Lib.hid he
  have HR := Lib.hid hR
  clear hm hok he hR
  go_enter Tryd.func109, Tryd.ntmps109
  go_wp2_with (refine wpList_store_new rfl 93 _ _ rfl w _ #[.int .i64 3, .int .i64 0, .string ⟨#[]⟩, .slice none 0 0] 93 rfl rfl valueSize rfl rfl ?_)
  go_wp2_with fail
  go_loopw [13] (fun i wr => DRel w l m i wr) (fun i _ => m - (intOf i).toNat)
  case atStart => exact ⟨0, .slice none 0 0, by omega, rfl, Blk.new _ _ _, VOwn.nil _ _, (Below.refl _ w).alloc (Nat.le_refl _) _⟩
  case round =>
    obtain ⟨j, v, hj, rfl, hX, hown, hB⟩ := hrel
    by_cases hlt : j < m
    · obtain ⟨x, hx⟩ : ∃ x, l[j]? = some x := ⟨_, List.getElem?_eq_getElem (by rw [← HM.out]; exact hlt)⟩
      obtain ⟨b, off, rfl, hbl, hcell⟩ := (HR.out.below hB).at_ (k := j) (by rw [← HM.out]; exact hlt)
      have hxok := HOK.out x (List.mem_of_getElem? hx)
      rw [show l.getD j (It.num 0) = x by rw [List.getD_eq_getElem?_getD, hx]; rfl] at hcell
      have HS := Lib.hid (fun w' v' hg hO i hi => DRel.step (w' := w') (v' := v') hx hB hX hown hg hO i hi m (by omega))
      have hvk : some w.heap.size ≠ v.ownBlock := fun e => by have := (World.ownsRow.lt hown _ e.symm).1; omega
      have hsz := hB.size
      have hlen : ((l.take j).map It.v4).length ≤ 1000 := by rw [List.length_map, List.length_take]; omega
      have c3 : wr.cell? ⟨w.heap.size, 3, none⟩ = some v := hX.cell 3
      have hlt0 := hX.lt
      clear hx hB
      rcases x with k | d
      · have hcell' : wr.cell? ⟨b, off + j, none⟩ = some (.iface 3 (.int .i64 k)) := hcell
        clear hcell
        have hO1 := hown.alloc (.cells #[.int .i64 1, .int .i64 k, .string ⟨#[]⟩, .slice none 0 0] 93)
        have hX1 := hX.alloc (.cells #[.int .i64 1, .int .i64 k, .string ⟨#[]⟩, .slice none 0 0] 93)
        go_wp2_with (at_builtin; refine app_value rfl _ _ rfl (w.heap.size + 1) v _ rfl hO1 (V4.int k) ⟨rfl, rfl, rfl⟩ (Blk.new _ _ _) rfl (by omega) (by simp; omega) ?_; intro v2 w2 hown2 hg2; obtain ⟨A2, n2, cc2, rfl, -⟩ := hown2.shape; have hX2 := hX1.grown hg2.1 hvk; obtain ⟨_, e3⟩ := hX2.some_ (i := 3) (Nat.lt_succ_self 3); have f3 := hX2.frozen 3)
        go_roundw
        case rel => exact HS.out w2 _ hg2.alloc_first hown2 _ (by go_num)
        case measure => simp [intOf]; omega
      · have hcell' : wr.cell? ⟨b, off + j, none⟩ = some (.iface 23 (.agg (Go.Proofs.YtibnikokgbfcdaaDoor.dig d))) := hcell
        have hd : d.length = 32 := hxok
        clear hcell hxok
        have hD : Blk (wr.alloc (.cells (dig d) 23)) wr.heap.size 23 (dig d) := Blk.new _ _ _
        have hO1 := hown.alloc (.cells (dig d) 23)
        have hX1 := hX.alloc (.cells (dig d) 23)
        have hB1 : Below wr.heap.size wr (wr.alloc (.cells (dig d) 23)) := (Below.refl _ wr).alloc (Nat.le_refl _) _
        go_wp2_with (refine store_dig_new rfl _ _ rfl wr _ _ d hd rfl rfl rfl ?_)
        generalize wr.alloc (.cells (dig d) 23) = w1 at hD hO1 hX1 hB1 ⊢
        have hDR : RdB w1 w1.heap.size (some ⟨wr.heap.size, 0, none⟩) d := RdB.of_blk hD fun k hk => by rw [Nat.zero_add]; exact dig_get d k hk
        have d3 : w1.cell? ⟨w.heap.size, 3, none⟩ = some v := hX1.cell 3
        have hsz1 := hB1.size
        have hcv : (convert 39 9 (.slice (some ⟨wr.heap.size, 0, none⟩) 32 32)).run Tryd.prog w1.drew = .ok (.string ⟨d.toArray⟩) w1.drew := by
          have := run_str (c := 32) hDR.drew
          rwa [hd] at this
        clear hD hDR
        have hlt1 := hX1.lt
        go_region_law (first
            | (refine step_value rfl _ _ rfl (w.heap.size + 1) _ v _ rfl (hO1.alloc _) (V4.text ⟨d.toArray⟩) ⟨rfl, rfl, rfl⟩ (Blk.new _ _ _) rfl (by omega) (by simp; omega) ?_; intro v2 w2 hown2 hg2; obtain ⟨A2, n2, cc2, rfl, -⟩ := hown2.shape; have hX2 := ((hX1.drew).alloc _).grown hg2.1 hvk; have hk3 : w2.cell? ⟨w.heap.size, 3, none⟩ = some v := hX2.cell 3; have f3 := hX2.frozen 3))
        all_goals
          clear hcv
          go_wp2_with fail
          go_roundw
          case rel => exact HS.out w2 _ ((Grew.of_below (hB1.alloc hB1.size _).drew v).trans hg2) hown2 _ (by go_num)
          case measure => simp [intOf]; omega
    · have hjm : j = m := by omega
      obtain ⟨A2, n2, c2, rfl, hn2, hlc, hcc, hEl⟩ := hown.shape
      have HN2 := Lib.hid hn2
      clear hn2
      have e0 : wr.cell? ⟨w.heap.size, 0, none⟩ = some (.int .i64 3) := hX.cell 0
      have e1 : wr.cell? ⟨w.heap.size, 1, none⟩ = some (.int .i64 0) := hX.cell 1
      have e2 : wr.cell? ⟨w.heap.size, 2, none⟩ = some (.string ⟨#[]⟩) := hX.cell 2
      have e3 : wr.cell? ⟨w.heap.size, 3, none⟩ = some (.slice A2 n2 c2) := hX.cell 3
      go_wp2_with fail
      refine (encode_ok ⟨3, .int .i64 0, .string ⟨#[]⟩, .slice A2 n2 c2⟩ 1 (listB (l.map It.enc)) wr ?_ (by omega) HE.out).mono ?_
      · have h2 := HN2.out
        have h3 := HM.out
        rw [hjm, h3, List.take_length, List.length_map] at h2
        rw [h2]
        have h4 := enc_list wr A2 (l.map It.v4) (l.map It.enc) c2 0 (by simp) (by rw [hjm, h3, List.take_length] at hEl; exact hEl) (by simp; omega) hcc (by simp; omega) (by omega) (fun i x e hx he => by
          rw [List.getElem?_map] at hx he
          obtain ⟨y, hy, rfl⟩ := Option.map_eq_some_iff.1 hx
          rw [hy] at he
          obtain rfl : y.enc = e := by simpa using he
          exact y.enc_of wr (HOK.out y (List.mem_of_getElem? hy)))
        rw [List.length_map] at h4
        exact h4
      · rintro e3 w3 ⟨v3, rfl, hown3, hb3⟩
        go_wp2_with fail
        go_ret
        exact ⟨v3, rfl, own_weaken hown3 hB.size, hB.trans (hb3.mono hB.size)⟩
end Go.Proofs.YtibnikokgbfcdaaDoor

/- Several texts in one: N32, N33, N34, N35, N36, N37. -/
import Derived.Test.YtkkcbkfpaoldmaaGreatDoorM13
import Derived.Test.YtkkcbkfpaoldmaaGreatDoorM01
import Derived.Test.YtkkcbkfpaoldmaaGreatDoorM10
import Derived.Test.YtkkcbkfpaoldmaaGreatDoorM02
import Derived.RangeFuncNested
import Derived.RangeFuncBound
import Derived.RangeFuncCalls
import Derived.RangeFuncLeaves
import Derived.Shelf.Abstract
import Derived.Shelf.RegionOpen
import Derived.OwnWalkIn
import Derived.TacticsInMore
import Derived.LoopNIn
import Derived.LoopIn
import Derived.Deep.Cut
import Derived.OwnWalk
import Derived.BigGuardPart
/- Walks: ratio.Mul, Cmp of valid ratios that are not negative. -/
namespace Go.Proofs.YtkkcbkfpaoldmaaGreatDoor
open Go Go.RowKit

set_option maxRecDepth 100000 in
set_option linter.unusedSimpArgs false in
set_option linter.unusedVariables false in
set_option maxHeartbeats 4000000 in
theorem qMul_ok (A1 A2 A3 A4 : Option Addr) (n1 c1 n2 c2 n3 c3 n4 c4 : Nat) (p1 q1 p2 q2 : List Int) (w : World) (ha : RatOk w w.heap.size A1 n1 c1 A2 n2 c2 p1 q1) (hb : RatOk w w.heap.size A3 n3 c3 A4 n4 c4 p2 q2) (hl1 : n1 + n3 ≤ 2048) (hl2 : n2 + n4 ≤ 2048) :
    Calls Tryz.prog 57 #[.agg (ratC A1 n1 c1 A2 n2 c2), .agg (ratC A3 n3 c3 A4 n4 c4)] w (RatRes (valL p1 * valL p2) (valL q1 * valL q2) w) := by
  have HV := Lib.hid (fun W g (hg : Blk W g 29 (ratC A1 n1 c1 A2 n2 c2 ++ ratC A3 n3 c3 A4 n4 c4)) (h : Below w.heap.size w W) => qvalid_two A1 A2 A3 A4 n1 c1 n2 c2 n3 c3 n4 c4 p1 q1 p2 q2 g W hg ((ha.below h).more h.size) ((hb.below h).more h.size))
  have HP := Lib.hid (fun W g (hg : Blk W g 27 #[.bool false, .slice A1 n1 c1, .bool false, .slice A3 n3 c3, .bool false, .slice A2 n2 c2, .bool false, .slice A4 n4 c4]) (h : Below w.heap.size w W) => qproducts_four A1 A3 A2 A4 n1 n3 n2 n4 c1 c3 c2 c4 p1 p2 q1 q2 g W hg ((ha.num.below h).more h.size) ((hb.num.below h).more h.size) ((ha.den.below h).more h.size) ((hb.den.below h).more h.size) hl1 hl2)
  have HPOS := Lib.hid (show 0 < valL q1 * valL q2 from Int.mul_pos (ha.den.pos ha.pos) (hb.den.pos hb.pos))
  obtain ⟨U, hU⟩ : ∃ x, x = valL p1 * valL p2 := ⟨_, rfl⟩
  obtain ⟨V, hV⟩ : ∃ x, x = valL q1 * valL q2 := ⟨_, rfl⟩
  rw [← hU] at HP ⊢
  rw [← hV] at HP HPOS ⊢
  clear ha hb hU hV hl1 hl2
  go_enter_defers Tryz.func57, Tryz.ntmps57
  go_wp2_with fail
  refine calls_gen (fun W => Blk W w.heap.size 29 (ratC A1 n1 c1 A2 n2 c2) ∧ Blk W (w.heap.size + 1) 29 (ratC A3 n3 c3 A4 n4 c4) ∧ Blk W (w.heap.size + 2) 29 (ratC none 0 0 none 0 0) ∧ Blk W (w.heap.size + 3) 32 #[.int .i64 0] ∧ Blk W (w.heap.size + 4) 29 (ratC A1 n1 c1 A2 n2 c2 ++ ratC A3 n3 c3 A4 n4 c4) ∧ Below w.heap.size w W)
    ⟨(((((Blk.new w _ _).alloc _).alloc _).alloc _).alloc _), ((((Blk.new' _ _ _ (by simp)).alloc _).alloc _).alloc _), (((Blk.new' _ _ _ (by simp)).alloc _).alloc _), ((Blk.new' _ _ _ (by simp)).alloc _), (Blk.new' _ _ _ (by simp)), ((((((Below.refl _ w).alloc (Nat.le_refl _) _).alloc (by simp) _).alloc (by simp; omega) _).alloc (by simp; omega) _).alloc (by simp; omega) _)⟩ (fun W0 ⟨b0, b1, b2, b3, b4, hB0⟩ => ?_)
  refine (HV.out W0 _ b4 hB0).mono ?_
  rintro e W1 ⟨rfl, hb1⟩
  have D0 := Lib.hid (b0.below hb1 b0.lt)
  have D1 := Lib.hid (b1.below hb1 b1.lt)
  have D2 := Lib.hid (b2.below hb1 b2.lt)
  have D3 := Lib.hid (b3.below hb1 b3.lt)
  have HB1 := Lib.hid (hB0.trans (hb1.mono hB0.size))
  clear b0 b1 b2 b3 b4 hB0 hb1 HV
  have k0 : W1.cell? ⟨w.heap.size, 0, none⟩ = some (.bool false) := D0.out.cell 0
  have j0 : W1.cell? ⟨w.heap.size + 1, 0, none⟩ = some (.bool false) := D1.out.cell 0
  have k1 : W1.cell? ⟨w.heap.size, 1, none⟩ = some (.slice A1 n1 c1) := D0.out.cell 1
  have j1 : W1.cell? ⟨w.heap.size + 1, 1, none⟩ = some (.slice A3 n3 c3) := D1.out.cell 1
  have k2 : W1.cell? ⟨w.heap.size, 2, none⟩ = some (.bool false) := D0.out.cell 2
  have j2 : W1.cell? ⟨w.heap.size + 1, 2, none⟩ = some (.bool false) := D1.out.cell 2
  have k3 : W1.cell? ⟨w.heap.size, 3, none⟩ = some (.slice A2 n2 c2) := D0.out.cell 3
  have j3 : W1.cell? ⟨w.heap.size + 1, 3, none⟩ = some (.slice A4 n4 c4) := D1.out.cell 3
  go_wp2_with fail
  refine (HP.out _ _ (Blk.new _ _ _) (HB1.out.alloc HB1.out.size _)).mono ?_
  rintro e W5 ⟨l, m, A, B, nl, nm, cl, cm, G, cap, rfl, hlv, hmv, hl, hm, ⟨x0, x1, x2, x3⟩, ⟨hG1, hG2⟩, hb5⟩
  have hb15 : Below W1.heap.size W1 W5 := ((Below.refl _ W1).alloc (Nat.le_refl _) _).trans (hb5.mono (by simp))
  have E2 := Lib.hid (D2.out.below hb15 D2.out.lt)
  have E3 := Lib.hid (D3.out.below hb15 D3.out.lt)
  have HB5 := Lib.hid (HB1.out.trans (hb15.mono HB1.out.size))
  have HL := Lib.hid hl
  have HM := Lib.hid hm
  have HLV := Lib.hid hlv
  have HMV := Lib.hid hmv
  have HX := Lib.hid (⟨x0, x1, x2, x3⟩ : W5.cell? ⟨G, 0, none⟩ = some (.bool false) ∧ W5.cell? ⟨G, 1, none⟩ = some (.slice A nl cl) ∧ W5.cell? ⟨G, 2, none⟩ = some (.bool false) ∧ W5.cell? ⟨G, 3, none⟩ = some (.slice B nm cm))
  have hGw : w.heap.size + 3 < G := by
    have h1 := D3.out.lt
    simp at hG1
    omega
  clear k0 k1 k2 k3 j0 j1 j2 j3 hb5 hb15 hl hm hlv hmv x0 x1 x2 x3 hG1 D0 D1 D2 D3 HB1 HP
  go_wp2_with fail
  refine wp_only ?_
  refine wp_region_held_drew (S := fun W' => W'.cell? ⟨G, 0, none⟩ = some (.bool false) ∧ W'.cell? ⟨G, 1, none⟩ = some (.slice A nl cl) ∧ W'.cell? ⟨G, 2, none⟩ = some (.bool false) ∧ W'.cell? ⟨G, 3, none⟩ = some (.slice B nm cm)) (by kernel_rfl) HX.out (fun hS => ?_)
  have hbd : Below W5.heap.size W5 W5.drew := (Below.refl _ _).drew
  refine wpAnyH_take (i := 0) (v := .slice (some ⟨G, 0, none⟩) 2 cap) rfl (by kernel_rfl) (by kernel_rfl) (by kernel_rfl) (fun _ _ _ h => h) (Or.inl ⟨by rfl, fun W' hS' => by go_simp⟩) hS ?_
  simp only [Act.put, List.getElem_toArray, List.getElem_cons_zero, List.getElem_cons_succ, List.setIfInBounds_toArray, List.set_cons_zero, List.set_cons_succ]
  refine wpAnyH_take (i := 1) (v := .pointer (some ⟨G, 0, none⟩)) rfl (by kernel_rfl) (by kernel_rfl) (by kernel_rfl) (fun _ _ _ h => h) (Or.inl ⟨by rfl, fun W' hS' => by go_simp⟩) hS ?_
  simp only [Act.put, List.getElem_toArray, List.getElem_cons_zero, List.getElem_cons_succ, List.setIfInBounds_toArray, List.set_cons_zero, List.set_cons_succ]
  refine wpAnyH_take (i := 2) (v := .agg #[.bool false, .slice A nl cl]) rfl (by kernel_rfl) (by kernel_rfl) (by kernel_rfl) (fun _ _ _ h => h) (Or.inl ⟨by rfl, fun W' hS' => by obtain ⟨q0, q1, q2, q3⟩ := hS'; go_simp⟩) hS ?_
  simp only [Act.put, List.getElem_toArray, List.getElem_cons_zero, List.getElem_cons_succ, List.setIfInBounds_toArray, List.set_cons_zero, List.set_cons_succ]
  refine wpAnyH_take (i := 3) (v := .slice (some ⟨G, 0, none⟩) 2 cap) rfl (by kernel_rfl) (by kernel_rfl) (by kernel_rfl) (fun _ _ _ h => h) (Or.inl ⟨by rfl, fun W' hS' => by go_simp⟩) hS ?_
  simp only [Act.put, List.getElem_toArray, List.getElem_cons_zero, List.getElem_cons_succ, List.setIfInBounds_toArray, List.set_cons_zero, List.set_cons_succ]
  refine wpAnyH_take (i := 4) (v := .pointer (some ⟨G, 2, none⟩)) rfl (by kernel_rfl) (by kernel_rfl) (by kernel_rfl) (fun _ _ _ h => h) (Or.inl ⟨by rfl, fun W' hS' => by go_simp⟩) hS ?_
  simp only [Act.put, List.getElem_toArray, List.getElem_cons_zero, List.getElem_cons_succ, List.setIfInBounds_toArray, List.set_cons_zero, List.set_cons_succ]
  refine wpAnyH_take (i := 5) (v := .agg #[.bool false, .slice B nm cm]) rfl (by kernel_rfl) (by kernel_rfl) (by kernel_rfl) (fun _ _ _ h => h) (Or.inl ⟨by rfl, fun W' hS' => by obtain ⟨q0, q1, q2, q3⟩ := hS'; go_simp⟩) hS ?_
  simp only [Act.put, List.getElem_toArray, List.getElem_cons_zero, List.getElem_cons_succ, List.setIfInBounds_toArray, List.set_cons_zero, List.set_cons_succ]
  refine wpAnyH_take (i := 6) (v := .agg #[.bool false, .slice A nl cl, .bool false, .slice B nm cm]) rfl (by kernel_rfl) (by kernel_rfl) (by kernel_rfl) (fun _ _ _ h => h) (Or.inl ⟨by rfl, fun W' hS' => by go_simp⟩) hS ?_
  simp only [Act.put, List.getElem_toArray, List.getElem_cons_zero, List.getElem_cons_succ, List.setIfInBounds_toArray, List.set_cons_zero, List.set_cons_succ]
  refine wpAnyH_take (i := 7) (v := .agg #[.bool false, .slice A nl cl, .bool false, .slice B nm cm]) rfl (by kernel_rfl) (by kernel_rfl) (by kernel_rfl) (fun _ _ _ h => h) (Or.inl ⟨by rfl, fun W' hS' => by go_simp⟩) hS ?_
  simp only [Act.put, List.getElem_toArray, List.getElem_cons_zero, List.getElem_cons_succ, List.setIfInBounds_toArray, List.set_cons_zero, List.set_cons_succ]
  have hnm : 0 < nm := by
    rcases Nat.eq_zero_or_pos nm with h | h
    · have h1 := HM.out.zero.2 h
      rw [HMV.out] at h1
      have := HPOS.out
      omega
    · exact h
  have HLO := Lib.hid (lowest_ok A B nl cl nm cm l m W5.drew ((HL.out.below hbd).more hbd.size) ((HM.out.below hbd).more hbd.size) hnm)
  rw [HLV.out, HMV.out] at HLO
  refine wpAnyH_ready (rs := [8]) (by kernel_rfl) (by simp) ?_
  refine AllReadyH.cons rfl (fun Kq hKq => ?_) AllReadyH.nil
  simp only [List.getElem_toArray, List.getElem_cons_zero, List.getElem_cons_succ]
  go_simp
  refine HLO.out.mono ?_
  rintro e W6 ⟨v, rfl, p, q, Ap, Aq, np, cp, nq, cq, rfl, hr, hpv, hqv, hfp, hfq, hb6⟩
  have hb56 := hbd.trans (hb6.mono hbd.size)
  have f2 := E2.out.below hb56 E2.out.lt
  have F3 := Lib.hid (E3.out.below hb56 E3.out.lt)
  have HB6 := Lib.hid (HB5.out.trans (hb56.mono HB5.out.size))
  have hS6 : W6.cell? ⟨G, 0, none⟩ = some (.bool false) ∧ W6.cell? ⟨G, 1, none⟩ = some (.slice A nl cl) ∧ W6.cell? ⟨G, 2, none⟩ = some (.bool false) ∧ W6.cell? ⟨G, 3, none⟩ = some (.slice B nm cm) :=
    ⟨(hb56.cell (p := ⟨G, 0, none⟩) hG2).trans HX.out.1, (hb56.cell (p := ⟨G, 1, none⟩) hG2).trans HX.out.2.1, (hb56.cell (p := ⟨G, 2, none⟩) hG2).trans HX.out.2.2.1, (hb56.cell (p := ⟨G, 3, none⟩) hG2).trans HX.out.2.2.2⟩
  have HFP := Lib.hid (fun b (e : Ap = some b) => Nat.le_trans (Nat.le_trans HB5.out.size hbd.size) (hfp b e))
  have HFQ := Lib.hid (fun b (e : Aq = some b) => Nat.le_trans (Nat.le_trans HB5.out.size hbd.size) (hfq b e))
  clear hfp hfq
  have HR := Lib.hid hr
  have HPV := Lib.hid hpv
  have HQV := Lib.hid hqv
  refine hKq.out _ _ hS6 (fun _ => ?_)
  clear hKq Kq hr hpv hqv hb6 hb56 HLO E2 E3
  refine wpAnyH_ready (rs := [9]) (by kernel_rfl) (by simp) ?_
  refine AllReadyH.cons rfl (fun Kq hKq => ?_) AllReadyH.nil
  simp only [List.getElem_toArray, List.getElem_cons_zero, List.getElem_cons_succ]
  rw [if_pos (by rfl)]
  refine wp_store_rat _ _ rfl f2 Ap Aq np cp nq cq rfl rfl rfl ?_
  intro w8 hD8 hO8 hz8
  have e3 : Blk w8 (w.heap.size + 3) 32 #[.int .i64 0] := (hO8.block _ F3.out.lt (fun e => by have := Option.some.inj e; omega)).trans F3.out
  have hcg : ∀ i u, W6.cell? ⟨G, i, none⟩ = some u → w8.cell? ⟨G, i, none⟩ = some u := fun i u h => World.grownBy.cell hO8 h (fun e => by have := Option.some.inj e; simp at this; omega)
  have hS8 : w8.cell? ⟨G, 0, none⟩ = some (.bool false) ∧ w8.cell? ⟨G, 1, none⟩ = some (.slice A nl cl) ∧ w8.cell? ⟨G, 2, none⟩ = some (.bool false) ∧ w8.cell? ⟨G, 3, none⟩ = some (.slice B nm cm) := ⟨hcg _ _ hS6.1, hcg _ _ hS6.2.1, hcg _ _ hS6.2.2.1, hcg _ _ hS6.2.2.2⟩
  refine hKq.out _ _ hS8 (fun _ => ?_)
  clear hKq Kq hcg
  have z3 : w8.cell? ⟨w.heap.size + 3, 0, none⟩ = some (.int .i64 0) := e3.cell 0
  have z3f := e3.frozen 0
  refine wpAnyH_ready (rs := [10]) (by kernel_rfl) (by simp) ?_
  refine AllReadyH.cons rfl (fun Kq hKq => ?_) AllReadyH.nil
  simp only [List.getElem_toArray, List.getElem_cons_zero, List.getElem_cons_succ]
  go_simp
  have hfar : ∀ i u, w8.cell? ⟨G, i, none⟩ = some u → (w8.setCell ⟨w.heap.size + 3, 0, none⟩ (.int .i64 0)).cell? ⟨G, i, none⟩ = some u := fun i u h => (World.cell?_setCell_other _ _ _ _ (fun e => by have := congrArg Addr.block e; simp at this; omega)).trans h
  refine hKq.out _ _ ⟨hfar _ _ hS8.1, hfar _ _ hS8.2.1, hfar _ _ hS8.2.2.1, hfar _ _ hS8.2.2.2⟩ (fun _ => ?_)
  clear hKq Kq hfar
  refine wpAnyH_done (by kernel_rfl) ?_ _
  simp only [onlyNormal]
  go_wp2_with fail
  refine leaves_cons (f := 47) (args := #[.pointer (some ⟨w.heap.size + 3, 0, none⟩)]) (by simp) (by simp [go_sem]) ?_
  refine (qcaught_idle ⟨w.heap.size + 3, 0, none⟩ _).mono ?_
  rintro e u' w'' ⟨rfl, rfl, rfl⟩
  have hD9 : Blk (w8.setCell ⟨w.heap.size + 3, 0, none⟩ (.int .i64 0)) (w.heap.size + 2) 29 (ratC Ap np cp Aq nq cq) := hD8.far (p := ⟨w.heap.size + 3, 0, none⟩) (by show w.heap.size + 2 ≠ w.heap.size + 3; omega) _
  have e9 : Blk (w8.setCell ⟨w.heap.size + 3, 0, none⟩ (.int .i64 0)) (w.heap.size + 3) 32 #[.int .i64 0] := e3.set 0 _
  have hB9 : Below w.heap.size w (w8.setCell ⟨w.heap.size + 3, 0, none⟩ (.int .i64 0)) := (HB6.out.trans (hO8.toBelow HB6.out.size (by omega))).setCell (p := ⟨w.heap.size + 3, 0, none⟩) (by show w.heap.size ≤ w.heap.size + 3; omega) _
  have hr9 : RatOk (w8.setCell ⟨w.heap.size + 3, 0, none⟩ (.int .i64 0)) (w8.setCell ⟨w.heap.size + 3, 0, none⟩ (.int .i64 0)).heap.size Ap np cp Aq nq cq p q := by
    have h1 := mrd_same ((mrd_only HR.out.num.rd f2 (rat_noint _ _ _ _ _ _ _ _) hO8).more hO8.size) e3
    have h2 := mrd_same ((mrd_only HR.out.den.rd f2 (rat_noint _ _ _ _ _ _ _ _) hO8).more hO8.size) e3
    exact HR.out.rdIn (by simpa using h1) (by simpa using h2)
  generalize w8.setCell ⟨w.heap.size + 3, 0, none⟩ (.int .i64 0) = W9 at hD9 e9 hB9 hr9 ⊢
  have c0 : W9.cell? ⟨w.heap.size + 1 + 1, 0, none⟩ = some (.bool false) := hD9.cell 0
  have c1 : W9.cell? ⟨w.heap.size + 1 + 1, 1, none⟩ = some (.slice Ap np cp) := hD9.cell 1
  have c2 : W9.cell? ⟨w.heap.size + 1 + 1, 2, none⟩ = some (.bool false) := hD9.cell 2
  have c3 : W9.cell? ⟨w.heap.size + 1 + 1, 3, none⟩ = some (.slice Aq nq cq) := hD9.cell 3
  have c4 : W9.cell? ⟨w.heap.size + 1 + 1 + 1, 0, none⟩ = some (.int .i64 0) := e9.cell 0
  simp only [Leaves, settle, results, Tryz.f57]
  simp [go_sem, c0, c1, c2, c3, c4, Result.andThen]
  exact ⟨_, rfl, p, q, Ap, Aq, np, cp, nq, cq, rfl, hr9, HPV.out, HQV.out, HFP.out, HFQ.out, hB9⟩
set_option maxRecDepth 100000 in
set_option linter.unusedSimpArgs false in
set_option linter.unusedVariables false in
set_option maxHeartbeats 4000000 in
theorem qCmp_ok (A1 A2 A3 A4 : Option Addr) (n1 c1 n2 c2 n3 c3 n4 c4 : Nat) (p1 q1 p2 q2 : List Int) (w : World) (ha : RatOk w w.heap.size A1 n1 c1 A2 n2 c2 p1 q1) (hb : RatOk w w.heap.size A3 n3 c3 A4 n4 c4 p2 q2) (hl1 : n1 + n4 ≤ 2048) (hl2 : n3 + n2 ≤ 2048) :
    Calls Tryz.prog 18 #[.agg (ratC A1 n1 c1 A2 n2 c2), .agg (ratC A3 n3 c3 A4 n4 c4)] w (Ret (.tuple #[.int .i64 (sgn (valL p1 * valL q2 - valL p2 * valL q1)), .int .i64 0]) w) := by
  have HV := Lib.hid (fun W g (hg : Blk W g 29 (ratC A1 n1 c1 A2 n2 c2 ++ ratC A3 n3 c3 A4 n4 c4)) (h : Below w.heap.size w W) => qvalid_two A1 A2 A3 A4 n1 c1 n2 c2 n3 c3 n4 c4 p1 q1 p2 q2 g W hg ((ha.below h).more h.size) ((hb.below h).more h.size))
  have HP := Lib.hid (fun W g (hg : Blk W g 27 #[.bool false, .slice A1 n1 c1, .bool false, .slice A4 n4 c4, .bool false, .slice A3 n3 c3, .bool false, .slice A2 n2 c2]) (h : Below w.heap.size w W) => qproducts_four A1 A4 A3 A2 n1 n4 n3 n2 c1 c4 c3 c2 p1 q2 p2 q1 g W hg ((ha.num.below h).more h.size) ((hb.den.below h).more h.size) ((hb.num.below h).more h.size) ((ha.den.below h).more h.size) hl1 hl2)
  obtain ⟨U, hU⟩ : ∃ x, x = valL p1 * valL q2 := ⟨_, rfl⟩
  obtain ⟨V, hV⟩ : ∃ x, x = valL p2 * valL q1 := ⟨_, rfl⟩
  rw [← hU] at HP ⊢
  rw [← hV] at HP ⊢
  clear ha hb hU hV hl1 hl2
  go_enter_defers Tryz.func18, Tryz.ntmps18
  go_wp2_with fail
  refine calls_gen (fun W => Blk W w.heap.size 29 (ratC A1 n1 c1 A2 n2 c2) ∧ Blk W (w.heap.size + 1) 29 (ratC A3 n3 c3 A4 n4 c4) ∧ Blk W (w.heap.size + 2) 32 #[.int .i64 0] ∧ Blk W (w.heap.size + 3) 29 (ratC A1 n1 c1 A2 n2 c2 ++ ratC A3 n3 c3 A4 n4 c4) ∧ Below w.heap.size w W)
    ⟨((((Blk.new w _ _).alloc _).alloc _).alloc _), (((Blk.new' _ _ _ (by simp)).alloc _).alloc _), ((Blk.new' _ _ _ (by simp)).alloc _), (Blk.new' _ _ _ (by simp)), (((((Below.refl _ w).alloc (Nat.le_refl _) _).alloc (by simp) _).alloc (by simp; omega) _).alloc (by simp; omega) _)⟩ (fun W0 ⟨b0, b1, b2, b3, hB0⟩ => ?_)
  refine (HV.out W0 _ b3 hB0).mono ?_
  rintro e W1 ⟨rfl, hb1⟩
  have D0 := Lib.hid (b0.below hb1 b0.lt)
  have D1 := Lib.hid (b1.below hb1 b1.lt)
  have D2 := Lib.hid (b2.below hb1 b2.lt)
  have HB1 := Lib.hid (hB0.trans (hb1.mono hB0.size))
  clear b0 b1 b2 b3 hB0 hb1 HV
  have k0 : W1.cell? ⟨w.heap.size, 0, none⟩ = some (.bool false) := D0.out.cell 0
  have j0 : W1.cell? ⟨w.heap.size + 1, 0, none⟩ = some (.bool false) := D1.out.cell 0
  have k1 : W1.cell? ⟨w.heap.size, 1, none⟩ = some (.slice A1 n1 c1) := D0.out.cell 1
  have j1 : W1.cell? ⟨w.heap.size + 1, 1, none⟩ = some (.slice A3 n3 c3) := D1.out.cell 1
  have k2 : W1.cell? ⟨w.heap.size, 2, none⟩ = some (.bool false) := D0.out.cell 2
  have j2 : W1.cell? ⟨w.heap.size + 1, 2, none⟩ = some (.bool false) := D1.out.cell 2
  have k3 : W1.cell? ⟨w.heap.size, 3, none⟩ = some (.slice A2 n2 c2) := D0.out.cell 3
  have j3 : W1.cell? ⟨w.heap.size + 1, 3, none⟩ = some (.slice A4 n4 c4) := D1.out.cell 3
  go_wp2_with fail
  refine (HP.out _ _ (Blk.new _ _ _) (HB1.out.alloc HB1.out.size _)).mono ?_
  rintro e W5 ⟨l, m, A, B, nl, nm, cl, cm, G, cap, rfl, hlv, hmv, hl, hm, ⟨x0, x1, x2, x3⟩, ⟨hG1, hG2⟩, hb5⟩
  have hb15 : Below W1.heap.size W1 W5 := ((Below.refl _ W1).alloc (Nat.le_refl _) _).trans (hb5.mono (by simp))
  have E2 := Lib.hid (D2.out.below hb15 D2.out.lt)
  have HB5 := Lib.hid (HB1.out.trans (hb15.mono HB1.out.size))
  have HL := Lib.hid hl
  have HM := Lib.hid hm
  have HLV := Lib.hid hlv
  have HMV := Lib.hid hmv
  have HX := Lib.hid (⟨x0, x1, x2, x3⟩ : W5.cell? ⟨G, 0, none⟩ = some (.bool false) ∧ W5.cell? ⟨G, 1, none⟩ = some (.slice A nl cl) ∧ W5.cell? ⟨G, 2, none⟩ = some (.bool false) ∧ W5.cell? ⟨G, 3, none⟩ = some (.slice B nm cm))
  have hGw : w.heap.size + 2 < G := by
    have h1 := D2.out.lt
    simp at hG1
    omega
  clear k0 k1 k2 k3 j0 j1 j2 j3 hb5 hb15 hl hm hlv hmv x0 x1 x2 x3 hG1 D0 D1 D2 HB1 HP
  go_wp2_with fail
  refine wp_only ?_
  refine wp_region_held_drew (S := fun W' => W'.cell? ⟨G, 0, none⟩ = some (.bool false) ∧ W'.cell? ⟨G, 1, none⟩ = some (.slice A nl cl) ∧ W'.cell? ⟨G, 2, none⟩ = some (.bool false) ∧ W'.cell? ⟨G, 3, none⟩ = some (.slice B nm cm)) (by kernel_rfl) HX.out (fun hS => ?_)
  have hbd : Below W5.heap.size W5 W5.drew := (Below.refl _ _).drew
  refine wpAnyH_take (i := 0) (v := .slice (some ⟨G, 0, none⟩) 2 cap) rfl (by kernel_rfl) (by kernel_rfl) (by kernel_rfl) (fun _ _ _ h => h) (Or.inl ⟨by rfl, fun W' hS' => by go_simp⟩) hS ?_
  simp only [Act.put, List.getElem_toArray, List.getElem_cons_zero, List.getElem_cons_succ, List.setIfInBounds_toArray, List.set_cons_zero, List.set_cons_succ]
  refine wpAnyH_take (i := 1) (v := .pointer (some ⟨G, 0, none⟩)) rfl (by kernel_rfl) (by kernel_rfl) (by kernel_rfl) (fun _ _ _ h => h) (Or.inl ⟨by rfl, fun W' hS' => by go_simp⟩) hS ?_
  simp only [Act.put, List.getElem_toArray, List.getElem_cons_zero, List.getElem_cons_succ, List.setIfInBounds_toArray, List.set_cons_zero, List.set_cons_succ]
  refine wpAnyH_take (i := 2) (v := .agg #[.bool false, .slice A nl cl]) rfl (by kernel_rfl) (by kernel_rfl) (by kernel_rfl) (fun _ _ _ h => h) (Or.inl ⟨by rfl, fun W' hS' => by obtain ⟨q0, q1, q2, q3⟩ := hS'; go_simp⟩) hS ?_
  simp only [Act.put, List.getElem_toArray, List.getElem_cons_zero, List.getElem_cons_succ, List.setIfInBounds_toArray, List.set_cons_zero, List.set_cons_succ]
  refine wpAnyH_take (i := 3) (v := .slice (some ⟨G, 0, none⟩) 2 cap) rfl (by kernel_rfl) (by kernel_rfl) (by kernel_rfl) (fun _ _ _ h => h) (Or.inl ⟨by rfl, fun W' hS' => by go_simp⟩) hS ?_
  simp only [Act.put, List.getElem_toArray, List.getElem_cons_zero, List.getElem_cons_succ, List.setIfInBounds_toArray, List.set_cons_zero, List.set_cons_succ]
  refine wpAnyH_take (i := 4) (v := .pointer (some ⟨G, 2, none⟩)) rfl (by kernel_rfl) (by kernel_rfl) (by kernel_rfl) (fun _ _ _ h => h) (Or.inl ⟨by rfl, fun W' hS' => by go_simp⟩) hS ?_
  simp only [Act.put, List.getElem_toArray, List.getElem_cons_zero, List.getElem_cons_succ, List.setIfInBounds_toArray, List.set_cons_zero, List.set_cons_succ]
  refine wpAnyH_take (i := 5) (v := .agg #[.bool false, .slice B nm cm]) rfl (by kernel_rfl) (by kernel_rfl) (by kernel_rfl) (fun _ _ _ h => h) (Or.inl ⟨by rfl, fun W' hS' => by obtain ⟨q0, q1, q2, q3⟩ := hS'; go_simp⟩) hS ?_
  simp only [Act.put, List.getElem_toArray, List.getElem_cons_zero, List.getElem_cons_succ, List.setIfInBounds_toArray, List.set_cons_zero, List.set_cons_succ]
  have HLO := Lib.hid (nCmp_ok A B nl cl nm cm l m W5.drew ((HL.out.below hbd).more hbd.size) ((HM.out.below hbd).more hbd.size))
  rw [HLV.out, HMV.out] at HLO
  obtain ⟨sg, hsg⟩ : ∃ x, x = sgn (U - V) := ⟨_, rfl⟩
  rw [← hsg] at HLO
  have HSG := Lib.hid hsg
  clear hsg
  refine wpAnyH_ready (rs := [6]) (by kernel_rfl) (by simp) ?_
  refine AllReadyH.cons rfl (fun Kq hKq => ?_) AllReadyH.nil
  simp only [List.getElem_toArray, List.getElem_cons_zero, List.getElem_cons_succ]
  go_simp
  refine HLO.out.mono ?_
  rintro e W6 ⟨rfl, hb6⟩
  have hb56 := hbd.trans (hb6.mono hbd.size)
  have F2 := Lib.hid (E2.out.below hb56 E2.out.lt)
  have HB6 := Lib.hid (HB5.out.trans (hb56.mono HB5.out.size))
  have hS6 : W6.cell? ⟨G, 0, none⟩ = some (.bool false) ∧ W6.cell? ⟨G, 1, none⟩ = some (.slice A nl cl) ∧ W6.cell? ⟨G, 2, none⟩ = some (.bool false) ∧ W6.cell? ⟨G, 3, none⟩ = some (.slice B nm cm) :=
    ⟨(hb56.cell (p := ⟨G, 0, none⟩) hG2).trans HX.out.1, (hb56.cell (p := ⟨G, 1, none⟩) hG2).trans HX.out.2.1, (hb56.cell (p := ⟨G, 2, none⟩) hG2).trans HX.out.2.2.1, (hb56.cell (p := ⟨G, 3, none⟩) hG2).trans HX.out.2.2.2⟩
  refine hKq.out _ _ hS6 (fun _ => ?_)
  clear hKq Kq hb56 HLO E2
  refine wpAnyH_take (i := 7) (v := .int .i64 sg) rfl (by kernel_rfl) (by kernel_rfl) (by kernel_rfl) (fun _ _ _ h => h) (Or.inl ⟨by rfl, fun W' hS' => by go_simp⟩) hS6 ?_
  simp only [Act.put, List.getElem_toArray, List.getElem_cons_zero, List.getElem_cons_succ, List.setIfInBounds_toArray, List.set_cons_zero, List.set_cons_succ]
  refine wpAnyH_take (i := 8) (v := .int .i64 0) rfl (by kernel_rfl) (by kernel_rfl) (by kernel_rfl) (fun _ _ _ h => h) (Or.inl ⟨by rfl, fun W' hS' => by go_simp⟩) hS6 ?_
  simp only [Act.put, List.getElem_toArray, List.getElem_cons_zero, List.getElem_cons_succ, List.setIfInBounds_toArray, List.set_cons_zero, List.set_cons_succ]
  refine wpAnyH_ready (rs := [9]) (by kernel_rfl) (by simp) ?_
  refine AllReadyH.cons rfl (fun Kq hKq => ?_) AllReadyH.nil
  simp only [List.getElem_toArray, List.getElem_cons_zero, List.getElem_cons_succ]
  go_simp
  refine (qdid_ok sg W6).mono ?_
  rintro e W7 ⟨rfl, hb7⟩
  have e2 := F2.out.below hb7 F2.out.lt
  have HB7 := Lib.hid (HB6.out.trans (hb7.mono HB6.out.size))
  have hz6 : G < W6.heap.size := Nat.lt_of_lt_of_le hG2 (Nat.le_trans hbd.size hb6.size)
  have hS7 : W7.cell? ⟨G, 0, none⟩ = some (.bool false) ∧ W7.cell? ⟨G, 1, none⟩ = some (.slice A nl cl) ∧ W7.cell? ⟨G, 2, none⟩ = some (.bool false) ∧ W7.cell? ⟨G, 3, none⟩ = some (.slice B nm cm) :=
    ⟨(hb7.cell (p := ⟨G, 0, none⟩) hz6).trans hS6.1, (hb7.cell (p := ⟨G, 1, none⟩) hz6).trans hS6.2.1, (hb7.cell (p := ⟨G, 2, none⟩) hz6).trans hS6.2.2.1, (hb7.cell (p := ⟨G, 3, none⟩) hz6).trans hS6.2.2.2⟩
  refine hKq.out _ _ hS7 (fun _ => ?_)
  clear hKq Kq hb7 hb6
  refine wpAnyH_take (i := 10) (v := .int .i64 sg) rfl (by kernel_rfl) (by kernel_rfl) (by kernel_rfl) (fun _ _ _ h => h) (Or.inl ⟨by rfl, fun W' hS' => by go_simp⟩) hS7 ?_
  simp only [Act.put, List.getElem_toArray, List.getElem_cons_zero, List.getElem_cons_succ, List.setIfInBounds_toArray, List.set_cons_zero, List.set_cons_succ]
  have z3 : W7.cell? ⟨w.heap.size + 2, 0, none⟩ = some (.int .i64 0) := e2.cell 0
  have z3f := e2.frozen 0
  refine wpAnyH_ready (rs := [11]) (by kernel_rfl) (by simp) ?_
  refine AllReadyH.cons rfl (fun Kq hKq => ?_) AllReadyH.nil
  simp only [List.getElem_toArray, List.getElem_cons_zero, List.getElem_cons_succ]
  go_simp
  have hfar : ∀ i u, W7.cell? ⟨G, i, none⟩ = some u → (W7.setCell ⟨w.heap.size + 2, 0, none⟩ (.int .i64 0)).cell? ⟨G, i, none⟩ = some u := fun i u h => (World.cell?_setCell_other _ _ _ _ (fun e => by have := congrArg Addr.block e; simp at this; omega)).trans h
  refine hKq.out _ _ ⟨hfar _ _ hS7.1, hfar _ _ hS7.2.1, hfar _ _ hS7.2.2.1, hfar _ _ hS7.2.2.2⟩ (fun _ => ?_)
  clear hKq Kq hfar
  refine wpAnyH_done (by kernel_rfl) ?_ _
  simp only [onlyNormal]
  go_wp2_with fail
  refine leaves_cons (f := 47) (args := #[.pointer (some ⟨w.heap.size + 2, 0, none⟩)]) (by simp) (by simp [go_sem]) ?_
  refine (qcaught_idle ⟨w.heap.size + 2, 0, none⟩ _).mono ?_
  rintro e u' w'' ⟨rfl, rfl, rfl⟩
  have e9 : Blk (W7.setCell ⟨w.heap.size + 2, 0, none⟩ (.int .i64 0)) (w.heap.size + 2) 32 #[.int .i64 0] := e2.set 0 _
  have hB9 : Below w.heap.size w (W7.setCell ⟨w.heap.size + 2, 0, none⟩ (.int .i64 0)) := HB7.out.setCell (p := ⟨w.heap.size + 2, 0, none⟩) (by show w.heap.size ≤ w.heap.size + 2; omega) _
  generalize W7.setCell ⟨w.heap.size + 2, 0, none⟩ (.int .i64 0) = W9 at e9 hB9 ⊢
  have c4 : W9.cell? ⟨w.heap.size + 1 + 1, 0, none⟩ = some (.int .i64 0) := e9.cell 0
  simp only [Leaves, settle, results, Tryz.f18]
  simp [go_sem, c4, Result.andThen]
  exact ⟨by rw [HSG.out], hB9⟩
end Go.Proofs.YtkkcbkfpaoldmaaGreatDoor

/- Walks: risk.whole, Need$1. -/
namespace Go.Proofs.YtkkcbkfpaoldmaaGreatDoor
open Go Go.RowKit

/-- A valid ratio of the call's own making, known by what holds of its numerator and its denominator. -/
def RatIs (f : Int → Int → Prop) (w : World) (v : Value) (w' : World) : Prop :=
  ∃ (p q : List Int) (A1 A2 : Option Addr) (n1 c1 n2 c2 : Nat), v = .agg (ratC A1 n1 c1 A2 n2 c2) ∧ RatOk w' w'.heap.size A1 n1 c1 A2 n2 c2 p q ∧ f (valL p) (valL q) ∧ (∀ b, A1 = some b → w.heap.size ≤ b.block) ∧ (∀ b, A2 = some b → w.heap.size ≤ b.block) ∧ Below w.heap.size w w'
def WholeRes (m : Nat) (w : World) (e : Ending) (w' : World) : Prop := ∃ v, e = .returned v ∧ RatIs (fun p q => p = m ∧ q = 1) w v w'
theorem low_whole (m : Nat) (p q : Int) (hp : p = (m : Int) / (Int.gcd (m : Int) ((1 : Nat) : Int) : Nat)) (hq : q = ((1 : Nat) : Int) / (Int.gcd (m : Int) ((1 : Nat) : Int) : Nat)) : p = m ∧ q = 1 := by
  have e : Int.gcd (m : Int) ((1 : Nat) : Int) = 1 := by
    show Nat.gcd _ _ = 1
    simp
  rw [e] at hp hq
  constructor
  · rw [hp]; simp
  · rw [hq]; simp
set_option maxRecDepth 100000 in
set_option linter.unusedSimpArgs false in
set_option linter.unusedVariables false in
set_option maxHeartbeats 4000000 in
theorem whole_ok (m : Nat) (hm : m < 1073741824) (w : World) : Calls Tryz.prog 22 #[.int .i64 m] w (WholeRes m w) := by
  have HM := Lib.hid (fun W => qMake_ok m 1 hm (by omega) (by omega) W)
  go_enter Tryz.func22, Tryz.ntmps22
  go_wp2_with fail
  refine calls_gen (fun W => Blk W w.heap.size 29 (ratC none 0 0 none 0 0) ∧ Below w.heap.size w W) ⟨Blk.new w _ _, (Below.refl _ w).alloc (Nat.le_refl _) _⟩ (fun W0 ⟨b0, hB0⟩ => ?_)
  refine (HM.out W0).mono ?_
  rintro e W1 ⟨v, rfl, p, q, Ap, Aq, np, cp, nq, cq, rfl, hr, hpv, hqv, hfp, hfq, hb1⟩
  obtain ⟨h1, h2⟩ := low_whole m _ _ hpv hqv
  have HPV := Lib.hid h1
  have HQV := Lib.hid h2
  have HFP := Lib.hid (fun b (e : Ap = some b) => Nat.le_trans hB0.size (hfp b e))
  have HFQ := Lib.hid (fun b (e : Aq = some b) => Nat.le_trans hB0.size (hfq b e))
  have HR := Lib.hid hr
  have d0 := b0.below hb1 b0.lt
  have HB1 := Lib.hid (hB0.trans (hb1.mono hB0.size))
  clear h1 h2 hfp hfq hr hpv hqv b0 hB0 hb1
  obtain ⟨W2, hW2⟩ : ∃ W, W = W1.alloc (.cells (ratC Ap np cp Aq nq cq) 29) := ⟨_, rfl⟩
  have hb12 : Below W1.heap.size W1 W2 := by rw [hW2]; exact (Below.refl _ _).alloc (Nat.le_refl _) _
  have hn2 : Blk W2 W1.heap.size 29 (ratC Ap np cp Aq nq cq) := by rw [hW2]; exact Blk.new _ _ _
  have d2 := d0.below hb12 d0.lt
  have k0 : W2.cell? ⟨W1.heap.size, 0, none⟩ = some (.bool false) := hn2.cell 0
  have k1 : W2.cell? ⟨W1.heap.size, 1, none⟩ = some (.slice Ap np cp) := hn2.cell 1
  have k2 : W2.cell? ⟨W1.heap.size, 2, none⟩ = some (.bool false) := hn2.cell 2
  have k3 : W2.cell? ⟨W1.heap.size, 3, none⟩ = some (.slice Aq nq cq) := hn2.cell 3
  have HB2 := Lib.hid (HB1.out.trans (hb12.mono HB1.out.size))
  have HR2 := Lib.hid ((HR.out.below hb12).more hb12.size)
  have HW := Lib.hid hW2
  clear hW2 hb12 hn2 d0
  go_upto_region 2 with fail
  rw [← HW.out]
  clear HW
  go_wp2_with (first
    | (refine store_rat rfl _ _ rfl d2 Ap Aq np cp nq cq rfl rfl rfl ?_; intro w8 hD8 hO8 hz8)
    | (refine wpList_skip (by rfl) ?_))
  refine bodyPost_ret (results_cell_row rfl _ _ w.heap.size 29 _ (0, 0) _ rfl hD8 Tryz.underlying29 rfl ratSize) rfl ?_
  have hr9 : RatOk w8 w8.heap.size Ap np cp Aq nq cq p q := by
    have h1 := (mrd_only HR2.out.num.rd d2 (rat_noint _ _ _ _ _ _ _ _) hO8).more hO8.size
    have h2 := (mrd_only HR2.out.den.rd d2 (rat_noint _ _ _ _ _ _ _ _) hO8).more hO8.size
    exact HR2.out.rdIn h1 h2
  exact ⟨_, rfl, p, q, Ap, Aq, np, cp, nq, cq, rfl, hr9, ⟨HPV.out, HQV.out⟩, HFP.out, HFQ.out, HB2.out.trans (hO8.toBelow HB2.out.size (Nat.le_refl _))⟩
set_option maxRecDepth 100000 in
set_option linter.unusedSimpArgs false in
set_option linter.unusedVariables false in
set_option maxHeartbeats 4000000 in
theorem need1_any (A1 A2 A3 A4 : Option Addr) (n1 c1 n2 c2 n3 c3 n4 c4 : Nat) (p q N D : List Int) (k : Int) (g : Nat) (w : World) (hg : Blk w g 29 (ratC A3 n3 c3 A4 n4 c4)) (hx : RatOk w w.heap.size A1 n1 c1 A2 n2 c2 p q) (hl : RatOk w w.heap.size A3 n3 c3 A4 n4 c4 N D) (hl1 : n1 + n4 ≤ 2048) (hl2 : n3 + n2 ≤ 2048) :
    Calls Tryz.prog 25 #[.int .i64 k, .agg (ratC A1 n1 c1 A2 n2 c2), .pointer (some ⟨g, 0, none⟩)] w (Ret (.bool (decide (sgn (valL p * valL D - valL N * valL q) ≤ 0))) w) := by
  have HC := Lib.hid (fun W (h : Below w.heap.size w W) => qCmp_ok A1 A2 A3 A4 n1 c1 n2 c2 n3 c3 n4 c4 p q N D W ((hx.below h).more h.size) ((hl.below h).more h.size) hl1 hl2)
  obtain ⟨sg, hsg⟩ : ∃ x, x = sgn (valL p * valL D - valL N * valL q) := ⟨_, rfl⟩
  rw [← hsg] at HC ⊢
  have HG := Lib.hid hg
  have hgz := hg.lt
  clear hsg hg hx hl
  go_enter Tryz.func25, Tryz.ntmps25
  obtain ⟨W2, hW2⟩ : ∃ W, W = w.alloc (.cells (ratC A1 n1 c1 A2 n2 c2) 29) := ⟨_, rfl⟩
  have hb2 : Below w.heap.size w W2 := by rw [hW2]; exact (Below.refl _ _).alloc (Nat.le_refl _) _
  have hn2 : Blk W2 w.heap.size 29 (ratC A1 n1 c1 A2 n2 c2) := by rw [hW2]; exact Blk.new _ _ _
  have hg2 := HG.out.below hb2 hgz
  have k0 : W2.cell? ⟨w.heap.size, 0, none⟩ = some (.bool false) := hn2.cell 0
  have k1 : W2.cell? ⟨w.heap.size, 1, none⟩ = some (.slice A1 n1 c1) := hn2.cell 1
  have k2 : W2.cell? ⟨w.heap.size, 2, none⟩ = some (.bool false) := hn2.cell 2
  have k3 : W2.cell? ⟨w.heap.size, 3, none⟩ = some (.slice A2 n2 c2) := hn2.cell 3
  have j0 : W2.cell? ⟨g, 0, none⟩ = some (.bool false) := hg2.cell 0
  have j1 : W2.cell? ⟨g, 1, none⟩ = some (.slice A3 n3 c3) := hg2.cell 1
  have j2 : W2.cell? ⟨g, 2, none⟩ = some (.bool false) := hg2.cell 2
  have j3 : W2.cell? ⟨g, 3, none⟩ = some (.slice A4 n4 c4) := hg2.cell 3
  have HW := Lib.hid hW2
  have HB2 := Lib.hid hb2
  clear hW2 hb2 hn2 hg2
  go_upto_region 1 with fail
  rw [← HW.out]
  clear HW
  go_wp2_with fail
  refine (HC.out W2 HB2.out).mono ?_
  rintro e W3 ⟨rfl, hb3⟩
  go_wp2_with fail
  go_ret
  exact ⟨rfl, HB2.out.trans (hb3.mono HB2.out.size)⟩
end Go.Proofs.YtkkcbkfpaoldmaaGreatDoor

/- Walk: the iterator of risk.chances. -/
namespace Go.Proofs.YtkkcbkfpaoldmaaGreatDoor
open Go Go.RowKit Go.Shelf
attribute [local go_sem] Oper.semAt_some

/-- A ratio as a value, and its digits. -/
structure RV where
  A1 : Option Addr
  A2 : Option Addr
  n1 : Nat
  c1 : Nat
  n2 : Nat
  c2 : Nat
  p : List Int
  q : List Int
def RV.v (x : RV) : Value := .agg (ratC x.A1 x.n1 x.c1 x.A2 x.n2 x.c2)
def RV.Ok (x : RV) (w : World) (B : Nat) : Prop := RatOk w B x.A1 x.n1 x.c1 x.A2 x.n2 x.c2 x.p x.q
def RV.Fresh (x : RV) (B : Nat) : Prop := (∀ b, x.A1 = some b → B ≤ b.block) ∧ (∀ b, x.A2 = some b → B ≤ b.block)
def chEnc (x : Nat × RV) : Array Value := #[.int .i64 x.1, x.2.v]
/-- What is handed out behind pre: the next number, and its chance. -/
def chV (N w B : Nat) (pre : List (Nat × RV)) (x : Nat × RV) (W : World) : Prop := x.1 = pre.length ∧ x.2.Ok W W.heap.size ∧ ChOk N w x.1 (valL x.2.p) (valL x.2.q) ∧ x.2.Fresh B
/-- Cells outside E lie as they lay. -/
def KeptX (E : Nat → Prop) (W W' : World) : Prop := W.heap.size ≤ W'.heap.size ∧ ∀ i o, W.heap[i]? = some o → o.isCells = true → ¬ E i → W'.heap[i]? = some o
theorem KeptX.refl (E : Nat → Prop) (W : World) : KeptX E W W := ⟨Nat.le_refl _, fun _ _ h _ _ => h⟩
theorem KeptX.trans {E : Nat → Prop} {X Y Z : World} (h : KeptX E X Y) (k : KeptX E Y Z) : KeptX E X Z := ⟨Nat.le_trans h.1 k.1, fun i o a b c => k.2 i o (h.2 i o a b c) b c⟩
theorem KeptX.of_below {E : Nat → Prop} {W W' : World} (h : Below W.heap.size W W') : KeptX E W W' := ⟨h.size, fun i _ a _ _ => (h.block i (Array.getElem?_eq_some_iff.1 a).1).trans a⟩
theorem KeptX.putObj {E : Nat → Prop} (W : World) (l : Nat) (o o' : Obj) (h : W.heap[l]? = some o) (ho : o.isCells = false) : KeptX E W (W.putObj l o') := ⟨by simp [World.putObj], fun i p a b _ => by
  rcases Nat.decEq i l with hne | rfl
  · exact (World.putObj_heap_other hne).trans a
  · rw [h] at a; cases a; rw [ho] at b; cases b⟩
theorem KeptX.blk {E : Nat → Prop} {W W' : World} {g : Nat} {t : TypeId} {cs : Array Value} (k : KeptX E W W') (h : Blk W g t cs) (he : ¬ E g) : Blk W' g t cs := k.2 _ _ h rfl he
theorem KeptX.mrd {E : Nat → Prop} {W W' : World} {B : Nat} {A : Option Addr} {l : List Int} (k : KeptX E W W') (h : MRd W B A l) (he : ∀ b, A = some b → ¬ E b.block) : MRd W' W'.heap.size A l := fun hl => by
  obtain ⟨b, off, e, hb, hc⟩ := h hl
  have hcell : ∀ j, j < l.length → W'.cell? ⟨b, off + j, none⟩ = some (.int .i64 (dg l j)) := fun j hj => by
    have h1 := hc j hj
    rw [World.cell?] at h1
    cases ho : W.heap[b]? with
    | none => simp [ho] at h1
    | some o =>
      cases o with
      | cells cs t fr =>
        have h2 := k.2 b _ ho rfl (he _ e)
        rw [World.cell?]
        simp only [h2]
        simp only [ho] at h1
        exact h1
      | _ => simp [ho] at h1
  refine ⟨b, off, e, ?_, hcell⟩
  have h3 := hcell 0 hl
  rw [World.cell?] at h3
  cases ho : W'.heap[b]? with
  | none => simp [ho] at h3
  | some o => exact (Array.getElem?_eq_some_iff.1 ho).1
theorem RV.Ok.kept {E : Nat → Prop} {x : RV} {W W' : World} {B C : Nat} (h : x.Ok W B) (k : KeptX E W W') (hf : x.Fresh C) (hE : ∀ i, E i → i < C) : x.Ok W' W'.heap.size :=
  RatOk.rdIn h (k.mrd h.num.rd fun b e he => by have := hf.1 b e; have := hE _ he; omega) (k.mrd h.den.rd fun b e he => by have := hf.2 b e; have := hE _ he; omega)
theorem len_small {w : World} {B : Nat} {neg : Bool} {A : Option Addr} {n c : Nat} {l : List Int} (h : BigOk w B neg A n c l) (hv : valL l < 1073741824) : n ≤ 1 := by
  rcases Nat.lt_or_ge 1 n with h1 | h1
  · obtain ⟨m, hm⟩ : ∃ m, l.length = m + 1 := ⟨l.length - 1, by have := h.len; omega⟩
    have h2 := valL_top h.dig h.trim hm
    have h3 : bp 1 ≤ bp m := bp_mono (by have := h.len; omega)
    have h4 : bp 1 = 1073741824 := by decide
    omega
  · exact h1
/-- Between two rounds: k chances have been handed out; x is the next one. -/
def ChRel (W : World) (N w g1 g2 gx : Nat) (t1 t2 : TypeId) (J : List (Nat × RV) → World → Prop) (i : Value) (wr : World) : Prop :=
  ∃ (k : Nat) (x : RV) (pre : List (Nat × RV)), k ≤ N + 1 ∧ i = .int .i64 k ∧ pre.length = k ∧ J pre wr ∧ (k ≤ N → x.Ok wr wr.heap.size ∧ ChOk N w k (valL x.p) (valL x.q) ∧ x.Fresh W.heap.size) ∧ Blk wr gx 29 (ratC x.A1 x.n1 x.c1 x.A2 x.n2 x.c2) ∧
    Blk wr g1 t1 #[.int .i64 N] ∧ Blk wr g2 t2 #[.int .i64 w] ∧ W.heap.size ≤ wr.heap.size
set_option maxRecDepth 100000 in
set_option linter.unusedSimpArgs false in
set_option linter.unusedVariables false in
set_option maxHeartbeats 8000000 in
theorem chances1_in (n l g1 g2 : Nat) (t1 t2 : TypeId) (N w B : Nat) (hN : N ≤ 5) (hw1 : 1 ≤ w) (hw : w ≤ N) (E : Nat → Prop) (J Jx : List (Nat × RV) → World → Prop) (W : World) (hE : ∀ i, E i → i < W.heap.size) (hE1 : ¬ E g1) (hE2 : ¬ E g2) (hBW : B ≤ W.heap.size)
    (hJ : ∀ s A B, J s A → Below W.heap.size A B → J s B)
    (hY : ∀ pre x W1, J pre W1 → chV N w B pre x W1 → pre.length < N + 1 → YieldAt Fence.wide (n - 1) Tryz.prog l (chEnc x) W1 fun e W' => (e = .returned (.bool true) ∧ J (pre ++ [x]) W' ∧ KeptX E W1 W') ∨ (e = .returned (.bool false) ∧ Jx (pre ++ [x]) W'))
    (h1 : Blk W g1 t1 #[.int .i64 N]) (h2 : Blk W g2 t2 #[.int .i64 w]) (h0 : J [] W) :
    Calls Tryz.prog 56 #[.func (.yield l) #[] #[], .pointer (some ⟨g1, 0, none⟩), .pointer (some ⟨g2, 0, none⟩)] W fun e W' => (∃ v, e = .returned v) ∧ ((∃ xs, xs.length = N + 1 ∧ J xs W') ∨ (∃ pre : List (Nat × RV), True ∧ Jx pre W')) := by
  have HY := Lib.hid hY
  have HJ := Lib.hid hJ
  have HE := Lib.hid hE
  have H1 := Lib.hid h1
  have H2 := Lib.hid h2
  have H0 := Lib.hid h0
  have HE1 := Lib.hid hE1
  have HE2 := Lib.hid hE2
  have hg1 := h1.lt
  have hg2 := h2.lt
  clear hY hJ hE h1 h2 h0 hE1 hE2
  go_enter Tryz.func56, Tryz.ntmps56
  go_wp2_with fail
  refine (whole_ok 1 (by omega) W).mono ?_
  rintro e W1 ⟨v, rfl, p, q, A1, A2, n1, c1, n2, c2, rfl, hr, ⟨hpv, hqv⟩, hfp, hfq, hb1⟩
  obtain ⟨W2, hW2⟩ : ∃ V, V = W1.alloc (.cells (ratC A1 n1 c1 A2 n2 c2) 29) := ⟨_, rfl⟩
  have hb12 : Below W1.heap.size W1 W2 := by rw [hW2]; exact (Below.refl _ _).alloc (Nat.le_refl _) _
  have hx2 : Blk W2 W1.heap.size 29 (ratC A1 n1 c1 A2 n2 c2) := by rw [hW2]; exact Blk.new _ _ _
  have hb2 : Below W.heap.size W W2 := hb1.trans (hb12.mono hb1.size)
  have HSTART := Lib.hid (show ChRel W N w g1 g2 W1.heap.size t1 t2 J (.int .i64 ((0 : Nat) : Int)) W2 from
    ⟨0, ⟨A1, A2, n1, c1, n2, c2, p, q⟩, [], by omega, rfl, rfl, HJ.out _ _ _ H0.out hb2, fun _ => ⟨(hr.below hb12).more hb12.size, by rw [hpv, hqv]; exact ChOk.start N w, hfp, hfq⟩, hx2, H1.out.below hb2 hg1, H2.out.below hb2 hg2, hb2.size⟩)
  have k1 : W2.cell? ⟨g1, 0, none⟩ = some (.int .i64 N) := (H1.out.below hb2 hg1).cell 0
  have HW := Lib.hid hW2
  obtain ⟨gx, hgx⟩ : ∃ x, x = W1.heap.size := ⟨_, rfl⟩
  rw [← hgx] at HSTART
  have hgxW : W.heap.size ≤ gx := by rw [hgx]; exact hb1.size
  have HGX := Lib.hid hgx
  obtain ⟨N1, hN1⟩ : ∃ x, x = N + 1 := ⟨_, rfl⟩
  have hN2 : (N : Int) + 1 = (N1 : Int) := by omega
  have HN1 := Lib.hid hN1
  clear hW2 hb12 hx2 hb2 hb1 hr hpv hqv hfp hfq hgx hN1 H0 H1 H2
  go_upto_region 1 with fail
  rw [← HW.out, ← HGX.out]
  clear HW HGX
  go_wp2_with fail
  clear k1
  go_loopw [11] (fun i wr => ChRel W N w g1 g2 gx t1 t2 J i wr) (fun i _ => N1 - (intOf i).toNat)
  case atStart => exact HSTART.out
  case round =>
    clear HSTART
    obtain ⟨k, x, pre, hk, rfl, hpl, hJp, hx, hgx, hb1, hb2, hz⟩ := hrel
    have HPL := Lib.hid hpl
    have HJP := Lib.hid hJp
    have HX := Lib.hid hx
    have HGX := Lib.hid hgx
    have HB1 := Lib.hid hb1
    have HB2 := Lib.hid hb2
    clear hpl hJp hx hgx hb1 hb2
    rcases Nat.lt_or_ge N k with hlt | hle
    · have g1' : decide ((k : Int) < (N1 : Int)) = false := decide_eq_false (by have := HN1.out; omega)
      have g1n : decide (k < N1) = false := decide_eq_false (by have := HN1.out; omega)
      go_wp2_with fail
      go_end0
      exact ⟨⟨_, rfl⟩, .inl ⟨pre, by have := HPL.out; omega, HJP.out⟩⟩
    · obtain ⟨hxok, hch, hfr⟩ := HX.out hle
      have g1' : decide ((k : Int) < (N1 : Int)) = true := decide_eq_true (by have := HN1.out; omega)
      have g1n : decide (k < N1) = true := decide_eq_true (by have := HN1.out; omega)
      obtain ⟨fn, tmps, assign, body, hy, hRo⟩ := HY.out pre (k, x) wr HJP.out ⟨HPL.out.symm, hxok, hch, fun b e => Nat.le_trans hBW (hfr.1 b e), fun b e => Nat.le_trans hBW (hfr.2 b e)⟩ (by have := HPL.out; omega)
      have hy' : (Instr.yield l #[.int .i64 (k : Int), .agg (ratC x.A1 x.n1 x.c1 x.A2 x.n2 x.c2)]).run Tryz.prog wr = .ok (.round l fn tmps assign body) wr := hy
      have k0 : wr.cell? ⟨gx, 0, none⟩ = some (.bool false) := HGX.out.cell 0
      have k1 : wr.cell? ⟨gx, 1, none⟩ = some (.slice x.A1 x.n1 x.c1) := HGX.out.cell 1
      have k2 : wr.cell? ⟨gx, 2, none⟩ = some (.bool false) := HGX.out.cell 2
      have k3 : wr.cell? ⟨gx, 3, none⟩ = some (.slice x.A2 x.n2 x.c2) := HGX.out.cell 3
      have HXOK := Lib.hid hxok
      have HCH := Lib.hid hch
      have HFR := Lib.hid hfr
      clear hy HX hxok hch hfr
      go_upto_region 4 with fail
      refine (wpIn_wide (n := n)).1 ?_
      gi_wp2
      refine ⟨fun h => (by cases h), hRo.mono ?_⟩
      rintro e5 W5 (⟨rfl, hJ5, hk5⟩ | ⟨rfl, hJx5⟩)
      · have hz5 : W.heap.size ≤ W5.heap.size := Nat.le_trans hz hk5.1
        have hEx : ¬ E gx := fun h => by have := HE.out _ h; omega
        have GX5 := Lib.hid (hk5.blk HGX.out hEx)
        have B15 := Lib.hid (hk5.blk HB1.out HE1.out)
        have B25 := Lib.hid (hk5.blk HB2.out HE2.out)
        have XOK5 := Lib.hid (RV.Ok.kept HXOK.out hk5 HFR.out HE.out)
        have HJ5 := Lib.hid hJ5
        have j1 : W5.cell? ⟨g1, 0, none⟩ = some (.int .i64 N) := B15.out.cell 0
        clear hk5 hJ5 k0 k1 k2 k3 HGX HB1 HB2 HXOK HJP hy' hEx
        rcases Nat.lt_or_ge k N with hkN | hkN
        · have g2' : decide ((k : Int) < (N : Int)) = true := decide_eq_true (by omega)
          have g2n : decide (k < N) = true := decide_eq_true hkN
          have j2 : W5.cell? ⟨g2, 0, none⟩ = some (.int .i64 w) := B25.out.cell 0
          obtain ⟨nw, hnw⟩ : ∃ y, y = N - w := ⟨_, rfl⟩
          obtain ⟨nk, hnk⟩ : ∃ y, y = N - k := ⟨_, rfl⟩
          obtain ⟨m, hm⟩ : ∃ y, y = N - w - k := ⟨_, rfl⟩
          obtain ⟨d, hd⟩ : ∃ y : Int, y = (nw : Int) - (k : Int) := ⟨_, rfl⟩
          have e1 : (N : Int) - (w : Int) = (nw : Int) := by omega
          have e2 : (N : Int) - (k : Int) = (nk : Int) := by omega
          have e3 : (nw : Int) - (k : Int) = d := hd.symm
          have hmax : max (0 : Int) d = (m : Int) := by omega
          have hdr : -5 ≤ d ∧ d ≤ 5 := by omega
          have HM := Lib.hid (qMake_ok m nk (by omega) (by omega) (by omega) W5)
          have HMM := Lib.hid hm
          have HNK := Lib.hid hnk
          have hm5 : m ≤ 5 := by omega
          have hnk5 : 0 < nk ∧ nk ≤ 5 := by omega
          clear hnw hnk hm hd
          gi_wp2
          go_wp2_with fail
          refine HM.out.mono ?_
          rintro e W6 ⟨v, rfl, fp, fq, B1, B2, m1, d1, m2, d2, rfl, hfr, hfpv, hfqv, hff1, hff2, hb6⟩
          have hlf := low_facts (show (0 : Int) ≤ (m : Int) by omega) (show (0 : Int) < (nk : Int) by omega) hfpv hfqv
          obtain ⟨W7, hW7⟩ : ∃ V, V = W6.alloc (.cells (ratC B1 m1 d1 B2 m2 d2) 29) := ⟨_, rfl⟩
          have hb67 : Below W6.heap.size W6 W7 := by rw [hW7]; exact (Below.refl _ _).alloc (Nat.le_refl _) _
          have hf7 : Blk W7 W6.heap.size 29 (ratC B1 m1 d1 B2 m2 d2) := by rw [hW7]; exact Blk.new _ _ _
          have hb57 := hb6.trans (hb67.mono hb6.size)
          have gx7 := GX5.out.below hb57 GX5.out.lt
          have k0 : W7.cell? ⟨gx, 0, none⟩ = some (.bool false) := gx7.cell 0
          have k1 : W7.cell? ⟨gx, 1, none⟩ = some (.slice x.A1 x.n1 x.c1) := gx7.cell 1
          have k2 : W7.cell? ⟨gx, 2, none⟩ = some (.bool false) := gx7.cell 2
          have k3 : W7.cell? ⟨gx, 3, none⟩ = some (.slice x.A2 x.n2 x.c2) := gx7.cell 3
          have f0 : W7.cell? ⟨W6.heap.size, 0, none⟩ = some (.bool false) := hf7.cell 0
          have f1 : W7.cell? ⟨W6.heap.size, 1, none⟩ = some (.slice B1 m1 d1) := hf7.cell 1
          have f2 : W7.cell? ⟨W6.heap.size, 2, none⟩ = some (.bool false) := hf7.cell 2
          have f3 : W7.cell? ⟨W6.heap.size, 3, none⟩ = some (.slice B2 m2 d2) := hf7.cell 3
          have HX7 := Lib.hid ((RatOk.below XOK5.out hb57).more hb57.size)
          have HF7 := Lib.hid ((hfr.below hb67).more hb67.size)
          have HLF := Lib.hid hlf
          have HW := Lib.hid hW7
          have HB57 := Lib.hid hb57
          have GX7 := Lib.hid gx7
          have hcr := chP_range N w hN k (by omega)
          have hcq := chQ_range N hN k (by omega)
          have hcn := HCH.out.num
          have hcd := HCH.out.den
          have hs1 := len_small HX7.out.num (by omega)
          have hs2 := len_small HX7.out.den (by omega)
          have hs3 := len_small HF7.out.num (by omega)
          have hs4 := len_small HF7.out.den (by omega)
          clear hW7 hb67 hf7 hb57 gx7 hfr hfpv hfqv hff1 hff2 hb6 hlf hcr hcq hcn hcd HM
          go_upto_region 7 with fail
          rw [← HW.out]
          clear HW
          go_wp2_with fail
          refine (qMul_ok x.A1 x.A2 B1 B2 x.n1 x.c1 x.n2 x.c2 m1 d1 m2 d2 x.p x.q fp fq W7 HX7.out HF7.out (by omega) (by omega)).mono ?_
          rintro e W8 ⟨v, rfl, p2, q2, C1, C2, o1, b1, o2, b2, rfl, hr, hpv, hqv, hc1, hc2, hb8⟩
          have hl2 := low_facts (Int.mul_nonneg HCH.out.num.1 HLF.out.2.1) (Int.mul_pos HCH.out.den.1 HLF.out.2.2.2.1) hpv hqv
          have hnext := HCH.out.next (by rw [← HMM.out, ← HNK.out]; exact HLF.out) hl2
          have gx8 := GX7.out.below hb8 GX7.out.lt
          have HB58 := Lib.hid (HB57.out.trans (hb8.mono HB57.out.size))
          have HNX := Lib.hid hnext
          have HR8 := Lib.hid hr
          have HC1 := Lib.hid (fun b (e : C1 = some b) => Nat.le_trans (Nat.le_trans hz5 HB57.out.size) (hc1 b e))
          have HC2 := Lib.hid (fun b (e : C2 = some b) => Nat.le_trans (Nat.le_trans hz5 HB57.out.size) (hc2 b e))
          clear k0 k1 k2 k3 f0 f1 f2 f3 hr hpv hqv hc1 hc2 hb8 hl2 hnext HF7 HX7 HLF
          go_wp2_with (first
            | (refine store_rat rfl _ _ rfl gx8 C1 C2 o1 b1 o2 b2 rfl rfl rfl ?_; intro w9 hD9 hO9 hz9)
            | (refine wpList_skip (by rfl) ?_))
          go_roundw
          case rel =>
            have hb8W : Below W.heap.size W5 W8 := HB58.out.mono hz5
            have hz8 : W.heap.size ≤ W8.heap.size := Nat.le_trans hz5 HB58.out.size
            have hb9 : Below W.heap.size W5 w9 := hb8W.trans (hO9.toBelow hz8 hgxW)
            have hr9 : RatOk w9 w9.heap.size C1 o1 b1 C2 o2 b2 p2 q2 := by
              have h1 := (mrd_only HR8.out.num.rd gx8 (rat_noint _ _ _ _ _ _ _ _) hO9).more hO9.size
              have h2 := (mrd_only HR8.out.den.rd gx8 (rat_noint _ _ _ _ _ _ _ _) hO9).more hO9.size
              exact HR8.out.rdIn h1 h2
            exact ⟨k + 1, ⟨C1, C2, o1, b1, o2, b2, p2, q2⟩, pre ++ [(k, x)], by omega, by go_num, by rw [List.length_append, List.length_singleton, HPL.out], HJ.out _ _ _ HJ5.out hb9, fun _ => ⟨hr9, HNX.out, HC1.out, HC2.out⟩, hD9, B15.out.below hb9 hg1, B25.out.below hb9 hg2, Nat.le_trans hz8 hO9.size⟩
          case measure => have := HN1.out; simp [intOf]; omega
        · obtain rfl : k = N := by omega
          have g2' : decide ((k : Int) < (k : Int)) = false := decide_eq_false (by omega)
          gi_wp2
          go_wp2_with fail
          go_roundw
          case rel => exact ⟨k + 1, x, pre ++ [(k, x)], by omega, by go_num, by rw [List.length_append, List.length_singleton, HPL.out], HJ5.out, fun h => by omega, GX5.out, B15.out, B25.out, hz5⟩
          case measure => have := HN1.out; simp [intOf]; omega
      · gi_wp2
        go_wp2_with fail
        refine bodyPost_ret (results_none rfl _ _ _) rfl ?_
        exact ⟨⟨_, rfl⟩, .inr ⟨_, trivial, hJx5⟩⟩
end Go.Proofs.YtkkcbkfpaoldmaaGreatDoor

/- Walks: risk.chances, first over it. -/
namespace Go.Proofs.YtkkcbkfpaoldmaaGreatDoor
open Go Go.RowKit Go.Shelf
attribute [local go_sem] Oper.semAt_some

theorem chances_stops (n g1 g2 : Nat) (t1 t2 : TypeId) (N w : Nat) (hN : N ≤ 5) (hw1 : 1 ≤ w) (hw : w ≤ N) (E : Nat → Prop) (W0 : World) (hE : ∀ i, E i → i < W0.heap.size) (hE1 : ¬ E g1) (hE2 : ¬ E g2) (h1 : Blk W0 g1 t1 #[.int .i64 N]) (h2 : Blk W0 g2 t2 #[.int .i64 w]) :
    SeqB Fence.wide n Tryz.prog 56 #[.pointer (some ⟨g1, 0, none⟩), .pointer (some ⟨g2, 0, none⟩)] chEnc (KeptX E) (fun _ => True) (chV N w W0.heap.size) (fun xs => xs.length = N + 1) (fun _ => True) (N + 1) W0 := fun l J Jx W hW hJ _ _ hY h0 => by
  exact callsIn_wide.2 (chances1_in n l g1 g2 t1 t2 N w W0.heap.size hN hw1 hw E J Jx W (fun i hi => Nat.lt_of_lt_of_le (hE i hi) hW.size) hE1 hE2 hW.size hJ hY (h1.below hW h1.lt) (h2.below hW h2.lt) h0)
set_option maxRecDepth 100000 in
set_option maxHeartbeats 1000000 in
theorem chances_any (N w : Nat) (W : World) : Calls Tryz.prog 24 #[.int .i64 N, .int .i64 w] W fun e W' => e = .returned (.func (.func 56) #[] #[.pointer (some ⟨W.heap.size, 0, none⟩), .pointer (some ⟨W.heap.size + 1, 0, none⟩)]) ∧
    W' = (W.alloc (.cells #[.int .i64 N] 3)).alloc (.cells #[.int .i64 w] 3) := by
  go_enter Tryz.func24, Tryz.ntmps24
  go_wp2
  go_ret
  exact ⟨rfl, rfl⟩
theorem mrd_kept {W W' : World} {B : Nat} {A : Option Addr} {l : List Int} {row : Option Nat} (h : MRd W B A l) (hg : W.grownBy W' row) (hr : ∀ r, row = some r → ∃ o : Obj, W.heap[r]? = some o ∧ o.isCells = false) : MRd W' B A l := fun hl => by
  obtain ⟨b, off, e, hb, hc⟩ := h hl
  exact ⟨b, off, e, hb, fun k hk => cell_kept (hc k hk) hg hr⟩
theorem ratOk_kept {W W' : World} {A1 A2 : Option Addr} {n1 c1 n2 c2 : Nat} {p q : List Int} {row : Option Nat} (h : RatOk W W.heap.size A1 n1 c1 A2 n2 c2 p q) (hg : W.grownBy W' row) (hr : ∀ r, row = some r → ∃ o : Obj, W.heap[r]? = some o ∧ o.isCells = false) : RatOk W' W'.heap.size A1 n1 c1 A2 n2 c2 p q :=
  h.rdIn (MRd.more (mrd_kept h.num.rd hg hr) hg.size) (MRd.more (mrd_kept h.den.rd hg hr) hg.size)
theorem keeps_of_only {w w' : World} {g : Nat} {t : TypeId} {cs : Array Value} (h : Only w w' g) (hb : Blk w g t cs) : KeepsOthers w w' := ⟨h.size, fun k o ho hc => (h.block k (Array.getElem?_eq_some_iff.1 ho).1 (fun e => by
  have e2 := Option.some.inj e
  rw [e2, hb] at ho
  cases ho
  simp [Obj.isCells] at hc)).trans ho⟩
theorem keptX_only {E : Nat → Prop} {w w' : World} {g : Nat} (h : Only w w' g) (he : E g) : KeptX E w w' := ⟨h.size, fun i _ ho _ hn => (h.block i (Array.getElem?_eq_some_iff.1 ho).1 (fun e => hn (by have e2 := Option.some.inj e; rw [e2]; exact he))).trans ho⟩
/-- Digits that lie from B on are not touched by what turns a block below B. -/
theorem mrd_far {w w' : World} {C B g : Nat} {A : Option Addr} {l : List Int} (h : MRd w C A l) (ho : Only w w' g) (hf : ∀ b, A = some b → B ≤ b.block) (hg : g < B) : MRd w' C A l := fun hl => by
  obtain ⟨b, off, e, hb, hc⟩ := h hl
  have hfb := hf _ e
  exact ⟨b, off, e, hb, fun k hk => World.grownBy.cell ho (hc k hk) (fun e2 => by have e3 := Option.some.inj e2; simp at hfb e3; omega)⟩
theorem RV.Ok.far {x : RV} {w w' : World} {B g : Nat} (h : x.Ok w w.heap.size) (ho : Only w w' g) (hf : x.Fresh B) (hg : g < B) : x.Ok w' w'.heap.size :=
  RatOk.rdIn h (MRd.more (mrd_far h.num.rd ho hf.1 hg) ho.size) (MRd.more (mrd_far h.den.rd ho hf.2 hg) ho.size)
/-- What the rounds rely on: pre has been met, and none of its chances is small enough. -/
def FIn (H : Nat) (N w : Nat) (Nn Dd : Int) (w0 : World) (okv : Value) (pre : List (Nat × RV)) (W : World) : Prop :=
  Blk W H 71 #[okv] ∧ (∃ z, Blk W (H + 1) 3 #[.int .i64 z]) ∧ (∃ b1 b2 A1 n1 c1 A2 n2 c2, Blk W (H + 2) 29 #[.bool b1, .slice A1 n1 c1, .bool b2, .slice A2 n2 c2]) ∧ (∀ j, j < pre.length → ¬ chLe N w Nn Dd j) ∧ Below H w0 W
/-- Behind the loop that was left: the key and the value lie in the results' cells. -/
def FOut (H : Nat) (N w : Nat) (Nn Dd : Int) (w0 : World) (c : Code) (_ : List (Nat × RV)) (W : World) : Prop :=
  c = .ret ∧ Blk W (H + 1) 3 #[.int .i64 (need N w Nn Dd : Nat)] ∧ (∃ b1 b2 A1 n1 c1 A2 n2 c2, Blk W (H + 2) 29 #[.bool b1, .slice A1 n1 c1, .bool b2, .slice A2 n2 c2]) ∧ Below H w0 W
/-- The frame of a round, once key and value are laid. -/
def FAx (H : Nat) (N w : Nat) (fv okv : Value) (pre : List (Nat × RV)) (x : Nat × RV) (a' : Act) (W : World) : Prop :=
  (∃ (u2 u9 u10 u11 u12 u13 u14 u15 u16 : Value), a' = { tmps := #[fv, okv, u2, .pointer (some ⟨H, 0, none⟩), .pointer (some ⟨H + 1, 0, none⟩), .pointer (some ⟨H + 2, 0, none⟩), fv, .int .i64 x.1, x.2.v, u9, u10, u11, u12, u13, u14, u15, u16], defers := [] }) ∧
    Blk W (H + 1) 3 #[.int .i64 x.1] ∧ Blk W (H + 2) 29 (ratC x.2.A1 x.2.n1 x.2.c1 x.2.A2 x.2.n2 x.2.c2) ∧ x.2.Ok W W.heap.size ∧ ChOk N w x.1 (valL x.2.p) (valL x.2.q) ∧ x.1 = pre.length
def FirstRes (N w : Nat) (Nn Dd : Int) (w0 : World) (e : Ending) (w' : World) : Prop := ∃ v, e = .returned (.tuple #[.int .i64 (need N w Nn Dd : Nat), v]) ∧ Below w0.heap.size w0 w'
set_option maxRecDepth 100000 in
set_option linter.unusedSimpArgs false in
set_option linter.unusedVariables false in
set_option maxHeartbeats 8000000 in
theorem first_ok (g1 g2 g3 : Nat) (t1 t2 : TypeId) (N w : Nat) (hN : N ≤ 5) (hw1 : 1 ≤ w) (hw : w ≤ N) (A3 A4 : Option Addr) (n3 c3 n4 c4 : Nat) (Nn Dd : List Int) (w0 : World) (h1 : Blk w0 g1 t1 #[.int .i64 N]) (h2 : Blk w0 g2 t2 #[.int .i64 w]) (h3 : Blk w0 g3 29 (ratC A3 n3 c3 A4 n4 c4))
    (hl : RatOk w0 w0.heap.size A3 n3 c3 A4 n4 c4 Nn Dd) (hs1 : n3 ≤ 1024) (hs2 : n4 ≤ 1024) :
    Calls Tryz.prog 23 #[.func (.func 56) #[] #[.pointer (some ⟨g1, 0, none⟩), .pointer (some ⟨g2, 0, none⟩)], .func (.func 25) #[] #[.pointer (some ⟨g3, 0, none⟩)]] w0 (FirstRes N w (valL Nn) (valL Dd) w0) := by
  have HL := Lib.hid hl
  have H3 := Lib.hid h3
  have hg1 := h1.lt
  have hg2 := h2.lt
  have hg3 := h3.lt
  have H1 := Lib.hid h1
  have H2 := Lib.hid h2
  clear h1 h2 h3 hl
  refine (callsIn_wide (n := 5)).1 ?_
  refine callsIn_of_wp_marks Tryz.func23 rfl trivial ?_ rfl
  simp only [Tryz.ntmps23, List.size_toArray, List.length_cons, List.length_nil, Nat.reduceAdd, Nat.reduceSub, Array.replicate_succ, Array.replicate_zero, List.push_toArray, List.append_toArray, List.nil_append, List.cons_append]
  refine wpIn_wide.2 ?_
  obtain ⟨fv, hfv⟩ : ∃ v : Value, v = .func (.func 56) #[] #[.pointer (some ⟨g1, 0, none⟩), .pointer (some ⟨g2, 0, none⟩)] := ⟨_, rfl⟩
  obtain ⟨okv, hokv⟩ : ∃ v : Value, v = .func (.func 25) #[] #[.pointer (some ⟨g3, 0, none⟩)] := ⟨_, rfl⟩
  rw [← hfv]
  have HFV := Lib.hid hfv
  have HOV := Lib.hid hokv
  clear hfv hokv
  obtain ⟨H, hH⟩ : ∃ H, H = w0.heap.size := ⟨_, rfl⟩
  obtain ⟨W1, hW1⟩ : ∃ V, V = ((w0.alloc (.cells #[okv] 71)).alloc (.cells #[.int .i64 0] 3)).alloc (.cells (ratC none 0 0 none 0 0) 29) := ⟨_, rfl⟩
  have hI0 : FIn H N w (valL Nn) (valL Dd) w0 okv [] W1 := by
    rw [hW1, hH]
    exact ⟨((Blk.new _ _ _).alloc _).alloc _, ⟨0, (Blk.new' _ _ _ (by simp)).alloc _⟩, ⟨_, _, _, _, _, _, _, _, Blk.new' _ _ _ (by simp)⟩, (fun j hj => by simp at hj), (((Below.refl _ w0).alloc (Nat.le_refl _) _).alloc (by simp) _).alloc (by simp; omega) _⟩
  have hz1 : W1.heap.size = H + 3 := by rw [hW1, hH]; simp
  have HW := Lib.hid hW1
  have HH := Lib.hid hH
  have HI0 := Lib.hid hI0
  clear hW1 hH hI0
  go_upto_block 0 with fail
  rw [← HOV.out, ← HW.out, ← HH.out]
  clear HW
  have hz0 : w0.heap.size = H := HH.out.symm
  have hb01 : Below H w0 W1 := HI0.out.2.2.2.2
  have h1 := H1.out.below hb01 (by omega)
  have h2 := H2.out.below hb01 (by omega)
  go_wp2_with fail
  refine (wpIn_wide (n := 5)).1 ?_
  refine wpIn_rangeB rfl (by omega) (gf := 56) (lb := #[.pointer (some ⟨g1, 0, none⟩), .pointer (some ⟨g2, 0, none⟩)]) HFV.out trivial (enters_of Tryz.func56 (by kernel_rfl) rfl)
    (chances_stops 4 g1 g2 t1 t2 N w hN hw1 hw (fun i => i = H + 1 ∨ i = H + 2) W1 (fun i hi => by omega) (by omega) (by omega) h1 h2) (fun h k => KeptX.trans h k) (fun W l o o' _ hl ho _ => KeptX.putObj W l o o' hl ho) (Below.refl _ _) (fun _ => rfl)
    (FIn H N w (valL Nn) (valL Dd) w0 okv) (FOut H N w (valL Nn) (valL Dd) w0) ?hI ?hIx (fun _ _ _ => trivial) HI0.out (FAx H N w fv okv) ?hAx ?assign ?body ?done ?stop
  case hI =>
    rintro s X Y ⟨i1, ⟨z, i2⟩, ⟨b1, b2, A1, n1, c1, A2, n2, c2, i3⟩, i4, i5⟩ hb
    exact ⟨i1.below hb (by omega), ⟨z, i2.below hb (by omega)⟩, ⟨b1, b2, A1, n1, c1, A2, n2, c2, i3.below hb (by omega)⟩, i4, i5.trans (hb.mono (by omega))⟩
  case hIx =>
    rintro c s X Y ⟨i1, i2, ⟨b1, b2, A1, n1, c1, A2, n2, c2, i3⟩, i5⟩ hb
    exact ⟨i1, i2.below hb (by omega), ⟨b1, b2, A1, n1, c1, A2, n2, c2, i3.below hb (by omega)⟩, i5.trans (hb.mono (by omega))⟩
  case hAx =>
    rintro pre x a' s X Y row ⟨hs, j1, j2, j3, j4⟩ hg hr
    have hr' : ∀ r, row = some r → ∃ o : Obj, X.heap[r]? = some o ∧ o.isCells = false := fun r e => by
      rcases hr r e with ⟨_, o, ho, hk⟩ | h
      · exact ⟨o, ho, by simpa [noCells] using hk⟩
      · cases h
    exact ⟨hs, blk_kept j1 hg hr', blk_kept j2 hg hr', ratOk_kept j3 hg hr', j4⟩
  case assign =>
    rintro lp pre ⟨k, x⟩ W K ⟨i1, ⟨z, i2⟩, ⟨b1, b2, A1, n1, c1, A2, n2, c2, i3⟩, i4, i5⟩ ⟨hk, hx, hch, hfr⟩ hK
    simp only at hk hx hch hfr
    simp only [chEnc, RV.v]
    change Code.wpIn _ _ _ _ _ { tmps := Array.foldl _ _ (#[7, 8].zip #[Value.int .i64 (k : Int), Value.agg (ratC x.A1 x.n1 x.c1 x.A2 x.n2 x.c2)]), defers := _ } W
    have HK := Lib.hid hk
    have HX := Lib.hid hx
    have HC := Lib.hid hch
    clear hk hx hch
    have k2 : W.cell? ⟨H + 1, 0, none⟩ = some (.int .i64 z) := i2.cell 0
    have f2 := i2.frozen 0
    simp only [fold2, List.setIfInBounds_toArray, List.set_cons_zero, List.set_cons_succ]
    have i3' : Blk (W.setCell ⟨H + 1, 0, none⟩ (.int .i64 k)) (H + 2) 29 #[.bool b1, .slice A1 n1 c1, .bool b2, .slice A2 n2 c2] := i3.far (p := ⟨H + 1, 0, none⟩) (by show H + 2 ≠ H + 1; omega) _
    have i2' : Blk (W.setCell ⟨H + 1, 0, none⟩ (.int .i64 k)) (H + 1) 3 #[.int .i64 k] := i2.set 0 _
    apply wpIn_seq_k
    intro K2 hK2
    refine wpIn_region_list_of (L := [_]) (by kernel_rfl) ?_ ?_
    · intro ho
      obtain ⟨_, _, h⟩ := ho
      exact h
    go_wp2_with fail
    refine wpIn_region_list_of (L := [_]) (by kernel_rfl) ?_ ?_
    · intro ho
      obtain ⟨_, _, h⟩ := ho
      exact h
    go_wp2_with (refine store_rat rfl _ _ rfl i3' x.A1 x.A2 x.n1 x.c1 x.n2 x.c2 rfl rfl rfl ?_; intro W2 hD2 hO2 hz2)
    simp only [Act.put]
    have hO1 : Only W (W.setCell ⟨H + 1, 0, none⟩ (.int .i64 k)) (H + 1) := (Only.refl W (H + 1)).set (p := ⟨H + 1, 0, none⟩) (.inl rfl) _
    have hx1 := RV.Ok.far HX.out hO1 hfr (by omega)
    have hx2 := RV.Ok.far hx1 hO2 hfr (by omega)
    have e2 : Blk W2 (H + 1) 3 #[.int .i64 k] := (hO2.block _ i2'.lt (fun e => by have := Option.some.inj e; omega)).trans i2'
    have e1 : Blk W2 H 71 #[okv] := (hO2.block _ (Nat.lt_of_lt_of_le i1.lt hO1.size) (fun e => by have := Option.some.inj e; omega)).trans ((hO1.block _ i1.lt (fun e => by have := Option.some.inj e; omega)).trans i1)
    refine hK _ _ (((KeepsOthers.setCell _ _ _).trans (keeps_of_only hO2 i3')).from _) ((keptX_only hO1 (.inl rfl)).trans (keptX_only hO2 (.inr rfl))) ⟨e1, ⟨_, e2⟩, ⟨_, _, _, _, _, _, _, _, hD2⟩, i4, ?_⟩ ⟨⟨_, _, _, _, _, _, _, _, _, rfl⟩, e2, hD2, hx2, HC.out, HK.out⟩
    exact (i5.setCell (p := ⟨H + 1, 0, none⟩) (Nat.le_succ _) _).trans (hO2.toBelow (Nat.le_trans i5.size hO1.size |> Nat.le_trans (by omega)) (by omega))
  case body =>
    rintro lp pre ⟨k, x⟩ a' W ⟨i1, -, -, i4, i5⟩ ⟨⟨u2, u9, u10, u11, u12, u13, u14, u15, u16, rfl⟩, j1, j2, j3, j4, j5⟩ hlen
    simp only at j1 j2 j3 j4 j5
    simp only [RV.v]
    obtain ⟨A1, A2, n1, c1, n2, c2, p, q⟩ := x
    simp only [RV.Ok] at j2 j3 j4 ⊢
    have hkN : k ≤ N := by omega
    have hcr := chP_range N w hN k (by omega)
    have hcq := chQ_range N hN k (by omega)
    have hs3 := len_small j3.num (by have := j4.num; omega)
    have hs4 := len_small j3.den (by have := j4.den; omega)
    have hB := i5
    have hzH : H ≤ W.heap.size := by have := i5.size; omega
    have hg3W := H3.out.below i5 (by omega)
    have hlW : RatOk W W.heap.size A3 n3 c3 A4 n4 c4 Nn Dd := by
      have h := HL.out
      rw [hz0] at h
      exact (h.below i5).more hzH
    have HC := Lib.hid (need1_any A1 A2 A3 A4 n1 c1 n2 c2 n3 c3 n4 c4 p q Nn Dd (k : Int) g3 W hg3W j3 hlW (by omega) (by omega))
    have hiff := j4.le_iff (N := valL Nn) (D := valL Dd) hkN
    obtain ⟨y, hy⟩ : ∃ y, y = valL p * valL Dd - valL Nn * valL q := ⟨_, rfl⟩
    rw [← hy] at HC hiff
    have k0 : W.cell? ⟨H, 0, none⟩ = some (.func (.func 25) #[] #[.pointer (some ⟨g3, 0, none⟩)]) := by rw [← HOV.out]; exact i1.cell 0
    have k1 : W.cell? ⟨H + 1, 0, none⟩ = some (.int .i64 k) := j1.cell 0
    have q0 : W.cell? ⟨H + 2, 0, none⟩ = some (.bool false) := j2.cell 0
    have q1 : W.cell? ⟨H + 2, 1, none⟩ = some (.slice A1 n1 c1) := j2.cell 1
    have q2 : W.cell? ⟨H + 2, 2, none⟩ = some (.bool false) := j2.cell 2
    have q3 : W.cell? ⟨H + 2, 3, none⟩ = some (.slice A2 n2 c2) := j2.cell 3
    have I1 := Lib.hid i1
    have I4 := Lib.hid i4
    have I5 := Lib.hid i5
    have J1 := Lib.hid j1
    have J2 := Lib.hid j2
    have J5 := Lib.hid j5
    clear hcr hcq hs3 hs4 hB hg3W hlW i1 i4 i5 j1 j2 j3 j4 j5 hy hlen h1 h2 hb01
    apply wpIn_block
    apply wpIn_seq_k
    intro K hK
    refine wpIn_region_list_of (L := [_, _, _, _]) (by kernel_rfl) ?_ ?_
    · intro ho
      obtain ⟨_, _, h⟩ := ho
      exact h
    go_wp2_with fail
    refine HC.out.mono ?_
    rintro e W3 ⟨rfl, hb3⟩
    have d0 := I1.out.below hb3 I1.out.lt
    have d1 := J1.out.below hb3 J1.out.lt
    have d2 := J2.out.below hb3 J2.out.lt
    have hB3 := I5.out.trans (hb3.mono hzH)
    have HB3 := Lib.hid hB3
    have HBB := Lib.hid hb3
    clear k0 k1 q0 q1 q2 q3 hB3 hb3 HC
    by_cases hc : chLe N w (valL Nn) (valL Dd) k
    · have hsg : decide (sgn y ≤ 0) = true := decide_eq_true (by
        have h := hiff.2 hc
        unfold sgn
        split
        · omega
        · split <;> omega)
      have HND := Lib.hid (need_first N w hw1 hw (valL Nn) (valL Dd) HL.out.num.val hc (by rw [J5.out]; exact I4.out))
      rw [hsg]
      clear hiff hsg hc
      go_wp2_with fail
      gi_wp2_with fail
      refine wpIn_region_held2 (S := fun W' => W'.cell? ⟨H + 1, 0, none⟩ = some (.int .i64 k) ∧ W'.cell? ⟨H + 2, 0, none⟩ = some (.bool false) ∧ W'.cell? ⟨H + 2, 1, none⟩ = some (.slice A1 n1 c1) ∧ W'.cell? ⟨H + 2, 2, none⟩ = some (.bool false) ∧ W'.cell? ⟨H + 2, 3, none⟩ = some (.slice A2 n2 c2)) (by kernel_rfl) (by kernel_rfl) ?_ ⟨d1.cell 0, d2.cell 0, d2.cell 1, d2.cell 2, d2.cell 3⟩ (fun hS => ?_)
      · intro ho
        obtain ⟨_, _, h⟩ := ho
        exact h
      refine wpAnyH_take (i := 0) (v := .int .i64 (k : Int)) rfl (by kernel_rfl) (by kernel_rfl) (by kernel_rfl) (fun _ _ _ h => h) (Or.inl ⟨by rfl, fun W' hS' => by obtain ⟨q0, q1, q2, q3, q4⟩ := hS'; go_simp⟩) hS ?_
      simp only [Act.put, List.getElem_toArray, List.getElem_cons_zero, List.getElem_cons_succ, List.setIfInBounds_toArray, List.set_cons_zero, List.set_cons_succ]
      refine wpAnyH_take (i := 1) (v := .agg #[.bool false, .slice A1 n1 c1, .bool false, .slice A2 n2 c2]) rfl (by kernel_rfl) (by kernel_rfl) (by kernel_rfl) (fun _ _ _ h => h) (Or.inl ⟨by rfl, fun W' hS' => by obtain ⟨q0, q1, q2, q3, q4⟩ := hS'; go_simp⟩) hS ?_
      simp only [Act.put, List.getElem_toArray, List.getElem_cons_zero, List.getElem_cons_succ, List.setIfInBounds_toArray, List.set_cons_zero, List.set_cons_succ]
      have f1 : W3.drew.frozen? ⟨H + 1, 0, none⟩ = false := d1.frozen 0
      have z1 : W3.drew.cell? ⟨H + 1, 0, none⟩ = some (.int .i64 k) := d1.cell 0
      have m1 : Blk (W3.setCell ⟨H + 1, 0, none⟩ (.int .i64 k)).drew (H + 1) 3 #[.int .i64 k] := Blk.drew (d1.set 0 _)
      have m2 : Blk (W3.setCell ⟨H + 1, 0, none⟩ (.int .i64 k)).drew (H + 2) 29 (ratC A1 n1 c1 A2 n2 c2) := Blk.drew (d2.far (p := ⟨H + 1, 0, none⟩) (by show H + 2 ≠ H + 1; omega) _)
      have hO1 : Only W3 (W3.setCell ⟨H + 1, 0, none⟩ (.int .i64 k)).drew (H + 1) := ((Only.refl W3 (H + 1)).set (p := ⟨H + 1, 0, none⟩) (.inl rfl) _).drew
      have hko : KeepsOthers W3 (W3.setCell ⟨H + 1, 0, none⟩ (.int .i64 k)).drew := keeps_of_only hO1 d1
      refine wpAnyH_ready (rs := [2]) (by kernel_rfl) (by simp) ?_
      refine AllReadyH.cons rfl (fun Kq hKq => ?_) AllReadyH.nil
      simp only [List.getElem_toArray, List.getElem_cons_zero, List.getElem_cons_succ]
      go_simp
      refine hKq.out _ _ ⟨m1.cell 0, m2.cell 0, m2.cell 1, m2.cell 2, m2.cell 3⟩ (fun _ => ?_)
      clear hKq Kq z1 f1
      generalize (W3.setCell ⟨H + 1, 0, none⟩ (.int .i64 k)).drew = W4 at m1 m2 hO1 hko ⊢
      refine wpAnyH_ready (rs := [3]) (by kernel_rfl) (by simp) ?_
      refine AllReadyH.cons rfl (fun Kq hKq => ?_) AllReadyH.nil
      simp only [List.getElem_toArray, List.getElem_cons_zero, List.getElem_cons_succ]
      rw [if_pos (by rfl)]
      refine wp_store_rat _ _ rfl m2 A1 A2 n1 c1 n2 c2 rfl rfl rfl ?_
      intro W5 hD5 hO5 hz5
      have p1 : Blk W5 (H + 1) 3 #[.int .i64 k] := (hO5.block _ m1.lt (fun e => by have := Option.some.inj e; omega)).trans m1
      refine hKq.out _ _ ⟨p1.cell 0, hD5.cell 0, hD5.cell 1, hD5.cell 2, hD5.cell 3⟩ (fun _ => ?_)
      clear hKq Kq
      refine wpAnyH_done (by kernel_rfl) ?_ _
      have HFIN := Lib.hid (show KeepsFrom W1.heap.size W W5 ∧ FOut H N w (valL Nn) (valL Dd) w0 .ret (pre ++ [(k, ⟨A1, A2, n1, c1, n2, c2, p, q⟩)]) W5 from
        ⟨(((keeps_of_below HBB.out).trans hko).trans (keeps_of_only hO5 m2)).from _, rfl, by rw [← HND.out]; exact p1, ⟨_, _, _, _, _, _, _, _, hD5⟩, (HB3.out.trans (hO1.toBelow (Nat.le_trans hzH HBB.out.size) (by omega))).trans (hO5.toBelow (Nat.le_trans (Nat.le_trans hzH HBB.out.size) hO1.size) (by omega))⟩)
      gi_wp2_with fail
      exact HFIN.out
    · have hsg : decide (sgn y ≤ 0) = false := decide_eq_false (by
        intro h
        refine hc (hiff.1 ?_)
        unfold sgn at h
        split at h
        · omega
        · split at h <;> omega)
      have HN := Lib.hid hc
      rw [hsg]
      clear hiff hsg hc
      go_wp2_with fail
      gi_wp2_with fail
      refine ⟨(keeps_of_below HBB.out).from _, KeptX.of_below HBB.out, d0, ⟨_, d1⟩, ⟨_, _, _, _, _, _, _, _, d2⟩, fun j hj => ?_, HB3.out⟩
      rw [List.length_append, List.length_singleton] at hj
      rcases Nat.lt_or_ge j pre.length with h | h
      · exact I4.out j h
      · obtain rfl : j = k := by have := J5.out; omega
        exact HN.out
  case done =>
    rintro D xs W hD hxl ⟨-, -, -, i4, -⟩ hK
    exact absurd (chLe_end N w hw1 hw (valL Nn) (valL Dd) HL.out.num.val) (i4 N (by omega))
  case stop =>
    rintro D cc pre W hD - ⟨rfl, j1, ⟨b1, b2, A1, n1, c1, A2, n2, c2, j2⟩, j3⟩ hK
    gi_wp2
    refine ⟨by simp, .inl ⟨_, _, rfl, run_takeDeferred hK, ?_⟩⟩
    have hg := grownBy_putObj' W D (.deferred none)
    have hr : ∀ r, some D = some r → ∃ o : Obj, W.heap[r]? = some o ∧ o.isCells = false := fun r e => by cases e; exact ⟨_, hK, rfl⟩
    have c0 : (W.putObj D (.deferred none)).cell? ⟨H + 1, 0, none⟩ = some (.int .i64 (need N w (valL Nn) (valL Dd) : Nat)) := cell_kept (j1.cell 0) hg hr
    have c1' : (W.putObj D (.deferred none)).cell? ⟨H + 2, 0, none⟩ = some (.bool b1) := cell_kept (j2.cell 0) hg hr
    have c2' : (W.putObj D (.deferred none)).cell? ⟨H + 2, 1, none⟩ = some (.slice A1 n1 c1) := cell_kept (j2.cell 1) hg hr
    have c3' : (W.putObj D (.deferred none)).cell? ⟨H + 2, 2, none⟩ = some (.bool b2) := cell_kept (j2.cell 2) hg hr
    have c4' : (W.putObj D (.deferred none)).cell? ⟨H + 2, 3, none⟩ = some (.slice A2 n2 c2) := cell_kept (j2.cell 3) hg hr
    refine ⟨.tuple #[.int .i64 (need N w (valL Nn) (valL Dd) : Nat), .agg #[.bool b1, .slice A1 n1 c1, .bool b2, .slice A2 n2 c2]], ?_, _, rfl, ?_⟩
    · simp [results, Tryz.f23, go_sem, c0, c1', c2', c3', c4', Result.andThen]
    · rw [hz0]
      exact j3.trans (belowK_b (w := W1) (by omega) W D _ _ hD hK rfl rfl)
end Go.Proofs.YtkkcbkfpaoldmaaGreatDoor

/- Walk: risk.Need. -/
namespace Go.Proofs.YtkkcbkfpaoldmaaGreatDoor
open Go Go.RowKit

set_option maxRecDepth 100000 in
set_option linter.unusedSimpArgs false in
set_option linter.unusedVariables false in
set_option maxHeartbeats 4000000 in
theorem kNeed_zero (w : World) : Calls Tryz.prog 4 #[.int .i64 0, .int .i64 0, .agg (ratC none 0 0 none 0 0)] w (Ret (.tuple #[.int .i64 0, .int .i64 100]) w) := by
  have HC := Lib.hid (fun W => qCheck_zero W)
  go_enter Tryz.func4, Tryz.ntmps4
  go_wp2_with fail
  refine calls_gen (fun W => Blk W w.heap.size 29 (ratC none 0 0 none 0 0) ∧ Below w.heap.size w W) ⟨Blk.new w _ _, (Below.refl _ w).alloc (Nat.le_refl _) _⟩ (fun W0 ⟨b0, hB0⟩ => ?_)
  refine (within_ok 0 4096 (by omega) (by omega) W0).mono ?_
  rintro e W1 ⟨rfl, rfl⟩
  go_wp2_with fail
  refine (within_ok 0 0 (by omega) (by omega) W0).mono ?_
  rintro e W1 ⟨rfl, rfl⟩
  have k0 : W0.cell? ⟨w.heap.size, 0, none⟩ = some (.bool false) := b0.cell 0
  have k1 : W0.cell? ⟨w.heap.size, 1, none⟩ = some (.slice none 0 0) := b0.cell 1
  have k2 : W0.cell? ⟨w.heap.size, 2, none⟩ = some (.bool false) := b0.cell 2
  have k3 : W0.cell? ⟨w.heap.size, 3, none⟩ = some (.slice none 0 0) := b0.cell 3
  go_wp2_with fail
  refine (HC.out W0).mono ?_
  rintro e W1 ⟨rfl, hb1⟩
  go_wp2_with fail
  go_ret2
  exact ⟨rfl, hB0.trans (hb1.mono hB0.size)⟩
theorem RatOk.lim {w : World} {B : Nat} {A1 A2 : Option Addr} {n1 c1 n2 c2 : Nat} {p q : List Int} (h : RatOk w B A1 n1 c1 A2 n2 c2 p q) : valL q ≠ 0 := by
  have := h.den.pos h.pos
  omega
set_option maxRecDepth 100000 in
set_option linter.unusedSimpArgs false in
set_option linter.unusedVariables false in
set_option maxHeartbeats 4000000 in
theorem kNeed_ok (n w : Nat) (hn : n ≤ 5) (hw1 : 1 ≤ w) (hw : w ≤ n) (A3 A4 : Option Addr) (n3 c3 n4 c4 : Nat) (Nn Dd : List Int) (W : World) (hl : RatOk W W.heap.size A3 n3 c3 A4 n4 c4 Nn Dd) (hs1 : n3 ≤ 1024) (hs2 : n4 ≤ 1024) (h0 : 0 < valL Nn) (h1 : valL Nn ≤ valL Dd) :
    Calls Tryz.prog 4 #[.int .i64 n, .int .i64 w, .agg (ratC A3 n3 c3 A4 n4 c4)] W (Ret (.tuple #[.int .i64 (need n w (valL Nn) (valL Dd) : Nat), .int .i64 0]) W) := by
  have HL := Lib.hid hl
  have HQ := Lib.hid (fun V (h : Below W.heap.size W V) => qCheck_ok A3 A4 n3 c3 n4 c4 Nn Dd V ((hl.below h).more h.size))
  obtain ⟨mx, hmx⟩ : ∃ x : Nat, x = max n3 n4 := ⟨_, rfl⟩
  have hmax : max (n3 : Int) (n4 : Int) = (mx : Int) := by omega
  have g0 : decide ((1024 : Int) < (mx : Int)) = false := decide_eq_false (by omega)
  have g0n : decide (1024 < mx) = false := decide_eq_false (by omega)
  have g1 : ((w : Int) == 0) = false := beq_eq_false_iff_ne.2 (by omega)
  have g1n : (w == 0) = false := beq_eq_false_iff_ne.2 (by omega)
  obtain ⟨hg, hhg⟩ : ∃ x, x = sgn (valL Nn - valL Dd) := ⟨_, rfl⟩
  have g2 : decide ((0 : Int) < hg) = false := decide_eq_false (by
    rw [hhg]
    unfold sgn
    split
    · omega
    · rw [if_neg (by omega)]; omega)
  have HLOW := Lib.hid (show sgn (valL Nn * 1 - 0 * valL Dd) = 1 by
    unfold sgn
    rw [if_neg (by omega), if_pos (by omega)])
  have HHIGH := Lib.hid (show sgn (valL Nn * 1 - 1 * valL Dd) = hg by rw [hhg, Int.mul_one, Int.one_mul])
  have HND := Lib.hid (fun g1 g2 g3 t1 t2 V (b1 : Blk V g1 t1 #[.int .i64 n]) (b2 : Blk V g2 t2 #[.int .i64 w]) (b3 : Blk V g3 29 (ratC A3 n3 c3 A4 n4 c4)) (h : Below W.heap.size W V) => first_ok g1 g2 g3 t1 t2 n w hn hw1 hw A3 A4 n3 c3 n4 c4 Nn Dd V b1 b2 b3 ((hl.below h).more h.size) hs1 hs2)
  obtain ⟨nd, hnd⟩ : ∃ x, x = need n w (valL Nn) (valL Dd) := ⟨_, rfl⟩
  rw [← hnd]
  have HNN := Lib.hid hnd
  clear hl hmx hhg h0 h1 hnd
  go_enter Tryz.func4, Tryz.ntmps4
  go_wp2_with fail
  refine calls_gen (fun V => Blk V W.heap.size 29 (ratC A3 n3 c3 A4 n4 c4) ∧ Below W.heap.size W V) ⟨Blk.new _ _ _, Below.alloc (Below.refl _ W) (Nat.le_refl _) _⟩ (fun W0 ⟨b0, hB0⟩ => ?_)
  refine (within_ok n 4096 (by omega) (by omega) W0).mono ?_
  rintro e W1 ⟨rfl, rfl⟩
  go_wp2_with fail
  refine (within_ok w n (by omega) (by omega) W0).mono ?_
  rintro e W1 ⟨rfl, rfl⟩
  have k0 : W0.cell? ⟨W.heap.size, 0, none⟩ = some (.bool false) := b0.cell 0
  have k1 : W0.cell? ⟨W.heap.size, 1, none⟩ = some (.slice A3 n3 c3) := b0.cell 1
  have k2 : W0.cell? ⟨W.heap.size, 2, none⟩ = some (.bool false) := b0.cell 2
  have k3 : W0.cell? ⟨W.heap.size, 3, none⟩ = some (.slice A4 n4 c4) := b0.cell 3
  go_wp2_with fail
  refine (HQ.out W0 hB0).mono ?_
  rintro e W1 ⟨rfl, hb1⟩
  have d0 := b0.below hb1 b0.lt
  have HB1 := Lib.hid (hB0.trans (hb1.mono hB0.size))
  clear k0 k1 k2 k3 hb1 b0 hB0 HQ
  have k0 : W1.cell? ⟨W.heap.size, 0, none⟩ = some (.bool false) := d0.cell 0
  have k1 : W1.cell? ⟨W.heap.size, 1, none⟩ = some (.slice A3 n3 c3) := d0.cell 1
  have k2 : W1.cell? ⟨W.heap.size, 2, none⟩ = some (.bool false) := d0.cell 2
  have k3 : W1.cell? ⟨W.heap.size, 3, none⟩ = some (.slice A4 n4 c4) := d0.cell 3
  go_wp2_with fail
  refine wp_region_held_drew (S := fun W' => W'.cell? ⟨W.heap.size, 0, none⟩ = some (.bool false) ∧ W'.cell? ⟨W.heap.size, 1, none⟩ = some (.slice A3 n3 c3) ∧ W'.cell? ⟨W.heap.size, 2, none⟩ = some (.bool false) ∧ W'.cell? ⟨W.heap.size, 3, none⟩ = some (.slice A4 n4 c4)) (by kernel_rfl) ⟨d0.cell 0, d0.cell 1, d0.cell 2, d0.cell 3⟩ (fun hS => ?_)
  refine wpAnyH_take (i := 0) (v := .agg #[.bool false, .slice A3 n3 c3, .bool false, .slice A4 n4 c4]) rfl (by kernel_rfl) (by kernel_rfl) (by kernel_rfl) (fun _ _ _ h => h) (Or.inl ⟨by rfl, fun W' hS' => by obtain ⟨q0, q1, q2, q3⟩ := hS'; go_simp⟩) hS ?_
  simp only [Act.put, List.getElem_toArray, List.getElem_cons_zero, List.getElem_cons_succ, List.setIfInBounds_toArray, List.set_cons_zero, List.set_cons_succ]
  have hd2 := (Blk.drew d0)
  have hbd2 : Below W.heap.size W W1.drew := HB1.out.drew
  refine wpAnyH_ready (rs := [1]) (by kernel_rfl) (by simp) ?_
  refine AllReadyH.cons rfl (fun Kq hKq => ?_) AllReadyH.nil
  simp only [List.getElem_toArray, List.getElem_cons_zero, List.getElem_cons_succ]
  go_simp
  refine (whole_ok 0 (by omega) _).mono ?_
  rintro e V2 ⟨v, rfl, p, q, A1, A2, n1, c1, n2, c2, rfl, hr, ⟨hpv, hqv⟩, -, -, hb⟩
  have e2 := hd2.below hb hd2.lt
  have hB2 := hbd2.trans (hb.mono hbd2.size)
  have hs3 := len_small hr.num (by rw [hpv]; omega)
  have hs4 := len_small hr.den (by rw [hqv]; omega)
  have HCM := Lib.hid (qCmp_ok A3 A4 A1 A2 n3 c3 n4 c4 n1 c1 n2 c2 Nn Dd p q V2 ((HL.out.below hB2).more hB2.size) hr (by omega) (by omega))
  rw [hpv, hqv] at HCM
  have HCM2 := Lib.hid (show Calls Tryz.prog 18 #[.agg (ratC A3 n3 c3 A4 n4 c4), .agg (ratC A1 n1 c1 A2 n2 c2)] V2 (Ret (.tuple #[.int .i64 1, .int .i64 0]) V2) by
    have h := HCM.out
    have h2 := HLOW.out
    rwa [show sgn (valL Nn * 1 - ((0 : Nat) : Int) * valL Dd) = 1 from h2] at h)
  clear HCM hr hpv hqv hb
  refine hKq.out _ _ ⟨e2.cell 0, e2.cell 1, e2.cell 2, e2.cell 3⟩ (fun _ => ?_)
  clear hKq Kq
  refine wpAnyH_ready (rs := [2]) (by kernel_rfl) (by simp) ?_
  refine AllReadyH.cons rfl (fun Kq hKq => ?_) AllReadyH.nil
  simp only [List.getElem_toArray, List.getElem_cons_zero, List.getElem_cons_succ]
  go_simp
  refine HCM2.out.mono ?_
  rintro e W2 ⟨rfl, hb⟩
  have d2 := e2.below hb e2.lt
  have HB2 := Lib.hid (hB2.trans (hb.mono hB2.size))
  have hS2 : W2.cell? ⟨W.heap.size, 0, none⟩ = some (.bool false) ∧ W2.cell? ⟨W.heap.size, 1, none⟩ = some (.slice A3 n3 c3) ∧ W2.cell? ⟨W.heap.size, 2, none⟩ = some (.bool false) ∧ W2.cell? ⟨W.heap.size, 3, none⟩ = some (.slice A4 n4 c4) := ⟨d2.cell 0, d2.cell 1, d2.cell 2, d2.cell 3⟩
  refine hKq.out _ _ hS2 (fun _ => ?_)
  clear hKq Kq hb HCM2
  refine wpAnyH_take (i := 3) (v := .tuple #[.int .i64 1, .int .i64 0]) rfl (by kernel_rfl) (by kernel_rfl) (by kernel_rfl) (fun _ _ _ h => h) (Or.inl ⟨by rfl, fun W' hS' => by go_simp⟩) hS2 ?_
  simp only [Act.put, List.getElem_toArray, List.getElem_cons_zero, List.getElem_cons_succ, List.setIfInBounds_toArray, List.set_cons_zero, List.set_cons_succ]
  refine wpAnyH_take (i := 4) (v := .int .i64 1) rfl (by kernel_rfl) (by kernel_rfl) (by kernel_rfl) (fun _ _ _ h => h) (Or.inl ⟨by rfl, fun W' hS' => by go_simp⟩) hS2 ?_
  simp only [Act.put, List.getElem_toArray, List.getElem_cons_zero, List.getElem_cons_succ, List.setIfInBounds_toArray, List.set_cons_zero, List.set_cons_succ]
  refine wpAnyH_take (i := 5) (v := .int .i64 0) rfl (by kernel_rfl) (by kernel_rfl) (by kernel_rfl) (fun _ _ _ h => h) (Or.inl ⟨by rfl, fun W' hS' => by go_simp⟩) hS2 ?_
  simp only [Act.put, List.getElem_toArray, List.getElem_cons_zero, List.getElem_cons_succ, List.setIfInBounds_toArray, List.set_cons_zero, List.set_cons_succ]
  refine wpAnyH_take (i := 6) (v := .int .i64 1) rfl (by kernel_rfl) (by kernel_rfl) (by kernel_rfl) (fun _ _ _ h => h) (Or.inl ⟨by rfl, fun W' hS' => by go_simp⟩) hS2 ?_
  simp only [Act.put, List.getElem_toArray, List.getElem_cons_zero, List.getElem_cons_succ, List.setIfInBounds_toArray, List.set_cons_zero, List.set_cons_succ]
  refine wpAnyH_take (i := 7) (v := .int .i64 0) rfl (by kernel_rfl) (by kernel_rfl) (by kernel_rfl) (fun _ _ _ h => h) (Or.inl ⟨by rfl, fun W' hS' => by go_simp⟩) hS2 ?_
  simp only [Act.put, List.getElem_toArray, List.getElem_cons_zero, List.getElem_cons_succ, List.setIfInBounds_toArray, List.set_cons_zero, List.set_cons_succ]
  refine wpAnyH_done (by kernel_rfl) ?_ _
  clear hS hS2 e2 hB2 hd2 hbd2
  clear k0 k1 k2 k3
  go_wp2_with fail
  refine wp_region_held_drew (S := fun W' => W'.cell? ⟨W.heap.size, 0, none⟩ = some (.bool false) ∧ W'.cell? ⟨W.heap.size, 1, none⟩ = some (.slice A3 n3 c3) ∧ W'.cell? ⟨W.heap.size, 2, none⟩ = some (.bool false) ∧ W'.cell? ⟨W.heap.size, 3, none⟩ = some (.slice A4 n4 c4)) (by kernel_rfl) ⟨d2.cell 0, d2.cell 1, d2.cell 2, d2.cell 3⟩ (fun hS => ?_)
  refine wpAnyH_take (i := 0) (v := .agg #[.bool false, .slice A3 n3 c3, .bool false, .slice A4 n4 c4]) rfl (by kernel_rfl) (by kernel_rfl) (by kernel_rfl) (fun _ _ _ h => h) (Or.inl ⟨by rfl, fun W' hS' => by obtain ⟨q0, q1, q2, q3⟩ := hS'; go_simp⟩) hS ?_
  simp only [Act.put, List.getElem_toArray, List.getElem_cons_zero, List.getElem_cons_succ, List.setIfInBounds_toArray, List.set_cons_zero, List.set_cons_succ]
  have hd3 := (Blk.drew d2)
  have hbd3 : Below W.heap.size W W2.drew := HB2.out.drew
  refine wpAnyH_ready (rs := [1]) (by kernel_rfl) (by simp) ?_
  refine AllReadyH.cons rfl (fun Kq hKq => ?_) AllReadyH.nil
  simp only [List.getElem_toArray, List.getElem_cons_zero, List.getElem_cons_succ]
  go_simp
  refine (whole_ok 1 (by omega) _).mono ?_
  rintro e V3 ⟨v, rfl, p, q, A1, A2, n1, c1, n2, c2, rfl, hr, ⟨hpv, hqv⟩, -, -, hb⟩
  have e3 := hd3.below hb hd3.lt
  have hB3 := hbd3.trans (hb.mono hbd3.size)
  have hs3 := len_small hr.num (by rw [hpv]; omega)
  have hs4 := len_small hr.den (by rw [hqv]; omega)
  have HCM := Lib.hid (qCmp_ok A3 A4 A1 A2 n3 c3 n4 c4 n1 c1 n2 c2 Nn Dd p q V3 ((HL.out.below hB3).more hB3.size) hr (by omega) (by omega))
  rw [hpv, hqv] at HCM
  have HCM2 := Lib.hid (show Calls Tryz.prog 18 #[.agg (ratC A3 n3 c3 A4 n4 c4), .agg (ratC A1 n1 c1 A2 n2 c2)] V3 (Ret (.tuple #[.int .i64 hg, .int .i64 0]) V3) by
    have h := HCM.out
    have h2 := HHIGH.out
    rwa [show sgn (valL Nn * 1 - ((1 : Nat) : Int) * valL Dd) = hg from h2] at h)
  clear HCM hr hpv hqv hb
  refine hKq.out _ _ ⟨e3.cell 0, e3.cell 1, e3.cell 2, e3.cell 3⟩ (fun _ => ?_)
  clear hKq Kq
  refine wpAnyH_ready (rs := [2]) (by kernel_rfl) (by simp) ?_
  refine AllReadyH.cons rfl (fun Kq hKq => ?_) AllReadyH.nil
  simp only [List.getElem_toArray, List.getElem_cons_zero, List.getElem_cons_succ]
  go_simp
  refine HCM2.out.mono ?_
  rintro e W3 ⟨rfl, hb⟩
  have d3 := e3.below hb e3.lt
  have HB3 := Lib.hid (hB3.trans (hb.mono hB3.size))
  have hS3 : W3.cell? ⟨W.heap.size, 0, none⟩ = some (.bool false) ∧ W3.cell? ⟨W.heap.size, 1, none⟩ = some (.slice A3 n3 c3) ∧ W3.cell? ⟨W.heap.size, 2, none⟩ = some (.bool false) ∧ W3.cell? ⟨W.heap.size, 3, none⟩ = some (.slice A4 n4 c4) := ⟨d3.cell 0, d3.cell 1, d3.cell 2, d3.cell 3⟩
  refine hKq.out _ _ hS3 (fun _ => ?_)
  clear hKq Kq hb HCM2
  refine wpAnyH_take (i := 3) (v := .tuple #[.int .i64 hg, .int .i64 0]) rfl (by kernel_rfl) (by kernel_rfl) (by kernel_rfl) (fun _ _ _ h => h) (Or.inl ⟨by rfl, fun W' hS' => by go_simp⟩) hS3 ?_
  simp only [Act.put, List.getElem_toArray, List.getElem_cons_zero, List.getElem_cons_succ, List.setIfInBounds_toArray, List.set_cons_zero, List.set_cons_succ]
  refine wpAnyH_take (i := 4) (v := .int .i64 hg) rfl (by kernel_rfl) (by kernel_rfl) (by kernel_rfl) (fun _ _ _ h => h) (Or.inl ⟨by rfl, fun W' hS' => by go_simp⟩) hS3 ?_
  simp only [Act.put, List.getElem_toArray, List.getElem_cons_zero, List.getElem_cons_succ, List.setIfInBounds_toArray, List.set_cons_zero, List.set_cons_succ]
  refine wpAnyH_take (i := 5) (v := .int .i64 0) rfl (by kernel_rfl) (by kernel_rfl) (by kernel_rfl) (fun _ _ _ h => h) (Or.inl ⟨by rfl, fun W' hS' => by go_simp⟩) hS3 ?_
  simp only [Act.put, List.getElem_toArray, List.getElem_cons_zero, List.getElem_cons_succ, List.setIfInBounds_toArray, List.set_cons_zero, List.set_cons_succ]
  refine wpAnyH_take (i := 6) (v := .int .i64 hg) rfl (by kernel_rfl) (by kernel_rfl) (by kernel_rfl) (fun _ _ _ h => h) (Or.inl ⟨by rfl, fun W' hS' => by go_simp⟩) hS3 ?_
  simp only [Act.put, List.getElem_toArray, List.getElem_cons_zero, List.getElem_cons_succ, List.setIfInBounds_toArray, List.set_cons_zero, List.set_cons_succ]
  refine wpAnyH_take (i := 7) (v := .int .i64 0) rfl (by kernel_rfl) (by kernel_rfl) (by kernel_rfl) (fun _ _ _ h => h) (Or.inl ⟨by rfl, fun W' hS' => by go_simp⟩) hS3 ?_
  simp only [Act.put, List.getElem_toArray, List.getElem_cons_zero, List.getElem_cons_succ, List.setIfInBounds_toArray, List.set_cons_zero, List.set_cons_succ]
  refine wpAnyH_done (by kernel_rfl) ?_ _
  clear hS hS3 e3 hB3 hd3 hbd3
  go_wp2_with fail
  refine (chances_any n w W3).mono ?_
  rintro e W4 ⟨rfl, hW4⟩
  have hb34 : Below W3.heap.size W3 W4 := by rw [hW4]; exact ((Below.refl _ _).alloc (Nat.le_refl _) _).alloc (by simp) _
  have b1 : Blk W4 W3.heap.size 3 #[.int .i64 n] := by rw [hW4]; exact (Blk.new _ _ _).alloc _
  have b2 : Blk W4 (W3.heap.size + 1) 3 #[.int .i64 w] := by rw [hW4]; exact Blk.new' _ _ _ (by simp)
  have d4 := d3.below hb34 d3.lt
  have HB4 := Lib.hid (HB3.out.trans (hb34.mono HB3.out.size))
  have HF := Lib.hid (HND.out _ _ _ _ _ W4 b1 b2 d4 HB4.out)
  clear hW4 hb34 b1 b2 d4 HND
  go_wp2_with fail
  refine HF.out.mono ?_
  rintro e W5 ⟨v, rfl, hb5⟩
  rw [← HNN.out]
  go_wp2_with fail
  go_ret2
  exact ⟨rfl, HB4.out.trans (hb5.mono HB4.out.size)⟩
end Go.Proofs.YtkkcbkfpaoldmaaGreatDoor

/- Walks: what risk.Margin calls: ContainsFunc, Clone, SortFunc of equal numbers that are few. -/
namespace Go.Proofs.YtkkcbkfpaoldmaaGreatDoor
open Go Go.RowKit

/-- m numbers S. -/
def SRd (w : World) (B : Nat) (A : Option Addr) (m : Nat) (S : Int) : Prop := Rd w B A m (fun _ => .int .i64 S)
set_option maxRecDepth 100000 in
set_option linter.unusedSimpArgs false in
theorem margin1_ok (S : Int) (hS : 0 ≤ S ∧ S ≤ 1048576) (w : World) : Calls Tryz.prog 69 #[.int .i64 S] w (fun e w' => e = .returned (.bool false) ∧ w = w') := by
  go_enter Tryz.func69, Tryz.ntmps69
  go_wp2_with fail
  refine (within_ok S 1048576 hS.1 hS.2 w).mono ?_
  rintro e w1 ⟨rfl, rfl⟩
  go_wp2_with fail
  go_ret
  exact ⟨rfl, rfl⟩
set_option maxRecDepth 100000 in
theorem margin2_ok (S : Int) (w : World) : Calls Tryz.prog 72 #[.int .i64 S, .int .i64 S] w (fun e w' => e = .returned (.int .i64 0) ∧ w' = w) := by
  go_enter Tryz.func72, Tryz.ntmps72
  go_wp2_with fail
  go_ret
  exact ⟨by simp, rfl⟩
set_option maxRecDepth 100000 in
set_option linter.unusedSimpArgs false in
set_option linter.unusedVariables false in
set_option maxHeartbeats 4000000 in
theorem indexF_span (A : Option Addr) (m c : Nat) (hm : m ≤ 100) (S : Int) (hS : 0 ≤ S ∧ S ≤ 1048576) (w : World) (hR : SRd w w.heap.size A m S) : Calls Tryz.prog 93 #[.slice A m c, .func (.func 69) #[] #[]] w (Ret (.int .i64 (-1)) w) := by
  have HR := Lib.hid hR
  clear hR
  go_enter Tryz.func93, Tryz.ntmps93
  go_wp2_with fail
  go_loopw [8] (fun i wr => ∃ k : Nat, k ≤ m ∧ i = .int .i64 k ∧ Below w.heap.size w wr) (fun i _ => m - (intOf i).toNat)
  case atStart => exact ⟨0, by omega, rfl, Below.refl _ _⟩
  case round =>
    obtain ⟨k, hk, rfl, hB⟩ := hrel
    by_cases hlt : k < m
    · obtain ⟨b, off, rfl, hbl, hcell⟩ := (Rd.below HR.out hB).at_ (k := k) hlt
      go_wp2_with fail
      refine (margin1_ok S hS wr).mono ?_
      rintro e w1 ⟨rfl, rfl⟩
      go_wp2_with fail
      go_roundw
      case rel => exact ⟨k + 1, by omega, by go_num, hB⟩
      case measure => simp [intOf]; omega
    · go_wp2_with fail
      go_ret
      exact ⟨rfl, hB⟩
set_option maxRecDepth 100000 in
set_option linter.unusedSimpArgs false in
theorem containsF_span (A : Option Addr) (m c : Nat) (hm : m ≤ 100) (S : Int) (hS : 0 ≤ S ∧ S ≤ 1048576) (w : World) (hR : SRd w w.heap.size A m S) : Calls Tryz.prog 68 #[.slice A m c, .func (.func 69) #[] #[]] w (Ret (.bool false) w) := by
  have H := Lib.hid (indexF_span A m c hm S hS w hR)
  clear hR
  go_enter Tryz.func68, Tryz.ntmps68
  go_wp2_with fail
  refine H.out.mono ?_
  rintro e w1 ⟨rfl, hb1⟩
  go_wp2_with fail
  go_ret
  exact ⟨rfl, hb1⟩
set_option maxRecDepth 100000 in
set_option linter.unusedSimpArgs false in
set_option linter.unusedVariables false in
theorem bits_Len_ok (m : Nat) (hm : m ≤ 100) (w : World) : Calls Tryz.prog 95 #[.int .u64 m] w (fun e w' => e = .returned (.int .i64 (Lib.bitLen m : Nat)) ∧ w = w') := by
  have H := Lib.hid (bits_Len64 (m : Int) w (by omega) (by omega))
  go_enter Tryz.func95, Tryz.ntmps95
  go_wp2_with fail
  refine H.out.mono ?_
  rintro e w1 ⟨rfl, rfl⟩
  go_wp2_with fail
  go_ret
  exact ⟨by simp, rfl⟩
set_option maxRecDepth 100000 in
set_option linter.unusedSimpArgs false in
set_option linter.unusedVariables false in
set_option maxHeartbeats 4000000 in
theorem insertion_same (A : Option Addr) (m c : Nat) (hm : m ≤ 12) (S : Int) (w : World) (hR : SRd w w.heap.size A m S) : Calls Tryz.prog 109 #[.slice A m c, .int .i64 0, .int .i64 m, .func (.func 72) #[] #[]] w (Ret (.tuple #[]) w) := by
  have HR := Lib.hid hR
  have HM := Lib.hid (fun W => margin2_ok S W)
  clear hR
  go_enter Tryz.func109, Tryz.ntmps109
  go_wp2_with fail
  go_loopw [8] (fun i wr => ∃ k : Nat, 1 ≤ k ∧ k ≤ m + 1 ∧ i = .int .i64 k ∧ Below w.heap.size w wr) (fun i _ => m + 1 - (intOf i).toNat)
  case atStart => exact ⟨1, by omega, by omega, rfl, Below.refl _ _⟩
  case round =>
    obtain ⟨k, hk1, hk, rfl, hB⟩ := hrel
    by_cases hlt : k < m
    · have g0 : decide ((k : Int) < (m : Int)) = true := decide_eq_true (by omega)
      have g0n : decide (k < m) = true := decide_eq_true hlt
      go_wp2_with fail
      go_loopw [9] (fun j wr2 => j = .int .i64 k ∧ Below w.heap.size w wr2) (fun j _ => 0)
      case atStart => exact ⟨rfl, hB⟩
      case round =>
        obtain ⟨rfl, hB2⟩ := hrel
        obtain ⟨j, hj⟩ : ∃ j, j = k - 1 := ⟨_, rfl⟩
        have hj1 : (k : Int) - 1 = (j : Int) := by omega
        have hjw : IntKind.i64.wrap (j : Int) = (j : Int) := Go.IntWalk.i64_in _ (by omega)
        obtain ⟨b, off, rfl, hbl, hc1⟩ := (Rd.below HR.out hB2).at_ (k := k) hlt
        obtain ⟨b', off', e, -, hc2⟩ := (Rd.below HR.out hB2).at_ (k := j) (by omega)
        simp only [Option.some.injEq, Addr.mk.injEq, and_true] at e
        obtain ⟨rfl, rfl⟩ := e
        have g1 : decide ((0 : Int) < (k : Int)) = true := decide_eq_true (by omega)
        have g1n : decide (0 < k) = true := decide_eq_true (by omega)
        have hjm : j < m := by omega
        clear hj
        go_wp2_with fail
        go_quiet ((go_at_call 72; exact Calls.quiet_of_same (HM.out _)))
        go_wp2_with fail
        go_roundw
        case rel => exact ⟨k + 1, by omega, by omega, by go_num, below_drewN hB2 _⟩
        case measure => simp [intOf]; omega
    · have g0 : decide ((k : Int) < (m : Int)) = false := decide_eq_false (by omega)
      go_wp2_with fail
      go_end0
      exact ⟨rfl, hB⟩
set_option maxRecDepth 1000000 in
set_option linter.unusedSimpArgs false in
set_option linter.unusedVariables false in
set_option maxHeartbeats 4000000 in
theorem pdq_same (A : Option Addr) (m c : Nat) (hm : m ≤ 12) (S : Int) (l : Int) (w : World) (hR : SRd w w.heap.size A m S) : Calls Tryz.prog 94 #[.slice A m c, .int .i64 0, .int .i64 m, .int .i64 l, .func (.func 72) #[] #[]] w (Ret (.tuple #[]) w) := by
  have H := Lib.hid (insertion_same A m c hm S w hR)
  have g0 : decide ((m : Int) ≤ 12) = true := decide_eq_true (by omega)
  have g0n : decide (m ≤ 12) = true := decide_eq_true hm
  clear hR
  go_enter Tryz.func94, Tryz.ntmps94
  go_wp2_with fail
  go_loopw [1, 2] (fun x y wr2 => x = .int .i64 0 ∧ y = .int .i64 m ∧ wr2 = w) (fun j _ _ => 0)
  case atStart => exact ⟨rfl, rfl, rfl⟩
  case round =>
    obtain ⟨rfl, rfl, rfl⟩ := hrel
    go_wp2_with fail
    refine H.out.mono ?_
    rintro e w1 ⟨rfl, hb1⟩
    go_wp2_with fail
    go_end0
    exact ⟨rfl, hb1⟩
set_option maxRecDepth 100000 in
set_option linter.unusedSimpArgs false in
set_option linter.unusedVariables false in
theorem sortF_same (A : Option Addr) (m c : Nat) (hm : m ≤ 12) (S : Int) (w : World) (hR : SRd w w.heap.size A m S) : Calls Tryz.prog 71 #[.slice A m c, .func (.func 72) #[] #[]] w (Ret (.tuple #[]) w) := by
  have H := Lib.hid (fun l => pdq_same A m c hm S l w hR)
  have HB := Lib.hid (bits_Len_ok m (by omega) w)
  clear hR
  go_enter Tryz.func71, Tryz.ntmps71
  go_wp2_with fail
  refine HB.out.mono ?_
  rintro e w1 ⟨rfl, rfl⟩
  go_wp2_with fail
  refine (H.out _).mono ?_
  rintro e w1 ⟨rfl, hb1⟩
  go_wp2_with fail
  go_end0
  exact ⟨rfl, hb1⟩
end Go.Proofs.YtkkcbkfpaoldmaaGreatDoor

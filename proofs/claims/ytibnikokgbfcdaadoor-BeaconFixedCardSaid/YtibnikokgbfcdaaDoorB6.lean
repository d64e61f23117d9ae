/- Walks: the two iterators of beacon.Value. -/
import Derived.Test.YtibnikokgbfcdaaDoorB5
namespace Go.Proofs.YtibnikokgbfcdaaDoor
open Go Go.RowKit Go.Shelf
attribute [local go_sem] Oper.semAt_some

/-- All blocks below n₀ but bm lie as they lay. -/
def Bel (n₀ bm : Nat) (W W' : World) : Prop := W.heap.size ≤ W'.heap.size ∧ ∀ i, i < n₀ → i ≠ bm → W'.heap[i]? = W.heap[i]?
theorem Bel.refl (n₀ bm : Nat) (W : World) : Bel n₀ bm W W := ⟨Nat.le_refl _, fun _ _ _ => rfl⟩
theorem Bel.trans {n₀ bm : Nat} {X Y Z : World} (h : Bel n₀ bm X Y) (k : Bel n₀ bm Y Z) : Bel n₀ bm X Z := ⟨Nat.le_trans h.1 k.1, fun i h1 h2 => (k.2 i h1 h2).trans (h.2 i h1 h2)⟩
theorem Bel.of_below {n₀ bm B : Nat} {W W' : World} (h : Below B W W') (hB : n₀ ≤ B) : Bel n₀ bm W W' := ⟨h.size, fun i h1 _ => h.block i (by omega)⟩
theorem Bel.of_grown {n₀ bm : Nat} {W W' : World} (h : W.grownBy W' (some bm)) (hB : n₀ ≤ W.heap.size) : Bel n₀ bm W W' := ⟨h.size, fun i h1 h2 => h.block i (by omega) (fun e => h2 (Option.some.inj e))⟩
theorem Bel.blk {n₀ bm g : Nat} {W W' : World} {t : TypeId} {cs : Array Value} (h : Bel n₀ bm W W') (hg : Blk W g t cs) (h1 : g < n₀) (h2 : g ≠ bm) : Blk W' g t cs := (h.2 g h1 h2).trans hg
theorem PRd.bel {n₀ bm : Nat} {W W' : World} {A : Option Addr} {l : List Pd} (h : PRd W n₀ A l) (hb : Bel n₀ bm W W') (hA : 0 < l.length → ∀ p, A = some p → p.block ≠ bm) : PRd W' n₀ A l := fun hn => by
  obtain ⟨b, off, e, hB, hc⟩ := h hn
  refine ⟨b, off, e, hB, fun k x hx => ⟨(hc k x hx).1, fun j v hv => ?_⟩⟩
  rw [World.cell?_of_block (a := ⟨b, _, none⟩) (hb.2 b hB (hA hn _ e))]
  exact (hc k x hx).2 j v hv
set_option maxRecDepth 100000 in
set_option linter.unusedSimpArgs false in
set_option linter.unusedVariables false in
set_option maxHeartbeats 4000000 in
theorem val1_in (n : Nat) (lp bs n₀ c : Nat) (A : Option Addr) (ts : TypeId) (l : List Pd) (m : Nat) (hm : m = l.length) (hm2 : m ≤ 9223372036854775807) (J Jx : List (Fin m) → World → Prop) (W : World) (hn0 : n₀ ≤ W.heap.size)
    (hJ : BearsM (·.isWalk) W.heap.size none J)
    (hY : ∀ pre x W1, J pre W1 → pre.length < m → YieldAt Fence.wide (n - 1) Tryd.prog lp #[.int .i64 (l.getD x.1 pd0).party] W1 fun e W' => (e = .returned (.bool true) ∧ J (pre ++ [x]) W' ∧ Below n₀ W1 W') ∨ (e = .returned (.bool false) ∧ Jx (pre ++ [x]) W'))
    (hbs : bs < n₀) (hD : Blk W bs ts #[.slice A m c]) (hR : PRd W n₀ A l) (h0 : J [] W) :
    Calls Tryd.prog 91 #[.func (.yield lp) #[] #[], .pointer (some ⟨bs, 0, none⟩)] W fun e W' => (∃ v, e = .returned v) ∧ ((∃ xs, xs = List.finRange m ∧ J xs W' ∧ True) ∨ (∃ pre, pre <+: List.finRange m ∧ Jx pre W')) := by
  have HY := Lib.hid hY
  have HJ := Lib.hid hJ
  have HR := Lib.hid hR
  have HM := Lib.hid hm
  clear hY hJ hR hm
  go_enter Tryd.func91, Tryd.ntmps91
  have cs : W.cell? ⟨bs, 0, none⟩ = some (.slice A m c) := hD.cell 0
  go_wp2_with fail
  go_loopw [7] (fun i wr => ∃ k : Nat, k ≤ m ∧ i = .int .i64 k ∧ J ((List.finRange m).take k) wr ∧ Below n₀ W wr) (fun i _ => m - (intOf i).toNat)
  case atStart => exact ⟨0, by omega, rfl, h0, Below.refl _ _⟩
  case round =>
    clear cs
    obtain ⟨k, hk, rfl, hJs, hB⟩ := hrel
    by_cases hlt : k < m
    · obtain ⟨b, off, rfl, hbl, hx⟩ := (HR.out.below hB).at_ (k := k) (by rw [← HM.out]; exact hlt)
      obtain ⟨x, hxe⟩ : ∃ x, x = l.getD k pd0 := ⟨_, rfl⟩
      have HXE := Lib.hid (show (l.getD k pd0).party = x.party by rw [hxe])
      rw [← hxe] at hx
      have HX := Lib.hid hx
      clear hxe hx
      go_upto_region 3 with (first
        | (refine load_pd pledgeType pledgeInfo rfl _ rfl b (off + k * 33) x HX.out rfl ?_)
        | (refine store_pd pledgeInfo rfl _ _ rfl (Blk.new' wr 61 _ rfl) x HX.out.1 rfl rfl rfl ?_; intro W2 hX2 hO2 hz2
           have hB2r : Below wr.heap.size wr W2 := ((Below.refl _ wr).alloc (Nat.le_refl _) _).trans (hO2.toBelow (by simp) (Nat.le_refl _))))
      have hJ2 : J ((List.finRange m).take k) W2 := HJ.out _ _ _ none hJs (grown_of_below hB2r) (fun r e => by cases e)
      have hB2 : Below n₀ W W2 := hB.trans (hB2r.mono (Nat.le_trans hn0 hB.size))
      have k0 : W2.cell? ⟨wr.heap.size, 0, none⟩ = some (.int .i64 x.party) := pd_party hX2
      obtain ⟨fn, tmps, assign, body, hy, hRr⟩ := HY.out ((List.finRange m).take k) ⟨k, hlt⟩ W2 hJ2 (by rw [parts_take_length _ _ hk]; exact hlt)
      have hy' : (Instr.yield lp #[.int .i64 x.party]).run Tryd.prog W2 = .ok (.round lp fn tmps assign body) W2 := by rw [← HXE.out]; exact hy
      clear hy hJ2 hX2 hO2 hz2 hB2r hJs hB
      refine (wpIn_wide (n := n)).1 ?_
      gi_wp2
      refine ⟨fun h => (by cases h), hRr.mono ?_⟩
      rintro e5 W5 (⟨rfl, hJ5, hk5⟩ | ⟨rfl, hJx5⟩)
      · gi_wp2
        go_wp2_with fail
        go_roundw
        case rel => exact ⟨k + 1, by omega, by go_num, by rw [parts_take _ _ hlt]; exact hJ5, hB2.trans hk5⟩
        case measure => simp [intOf]; omega
      · gi_wp2
        go_wp2_with fail
        refine bodyPost_ret (results_none rfl _ _ _) rfl ?_
        exact ⟨⟨_, rfl⟩, .inr ⟨_, by rw [← parts_take _ _ hlt]; exact List.take_prefix _ _, hJx5⟩⟩
    · obtain rfl : k = m := by omega
      go_wp2
      go_end0
      exact ⟨⟨_, rfl⟩, .inl ⟨_, rfl, by rw [List.take_of_length_le (by simp)] at hJs; exact hJs, trivial⟩⟩
set_option maxRecDepth 100000 in
set_option linter.unusedSimpArgs false in
set_option linter.unusedVariables false in
set_option maxHeartbeats 4000000 in
theorem val2_in (n : Nat) (lp bs bv bm n₀ c : Nat) (A : Option Addr) (ts tv : TypeId) (l : List Pd) (hi : PdInts l) (m : Nat) (hm : m = l.length) (J Jx : List (Fin m) → World → Prop) (W : World) (hn0 : n₀ ≤ W.heap.size)
    (hJ : BearsM (·.isWalk) W.heap.size (some bm) J) (hG : ∀ pre W, J pre W → pre.length ≤ 24)
    (hY : ∀ pre x W1, J pre W1 → pre.length < m → YieldAt Fence.wide (n - 1) Tryd.prog lp #[.int .i64 (l.getD x.1 pd0).party] W1 fun e W' => (e = .returned (.bool true) ∧ J (pre ++ [x]) W' ∧ Below n₀ W1 W') ∨ (e = .returned (.bool false) ∧ Jx (pre ++ [x]) W'))
    (hbs : bs < n₀) (hbv : bv < n₀) (hbm : bm < n₀) (hne1 : bs ≠ bm) (hne2 : bv ≠ bm) (hD : Blk W bs ts #[.slice A m c]) (hV : Blk W bv tv #[.map (some bm)]) (hR : PRd W n₀ A l) (hA : 0 < l.length → ∀ p, A = some p → p.block ≠ bm)
    (hM : MapR W bm 0 (fun _ => none)) (h0 : J [] W) :
    Calls Tryd.prog 92 #[.func (.yield lp) #[] #[], .pointer (some ⟨bs, 0, none⟩), .pointer (some ⟨bv, 0, none⟩)] W fun e W' => (∃ v, e = .returned v) ∧ ((∃ xs, xs = List.finRange m ∧ J xs W' ∧ MapR W' bm m (laidR l)) ∨ (∃ pre, pre <+: List.finRange m ∧ Jx pre W')) := by
  have HY := Lib.hid hY
  have HJ := Lib.hid hJ
  have HG := Lib.hid hG
  have HR := Lib.hid hR
  have HM := Lib.hid hm
  have HI := Lib.hid hi
  have HA := Lib.hid hA
  have HV := Lib.hid hV
  clear hY hJ hR hm hG hi hA hV
  go_enter Tryd.func92, Tryd.ntmps92
  have cs : W.cell? ⟨bs, 0, none⟩ = some (.slice A m c) := hD.cell 0
  go_wp2_with fail
  go_loopw [8] (fun i wr => ∃ k : Nat, k ≤ m ∧ i = .int .i64 k ∧ J ((List.finRange m).take k) wr ∧ Bel n₀ bm W wr ∧ MapR wr bm k (laidR (l.take k))) (fun i _ => m - (intOf i).toNat)
  case atStart => exact ⟨0, by omega, rfl, h0, Bel.refl _ _ _, by rw [List.take_zero]; exact hM⟩
  case round =>
    clear cs hM
    obtain ⟨k, hk, rfl, hJs, hB, hM⟩ := hrel
    by_cases hlt : k < m
    · obtain ⟨b, off, rfl, hbl, hx⟩ := (HR.out.bel hB HA.out).at_ (k := k) (by rw [← HM.out]; exact hlt)
      obtain ⟨x, hxe⟩ : ∃ x, x = l.getD k pd0 := ⟨_, rfl⟩
      have HXE := Lib.hid (show (l.getD k pd0).party = x.party by rw [hxe])
      have HLR := Lib.hid (show laidR (l.take (k + 1)) = fput (laidR (l.take k)) x.party x.dg by rw [take_getD (by rw [← HM.out]; exact hlt), laidR_snoc, hxe])
      have hxi : -9223372036854775808 ≤ x.party ∧ x.party < 9223372036854775808 := HI.out x (by rw [hxe]; exact getD_mem (by rw [← HM.out]; exact hlt))
      have hk24 := HG.out _ _ hJs
      rw [parts_take_length _ _ hk] at hk24
      rw [← hxe] at hx
      have HX := Lib.hid hx
      have HXI := Lib.hid hxi
      clear hxe hx hxi
      go_upto_region 3 with (first
        | (refine load_pd revealType revealInfo rfl _ rfl b (off + k * 33) x HX.out rfl ?_)
        | (refine store_pd revealInfo rfl _ _ rfl (Blk.new' wr 69 _ rfl) x HX.out.1 rfl rfl rfl ?_; intro W2 hX2 hO2 hz2
           have hB2r : Below wr.heap.size wr W2 := ((Below.refl _ wr).alloc (Nat.le_refl _) _).trans (hO2.toBelow (by simp) (Nat.le_refl _))))
      have hJ2 : J ((List.finRange m).take k) W2 := HJ.out _ _ _ none hJs (grown_of_below hB2r) (fun r e => by cases e)
      have hn1 := Nat.le_trans hn0 hB.1
      have hB2 : Bel n₀ bm W W2 := hB.trans (Bel.of_below hB2r hn1)
      have hM2 : MapR W2 bm k (laidR (l.take k)) := hM.below hB2r (by omega)
      have k0 : W2.cell? ⟨wr.heap.size, 0, none⟩ = some (.int .i64 x.party) := pd_party hX2
      have hrg := Lib.hid (pd_dg hX2 HX.out.1)
      have kv : W2.cell? ⟨bv, 0, none⟩ = some (.map (some bm)) := (hB2.blk HV.out hbv hne2).cell 0
      have hgl := hX2.lt
      have hg0 : wr.heap.size ≠ bm := by omega
      have hn2 := Nat.le_trans hn1 hB2r.size
      clear hO2 hz2 hB2r hJs hB hM
      go_upto_region 4 with (first
        | (refine wpList_load_mid rfl 23 _ rfl wr.heap.size 1 rfl (dig x.dg).toList _ hrg.out Tryd.underlying23 rfl (by rw [Array.length_toList]; exact dig_info _ HX.out.1) ?_)
        | (at_mapUpdate; refine map_store rfl _ _ _ rfl hM2 (by omega) rfl x.party HXI.out.1 HXI.out.2 rfl x.dg HX.out.1 rfl ?_; intro W3 hM3 hgr3))
      have hJ3 : J ((List.finRange m).take k) W3 := HJ.out _ _ _ (some bm) hJ2 hgr3 (fun r e => .inr e)
      have hB3 : Bel n₀ bm W W3 := hB2.trans (Bel.of_grown hgr3 hn2)
      have k03 : W3.cell? ⟨wr.heap.size, 0, none⟩ = some (.int .i64 x.party) := pd_party (hX2.grown hgr3 (fun e => hg0 (Option.some.inj e)))
      have hn3 := Nat.le_trans hn2 hgr3.size
      rw [← HLR.out] at hM3
      clear hM2 k0 kv hJ2 hB2 hX2 hgr3
      obtain ⟨fn, tmps, assign, body, hy, hRr⟩ := HY.out ((List.finRange m).take k) ⟨k, hlt⟩ W3 hJ3 (by rw [parts_take_length _ _ hk]; exact hlt)
      have hy' : (Instr.yield lp #[.int .i64 x.party]).run Tryd.prog W3 = .ok (.round lp fn tmps assign body) W3 := by rw [← HXE.out]; exact hy
      clear hy hJ3
      refine (wpIn_wide (n := n)).1 ?_
      gi_wp2
      refine ⟨fun h => (by cases h), hRr.mono ?_⟩
      rintro e5 W5 (⟨rfl, hJ5, hk5⟩ | ⟨rfl, hJx5⟩)
      · gi_wp2
        go_wp2_with fail
        go_roundw
        case rel => exact ⟨k + 1, by omega, by go_num, by rw [parts_take _ _ hlt]; exact hJ5, hB3.trans (Bel.of_below hk5 (Nat.le_refl _)), hM3.below hk5 hbm⟩
        case measure => simp [intOf]; omega
      · gi_wp2
        go_wp2_with fail
        refine bodyPost_ret (results_none rfl _ _ _) rfl ?_
        exact ⟨⟨_, rfl⟩, .inr ⟨_, by rw [← parts_take _ _ hlt]; exact List.take_prefix _ _, hJx5⟩⟩
    · obtain rfl : k = m := by omega
      go_wp2
      go_end0
      exact ⟨⟨_, rfl⟩, .inl ⟨_, rfl, by rw [List.take_of_length_le (by simp)] at hJs; exact hJs, by rw [HM.out, List.take_length] at hM; rw [← HM.out] at hM; exact hM⟩⟩
open Classical in
noncomputable def formB (l : List Pd) : Bool := decide (inForm l)
theorem formB_true {l : List Pd} : formB l = true ↔ inForm l := by simp [formB]
theorem formB_false {l : List Pd} : formB l = false ↔ ¬ inForm l := by simp [formB]
theorem parties_fin (l : List Pd) (m : Nat) (hm : m = l.length) : (List.finRange m).map (fun x : Fin m => (l.getD x.1 pd0).party) = l.map Pd.party := by
  apply List.ext_getElem? fun k => ?_
  by_cases hk : k < m
  · rw [List.getElem?_map, List.getElem?_map, List.getElem?_eq_getElem (by simpa using hk), List.getElem?_eq_getElem (by omega)]
    simp [List.getD_eq_getElem?_getD, List.getElem?_eq_getElem (show k < l.length by omega)]
  · rw [List.getElem?_eq_none (by simp; omega), List.getElem?_eq_none (by simp; omega)]
theorem rise_pledges (A : Option Addr) (l : List Pd) (m c : Nat) (hm : m = l.length) (hm2 : m ≤ 9223372036854775807) (bs : Nat) (ts : TypeId) (w : World) (hD : Blk w bs ts #[.slice A m c]) (hR : PRd w w.heap.size A l) :
    Calls Tryd.prog 93 #[.func (.func 91) #[] #[.pointer (some ⟨bs, 0, none⟩)]] w (Ret (.bool (formB l)) w) := by
  refine (rising_gen (fun x : Fin m => (l.getD x.1 pd0).party) 91 #[.pointer (some ⟨bs, 0, none⟩)] (Below w.heap.size) none (fun _ _ => True) w (enters_of Tryd.func91 (by kernel_rfl) rfl)
    (fun lp J Jx W hW hJ _ hG hY h0 => callsIn_wide.2 (val1_in 4 lp bs w.heap.size c A ts l m hm hm2 J Jx W hW.size hJ hY hD.lt (hD.below hW hD.lt) (hR.below hW) h0)) (fun b e => by cases e) (fun h k => Below.trans h k) (fun _ _ h => h) (fun _ _ _ _ h _ _ => h)).mono ?_
  rintro e w' ⟨r, rfl, hg, h⟩
  rw [parties_fin l m hm, pinc_iff] at h
  have hb : Below w.heap.size w w' := ⟨hg.os, hg.tape, hg.output, hg.size, fun i hi => hg.block i hi (by simp)⟩
  rcases h with ⟨rfl, h1, -⟩ | ⟨rfl, h1⟩
  · exact ⟨by rw [formB_true.2 h1], hb⟩
  · exact ⟨by rw [formB_false.2 h1], hb⟩
def RevPost (l : List Pd) (bm m : Nat) (w : World) (e : Ending) (w' : World) : Prop := e = .returned (.bool (formB l)) ∧ w.grownBy w' (some bm) ∧ (inForm l → MapR w' bm m (findR l))
theorem rise_reveals (A : Option Addr) (l : List Pd) (hi : PdInts l) (m c : Nat) (hm : m = l.length) (bs bv bm : Nat) (ts tv : TypeId) (w : World) (hne1 : bs ≠ bm) (hne2 : bv ≠ bm) (hD : Blk w bs ts #[.slice A m c]) (hV : Blk w bv tv #[.map (some bm)]) (hA : 0 < l.length → ∀ p, A = some p → p.block ≠ bm) (hR : PRd w w.heap.size A l)
    (hM : MapR w bm 0 (fun _ => none)) : Calls Tryd.prog 93 #[.func (.func 92) #[] #[.pointer (some ⟨bs, 0, none⟩), .pointer (some ⟨bv, 0, none⟩)]] w (RevPost l bm m w) := by
  refine (rising_gen (fun x : Fin m => (l.getD x.1 pd0).party) 92 #[.pointer (some ⟨bs, 0, none⟩), .pointer (some ⟨bv, 0, none⟩)] (Below w.heap.size) (some bm) (fun _ W => MapR W bm m (laidR l)) w (enters_of Tryd.func92 (by kernel_rfl) rfl)
    (fun lp J Jx W hW hJ _ hG hY h0 => callsIn_wide.2 (val2_in 4 lp bs bv bm w.heap.size c A ts tv l hi m hm J Jx W hW.size hJ (fun pre W h => by have := pinc_le (hG pre W h); simpa using this) hY hD.lt hV.lt hM.lt hne1 hne2 (hD.below hW hD.lt) (hV.below hW hV.lt) (hR.below hW) hA (hM.below hW hM.lt) h0)) (fun b e => by cases e; exact hM.lt) (fun h k => Below.trans h k) (fun _ _ h => h) (fun _ _ _ row h hg hr => h.kept hg (fun e => by have := hr _ e.symm; have := hM.lt; omega))).mono ?_
  rintro e w' ⟨r, rfl, hg, h⟩
  rw [parties_fin l m hm, pinc_iff] at h
  rcases h with ⟨rfl, h1, h2⟩ | ⟨rfl, h1⟩
  · exact ⟨by rw [formB_true.2 h1], hg, fun _ => h2.congr (laidR_eq h1.pairwise)⟩
  · exact ⟨by rw [formB_false.2 h1], hg, fun h => absurd h h1⟩
end Go.Proofs.YtibnikokgbfcdaaDoor

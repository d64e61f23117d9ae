/- Walk: chain.beginnings. -/
import Derived.Test.YtibnikokgbfcdaaDoorC1
import Derived.Test.YtibnikokgbfcdaaDoorSamp1
import Derived.Test.YtibnikokgbfcdaaDoorRf
import Derived.OrdersIn
import Derived.Deep.Slices
namespace Go.Proofs.YtibnikokgbfcdaaDoor
open Go Go.RowKit
attribute [local go_sem] Oper.semAt_some

section
variable {P : Program} {n : Nat} {Q : Exit → Act → World → Prop}
theorem rowsIn_wide {row : String} {args : Array Value} {w : World} {R : Value → World → Prop} (h : Rows P row args w R) : RowsIn Fence.wide n P row args w R := fun c cs _ => by
  obtain ⟨v, w', hr, hs⟩ := h c cs
  exact ⟨v, w', hr, stepsIn_wide.2 hs⟩
theorem opIn_wide {o : Oper} {a : Act} {w : World} {K : Act → World → Prop} (h : o.wp P a w K Q) : o.wpIn Fence.wide n P a w K Q := by
  refine ⟨fun f _ => trivial, ?_⟩
  show o.uponIn Fence.wide n P a K Q ((o.semAt none a.eval).run P w)
  have e : o.semAt none a.eval = execOp a.eval o := rfl
  rw [e]
  unfold Oper.wp at h
  generalize (execOp a.eval o).run P w = r at *
  cases r with
  | ok nx w' =>
    cases nx with
    | value v => exact h
    | skip => exact h
    | defer d => exact h
    | enter f args => exact ⟨fun e => (by cases e), callsIn_wide.2 h⟩
    | row row args => exact ⟨fun e => (by cases e), rowsIn_wide h⟩
    | _ => exact h.elim
  | halt x w' => cases x <;> first | exact h | exact h.elim
end

/-- The value of a link that lies in memory. -/
def lkV (l : List Lk) (V : Nat → Option Addr × Nat) (k : Nat) : Value := .agg ((l.getD k ⟨0, 0, [], []⟩).cells (.slice (V k).1 (l.getD k ⟨0, 0, [], []⟩).data.length (V k).2)).toArray
/-- Links from offset off of block b on, their data at the addresses V. -/
def LRv (w : World) (B b off : Nat) (l : List Lk) (V : Nat → Option Addr × Nat) : Prop :=
  b < B ∧ ∀ (k : Nat), k < l.length → (l.getD k ⟨0, 0, [], []⟩).prev.length = 32 ∧ w.rangeAt b (off + k * 35) ((l.getD k ⟨0, 0, [], []⟩).cells (.slice (V k).1 (l.getD k ⟨0, 0, [], []⟩).data.length (V k).2)) ∧
    (l.getD k ⟨0, 0, [], []⟩).data.length ≤ (V k).2 ∧ (V k).2 ≤ 9223372036854775807 ∧ RdB w B (V k).1 (l.getD k ⟨0, 0, [], []⟩).data
theorem LRd.v {w : World} {B : Nat} {A : Option Addr} {l : List Lk} (h : LRd w B A l) (h0 : 0 < l.length) : ∃ b off V, A = some ⟨b, off, none⟩ ∧ LRv w B b off l V := by
  obtain ⟨b, off, e, hb, hc⟩ := h h0
  have key : ∀ k, k < l.length → ∃ V : Option Addr × Nat, (l.getD k ⟨0, 0, [], []⟩).prev.length = 32 ∧ w.rangeAt b (off + k * 35) ((l.getD k ⟨0, 0, [], []⟩).cells (.slice V.1 (l.getD k ⟨0, 0, [], []⟩).data.length V.2)) ∧
      (l.getD k ⟨0, 0, [], []⟩).data.length ≤ V.2 ∧ V.2 ≤ 9223372036854775807 ∧ RdB w B V.1 (l.getD k ⟨0, 0, [], []⟩).data := fun k hk => by
    have hx : l[k]? = some (l.getD k ⟨0, 0, [], []⟩) := by rw [List.getD_eq_getElem?_getD, List.getElem?_eq_getElem hk]; rfl
    obtain ⟨h1, D, c, h2, h3, h4, h5⟩ := hc k _ hx
    exact ⟨(D, c), h1, h2, h3, h4, h5⟩
  obtain ⟨V, hV⟩ := Deep.choose_lt (α := Option Addr × Nat) key
  exact ⟨b, off, V, e, hb, hV⟩
theorem LRv.below {w w' : World} {B b off : Nat} {l : List Lk} {V : Nat → Option Addr × Nat} (h : LRv w B b off l V) (hb : Below B w w') : LRv w' B b off l V :=
  ⟨h.1, fun k hk => by
    obtain ⟨h1, h2, h3, h4, h5⟩ := h.2 k hk
    exact ⟨h1, rangeAt_below h2 hb h.1, h3, h4, h5.below hb⟩⟩
theorem LRv.d {w : World} {B b off : Nat} {l : List Lk} {V : Nat → Option Addr × Nat} (h : LRv w B b off l V) : LRd w B (some ⟨b, off, none⟩) l := fun _ =>
  ⟨b, off, rfl, h.1, fun k x hx => by
    have hk := (List.getElem?_eq_some_iff.1 hx).1
    have e : l.getD k ⟨0, 0, [], []⟩ = x := by rw [List.getD_eq_getElem?_getD, hx]; rfl
    obtain ⟨h1, h2, h3, h4, h5⟩ := h.2 k hk
    rw [e] at h1 h2 h3 h5
    exact ⟨h1, _, _, h2, h3, h4, h5⟩⟩
/-- What lay below n₀, and block bs, lie as they lay. -/
def Kept (n₀ bs : Nat) (W W' : World) : Prop := Below n₀ W W' ∧ ∀ o, W.heap[bs]? = some o → W'.heap[bs]? = some o
theorem Kept.refl (n₀ bs : Nat) (W : World) : Kept n₀ bs W W := ⟨Below.refl _ _, fun _ ho => ho⟩
theorem Kept.trans {n₀ bs : Nat} {X Y Z : World} (h : Kept n₀ bs X Y) (k : Kept n₀ bs Y Z) : Kept n₀ bs X Z := ⟨h.1.trans k.1, fun o ho => k.2 o (h.2 o ho)⟩
theorem Kept.of_below {n₀ bs : Nat} {W W' : World} (h : Below W.heap.size W W') (hn : n₀ ≤ W.heap.size) : Kept n₀ bs W W' := ⟨h.mono hn, fun _ ho => (h.block bs (Array.getElem?_eq_some_iff.1 ho).1).trans ho⟩
/-- What a round of the loop over beginnings gets. -/
def begEnc (l : List Lk) (V : Nat → Option Addr × Nat) (m : Nat) (x : Fin m) : Array Value := #[lkV l V x.1, .agg (dig (headOf (l.take x.1)))]
theorem mem_take_fin (m k i : Nat) (h : i < k) (hm : i < m) : (⟨i, hm⟩ : Fin m) ∈ (List.finRange m).take k := by
  have e : ((List.finRange m).take k)[i]? = some ⟨i, hm⟩ := by
    rw [List.getElem?_take_of_lt h, List.getElem?_eq_getElem (by simpa using hm)]
    simp
  exact List.mem_of_getElem? e
theorem rangeAt_of_blk_toArray {w : World} {g : Nat} {t : TypeId} {cs : List Value} (h : Blk w g t cs.toArray) : w.rangeAt g 0 cs := fun j v hv => by
  rw [Nat.zero_add, h.cell, List.getElem?_toArray]
  exact hv
theorem slice_links (W : World) (b off m c k : Nat) (h : k ≤ m) (hc : m ≤ c) : (Instr.slice 43 (.slice (some ⟨b, off, none⟩) m c) none (some (.int .i64 (k : Int))) none).run Tryd.prog W = .ok (.slice (some ⟨b, off, none⟩) k c) W := by
  have h1 : k ≤ c := by omega
  simp [Instr.slice, run_underlying Tryd.underlying43, Instr.sliceBounds, Instr.sliceBound, asIntOf, h1, Addr.add_mid]
set_option maxRecDepth 100000 in
set_option linter.unusedSimpArgs false in
set_option maxHeartbeats 4000000 in
theorem begin1_in (n : Nat) (lp bs n₀ b off c : Nat) (A : Option Addr) (ts : TypeId) (l : List Lk) (V : Nat → Option Addr × Nat) (m : Nat) (hm : m = l.length) (hm2 : m ≤ 1024) (hc : m ≤ c) (J Jx : List (Fin m) → World → Prop) (W : World) (hn0 : n₀ ≤ W.heap.size)
    (hJ : BearsM (·.isWalk) W.heap.size none J) (hG : ∀ pre W, J pre W → ∀ x ∈ pre, (l.getD x.1 ⟨0, 0, [], []⟩).fine)
    (hY : ∀ pre x W1, J pre W1 → pre.length < m → YieldAt Fence.wide (n - 1) Tryd.prog lp (begEnc l V m x) W1 fun e W' => (e = .returned (.bool true) ∧ J (pre ++ [x]) W' ∧ Kept n₀ bs W1 W') ∨ (e = .returned (.bool false) ∧ Jx (pre ++ [x]) W'))
    (hL : Laid W) (hL0 : 0 < n₀) (hL1 : 1 < n₀) (hD : Blk W bs ts #[.slice A m c]) (hA : 0 < m → A = some ⟨b, off, none⟩) (hR : 0 < m → LRv W n₀ b off l V) (h0 : J [] W) :
    Calls Tryd.prog 113 #[.func (.yield lp) #[] #[], .pointer (some ⟨bs, 0, none⟩)] W fun e W' => (∃ v, e = .returned v) ∧ ((∃ xs, xs = List.finRange m ∧ J xs W' ∧ True) ∨ (∃ pre, pre <+: List.finRange m ∧ Jx pre W')) := by
  have HY := Lib.hid hY
  have HJ := Lib.hid hJ
  have HG := Lib.hid hG
  have HR := Lib.hid hR
  have HM := Lib.hid hm
  have HL := Lib.hid hL
  clear hY hJ hG hR hL hm
  go_enter Tryd.func113, Tryd.ntmps113
  have cs : W.cell? ⟨bs, 0, none⟩ = some (.slice A m c) := hD.cell 0
  go_wp2_with fail
  go_loopw [7] (fun i wr => ∃ k : Nat, k ≤ m ∧ i = .int .i64 k ∧ J ((List.finRange m).take k) wr ∧ Kept n₀ bs W wr) (fun i _ => m - (intOf i).toNat)
  case atStart => exact ⟨0, by omega, rfl, h0, Kept.refl _ _ _⟩
  case round =>
    obtain ⟨k, hk, rfl, hJs, hB⟩ := hrel
    have cs2 : wr.cell? ⟨bs, 0, none⟩ = some (.slice A m c) := (show Blk wr bs ts #[.slice A m c] from hB.2 _ hD).cell 0
    by_cases hlt : k < m
    · obtain rfl : A = some ⟨b, off, none⟩ := hA (by omega)
      have hRr := (HR.out (by omega)).below hB.1
      obtain ⟨r1, r2, r3, r4, r5⟩ := hRr.2 k (by rw [← HM.out]; exact hlt)
      have hnr := Nat.le_trans hn0 hB.1.size
      have HRR := Lib.hid hRr
      have HCS := Lib.hid cs2
      obtain ⟨x, hxe⟩ : ∃ x, x = l.getD k ⟨0, 0, [], []⟩ := ⟨_, rfl⟩
      obtain ⟨⟨D, dc⟩, hde⟩ : ∃ p, p = V k := ⟨_, rfl⟩
      rw [← hxe, ← hde] at r2 r3 r5
      rw [← hxe] at r1
      simp only at r2 r3 r5
      have HXE := Lib.hid hxe
      have HDE := Lib.hid hde
      clear hRr cs hxe hde r4
      go_upto_region 3 with (first
        | (refine load_link rfl _ rfl x _ r1 rfl r2 ?_)
        | (refine store_link rfl _ _ rfl (Blk.new' wr 52 _ rfl) x D x.data.length dc r1 rfl rfl rfl ?_; intro W2 hX hO2 hz2
           have hB2r : Below wr.heap.size wr W2 := ((Below.refl _ wr).alloc (Nat.le_refl _) _).trans (hO2.toBelow (by simp) (Nat.le_refl _))))
      have hJ2 : J ((List.finRange m).take k) W2.drew := HJ.out _ _ _ none (HJ.out _ _ _ none hJs (grown_of_below hB2r) (fun r e => by cases e)) (grown_of_below (Below.refl _ W2).drew) (fun r e => by cases e)
      have hB2 : Kept n₀ bs W W2.drew := hB.trans (Kept.of_below hB2r.drew hnr)
      obtain ⟨g, hg⟩ : ∃ g, g = wr.heap.size := ⟨_, rfl⟩
      rw [← hg] at hX
      have hX2 : Blk W2.drew g 52 (x.cells (.slice D x.data.length dc)).toArray := hX
      have cs3 : W2.drew.cell? ⟨bs, 0, none⟩ = some (.slice (some ⟨b, off, none⟩) m c) := (show Blk W2.drew bs ts #[.slice (some ⟨b, off, none⟩) m c] from hB2.2 _ hD).cell 0
      have hn2 := Nat.le_trans hn0 hB2.1.size
      rw [← hg]
      simp only [Act.put]
      clear hO2 hz2 hX hB2r hg hJs r2 r5
      refine (wpIn_wide (n := n)).1 ?_
      refine wpIn_region_any (by kernel_rfl) ?_
      have hdw : ({ W2 with drawn := W2.drawn + 1 } : World) = W2.drew := rfl
      rw [hdw]
      clear hdw
      generalize W2.drew = Wd at hJ2 hB2 hX2 cs3 hn2 ⊢
      -- the head of what is before the link
      have hHd : Calls Tryd.prog 44 #[.slice (some ⟨b, off, none⟩) k c] Wd (Ret (.agg (dig (headOf (l.take k)))) Wd) := by
        refine head_any (some ⟨b, off, none⟩) (l.take k) k c (by rw [List.length_take, ← HM.out]; omega) (by omega) (fun y hy => ?_) Wd (HL.out.below' hB2.1 hL0 hL1) ((((HR.out (by omega)).below hB2.1).d.take k).more hn2)
        rw [List.getLast?_eq_getElem?, List.length_take, ← HM.out, Nat.min_eq_left (by omega)] at hy
        have hk0 : 0 < k := by
          rcases Nat.eq_zero_or_pos k with h | h
          · subst h; simp at hy
          · exact h
        rw [List.getElem?_take_of_lt (by omega)] at hy
        have hf := HG.out _ _ hJ2 (⟨k - 1, by omega⟩ : Fin m) (mem_take_fin m k (k - 1) (by omega) (by omega))
        rwa [List.getD_eq_getElem?_getD, hy] at hf
      have hyl : ∀ W3, Below Wd.heap.size Wd W3 → _ := fun W3 (hb3 : Below Wd.heap.size Wd W3) => And.intro (HY.out ((List.finRange m).take k) ⟨k, hlt⟩ W3 (HJ.out _ _ _ none hJ2 (grown_of_below hb3) (fun r e => by cases e)) (by rw [parts_take_length _ _ hk]; exact hlt)) (hB2.trans (Kept.of_below hb3 hn2))
      have HH := Lib.hid hHd
      have HAFT := Lib.hid hyl
      have hslk : ∀ W : World, (Instr.slice 43 (.slice (some ⟨b, off, none⟩) m c) none (some (.int .i64 (k : Int))) none).run Tryd.prog W = .ok (.slice (some ⟨b, off, none⟩) k c) W := fun W => slice_links W b off m c k hk hc
      have HENC := Lib.hid (show begEnc l V m ⟨k, hlt⟩ = #[.agg (x.cells (.slice D x.data.length dc)).toArray, .agg (dig (headOf (l.take k)))] by rw [HXE.out, show D = (V k).1 from congrArg Prod.fst HDE.out, show dc = (V k).2 from congrArg Prod.snd HDE.out]; rfl)
      clear hHd hyl hJ2
      refine wpAnyIn_take (i := 0) (v := .func (.yield lp) #[] #[]) rfl rfl (by kernel_rfl) (by kernel_rfl) (by kernel_rfl) (fun _ _ _ h => h) ⟨Or.inl ⟨by rfl, fun w => by go_simp⟩, fun w => rfl⟩ ?_
      try simp only [Act.put, List.setIfInBounds_toArray, List.set_cons_zero, List.set_cons_succ]
      refine wpAnyIn_take (i := 3) (v := .int .i64 k) rfl rfl (by kernel_rfl) (by kernel_rfl) (by kernel_rfl) (fun _ _ _ h => h) ⟨Or.inl ⟨by rfl, fun w => by go_simp⟩, fun w => rfl⟩ ?_
      try simp only [Act.put, List.setIfInBounds_toArray, List.set_cons_zero, List.set_cons_succ]
      refine wpAnyIn_ready (rs := [1, 2]) (by kernel_rfl) (by simp) ?_
      refine AllReadyIn.cons rfl (fun Kq hKq => ?_) ?_
      · rw [if_pos (by rfl)]
        refine opIn_wide (wp_load_mid 52 _ rfl g 0 rfl _ _ (rangeAt_of_blk_toArray hX2) Tryd.underlying52 rfl (by rw [x.cells_len _ r1]; exact linkInfo) ?_)
        refine hKq _ _ ?_
        clear hKq Kq
        try simp only [Act.put, List.setIfInBounds_toArray, List.set_cons_zero, List.set_cons_succ]
        refine wpAnyIn_ready (rs := [2]) (by kernel_rfl) (by simp) ?_
        refine AllReadyIn.cons rfl (fun Kq hKq => ?_) AllReadyIn.nil
        rw [if_pos (by rfl)]
        have ld := cs3
        refine opIn_wide ?_
        go_simp
        refine hKq _ _ ?_
        clear hKq Kq ld
        try simp only [Act.put, List.setIfInBounds_toArray, List.set_cons_zero, List.set_cons_succ]
        refine wpAnyIn_take (i := 4) (v := .slice (some ⟨b, off, none⟩) k c) rfl rfl (by kernel_rfl) (by kernel_rfl) (by kernel_rfl) (fun _ _ _ h => h) ⟨Or.inl ⟨by rfl, fun w => by go_simp⟩, fun w => rfl⟩ ?_
        try simp only [Act.put, List.setIfInBounds_toArray, List.set_cons_zero, List.set_cons_succ]
        refine wpAnyIn_ready (rs := [5]) (by kernel_rfl) (by simp) ?_
        refine AllReadyIn.cons rfl (fun Kq hKq => ?_) AllReadyIn.nil
        rw [if_pos (by rfl)]
        refine opIn_wide ?_
        go_simp
        refine HH.out.mono ?_
        rintro e W3 ⟨rfl, hb3⟩
        refine hKq _ _ ?_
        clear hKq Kq
        have h3 := HAFT.out W3 hb3
        try simp only [Act.put, List.setIfInBounds_toArray, List.set_cons_zero, List.set_cons_succ]
        refine wpAnyIn_ready (rs := [6]) (by kernel_rfl) (by simp) ?_
        refine AllReadyIn.cons rfl (fun Kq hKq => ?_) AllReadyIn.nil
        rw [if_pos (by rfl)]
        obtain ⟨fn, tmps, assign, body, hy, hRr⟩ := h3.1
        have hy' : (Instr.yield lp #[.agg (x.cells (.slice D x.data.length dc)).toArray, .agg (dig (headOf (l.take k)))]).run Tryd.prog W3 = .ok (.round lp fn tmps assign body) W3 := by rw [← HENC.out]; exact hy
        have h3B := h3.2
        clear hy h3
        refine ⟨fun f _ => trivial, ?_⟩
        go_simp
        refine ⟨fun h => (by cases h), hRr.mono ?_⟩
        rintro e5 W5 (⟨rfl, hJ5, hk5⟩ | ⟨rfl, hJx5⟩)
        · refine hKq _ _ ?_
          clear hKq Kq
          try simp only [Act.put, List.setIfInBounds_toArray, List.set_cons_zero, List.set_cons_succ]
          refine wpAnyIn_ready (rs := [7]) (by kernel_rfl) (by simp) ?_
          refine AllReadyIn.cons rfl (fun Kq hKq => ?_) AllReadyIn.nil
          rw [if_pos (by rfl)]
          refine opIn_wide ?_
          go_simp
          refine hKq _ _ ?_
          clear hKq Kq
          try simp only [Act.put, List.setIfInBounds_toArray, List.set_cons_zero, List.set_cons_succ]
          refine wpAnyIn_done (by kernel_rfl) ?_ _
          go_wp2_with fail
          go_roundw
          case rel => exact ⟨k + 1, by omega, by go_num, by rw [parts_take _ _ hlt]; exact hJ5, h3B.trans hk5⟩
          case measure => simp [intOf]; omega
        · refine hKq _ _ ?_
          clear hKq Kq
          try simp only [Act.put, List.setIfInBounds_toArray, List.set_cons_zero, List.set_cons_succ]
          refine wpAnyIn_ready (rs := [7]) (by kernel_rfl) (by simp) ?_
          refine AllReadyIn.cons rfl (fun Kq hKq => ?_) AllReadyIn.nil
          rw [if_pos (by rfl)]
          refine opIn_wide ?_
          go_simp
          refine hKq _ _ ?_
          clear hKq Kq
          try simp only [Act.put, List.setIfInBounds_toArray, List.set_cons_zero, List.set_cons_succ]
          refine wpAnyIn_done (by kernel_rfl) ?_ _
          go_wp2_with fail
          refine bodyPost_ret (results_none rfl _ _ _) rfl ?_
          exact ⟨⟨_, rfl⟩, .inr ⟨_, by rw [← parts_take _ _ hlt]; exact List.take_prefix _ _, hJx5⟩⟩
      refine AllReadyIn.cons rfl (fun Kq hKq => ?_) AllReadyIn.nil
      rw [if_pos (by rfl)]
      have ld := cs3
      refine opIn_wide ?_
      go_simp
      refine hKq _ _ ?_
      clear hKq Kq ld
      try simp only [Act.put, List.setIfInBounds_toArray, List.set_cons_zero, List.set_cons_succ]
      refine wpAnyIn_take (i := 4) (v := .slice (some ⟨b, off, none⟩) k c) rfl rfl (by kernel_rfl) (by kernel_rfl) (by kernel_rfl) (fun _ _ _ h => h) ⟨Or.inl ⟨by rfl, fun w => by go_simp⟩, fun w => rfl⟩ ?_
      try simp only [Act.put, List.setIfInBounds_toArray, List.set_cons_zero, List.set_cons_succ]
      refine wpAnyIn_ready (rs := [1, 5]) (by kernel_rfl) (by simp) ?_
      refine AllReadyIn.cons rfl (fun Kq hKq => ?_) ?_
      · rw [if_pos (by rfl)]
        refine opIn_wide (wp_load_mid 52 _ rfl g 0 rfl _ _ (rangeAt_of_blk_toArray hX2) Tryd.underlying52 rfl (by rw [x.cells_len _ r1]; exact linkInfo) ?_)
        refine hKq _ _ ?_
        clear hKq Kq
        try simp only [Act.put, List.setIfInBounds_toArray, List.set_cons_zero, List.set_cons_succ]
        refine wpAnyIn_ready (rs := [5]) (by kernel_rfl) (by simp) ?_
        refine AllReadyIn.cons rfl (fun Kq hKq => ?_) AllReadyIn.nil
        rw [if_pos (by rfl)]
        refine opIn_wide ?_
        go_simp
        refine HH.out.mono ?_
        rintro e W3 ⟨rfl, hb3⟩
        refine hKq _ _ ?_
        clear hKq Kq
        have h3 := HAFT.out W3 hb3
        try simp only [Act.put, List.setIfInBounds_toArray, List.set_cons_zero, List.set_cons_succ]
        refine wpAnyIn_ready (rs := [6]) (by kernel_rfl) (by simp) ?_
        refine AllReadyIn.cons rfl (fun Kq hKq => ?_) AllReadyIn.nil
        rw [if_pos (by rfl)]
        obtain ⟨fn, tmps, assign, body, hy, hRr⟩ := h3.1
        have hy' : (Instr.yield lp #[.agg (x.cells (.slice D x.data.length dc)).toArray, .agg (dig (headOf (l.take k)))]).run Tryd.prog W3 = .ok (.round lp fn tmps assign body) W3 := by rw [← HENC.out]; exact hy
        have h3B := h3.2
        clear hy h3
        refine ⟨fun f _ => trivial, ?_⟩
        go_simp
        refine ⟨fun h => (by cases h), hRr.mono ?_⟩
        rintro e5 W5 (⟨rfl, hJ5, hk5⟩ | ⟨rfl, hJx5⟩)
        · refine hKq _ _ ?_
          clear hKq Kq
          try simp only [Act.put, List.setIfInBounds_toArray, List.set_cons_zero, List.set_cons_succ]
          refine wpAnyIn_ready (rs := [7]) (by kernel_rfl) (by simp) ?_
          refine AllReadyIn.cons rfl (fun Kq hKq => ?_) AllReadyIn.nil
          rw [if_pos (by rfl)]
          refine opIn_wide ?_
          go_simp
          refine hKq _ _ ?_
          clear hKq Kq
          try simp only [Act.put, List.setIfInBounds_toArray, List.set_cons_zero, List.set_cons_succ]
          refine wpAnyIn_done (by kernel_rfl) ?_ _
          go_wp2_with fail
          go_roundw
          case rel => exact ⟨k + 1, by omega, by go_num, by rw [parts_take _ _ hlt]; exact hJ5, h3B.trans hk5⟩
          case measure => simp [intOf]; omega
        · refine hKq _ _ ?_
          clear hKq Kq
          try simp only [Act.put, List.setIfInBounds_toArray, List.set_cons_zero, List.set_cons_succ]
          refine wpAnyIn_ready (rs := [7]) (by kernel_rfl) (by simp) ?_
          refine AllReadyIn.cons rfl (fun Kq hKq => ?_) AllReadyIn.nil
          rw [if_pos (by rfl)]
          refine opIn_wide ?_
          go_simp
          refine hKq _ _ ?_
          clear hKq Kq
          try simp only [Act.put, List.setIfInBounds_toArray, List.set_cons_zero, List.set_cons_succ]
          refine wpAnyIn_done (by kernel_rfl) ?_ _
          go_wp2_with fail
          refine bodyPost_ret (results_none rfl _ _ _) rfl ?_
          exact ⟨⟨_, rfl⟩, .inr ⟨_, by rw [← parts_take _ _ hlt]; exact List.take_prefix _ _, hJx5⟩⟩
      refine AllReadyIn.cons rfl (fun Kq hKq => ?_) AllReadyIn.nil
      rw [if_pos (by rfl)]
      refine opIn_wide ?_
      go_simp
      refine HH.out.mono ?_
      rintro e W3 ⟨rfl, hb3⟩
      refine hKq _ _ ?_
      clear hKq Kq
      have h3 := HAFT.out W3 hb3
      try simp only [Act.put, List.setIfInBounds_toArray, List.set_cons_zero, List.set_cons_succ]
      refine wpAnyIn_ready (rs := [1]) (by kernel_rfl) (by simp) ?_
      refine AllReadyIn.cons rfl (fun Kq hKq => ?_) AllReadyIn.nil
      rw [if_pos (by rfl)]
      refine opIn_wide (wp_load_mid 52 _ rfl g 0 rfl _ _ (rangeAt_of_blk_toArray (hX2.below hb3 hX2.lt)) Tryd.underlying52 rfl (by rw [x.cells_len _ r1]; exact linkInfo) ?_)
      refine hKq _ _ ?_
      clear hKq Kq
      try simp only [Act.put, List.setIfInBounds_toArray, List.set_cons_zero, List.set_cons_succ]
      refine wpAnyIn_ready (rs := [6]) (by kernel_rfl) (by simp) ?_
      refine AllReadyIn.cons rfl (fun Kq hKq => ?_) AllReadyIn.nil
      rw [if_pos (by rfl)]
      obtain ⟨fn, tmps, assign, body, hy, hRr⟩ := h3.1
      have hy' : (Instr.yield lp #[.agg (x.cells (.slice D x.data.length dc)).toArray, .agg (dig (headOf (l.take k)))]).run Tryd.prog W3 = .ok (.round lp fn tmps assign body) W3 := by rw [← HENC.out]; exact hy
      have h3B := h3.2
      clear hy h3
      refine ⟨fun f _ => trivial, ?_⟩
      go_simp
      refine ⟨fun h => (by cases h), hRr.mono ?_⟩
      rintro e5 W5 (⟨rfl, hJ5, hk5⟩ | ⟨rfl, hJx5⟩)
      · refine hKq _ _ ?_
        clear hKq Kq
        try simp only [Act.put, List.setIfInBounds_toArray, List.set_cons_zero, List.set_cons_succ]
        refine wpAnyIn_ready (rs := [7]) (by kernel_rfl) (by simp) ?_
        refine AllReadyIn.cons rfl (fun Kq hKq => ?_) AllReadyIn.nil
        rw [if_pos (by rfl)]
        refine opIn_wide ?_
        go_simp
        refine hKq _ _ ?_
        clear hKq Kq
        try simp only [Act.put, List.setIfInBounds_toArray, List.set_cons_zero, List.set_cons_succ]
        refine wpAnyIn_done (by kernel_rfl) ?_ _
        go_wp2_with fail
        go_roundw
        case rel => exact ⟨k + 1, by omega, by go_num, by rw [parts_take _ _ hlt]; exact hJ5, h3B.trans hk5⟩
        case measure => simp [intOf]; omega
      · refine hKq _ _ ?_
        clear hKq Kq
        try simp only [Act.put, List.setIfInBounds_toArray, List.set_cons_zero, List.set_cons_succ]
        refine wpAnyIn_ready (rs := [7]) (by kernel_rfl) (by simp) ?_
        refine AllReadyIn.cons rfl (fun Kq hKq => ?_) AllReadyIn.nil
        rw [if_pos (by rfl)]
        refine opIn_wide ?_
        go_simp
        refine hKq _ _ ?_
        clear hKq Kq
        try simp only [Act.put, List.setIfInBounds_toArray, List.set_cons_zero, List.set_cons_succ]
        refine wpAnyIn_done (by kernel_rfl) ?_ _
        go_wp2_with fail
        refine bodyPost_ret (results_none rfl _ _ _) rfl ?_
        exact ⟨⟨_, rfl⟩, .inr ⟨_, by rw [← parts_take _ _ hlt]; exact List.take_prefix _ _, hJx5⟩⟩
    · obtain rfl : k = m := by omega
      go_wp2
      go_end0
      rw [List.take_of_length_le (by simp)] at hJs
      exact ⟨⟨_, rfl⟩, .inl ⟨_, rfl, hJs, trivial⟩⟩
/-- The iterator's contract. -/
theorem begin_stops (n : Nat) (bs n₀ b off c : Nat) (A : Option Addr) (ts : TypeId) (l : List Lk) (V : Nat → Option Addr × Nat) (m : Nat) (hm : m = l.length) (hm2 : m ≤ 1024) (hc : m ≤ c) (w : World) (hn0 : n₀ ≤ w.heap.size)
    (hL : Laid w) (hL0 : 0 < n₀) (hL1 : 1 < n₀) (hD : Blk w bs ts #[.slice A m c]) (hA : 0 < m → A = some ⟨b, off, none⟩) (hR : 0 < m → LRv w n₀ b off l V) :
    SeqM Fence.wide n Tryd.prog 113 #[.pointer (some ⟨bs, 0, none⟩)] (begEnc l V m) (Kept n₀ bs) none (fun pre => ∀ x ∈ pre, (l.getD x.1 ⟨0, 0, [], []⟩).fine) (fun xs => xs = List.finRange m) (fun pre => pre <+: List.finRange m) (fun _ _ => True) m w :=
  fun lp J Jx W hW hJ _ hG hY h0 => callsIn_wide.2 (begin1_in n lp bs n₀ b off c A ts l V m hm hm2 hc J Jx W (Nat.le_trans hn0 hW.size) hJ hG hY (hL.below hW) hL0 hL1 (hD.below hW hD.lt) hA (fun h => (hR h).below (hW.mono hn0)) h0)
set_option maxRecDepth 100000 in
set_option maxHeartbeats 1000000 in
theorem beginnings_any (A : Option Addr) (m c : Nat) (w : World) :
    Calls Tryd.prog 86 #[.slice A m c] w fun e w' => e = .returned (.func (.func 113) #[] #[.pointer (some ⟨w.heap.size, 0, none⟩)]) ∧ w' = w.alloc (.cells #[.slice A m c] 43) := by
  go_enter Tryd.func86, Tryd.ntmps86
  go_wp2
  go_ret
  exact ⟨rfl, rfl⟩
end Go.Proofs.YtibnikokgbfcdaaDoor

/- Walks: bytes.Equal; chain.Part$1, podiumref08.SameLink, Same, Few; chain.differ. -/
import Derived.Test.YtibnikokgbfcdaaDoorC1
import Derived.Test.YtibnikokgbfcdaaDoorDigEq
import Derived.Test.YtibnikokgbfcdaaDoorSamp1
import Derived.BigGuardPart
namespace Go.Proofs.YtibnikokgbfcdaaDoor
open Go.RowKit

def eqLk (x y : Lk) : Bool := decide (x.node = y.node) && (decide (x.no = y.no) && (decide (x.prev = y.prev) && decide (x.data = y.data)))
theorem eqLk_iff (x y : Lk) : eqLk x y = true ↔ x = y := by
  obtain ⟨a, b, c, d⟩ := x
  obtain ⟨a', b', c', d'⟩ := y
  simp [eqLk]
section
variable {ops : Array Oper} {rest : List Oper} {o : Oper} {a : Act} {Q : Exit → Act → World → Prop}
theorem load_dig_g (hw : Region.wanted o (yielded ops a.tmps) = true) (x : Operand) (ho : o.op = .load 23 x) {w : World} (b off : Nat) (hx : a.eval x = .pointer (some ⟨b, off, none⟩)) (d : List UInt8) (hd : d.length = 32) (hC : w.rangeAt b off (dig d).toList)
    (h : wpList Tryd.prog ops Q rest (a.put o.dst (.agg (dig d))) w) : wpList Tryd.prog ops Q (o :: rest) a w := by
  unfold wpList
  rw [if_pos hw]
  refine .inl (wp_load_mid _ x ho b off hx (dig d).toList _ hC Tryd.underlying23 rfl (by rw [Array.length_toList]; exact dig_info d hd) ?_)
  simpa using h
theorem to_str_g (hw : Region.wanted o (yielded ops a.tmps) = true) (x : Operand) (ho : o.op = .convert 39 9 x) {w : World} {B : Nat} {A : Option Addr} {l : List UInt8} {c n : Nat} (hx : a.eval x = .slice A n c) (hn : n = l.length) (hR : RdB w B A l)
    (h : wpList Tryd.prog ops Q rest (a.put o.dst (.string ⟨l.toArray⟩)) w) : wpList Tryd.prog ops Q (o :: rest) a w := by
  subst hn
  unfold wpList
  rw [if_pos hw]
  refine .inl ?_
  unfold Oper.wp execOp
  simp only [ho, hx, Sem.run_bind, Sem.run_pure, run_str hR, Result.andThen_ok]
  exact h
end
theorem beq_dec (a b : List UInt8) : decide (a = b) = (a == b) := by
  rcases Bool.eq_false_or_eq_true (decide (a = b)) with h | h <;> simp_all
theorem str_beq (a b : List UInt8) : ((⟨a.toArray⟩ : ByteArray).toList == (⟨b.toArray⟩ : ByteArray).toList) = decide (a = b) := by
  have e : ∀ l : List UInt8, (⟨l.toArray⟩ : ByteArray).toList = l := fun l => by rw [ByteArray.toList_eq]
  rw [e, e]
  by_cases h : a = b
  · subst h; simp
  · rw [decide_eq_false h]; simpa using h
set_option maxRecDepth 100000 in
set_option maxHeartbeats 1000000 in
theorem bEqual_any (A B : Option Addr) (l m : List UInt8) (n k c c2 : Nat) (hn : n = l.length) (hk : k = m.length) (w : World) (hA : RdB w w.heap.size A l) (hB : RdB w w.heap.size B m) :
    Calls Tryd.prog 82 #[.slice A n c, .slice B k c2] w (fun e w' => e = .returned (.bool (decide (l = m))) ∧ w = w') := by
  have HN := Lib.hid hn
  have HK := Lib.hid hk
  have hs : ∀ d W, (Op.equalIn (d + 1) 9 (.string ⟨l.toArray⟩) (.string ⟨m.toArray⟩)).run Tryd.prog W = .ok (decide (l = m)) W := fun d W => by
    rw [run_equalIn_string (P := Tryd.prog) W d 9 ⟨l.toArray⟩ ⟨m.toArray⟩ Tryd.underlying9, str_beq]
  clear hn hk
  go_enter Tryd.func82, Tryd.ntmps82
  go_wp2_with (first | (refine to_str2 rfl _ rfl rfl HN.out hA ?_) | (refine to_str2 rfl _ rfl rfl HK.out hB ?_))
  go_ret
  exact ⟨by rcases Bool.eq_false_or_eq_true (decide (l = m)) with h | h <;> simp_all, rfl⟩

theorem box_agg {ops : Array Oper} {rest : List Oper} {o : Oper} {a : Act} {Q : Exit → Act → World → Prop} (hgd : o.guard = none) (t : TypeId) (x : Operand) (ho : o.op = .box t x) {w : World} (cs : Array Value) (hx : a.eval x = .agg cs)
    (h : ∀ w', w' = w.alloc (.cells cs t) → wpList Tryd.prog ops Q rest (a.put o.dst (.pointer (some ⟨w.heap.size, 0, none⟩))) w') : wpList Tryd.prog ops Q (o :: rest) a w := by
  refine wpList_plain hgd fun K hK => ?_
  unfold Oper.wp execOp
  simp only [ho, hx]
  have hr : (Instr.box t (.agg cs)).run Tryd.prog w = .ok (.pointer (some ⟨w.heap.size, 0, none⟩)) (w.alloc (.cells cs t)) := by
    simp [go_sem, Instr.box]
  simp only [Sem.run_bind, hr, Result.andThen_ok]
  exact hK _ _ (h _ rfl)
/-- A link in a block of its own. -/
structure LkB (W : World) (g : Nat) (x : Lk) (D : Value) : Prop where
  c0 : W.cell? ⟨g, 0, none⟩ = some (.int .i64 x.node)
  c1 : W.cell? ⟨g, 1, none⟩ = some (.int .i64 x.no)
  c34 : W.cell? ⟨g, 34, none⟩ = some D
  rg : W.rangeAt g 2 (dig x.prev).toList
theorem LkB.of {W : World} {g : Nat} {t : TypeId} {x : Lk} {D : Value} (hb : Blk W g t (x.cells D).toArray) (hp : x.prev.length = 32) : LkB W g x D where
  c0 := hb.cell 0
  c1 := hb.cell 1
  c34 := by rw [hb.cell 34, List.getElem?_toArray]; exact Lk.at_data x _ hp
  rg := fun j v hv => by
    have hj : j < 32 := by have := (List.getElem?_eq_some_iff.1 hv).1; simpa [dig_size, hp] using this
    rw [hb.cell, List.getElem?_toArray, Lk.at_prev x _ hp j hj]
    simpa using hv
set_option maxRecDepth 100000 in
set_option linter.unusedSimpArgs false in
set_option linter.unusedVariables false in
set_option maxHeartbeats 20000000 in
theorem r8SameLink_any (x y : Lk) (D E : Option Addr) (dl el dc ec : Nat) (hdl : dl = x.data.length) (hel : el = y.data.length) (hx : x.prev.length = 32) (hy : y.prev.length = 32) (w : World) (hD : RdB w w.heap.size D x.data) (hE : RdB w w.heap.size E y.data) :
    Calls Tryd.prog 47 #[.agg (x.cells (.slice D dl dc)).toArray, .agg (y.cells (.slice E el ec)).toArray] w (Ret (.bool (eqLk x y)) w) := by
  obtain ⟨CX, hCX⟩ : ∃ c, c = (x.cells (.slice D dl dc)).toArray := ⟨_, rfl⟩
  obtain ⟨CY, hCY⟩ : ∃ c, c = (y.cells (.slice E el ec)).toArray := ⟨_, rfl⟩
  rw [← hCX, ← hCY]
  have HX := Lib.hid hCX
  have HY := Lib.hid hCY
  have HDL := Lib.hid hdl
  have HEL := Lib.hid hel
  have HPX := Lib.hid hx
  have HPY := Lib.hid hy
  clear hCX hCY hdl hel hx hy
  obtain ⟨nd, no, pv, dat⟩ := x
  obtain ⟨nd', no', pv', dat'⟩ := y
  have HR := Lib.hid (show eqLk ⟨nd, no, pv, dat⟩ ⟨nd', no', pv', dat'⟩ = (decide (nd = nd') && (decide (no = no') && (decide (pv = pv') && decide (dat = dat')))) from rfl)
  rw [HR.out]
  clear HR
  by_cases t1 : nd = nd'
  rotate_left
  · have b1 : (nd == nd') = false := beq_eq_false_iff_ne.2 t1
    have d1 : decide (nd = nd') = false := decide_eq_false t1
    rw [d1, Bool.false_and]
    go_enter Tryd.func47, Tryd.ntmps47
    go_wp2_with (first
      | (refine wpList_skip (by rfl) ?_; simp only [Act.put, List.setIfInBounds_toArray, List.set_cons_zero, List.set_cons_succ])
      | (refine box_agg rfl 52 _ rfl CX rfl ?_; intro W1 hW1
         have hX : Blk W1 w.heap.size 52 CX := by rw [hW1]; exact Blk.new w _ _
         have hB1 : Below w.heap.size w W1 := by rw [hW1]; exact (Below.refl _ w).alloc (Nat.le_refl _) _
         clear hW1)
      | (refine box_agg rfl 52 _ rfl CY rfl ?_; intro W2 hW2
         have hY : Blk W2 W1.heap.size 52 CY := by rw [hW2]; exact Blk.new W1 _ _
         have hX2 : Blk W2 w.heap.size 52 CX := by rw [hW2]; exact hX.alloc _
         have hB2 : Below w.heap.size w W2 := by rw [hW2]; exact hB1.alloc hB1.size _
         clear hW2
         rw [HX.out] at hX2
         rw [HY.out] at hY
         obtain ⟨x0, x1, x34, xr⟩ := LkB.of hX2 HPX.out
         obtain ⟨y0, y1, y34, yr⟩ := LkB.of hY HPY.out
         change W2.cell? _ = some (.int .i64 _) at x0
         change W2.cell? _ = some (.int .i64 _) at y0
         change W2.cell? _ = some (.int .i64 _) at x1
         change W2.cell? _ = some (.int .i64 _) at y1
         change W2.rangeAt _ _ (dig pv).toList at xr
         change W2.rangeAt _ _ (dig pv').toList at yr
         have HD2 := Lib.hid ((hD.below hB2).more hB2.size)
         have HE2 := Lib.hid ((hE.below hB2).more hB2.size)
         have HXR := Lib.hid xr
         have HYR := Lib.hid yr
         clear hX hB1 hX2 hY xr yr hD hE)
      | (refine load_dig_g (by rfl) _ rfl _ 2 rfl pv HPX.out HXR.out ?_)
      | (refine load_dig_g (by rfl) _ rfl _ 2 rfl pv' HPY.out HYR.out ?_))
    go_ret
    exact ⟨rfl, hB2⟩
  subst t1
  have b1 : (nd == nd) = true := beq_self_eq_true nd
  rw [decide_eq_true rfl, Bool.true_and]
  by_cases t2 : no = no'
  rotate_left
  · have b2 : (no == no') = false := beq_eq_false_iff_ne.2 t2
    have d2 : decide (no = no') = false := decide_eq_false t2
    rw [d2, Bool.false_and]
    go_enter Tryd.func47, Tryd.ntmps47
    go_wp2_with (first
      | (refine wpList_skip (by rfl) ?_; simp only [Act.put, List.setIfInBounds_toArray, List.set_cons_zero, List.set_cons_succ])
      | (refine box_agg rfl 52 _ rfl CX rfl ?_; intro W1 hW1
         have hX : Blk W1 w.heap.size 52 CX := by rw [hW1]; exact Blk.new w _ _
         have hB1 : Below w.heap.size w W1 := by rw [hW1]; exact (Below.refl _ w).alloc (Nat.le_refl _) _
         clear hW1)
      | (refine box_agg rfl 52 _ rfl CY rfl ?_; intro W2 hW2
         have hY : Blk W2 W1.heap.size 52 CY := by rw [hW2]; exact Blk.new W1 _ _
         have hX2 : Blk W2 w.heap.size 52 CX := by rw [hW2]; exact hX.alloc _
         have hB2 : Below w.heap.size w W2 := by rw [hW2]; exact hB1.alloc hB1.size _
         clear hW2
         rw [HX.out] at hX2
         rw [HY.out] at hY
         obtain ⟨x0, x1, x34, xr⟩ := LkB.of hX2 HPX.out
         obtain ⟨y0, y1, y34, yr⟩ := LkB.of hY HPY.out
         change W2.cell? _ = some (.int .i64 _) at x0
         change W2.cell? _ = some (.int .i64 _) at y0
         change W2.cell? _ = some (.int .i64 _) at x1
         change W2.cell? _ = some (.int .i64 _) at y1
         change W2.rangeAt _ _ (dig pv).toList at xr
         change W2.rangeAt _ _ (dig pv').toList at yr
         have HD2 := Lib.hid ((hD.below hB2).more hB2.size)
         have HE2 := Lib.hid ((hE.below hB2).more hB2.size)
         have HXR := Lib.hid xr
         have HYR := Lib.hid yr
         clear hX hB1 hX2 hY xr yr hD hE)
      | (refine load_dig_g (by rfl) _ rfl _ 2 rfl pv HPX.out HXR.out ?_)
      | (refine load_dig_g (by rfl) _ rfl _ 2 rfl pv' HPY.out HYR.out ?_))
    go_ret
    exact ⟨rfl, hB2⟩
  subst t2
  have b2 : (no == no) = true := beq_self_eq_true no
  rw [decide_eq_true rfl, Bool.true_and]
  have heqv : ∀ W : World, (Op.equalIn 10000 23 (.agg (dig pv)) (.agg (dig pv'))).run Tryd.prog W = .ok (decide (pv = pv')) W := fun W => run_equal_dig pv pv' HPX.out HPY.out 9998 W
  by_cases t3 : pv = pv'
  rotate_left
  · have d3 : decide (pv = pv') = false := decide_eq_false t3
    rw [d3] at heqv
    rw [d3, Bool.false_and]
    go_enter Tryd.func47, Tryd.ntmps47
    go_wp2_with (first
      | (refine wpList_skip (by rfl) ?_; simp only [Act.put, List.setIfInBounds_toArray, List.set_cons_zero, List.set_cons_succ])
      | (refine box_agg rfl 52 _ rfl CX rfl ?_; intro W1 hW1
         have hX : Blk W1 w.heap.size 52 CX := by rw [hW1]; exact Blk.new w _ _
         have hB1 : Below w.heap.size w W1 := by rw [hW1]; exact (Below.refl _ w).alloc (Nat.le_refl _) _
         clear hW1)
      | (refine box_agg rfl 52 _ rfl CY rfl ?_; intro W2 hW2
         have hY : Blk W2 W1.heap.size 52 CY := by rw [hW2]; exact Blk.new W1 _ _
         have hX2 : Blk W2 w.heap.size 52 CX := by rw [hW2]; exact hX.alloc _
         have hB2 : Below w.heap.size w W2 := by rw [hW2]; exact hB1.alloc hB1.size _
         clear hW2
         rw [HX.out] at hX2
         rw [HY.out] at hY
         obtain ⟨x0, x1, x34, xr⟩ := LkB.of hX2 HPX.out
         obtain ⟨y0, y1, y34, yr⟩ := LkB.of hY HPY.out
         change W2.cell? _ = some (.int .i64 _) at x0
         change W2.cell? _ = some (.int .i64 _) at y0
         change W2.cell? _ = some (.int .i64 _) at x1
         change W2.cell? _ = some (.int .i64 _) at y1
         change W2.rangeAt _ _ (dig pv).toList at xr
         change W2.rangeAt _ _ (dig pv').toList at yr
         have HD2 := Lib.hid ((hD.below hB2).more hB2.size)
         have HE2 := Lib.hid ((hE.below hB2).more hB2.size)
         have HXR := Lib.hid xr
         have HYR := Lib.hid yr
         clear hX hB1 hX2 hY xr yr hD hE)
      | (refine load_dig_g (by rfl) _ rfl _ 2 rfl pv HPX.out HXR.out ?_)
      | (refine load_dig_g (by rfl) _ rfl _ 2 rfl pv' HPY.out HYR.out ?_))
    go_ret
    exact ⟨rfl, hB2⟩
  rw [decide_eq_true t3] at heqv
  rw [decide_eq_true t3, Bool.true_and]
  clear t3
  rw [beq_dec dat dat']
  go_enter Tryd.func47, Tryd.ntmps47
  go_wp2_with (first
    | (refine wpList_skip (by rfl) ?_; simp only [Act.put, List.setIfInBounds_toArray, List.set_cons_zero, List.set_cons_succ])
    | (refine box_agg rfl 52 _ rfl CX rfl ?_; intro W1 hW1
       have hX : Blk W1 w.heap.size 52 CX := by rw [hW1]; exact Blk.new w _ _
       have hB1 : Below w.heap.size w W1 := by rw [hW1]; exact (Below.refl _ w).alloc (Nat.le_refl _) _
       clear hW1)
    | (refine box_agg rfl 52 _ rfl CY rfl ?_; intro W2 hW2
       have hY : Blk W2 W1.heap.size 52 CY := by rw [hW2]; exact Blk.new W1 _ _
       have hX2 : Blk W2 w.heap.size 52 CX := by rw [hW2]; exact hX.alloc _
       have hB2 : Below w.heap.size w W2 := by rw [hW2]; exact hB1.alloc hB1.size _
       clear hW2
       rw [HX.out] at hX2
       rw [HY.out] at hY
       obtain ⟨x0, x1, x34, xr⟩ := LkB.of hX2 HPX.out
       obtain ⟨y0, y1, y34, yr⟩ := LkB.of hY HPY.out
       change W2.cell? _ = some (.int .i64 _) at x0
       change W2.cell? _ = some (.int .i64 _) at y0
       change W2.cell? _ = some (.int .i64 _) at x1
       change W2.cell? _ = some (.int .i64 _) at y1
       change W2.rangeAt _ _ (dig pv).toList at xr
       change W2.rangeAt _ _ (dig pv').toList at yr
       have HD2 := Lib.hid ((hD.below hB2).more hB2.size)
       have HE2 := Lib.hid ((hE.below hB2).more hB2.size)
       have HXR := Lib.hid xr
       have HYR := Lib.hid yr
       clear hX hB1 hX2 hY xr yr hD hE)
    | (refine load_dig_g (by rfl) _ rfl _ 2 rfl pv HPX.out HXR.out ?_)
    | (refine load_dig_g (by rfl) _ rfl _ 2 rfl pv' HPY.out HYR.out ?_)
    | (refine to_str_g (A := D) (n := dl) (c := dc) (l := dat) (by rfl) _ rfl rfl HDL.out HD2.out ?_)
    | (refine to_str_g (A := E) (n := el) (c := ec) (l := dat') (by rfl) _ rfl rfl HEL.out HE2.out ?_))
  go_ret
  exact ⟨rfl, hB2⟩
set_option maxRecDepth 100000 in
set_option linter.unusedSimpArgs false in
set_option linter.unusedVariables false in
set_option maxHeartbeats 20000000 in
theorem cPart1_any (x y : Lk) (D E : Option Addr) (dl el dc ec : Nat) (hdl : dl = x.data.length) (hel : el = y.data.length) (hx : x.prev.length = 32) (hy : y.prev.length = 32) (w : World) (hD : RdB w w.heap.size D x.data) (hE : RdB w w.heap.size E y.data) :
    Calls Tryd.prog 81 #[.agg (x.cells (.slice D dl dc)).toArray, .agg (y.cells (.slice E el ec)).toArray] w (Ret (.bool (eqLk x y)) w) := by
  obtain ⟨CX, hCX⟩ : ∃ c, c = (x.cells (.slice D dl dc)).toArray := ⟨_, rfl⟩
  obtain ⟨CY, hCY⟩ : ∃ c, c = (y.cells (.slice E el ec)).toArray := ⟨_, rfl⟩
  rw [← hCX, ← hCY]
  have HX := Lib.hid hCX
  have HY := Lib.hid hCY
  have HDL := Lib.hid hdl
  have HEL := Lib.hid hel
  have HPX := Lib.hid hx
  have HPY := Lib.hid hy
  clear hCX hCY hdl hel hx hy
  obtain ⟨nd, no, pv, dat⟩ := x
  obtain ⟨nd', no', pv', dat'⟩ := y
  have HR := Lib.hid (show eqLk ⟨nd, no, pv, dat⟩ ⟨nd', no', pv', dat'⟩ = (decide (nd = nd') && (decide (no = no') && (decide (pv = pv') && decide (dat = dat')))) from rfl)
  rw [HR.out]
  clear HR
  by_cases t1 : nd = nd'
  rotate_left
  · have b1 : (nd == nd') = false := beq_eq_false_iff_ne.2 t1
    have d1 : decide (nd = nd') = false := decide_eq_false t1
    rw [d1, Bool.false_and]
    go_enter Tryd.func81, Tryd.ntmps81
    go_wp2_with (first
      | (refine wpList_skip (by rfl) ?_; simp only [Act.put, List.setIfInBounds_toArray, List.set_cons_zero, List.set_cons_succ])
      | (refine box_agg rfl 52 _ rfl CX rfl ?_; intro W1 hW1
         have hX : Blk W1 w.heap.size 52 CX := by rw [hW1]; exact Blk.new w _ _
         have hB1 : Below w.heap.size w W1 := by rw [hW1]; exact (Below.refl _ w).alloc (Nat.le_refl _) _
         clear hW1)
      | (refine box_agg rfl 52 _ rfl CY rfl ?_; intro W2 hW2
         have hY : Blk W2 W1.heap.size 52 CY := by rw [hW2]; exact Blk.new W1 _ _
         have hX2 : Blk W2 w.heap.size 52 CX := by rw [hW2]; exact hX.alloc _
         have hB2 : Below w.heap.size w W2 := by rw [hW2]; exact hB1.alloc hB1.size _
         clear hW2
         rw [HX.out] at hX2
         rw [HY.out] at hY
         obtain ⟨x0, x1, x34, xr⟩ := LkB.of hX2 HPX.out
         obtain ⟨y0, y1, y34, yr⟩ := LkB.of hY HPY.out
         change W2.cell? _ = some (.int .i64 _) at x0
         change W2.cell? _ = some (.int .i64 _) at y0
         change W2.cell? _ = some (.int .i64 _) at x1
         change W2.cell? _ = some (.int .i64 _) at y1
         change W2.rangeAt _ _ (dig pv).toList at xr
         change W2.rangeAt _ _ (dig pv').toList at yr
         have HD2 := Lib.hid ((hD.below hB2).more hB2.size)
         have HE2 := Lib.hid ((hE.below hB2).more hB2.size)
         have HXR := Lib.hid xr
         have HYR := Lib.hid yr
         clear hX hB1 hX2 hY xr yr hD hE)
      | (refine load_dig_g (by rfl) _ rfl _ 2 rfl pv HPX.out HXR.out ?_)
      | (refine load_dig_g (by rfl) _ rfl _ 2 rfl pv' HPY.out HYR.out ?_))
    go_ret
    exact ⟨rfl, hB2⟩
  subst t1
  have b1 : (nd == nd) = true := beq_self_eq_true nd
  rw [decide_eq_true rfl, Bool.true_and]
  by_cases t2 : no = no'
  rotate_left
  · have b2 : (no == no') = false := beq_eq_false_iff_ne.2 t2
    have d2 : decide (no = no') = false := decide_eq_false t2
    rw [d2, Bool.false_and]
    go_enter Tryd.func81, Tryd.ntmps81
    go_wp2_with (first
      | (refine wpList_skip (by rfl) ?_; simp only [Act.put, List.setIfInBounds_toArray, List.set_cons_zero, List.set_cons_succ])
      | (refine box_agg rfl 52 _ rfl CX rfl ?_; intro W1 hW1
         have hX : Blk W1 w.heap.size 52 CX := by rw [hW1]; exact Blk.new w _ _
         have hB1 : Below w.heap.size w W1 := by rw [hW1]; exact (Below.refl _ w).alloc (Nat.le_refl _) _
         clear hW1)
      | (refine box_agg rfl 52 _ rfl CY rfl ?_; intro W2 hW2
         have hY : Blk W2 W1.heap.size 52 CY := by rw [hW2]; exact Blk.new W1 _ _
         have hX2 : Blk W2 w.heap.size 52 CX := by rw [hW2]; exact hX.alloc _
         have hB2 : Below w.heap.size w W2 := by rw [hW2]; exact hB1.alloc hB1.size _
         clear hW2
         rw [HX.out] at hX2
         rw [HY.out] at hY
         obtain ⟨x0, x1, x34, xr⟩ := LkB.of hX2 HPX.out
         obtain ⟨y0, y1, y34, yr⟩ := LkB.of hY HPY.out
         change W2.cell? _ = some (.int .i64 _) at x0
         change W2.cell? _ = some (.int .i64 _) at y0
         change W2.cell? _ = some (.int .i64 _) at x1
         change W2.cell? _ = some (.int .i64 _) at y1
         change W2.rangeAt _ _ (dig pv).toList at xr
         change W2.rangeAt _ _ (dig pv').toList at yr
         have HD2 := Lib.hid ((hD.below hB2).more hB2.size)
         have HE2 := Lib.hid ((hE.below hB2).more hB2.size)
         have HXR := Lib.hid xr
         have HYR := Lib.hid yr
         clear hX hB1 hX2 hY xr yr hD hE)
      | (refine load_dig_g (by rfl) _ rfl _ 2 rfl pv HPX.out HXR.out ?_)
      | (refine load_dig_g (by rfl) _ rfl _ 2 rfl pv' HPY.out HYR.out ?_))
    go_ret
    exact ⟨rfl, hB2⟩
  subst t2
  have b2 : (no == no) = true := beq_self_eq_true no
  rw [decide_eq_true rfl, Bool.true_and]
  have heqv : ∀ W : World, (Op.equalIn 10000 23 (.agg (dig pv)) (.agg (dig pv'))).run Tryd.prog W = .ok (decide (pv = pv')) W := fun W => run_equal_dig pv pv' HPX.out HPY.out 9998 W
  by_cases t3 : pv = pv'
  rotate_left
  · have d3 : decide (pv = pv') = false := decide_eq_false t3
    rw [d3] at heqv
    rw [d3, Bool.false_and]
    go_enter Tryd.func81, Tryd.ntmps81
    go_wp2_with (first
      | (refine wpList_skip (by rfl) ?_; simp only [Act.put, List.setIfInBounds_toArray, List.set_cons_zero, List.set_cons_succ])
      | (refine box_agg rfl 52 _ rfl CX rfl ?_; intro W1 hW1
         have hX : Blk W1 w.heap.size 52 CX := by rw [hW1]; exact Blk.new w _ _
         have hB1 : Below w.heap.size w W1 := by rw [hW1]; exact (Below.refl _ w).alloc (Nat.le_refl _) _
         clear hW1)
      | (refine box_agg rfl 52 _ rfl CY rfl ?_; intro W2 hW2
         have hY : Blk W2 W1.heap.size 52 CY := by rw [hW2]; exact Blk.new W1 _ _
         have hX2 : Blk W2 w.heap.size 52 CX := by rw [hW2]; exact hX.alloc _
         have hB2 : Below w.heap.size w W2 := by rw [hW2]; exact hB1.alloc hB1.size _
         clear hW2
         rw [HX.out] at hX2
         rw [HY.out] at hY
         obtain ⟨x0, x1, x34, xr⟩ := LkB.of hX2 HPX.out
         obtain ⟨y0, y1, y34, yr⟩ := LkB.of hY HPY.out
         change W2.cell? _ = some (.int .i64 _) at x0
         change W2.cell? _ = some (.int .i64 _) at y0
         change W2.cell? _ = some (.int .i64 _) at x1
         change W2.cell? _ = some (.int .i64 _) at y1
         change W2.rangeAt _ _ (dig pv).toList at xr
         change W2.rangeAt _ _ (dig pv').toList at yr
         have HD2 := Lib.hid ((hD.below hB2).more hB2.size)
         have HE2 := Lib.hid ((hE.below hB2).more hB2.size)
         have HXR := Lib.hid xr
         have HYR := Lib.hid yr
         clear hX hB1 hX2 hY xr yr hD hE)
      | (refine load_dig_g (by rfl) _ rfl _ 2 rfl pv HPX.out HXR.out ?_)
      | (refine load_dig_g (by rfl) _ rfl _ 2 rfl pv' HPY.out HYR.out ?_))
    go_ret
    exact ⟨rfl, hB2⟩
  rw [decide_eq_true t3] at heqv
  rw [decide_eq_true t3, Bool.true_and]
  clear t3
  go_enter Tryd.func81, Tryd.ntmps81
  go_wp2_with (first
    | (refine wpList_skip (by rfl) ?_; simp only [Act.put, List.setIfInBounds_toArray, List.set_cons_zero, List.set_cons_succ])
    | (refine box_agg rfl 52 _ rfl CX rfl ?_; intro W1 hW1
       have hX : Blk W1 w.heap.size 52 CX := by rw [hW1]; exact Blk.new w _ _
       have hB1 : Below w.heap.size w W1 := by rw [hW1]; exact (Below.refl _ w).alloc (Nat.le_refl _) _
       clear hW1)
    | (refine box_agg rfl 52 _ rfl CY rfl ?_; intro W2 hW2
       have hY : Blk W2 W1.heap.size 52 CY := by rw [hW2]; exact Blk.new W1 _ _
       have hX2 : Blk W2 w.heap.size 52 CX := by rw [hW2]; exact hX.alloc _
       have hB2 : Below w.heap.size w W2 := by rw [hW2]; exact hB1.alloc hB1.size _
       clear hW2
       rw [HX.out] at hX2
       rw [HY.out] at hY
       obtain ⟨x0, x1, x34, xr⟩ := LkB.of hX2 HPX.out
       obtain ⟨y0, y1, y34, yr⟩ := LkB.of hY HPY.out
       change W2.cell? _ = some (.int .i64 _) at x0
       change W2.cell? _ = some (.int .i64 _) at y0
       change W2.cell? _ = some (.int .i64 _) at x1
       change W2.cell? _ = some (.int .i64 _) at y1
       change W2.rangeAt _ _ (dig pv).toList at xr
       change W2.rangeAt _ _ (dig pv').toList at yr
       have HD2 := Lib.hid ((hD.below hB2).more hB2.size)
       have HE2 := Lib.hid ((hE.below hB2).more hB2.size)
       have HXR := Lib.hid xr
       have HYR := Lib.hid yr
       clear hX hB1 hX2 hY xr yr hD hE)
    | (refine load_dig_g (by rfl) _ rfl _ 2 rfl pv HPX.out HXR.out ?_)
    | (refine load_dig_g (by rfl) _ rfl _ 2 rfl pv' HPY.out HYR.out ?_))
  refine (bEqual_any D E dat dat' dl el dc ec HDL.out HEL.out _ HD2.out HE2.out).mono ?_
  rintro e Wc ⟨rfl, rfl⟩
  go_wp2_with fail
  go_ret
  exact ⟨rfl, hB2⟩
end Go.Proofs.YtibnikokgbfcdaaDoor

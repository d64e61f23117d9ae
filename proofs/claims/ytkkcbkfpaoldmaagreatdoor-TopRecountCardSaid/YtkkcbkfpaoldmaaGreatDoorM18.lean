/- Several texts in one: N54, N55. -/
import Derived.Test.YtkkcbkfpaoldmaaGreatDoorM17
import Derived.Maps.OwnSet
import Derived.Maps.OwnIn
import Derived.Maps.Views
import Derived.Test.YtkkcbkfpaoldmaaGreatDoorM03
import Derived.Carry
/- Counts of boxes in a map; walk: sheets.class. -/
namespace Go.Proofs.YtkkcbkfpaoldmaaGreatDoor
open Go Go.RowKit Go.Shelf Go.Maps
attribute [local go_sem] Oper.semAt_some

theorem int_key : Keyed Tryz.prog 3 := int_keyed Tryz.underlying3
theorem key_int {a : Int} (h1 : -9223372036854775808 ≤ a) (h2 : a < 9223372036854775808) : keyOf Tryz.prog 3 (.int .i64 a) = some (.int .i64 a) :=
  keyOf_int_mk Tryz.underlying3 (by simp [Lit.wf, IntKind.min, IntKind.max, IntKind.signed, IntKind.bits]; omega)
/-- Block b is a map of the call's own that holds, for each key, the number f says. -/
def CntR (w : World) (b n : Nat) (f : Int → Int) : Prop := ∃ D : DataW Unit, w.ownsMap Tryz.prog 3 (plainElem Tryz.prog 3) b n D ∧ ∀ a, D.atKey (.int .i64 a) (.lit (.int .i64 0)) = .lit (.int .i64 (f a))
theorem CntR.made (w : World) : CntR (w.alloc (.map #[] 0)) w.heap.size 0 (fun _ => 0) := ⟨.map [], World.ownsMap_made w _ _ _, fun _ => rfl⟩
theorem CntR.lt {w : World} {b n : Nat} {f : Int → Int} (h : CntR w b n f) : b < w.heap.size := by
  obtain ⟨D, h1, _⟩ := h
  exact h1.lt
theorem CntR.kept {w w' : World} {b n : Nat} {f : Int → Int} {row : Option Nat} (h : CntR w b n f) (hg : w.grownBy w' row) (hne : some b ≠ row) : CntR w' b n f := by
  obtain ⟨D, h1, h2⟩ := h
  exact ⟨D, h1.kept hg hne, h2⟩
theorem CntR.below {w w' : World} {B b n : Nat} {f : Int → Int} (h : CntR w b n f) (hb : Below B w w') (hB : b < B) : CntR w' b n f := by
  obtain ⟨D, ⟨es, clock, h1, h3⟩, h2⟩ := h
  exact ⟨D, ⟨es, clock, (hb.block b hB).trans h1, h3⟩, h2⟩
theorem zero_int (w : World) : (zeroValue 3).run Tryz.prog w = .ok (.int .i64 0) w := by kernel_rfl
set_option maxRecDepth 100000 in
theorem CntR.look {w : World} {b n : Nat} {f : Int → Int} (h : CntR w b n f) {a : Int} (h1 : -9223372036854775808 ≤ a) (h2 : a < 9223372036854775808) : (Instr.lookup 117 (.map (some b)) (.int .i64 a) false).run Tryz.prog w = .ok (.int .i64 (f a)) w := by
  obtain ⟨D, hD, hf⟩ := h
  obtain ⟨c, hrun, hat, _⟩ := hD.lookup_int int_key Tryz.underlying117 Tryz.underlying3 (zero_int w) (key_int h1 h2)
  rw [hf a] at hat
  injection hat with e1
  injection e1 with _ e2
  rw [e2]
  exact hrun
def fadd (f : Int → Int) (a v : Int) : Int → Int := fun x => if x = a then v else f x
set_option maxRecDepth 100000 in
theorem CntR.put {w : World} {b n : Nat} {f : Int → Int} (h : CntR w b n f) (hn : n ≤ 100000) {a v : Int} (h1 : -9223372036854775808 ≤ a) (h2 : a < 9223372036854775808) (h3 : -9223372036854775808 ≤ v) (h4 : v < 9223372036854775808) :
    ∃ w', (Instr.mapUpdate 117 (.map (some b)) (.int .i64 a) (.int .i64 v)).run Tryz.prog w = .ok () w' ∧ CntR w' b (n + 1) (fadd f a v) ∧ w.grownBy w' (some b) := by
  obtain ⟨D, hD, hf⟩ := h
  obtain ⟨w', hrun, ho, hg⟩ := hD.update int_key Tryz.underlying117 (by simp only [maxLen]; omega) (key_int h1 h2) (plainElem_int Tryz.underlying3 (a := v) (by simp [Lit.wf, IntKind.min, IntKind.max, IntKind.signed, IntKind.bits]; omega))
  refine ⟨w', hrun, ⟨_, ho, fun x => ?_⟩, hg⟩
  by_cases hx : x = a
  · subst hx
    rw [atKey_put_same hD.isMap (show WideAt.IsKeyLit (Lit.int .i64 x) from trivial)]
    simp [fadd]
  · have hne : (Lit.int .i64 x) ≠ (Lit.int .i64 a) := fun e => by
      injection e with _ e2
      exact hx e2
    rw [atKey_put_other hne, hf x]
    simp [fadd, hx]
/-- How often a stands among the first k. -/
def cntN (bx : List Int) (a : Int) : Nat → Nat
  | 0 => 0
  | k + 1 => cntN bx a k + if bx.getD k 0 = a then 1 else 0
theorem cntN_le (bx : List Int) (a : Int) : ∀ k, cntN bx a k ≤ k
  | 0 => Nat.le_refl _
  | k + 1 => by
    have := cntN_le bx a k
    rw [cntN]
    split <;> omega
theorem CntR.congr {w : World} {b n : Nat} {f g : Int → Int} (h : CntR w b n f) (e : ∀ a, f a = g a) : CntR w b n g := by
  obtain rfl : f = g := funext e
  exact h
theorem cnt_add (bx : List Int) (k : Nat) (y : Int) (hy : y = bx.getD k 0) (a : Int) : fadd (fun a => (cntN bx a k : Int)) y ((cntN bx y k : Int) + 1) a = (cntN bx a (k + 1) : Int) := by
  simp only [fadd, cntN]
  by_cases h : a = y
  · subst h
    rw [if_pos rfl, if_pos hy.symm]
    exact (Int.natCast_succ _).symm
  · rw [if_neg h, if_neg (fun e => h (by rw [hy]; exact e.symm)), Nat.add_zero]
set_option maxRecDepth 100000 in
set_option linter.unusedSimpArgs false in
set_option maxHeartbeats 1000000 in
theorem class_ok (b n : Nat) (f : Int → Int) (w : World) (h : CntR w b n f) (h2 : 0 ≤ f 2 ∧ f 2 ≤ 100000) (h1 : f 2 = 0 → f 1 = 1) : Calls Tryz.prog 66 #[.map (some b)] w (Ret (.int .i64 (if 0 < f 2 then 3 else 0)) w) := by
  have r2 := h.look (a := 2) (by omega) (by omega)
  have r1 := h.look (a := 1) (by omega) (by omega)
  clear h
  by_cases hf : 0 < f 2
  · have g1 : decide (0 < f 2) = true := decide_eq_true hf
    rw [if_pos hf]
    clear hf h1
    go_enter Tryz.func66, Tryz.ntmps66
    go_wp2_with fail
    go_ret
    exact ⟨rfl, Below.refl _ _⟩
  · have e2 : f 2 = 0 := by omega
    have e1 := h1 e2
    rw [e2] at r2 ⊢
    rw [e1] at r1
    rw [if_neg (by omega)]
    have hmn : min (2 : Int) 1 = 1 := by decide
    have hix : ∀ w : World, (Instr.index 147 (.agg #[.int .i64 1, .int .i64 0, .int .i64 2]) (.int .i64 1)).run Tryz.prog w = .ok (.int .i64 0) w := fun w => by kernel_rfl
    clear hf h1 e1 e2 h2
    go_enter Tryz.func66, Tryz.ntmps66
    go_wp2_with fail
    go_ret
    exact ⟨rfl, Below.refl _ _⟩
end Go.Proofs.YtkkcbkfpaoldmaaGreatDoor

/- Walk: sheets.Read of a valid sheet and one criterion. -/
namespace Go.Proofs.YtkkcbkfpaoldmaaGreatDoor
open Go Go.RowKit Go.Shelf
attribute [local go_sem] Oper.semAt_some

theorem wp_app_int {o : Oper} {a : Act} {Q : Exit → Act → World → Prop} {K : Act → World → Prop} (s x : Operand) (ho : o.op = .call { callee := .builtin .append, args := #[s, x], argTypes := #[25, 25] })
    (base : Nat) {w : World} (v : Value) (l : List Int) (hs : a.eval s = v) (hown : IOwn w base v l) (y : Int) {g : Nat} {t : TypeId} (hg : Blk w g t #[.int .i64 y])
    (hx : a.eval x = .slice (some ⟨g, 0, none⟩) 1 1) (h47 : l.length ≤ 1000) (hbase : base ≤ w.heap.size)
    (h : ∀ v' w', IOwn w' base v' (l ++ [y]) → Grew w w' v v' → K (a.put o.dst v') w') : Oper.wp Tryz.prog o a w K Q := by
  have hR : Rd w w.heap.size (some ⟨g, 0, none⟩) (1 * 1) (fun _ => .int .i64 y) := Rd.of_blk hg hg.lt fun k hk => by
    rcases k with _ | k <;> first | rfl | omega
  have hsrc := src_rd (P := Tryz.prog) w (size := 1) (tx := 25) (n := 1) (c := 1) Tryz.underlying25 hR (by omega) (fun k hk => rfl)
  obtain ⟨v', w', hrun, h2, h3⟩ := run_append_own_src (P := Tryz.prog) w base 25 25 o.type 3 iInfo (.int .i64 0) 1 8 Tryz.underlying25 iInfo_eq iInfo_zero iInfo_size iInfo_bytes rfl v l.length (icells l) hown _ 1 [.int .i64 y] hsrc (by simp only [maxLen]; omega) (by omega) hbase
  unfold Oper.wp execOp
  simp only [ho, resolve, invoke, builtin, Sem.run_bind, Sem.run_pure, Result.andThen_ok, List.map_toArray, List.map_cons, List.map_nil, hs, hx, hrun]
  refine h v' w' ?_ h3
  show World.ownsRow w' base 3 1 v' (l ++ [y]).length (icells (l ++ [y]))
  rw [icells_append, List.length_append]
  exact h2
theorem wp_build1 {o : Oper} {a : Act} {Q : Exit → Act → World → Prop} {K : Act → World → Prop} {w : World} (x : Tmp) (ho : o.op = .buildSlice 25 1 #[(0, .tmp x)]) (y : Int) (hx : a.tmps.getD x undef = .int .i64 y)
    (h : ∀ w', Blk w' w.heap.size 3 #[.int .i64 y] → Below w.heap.size w w' → K (a.put o.dst (.slice (some ⟨w.heap.size, 0, none⟩) 1 1)) w') : Oper.wp Tryz.prog o a w K Q := by
  have h1 := h (w.alloc (.cells #[.int .i64 y] 3)) (Blk.new _ _ _) ((Below.refl _ _).alloc (Nat.le_refl _) _)
  have hx' : a.tmps[x]?.getD undef = .int .i64 y := by simpa using hx
  obtain ⟨dst, op, ty, pos, aft, gd⟩ := o
  simp only at ho
  subst ho
  go_simp
  exact h1
/-- Boxes: one tick at place t; or smudged. -/
structure Bx (bx : List Int) (nb t : Nat) (sm : Bool) : Prop where
  tn : t < nb
  rg : ∀ k, k < nb → 0 ≤ bx.getD k 0 ∧ bx.getD k 0 ≤ 2
  smu : sm = true → 0 < cntN bx 2 nb
  cl2 : sm = false → cntN bx 2 nb = 0
  cl1 : sm = false → cntN bx 1 nb = 1
  at_ : sm = false → ∀ k, k < nb → (bx.getD k 0 = 1 ↔ k = t)
def mkOf (lo st : Int) (t : Nat) (sm : Bool) : Int := if sm then -1 else lo + (t : Int) * st
def clOf (sm : Bool) : Int := if sm then 3 else 0
def ReadPost (mk cl : Int) (w : World) (e : Ending) (w' : World) : Prop :=
  ∃ (A1 A2 : Option Addr) (c1 c2 : Nat), e = .returned (.tuple #[.slice A1 1 c1, .slice A2 1 c2, .int .i64 0]) ∧ Rd w' w'.heap.size A1 1 (fun _ => .int .i64 mk) ∧ Rd w' w'.heap.size A2 1 (fun _ => .int .i64 cl) ∧ Below w.heap.size w w'
/-- Behind the round. -/
def ReadR (H : Nat) (mk cl : Int) (w0 W : World) : Prop :=
  ∃ (A1 A2 : Option Addr) (c1 c2 : Nat), Blk W (H + 1) 25 #[.slice A1 1 c1] ∧ Blk W (H + 2) 25 #[.slice A2 1 c2] ∧ Rd W W.heap.size A1 1 (fun _ => .int .i64 mk) ∧ Rd W W.heap.size A2 1 (fun _ => .int .i64 cl) ∧
    (∀ p, A1 = some p → H + 2 < p.block) ∧ (∀ p, A2 = some p → H + 2 < p.block) ∧ Below H w0 W
theorem iown_rd1 {W : World} {base n c : Nat} {A : Option Addr} {y : Int} (h : IOwn W base (.slice A n c) [y]) : Rd W W.heap.size A 1 (fun _ => .int .i64 y) := by
  obtain ⟨A', c', e, _, _, hR⟩ := h.shape
  simp only [Value.slice.injEq] at e
  rw [e.1]
  exact hR.congr fun k hk => by
    obtain rfl : k = 0 := by simp at hk; omega
    rfl
theorem rd_far {W : World} {B g s n : Nat} {A : Option Addr} {f : Nat → Value} {v : Value} (h : Rd W B A n f) (hf : ∀ p, A = some p → p.block ≠ g) : Rd (W.setCell ⟨g, s, none⟩ v) B A n f := fun hl => by
  obtain ⟨b, off, e, hb, hc⟩ := h hl
  refine ⟨b, off, e, hb, fun k hk => ?_⟩
  have h1 := hf _ e
  exact (World.cell?_setCell_other _ _ _ _ (fun e2 => h1 (by have := congrArg Addr.block e2; simpa using this.symm))).trans (hc k hk)
set_option maxRecDepth 100000 in
set_option linter.unusedSimpArgs false in
set_option linter.unusedVariables false in
set_option maxHeartbeats 8000000 in
theorem shRead_ok (x : Crit) (hx : CrOk x.lo x.hi x.st x.ho x.tr) (gc : Nat) (tc : TypeId) (no en ju : Int) (hno : 0 ≤ no ∧ no ≤ 1048576) (hen : 0 ≤ en ∧ en ≤ 4095) (hju : 0 ≤ ju ∧ ju ≤ 255) (Abx Ab : Option Addr) (kb nb cb : Nat) (bx : List Int) (t : Nat) (sm : Bool)
    (hnb : (nb : Int) = marksN x.lo x.hi x.st) (hbx : Bx bx nb t sm) (w0 : World) (hc : Blk w0 gc tc x.c) (hv : Rd w0 w0.heap.size Abx 1 (fun _ => .slice Ab nb cb)) (hb : Rd w0 w0.heap.size Ab nb (fun k => .int .i64 (bx.getD k 0))) :
    Calls Tryz.prog 37 #[.slice (some ⟨gc, 0, none⟩) 1 1, .agg (sheetC no 0 en ju Abx kb)] w0 (ReadPost (mkOf x.lo x.st t sm) (clOf sm) w0) := by
  have HCK := Lib.hid (fun W (h : Below w0.heap.size w0 W) => shCheck_ok x hx gc tc no en ju hno hen hju Abx Ab kb nb cb bx hnb hbx.rg W (hc.below h hc.lt) ((hv.below h).more h.size) ((hb.below h).more h.size))
  obtain ⟨xs, lo, hi, st, ho, tr, rv⟩ := x
  simp only [Crit.c] at hc
  simp only at hx hnb HCK ⊢
  have HC := Lib.hid hc
  have HV := Lib.hid hv
  have HB := Lib.hid hb
  have HBX := Lib.hid hbx
  have hgc := hc.lt
  have hmr := marks_range hx
  rw [← hnb] at hmr
  have k1 := hx.l0
  have k2 := hx.lh
  have k3 := hx.h1
  have k4 := hx.s1
  have hnm : 2 ≤ nb ∧ nb ≤ 1001 := by omega
  have htn := hbx.tn
  have htst : 0 ≤ (t : Int) * st ∧ (t : Int) * st ≤ 1000 := by
    have h1 : 0 ≤ (t : Int) * st := Int.mul_nonneg (by omega) (by omega)
    have h2 : (t : Int) * st ≤ ((nb : Int) - 1) * st := Int.mul_le_mul_of_nonneg_right (by omega) (by omega)
    have h3 := hmr.2.2
    omega
  have hw1 : wrap64 ((t : Int) * st) = (t : Int) * st := wrap_in _ (by omega)
  have hmm := @run_makeMap Tryz.prog
  obtain ⟨mk, hmk⟩ : ∃ mk, mk = mkOf lo st t sm := ⟨_, rfl⟩
  obtain ⟨cl, hcl⟩ : ∃ cl, cl = clOf sm := ⟨_, rfl⟩
  rw [← hmk, ← hcl]
  have HMK := Lib.hid hmk
  have HCL := Lib.hid hcl
  clear hc hv hb hbx hx hnb hmr hmk hcl
  refine (callsIn_wide (n := 5)).1 ?_
  refine callsIn_of_wp_marks Tryz.func37 rfl trivial ?_ rfl
  simp only [Tryz.ntmps37, List.size_toArray, List.length_cons, List.length_nil, Nat.reduceAdd, Nat.reduceSub, Array.replicate_succ, Array.replicate_zero, List.push_toArray, List.append_toArray, List.nil_append, List.cons_append]
  refine wpIn_wide.2 ?_
  go_wp2_with fail
  refine calls_gen (fun W => Blk W w0.heap.size 46 (sheetC no 0 en ju Abx kb) ∧ Blk W (w0.heap.size + 1) 25 #[.slice none 0 0] ∧ Blk W (w0.heap.size + 2) 25 #[.slice none 0 0] ∧ Below w0.heap.size w0 W)
    ⟨((Blk.new _ _ _).alloc _).alloc _, (Blk.new' _ _ _ (by simp)).alloc _, Blk.new' _ _ _ (by simp), (((Below.refl _ w0).alloc (Nat.le_refl _) _).alloc (by simp) _).alloc (by simp; omega) _⟩ (fun W0 ⟨b0, b1, b2, hB0⟩ => ?_)
  refine (HCK.out W0 hB0).mono ?_
  rintro e W1 ⟨rfl, hb1⟩
  have D0 := Lib.hid (b0.below hb1 b0.lt)
  have D1 := Lib.hid (b1.below hb1 b1.lt)
  have D2 := Lib.hid (b2.below hb1 b2.lt)
  have HB1 := Lib.hid (hB0.trans (hb1.mono hB0.size))
  obtain ⟨H, hH⟩ : ∃ H, H = w0.heap.size := ⟨_, rfl⟩
  have HH := Lib.hid hH
  rw [← hH] at D0 D1 D2 ⊢
  have s4 : W1.cell? ⟨H, 4, none⟩ = some (.slice Abx 1 kb) := D0.out.cell 4
  clear b0 b1 b2 hB0 hb1 hH HCK
  go_wp2_with fail
  refine (zipB_any (some ⟨gc, 0, none⟩) Abx 1 1 1 kb W1).mono ?_
  rintro e w2 ⟨rfl, hw2⟩
  have hb2 : Below W1.heap.size W1 w2 := by rw [hw2]; exact ((Below.refl _ _).alloc (Nat.le_refl _) _).alloc (by simp) _
  have z1 : Blk w2 W1.heap.size 44 #[.slice (some ⟨gc, 0, none⟩) 1 1] := by rw [hw2]; exact (Blk.new _ _ _).alloc _
  have z2 : Blk w2 (W1.heap.size + 1) 24 #[.slice Abx 1 kb] := by rw [hw2]; exact Blk.new' _ _ _ (by simp)
  have hB2w : Below w0.heap.size w0 w2 := HB1.out.trans (hb2.mono HB1.out.size)
  have hB2 : Below H w0 w2 := by rw [HH.out]; exact hB2w
  have hsH : H + 2 < W1.heap.size := D2.out.lt
  have HSEQ := Lib.hid (zipB1_V 4 W1.heap.size (W1.heap.size + 1) gc _ _ tc ⟨xs, lo, hi, st, ho, tr, rv⟩ Ab nb cb Abx kb w2 z1 z2 (HC.out.below hB2w hgc) ((HV.out.below hB2w).more hB2w.size))
  have hz2 : W1.heap.size ≤ w2.heap.size := hb2.size
  have HI0 := Lib.hid (show Blk w2 (H + 1) 25 #[.slice none 0 0] ∧ Blk w2 (H + 2) 25 #[.slice none 0 0] ∧ Below H w0 w2 from ⟨D1.out.below hb2 D1.out.lt, D2.out.below hb2 D2.out.lt, hB2⟩)
  clear hw2 hb2 z1 z2 hB2 hB2w s4
  go_wp2_with fail
  refine (wpIn_wide (n := 5)).1 ?_
  refine gen_act fun a0 ha0 => ?_
  have HA0 := Lib.hid ha0
  refine wpIn_range1V rfl (by omega) (gf := 92) (lb := #[.pointer (some ⟨W1.heap.size, 0, none⟩), .pointer (some ⟨W1.heap.size + 1, 0, none⟩)]) (by rw [HA0.out]; rfl) trivial (enters_of Tryz.func92 (by kernel_rfl) rfl) HSEQ.out (Below.refl _ _) rfl
    (fun W => Blk W (H + 1) 25 #[.slice none 0 0] ∧ Blk W (H + 2) 25 #[.slice none 0 0] ∧ Below H w0 W) (ReadR H mk cl w0)
    ?hI ?hR HI0.out
    (fun a' W => ∃ g9, a' = { tmps := (((a0.tmps.setIfInBounds 26 (.agg (critC xs lo hi st ho tr rv))).setIfInBounds 27 (.slice Ab nb cb)).setIfInBounds 8 (.pointer (some ⟨g9, 0, none⟩))).setIfInBounds 9 (.slice Ab nb cb), defers := [] } ∧ Blk W g9 23 (critC xs lo hi st ho tr rv))
    (fun a' X Y row ⟨g9, e, h⟩ hg hr => ⟨g9, e, blk_kept h hg hr⟩) ?assign ?body ?done
  case hI =>
    rintro A C row ⟨h1, h2, h3⟩ hg hr
    exact ⟨blk_kept h1 hg (fun r e => (hr r e).2), blk_kept h2 hg (fun r e => (hr r e).2), below_kept1 h3 hg (fun r e => (hr r e).1) (by omega) (Nat.le_trans (Nat.le_of_lt (Nat.lt_of_le_of_lt (by omega) h2.lt)) (Nat.le_refl _))⟩
  case hR =>
    rintro A C row ⟨A1, A2, c1, c2, h1, h2, h3, h4, h5, h6, h7⟩ hg hr
    have hr' := fun r e => (hr r e).2
    exact ⟨A1, A2, c1, c2, blk_kept h1 hg hr', blk_kept h2 hg hr', rd_kept h3 hg hr', rd_kept h4 hg hr', h5, h6, below_kept1 h7 hg (fun r e => (hr r e).1) (by omega) (by have := h2.lt; omega)⟩
  case assign =>
    rintro l W K ⟨hE, hE2, hB⟩ hK
    rw [HA0.out]
    simp only [zipEnc, Crit.c, fold2, List.setIfInBounds_toArray, List.set_cons_zero, List.set_cons_succ]
    apply wpIn_seq_k
    intro K2 hK2
    refine wpIn_region_list_of (L := [_, _]) (by kernel_rfl) ?_ ?_
    · intro ho
      obtain ⟨_, _, h⟩ := ho
      exact h
    go_wp2_with (refine store_crit rfl _ _ rfl (Blk.new W 23 _) xs lo hi st ho tr rv rfl rfl rfl ?_; intro w5 bx5 hO hz; have hk5 : Below W.heap.size W w5 := ((Below.refl _ W).alloc (Nat.le_refl _) _).trans (hO.toBelow (by simp) (Nat.le_refl _)); clear hO hz)
    refine wpIn_region_list_of (L := [_]) (by kernel_rfl) ?_ ?_
    · intro ho
      obtain ⟨_, _, h⟩ := ho
      exact h
    go_wp2_with fail
    exact hK _ _ ((keeps_of_below hk5).from _) ⟨hE.below hk5 hE.lt, hE2.below hk5 hE2.lt, hB.trans (hk5.mono (by have h1 := hB.size; have h2 := HH.out; omega))⟩ ⟨_, by rw [HA0.out]; rfl, bx5⟩
  case body =>
    rintro l a' W ⟨hE, hE2, hB⟩ ⟨g9, rfl, hb9⟩
    rw [HA0.out]
    simp only [List.setIfInBounds_toArray, List.set_cons_zero, List.set_cons_succ]
    have HG9 := Lib.hid hb9
    have HE := Lib.hid hE
    have HE2 := Lib.hid hE2
    have HBB := Lib.hid hB
    have hbW : Below W.heap.size W (W.alloc (.map #[] 0)) := (Below.refl _ _).alloc (Nat.le_refl _) _
    have hM0 : CntR (W.alloc (.map #[] 0)) W.heap.size 0 (fun _ => 0) := CntR.made W
    clear hE hE2 hB hb9
    gi_wp2_with fail
    gi_loopw [11, 31] (fun lv iv wr => ∃ (k last : Nat), k ≤ nb ∧ iv = .int .i64 k ∧ lv = .int .i64 last ∧ last ≤ k ∧ CntR wr W.heap.size k (fun a => (cntN bx a k : Int)) ∧ (sm = false → last = if t < k then t else 0) ∧ Below W.heap.size W wr) (fun _ iv _ => nb - (intOf iv).toNat)
    case atStart => exact ⟨0, 0, by omega, rfl, rfl, by omega, hM0.congr fun a => rfl, fun _ => by rw [if_neg (by omega)], hbW⟩
    case round =>
      clear hM0 hbW
      obtain ⟨k, last, hk, rfl, rfl, hlk, hM, hlast, hBr⟩ := hrel
      have HM := Lib.hid hM
      have HLAST := Lib.hid hlast
      clear hM hlast
      by_cases hlt : k < nb
      · obtain ⟨bb, ob, rfl, _, hcb⟩ := (((HB.out.below (by rw [← HH.out]; exact HBB.out)).more (by have h1 := HBB.out.size; have h2 := HH.out; omega) : Rd W W.heap.size Ab nb _).below hBr).at_ (k := k) hlt
        obtain ⟨y, hy⟩ : ∃ y, y = bx.getD k 0 := ⟨_, rfl⟩
        have hyr := HBX.out.rg k hlt
        rw [← hy] at hcb hyr
        have hcl := cntN_le bx y k
        have r1 := HM.out.look (a := y) (by omega) (by omega)
        obtain ⟨w3, r3, hM3, hg3⟩ := HM.out.put (by omega) (a := y) (v := (cntN bx y k : Int) + 1) (by omega) (by omega) (by omega) (by omega)
        try simp only at r1
        have HM3 := Lib.hid (hM3.congr (cnt_add bx k y hy))
        have HB3 := Lib.hid (show Below W.heap.size W w3 from hBr.trans ⟨hg3.os, hg3.tape, hg3.output, hg3.size, fun i hi => hg3.block i (by have := hBr.size; omega) (fun e => by have := Option.some.inj e; omega)⟩)
        have g1 : decide ((k : Int) < (nb : Int)) = true := decide_eq_true (by omega)
        have g1n : decide (k < nb) = true := decide_eq_true hlt
        have hcz : 0 ≤ (cntN bx y k : Int) ∧ (cntN bx y k : Int) ≤ 1001 := by omega
        have HY := Lib.hid hy
        clear hM3 hg3 hy hcl
        by_cases hy1 : y = 1
        · have g2 : (y == 1) = true := beq_iff_eq.2 hy1
          have HLN := Lib.hid (show sm = false → k = if t < k + 1 then t else 0 from fun e => by
            have := ((HBX.out.at_ e) k hlt).1 (by rw [← HY.out]; exact hy1)
            rw [if_pos (by omega)]
            exact this)
          clear hy1
          gi_wp2_with fail
          go_roundw
          case rel => exact ⟨k + 1, k, by omega, by go_num, rfl, by omega, HM3.out, HLN.out, HB3.out⟩
          case measure => simp [intOf]; omega
        · have g2 : (y == 1) = false := beq_eq_false_iff_ne.2 hy1
          have HLN := Lib.hid (show sm = false → last = if t < k + 1 then t else 0 from fun e => by
            have h1 := HLAST.out e
            have h2 : k ≠ t := fun h => hy1 (by rw [HY.out]; exact ((HBX.out.at_ e) k hlt).2 h)
            rw [h1]
            by_cases h3 : t < k
            · rw [if_pos h3, if_pos (by omega)]
            · rw [if_neg h3, if_neg (by omega)])
          clear hy1
          gi_wp2_with fail
          go_roundw
          case rel => exact ⟨k + 1, last, by omega, by go_num, rfl, by omega, HM3.out, HLN.out, HB3.out⟩
          case measure => simp [intOf]; omega
      · obtain rfl : k = nb := by omega
        have g1 : decide ((k : Int) < (k : Int)) = false := by simp
        have hc2 : 0 ≤ (cntN bx 2 k : Int) ∧ (cntN bx 2 k : Int) ≤ 100000 := ⟨by omega, by have := cntN_le bx 2 k; omega⟩
        have hc1 : (cntN bx 2 k : Int) = 0 → (cntN bx 1 k : Int) = 1 := fun e => by
          have h1 : sm = false := by
            cases hs : sm with
            | false => rfl
            | true =>
              have := HBX.out.smu hs
              omega
          have := HBX.out.cl1 h1
          omega
        have HCC := Lib.hid (class_ok W.heap.size k (fun a => (cntN bx a k : Int)) wr HM.out hc2 hc1)
        clear hc2 hc1
        gi_wp2_with fail
        refine ⟨trivial, CallsIn.inRound _ (callsIn_wide.2 (HCC.out.mono ?_))⟩
        rintro e w3 ⟨rfl, hb3⟩
        have hB3 := hBr.trans (hb3.mono hBr.size)
        have hG9 := HG9.out.below hB3 HG9.out.lt
        have hE3 := HE.out.below hB3 HE.out.lt
        have hE4 := HE2.out.below hB3 HE2.out.lt
        cases sm with
        | true =>
          have e0 : (if 0 < (cntN bx 2 k : Int) then (3 : Int) else 0) = 3 := if_pos (by have := HBX.out.smu rfl; omega)
          have HCL2 := Lib.hid (show (3 : Int) = cl by rw [HCL.out]; rfl)
          have HMK2 := Lib.hid (show (-1 : Int) = mk by rw [HMK.out]; rfl)
          rw [e0]
          clear e0
          gi_wp2_with fail
          have hz3 : H + 2 < w3.heap.size := hE4.lt
          refine wpIn_region_heldIn (fun W' => W'.cell? ⟨H + 1, 0, none⟩ = some (.slice none 0 0) ∧ W'.cell? ⟨H + 2, 0, none⟩ = some (.slice none 0 0)) [0, 1, 2, 3, 4, 5, 6, 7] (by kernel_rfl) ⟨hE3.cell 0, hE4.cell 0⟩ (fun hS => ?_)
          refine heldIn_take2 (i := 0) (v := .slice none 0 0) rfl (by kernel_rfl) (semAs_round _ (by kernel_rfl)) (fun _ _ _ h => h) ⟨Or.inl ⟨by rfl, fun W' hS' => by obtain ⟨p0, p1⟩ := hS'; go_simp⟩, fun w => rfl⟩ hS ?_
          try simp only [Act.put, List.getElem_toArray, List.getElem_cons_zero, List.getElem_cons_succ, List.setIfInBounds_toArray, List.set_cons_zero, List.set_cons_succ]
          refine heldIn_take2 (i := 1) (v := .int .i64 (-1)) rfl (by kernel_rfl) (semAs_round _ (by kernel_rfl)) (fun _ _ _ h => h) ⟨Or.inl ⟨by rfl, fun W' hS' => by go_simp⟩, fun w => rfl⟩ hS ?_
          try simp only [Act.put, List.getElem_toArray, List.getElem_cons_zero, List.getElem_cons_succ, List.setIfInBounds_toArray, List.set_cons_zero, List.set_cons_succ]
          refine heldIn_take2 (i := 4) (v := .slice none 0 0) rfl (by kernel_rfl) (semAs_round _ (by kernel_rfl)) (fun _ _ _ h => h) ⟨Or.inl ⟨by rfl, fun W' hS' => by obtain ⟨p0, p1⟩ := hS'; go_simp⟩, fun w => rfl⟩ hS ?_
          try simp only [Act.put, List.getElem_toArray, List.getElem_cons_zero, List.getElem_cons_succ, List.setIfInBounds_toArray, List.set_cons_zero, List.set_cons_succ]
          refine heldIn_take2 (i := 5) (v := .int .i64 3) rfl (by kernel_rfl) (semAs_round _ (by kernel_rfl)) (fun _ _ _ h => h) ⟨Or.inl ⟨by rfl, fun W' hS' => by go_simp⟩, fun w => rfl⟩ hS ?_
          try simp only [Act.put, List.getElem_toArray, List.getElem_cons_zero, List.getElem_cons_succ, List.setIfInBounds_toArray, List.set_cons_zero, List.set_cons_succ]
          have hV : Below w3.heap.size w3 w3.drew := (Below.refl _ _).drew
          have E1 := Blk.drew hE3
          have E2 := Blk.drew hE4
          generalize w3.drew = V0 at hV E1 E2 ⊢
          clear hS
          refine heldIn_ready (L := [2, 6]) (by kernel_rfl) (by simp) ?_
          refine AllH.cons rfl (by rfl) (fun Kq hKq => ?_) ?_
          · skip
            refine opIn_of_op (fun c e => by cases e) (wp_build1 _ rfl (-1) rfl ?_)
            intro V1 b57 hv'
            have E1' := E1.below hv' E1.lt
            have E2' := E2.below hv' E2.lt
            have hV' := hV.trans (hv'.mono hV.size)
            refine hKq _ _ (fun _ => ⟨E1'.cell 0, E2'.cell 0⟩) ?_
            clear hKq Kq hv' hV E1 E2
            have E1 := E1'
            have E2 := E2'
            have hV := hV'
            clear E1' E2' hV'
            try simp only [Act.put, List.getElem_toArray, List.getElem_cons_zero, List.getElem_cons_succ, List.setIfInBounds_toArray, List.set_cons_zero, List.set_cons_succ]
            refine heldIn_ready (L := [3, 6]) (by kernel_rfl) (by simp) ?_
            refine AllH.cons rfl (by rfl) (fun Kq hKq => ?_) ?_
            · skip
              refine opIn_of_op (fun c e => by cases e) (wp_app_int _ _ rfl V1.heap.size (.slice none 0 0) [] rfl (IOwn.nil _ _) (-1) b57 rfl (by simp) (Nat.le_refl _) ?_)
              intro v58 V2 o58 hg58
              have hv' : Below V1.heap.size V1 V2 := hg58.below (Nat.le_refl _) (fun g e => by simp [Value.ownBlock] at e)
              rw [List.nil_append] at o58
              have bs58 := hV.size
              have E1' := E1.below hv' E1.lt
              have E2' := E2.below hv' E2.lt
              have b57' := b57.below hv' b57.lt
              have hV' := hV.trans (hv'.mono hV.size)
              refine hKq _ _ (fun _ => ⟨E1'.cell 0, E2'.cell 0⟩) ?_
              clear hKq Kq hv' hV E1 E2 b57 hg58
              have E1 := E1'
              have E2 := E2'
              have b57 := b57'
              have hV := hV'
              clear E1' E2' b57' hV'
              obtain ⟨A1, c1, ev58, -, -, -⟩ := o58.shape
              subst ev58
              simp only [List.length_cons, List.length_nil, Nat.zero_add] at o58 ⊢
              have F1 : ∀ p, A1 = some p → H + 2 < p.block := fun p e => Nat.lt_of_lt_of_le hz3 (Nat.le_trans bs58 (own_far o58 p e))
              clear bs58
              try simp only [Act.put, List.getElem_toArray, List.getElem_cons_zero, List.getElem_cons_succ, List.setIfInBounds_toArray, List.set_cons_zero, List.set_cons_succ]
              refine heldIn_ready (L := [6]) (by kernel_rfl) (by simp) ?_
              refine AllH.cons rfl (by rfl) (fun Kq hKq => ?_) AllH.nil
              refine opIn_of_op (fun c e => by cases e) (wp_build1 _ rfl (3) rfl ?_)
              intro V3 b61 hv'
              have E1' := E1.below hv' E1.lt
              have E2' := E2.below hv' E2.lt
              have b57' := b57.below hv' b57.lt
              have o58' := IOwn.below o58 hv'
              have hV' := hV.trans (hv'.mono hV.size)
              refine hKq _ _ (fun _ => ⟨E1'.cell 0, E2'.cell 0⟩) ?_
              clear hKq Kq hv' hV E1 E2 b57 o58
              have E1 := E1'
              have E2 := E2'
              have b57 := b57'
              have o58 := o58'
              have hV := hV'
              clear E1' E2' b57' o58' hV'
              try simp only [Act.put, List.getElem_toArray, List.getElem_cons_zero, List.getElem_cons_succ, List.setIfInBounds_toArray, List.set_cons_zero, List.set_cons_succ]
              refine heldIn_ready (L := [7]) (by kernel_rfl) (by simp) ?_
              refine AllH.cons rfl (by rfl) (fun Kq hKq => ?_) AllH.nil
              refine opIn_of_op (fun c e => by cases e) (wp_app_int _ _ rfl V3.heap.size (.slice none 0 0) [] rfl (IOwn.nil _ _) (3) b61 rfl (by simp) (Nat.le_refl _) ?_)
              intro v62 V4 o62 hg62
              have hv' : Below V3.heap.size V3 V4 := hg62.below (Nat.le_refl _) (fun g e => by simp [Value.ownBlock] at e)
              rw [List.nil_append] at o62
              have bs62 := hV.size
              have E1' := E1.below hv' E1.lt
              have E2' := E2.below hv' E2.lt
              have b57' := b57.below hv' b57.lt
              have o58' := IOwn.below o58 hv'
              have b61' := b61.below hv' b61.lt
              have hV' := hV.trans (hv'.mono hV.size)
              refine hKq _ _ (fun _ => ⟨E1'.cell 0, E2'.cell 0⟩) ?_
              clear hKq Kq hv' hV E1 E2 b57 o58 b61 hg62
              have E1 := E1'
              have E2 := E2'
              have b57 := b57'
              have o58 := o58'
              have b61 := b61'
              have hV := hV'
              clear E1' E2' b57' o58' b61' hV'
              obtain ⟨A2, c2, ev62, -, -, -⟩ := o62.shape
              subst ev62
              simp only [List.length_cons, List.length_nil, Nat.zero_add] at o62 ⊢
              have F2 : ∀ p, A2 = some p → H + 2 < p.block := fun p e => Nat.lt_of_lt_of_le hz3 (Nat.le_trans bs62 (own_far o62 p e))
              clear bs62
              try simp only [Act.put, List.getElem_toArray, List.getElem_cons_zero, List.getElem_cons_succ, List.setIfInBounds_toArray, List.set_cons_zero, List.set_cons_succ]
              have R1 := iown_rd1 o58
              have R2 := iown_rd1 o62
              have hb0 : Below H w0 V4 := HBB.out.trans ((hB3.trans (hV.mono hB3.size)).mono (by have h1 := HBB.out.size; have h2 := HH.out; omega))
              have hk0 := keeps_of_below (hB3.trans (hV.mono hB3.size))
              clear o58 o62 b57 b61 hV
              refine heldIn_ready (L := [8]) (by kernel_rfl) (by simp) ?_
              refine AllH.cons rfl (by rfl) (fun Kq hKq => ?_) AllH.nil
              have ce1 : V4.cell? ⟨H + 1, 0, none⟩ = some (.slice none 0 0) := E1.cell 0
              have fe1 := E1.frozen 0
              refine opIn_of_op (fun c e => by cases e) ?_
              go_simp
              refine hKq _ _ (fun h => absurd h (by decide)) ?_
              clear hKq Kq ce1 fe1
              have E1' : Blk (V4.setCell ⟨H + 1, 0, none⟩ (.slice A1 1 c1)) (H + 1) 25 #[.slice A1 1 c1] := E1.set 0 _
              have E2' : Blk (V4.setCell ⟨H + 1, 0, none⟩ (.slice A1 1 c1)) (H + 2) 25 #[.slice none 0 0] := E2.far (p := ⟨H + 1, 0, none⟩) (by show H + 2 ≠ H + 1; omega) _
              have R1' := rd_far (v := .slice A1 1 c1) (g := H + 1) (s := 0) R1 (fun p e => by have := F1 p e; omega)
              have R2' := rd_far (v := .slice A1 1 c1) (g := H + 1) (s := 0) R2 (fun p e => by have := F2 p e; omega)
              rw [show V4.heap.size = (V4.setCell ⟨H + 1, 0, none⟩ (.slice A1 1 c1)).heap.size by simp] at R1' R2'
              have hb' : Below H w0 (V4.setCell ⟨H + 1, 0, none⟩ (.slice A1 1 c1)) := hb0.setCell (p := ⟨H + 1, 0, none⟩) (by show H ≤ H + 1; omega) _
              have hk' := hk0.trans (KeepsOthers.setCell V4 ⟨H + 1, 0, none⟩ (.slice A1 1 c1))
              clear E1 E2 R1 R2 hb0 hk0
              generalize (V4.setCell ⟨H + 1, 0, none⟩ (.slice A1 1 c1)) = V5 at E1' E2' R1' R2' hb' hk' ⊢
              try simp only [Act.put, List.getElem_toArray, List.getElem_cons_zero, List.getElem_cons_succ, List.setIfInBounds_toArray, List.set_cons_zero, List.set_cons_succ]
              have E1 := E1'
              have E2 := E2'
              have R1 := R1'
              have R2 := R2'
              have hb0 := hb'
              have hk0 := hk'
              clear E1' E2' R1' R2' hb' hk'
              refine heldIn_ready (L := [9]) (by kernel_rfl) (by simp) ?_
              refine AllH.cons rfl (by rfl) (fun Kq hKq => ?_) AllH.nil
              have ce2 : V5.cell? ⟨H + 2, 0, none⟩ = some (.slice none 0 0) := E2.cell 0
              have fe2 := E2.frozen 0
              refine opIn_of_op (fun c e => by cases e) ?_
              go_simp
              refine hKq _ _ (fun h => absurd h (by decide)) ?_
              clear hKq Kq ce2 fe2
              have E1' : Blk (V5.setCell ⟨H + 2, 0, none⟩ (.slice A2 1 c2)) (H + 1) 25 #[.slice A1 1 c1] := E1.far (p := ⟨H + 2, 0, none⟩) (by show H + 1 ≠ H + 2; omega) _
              have E2' : Blk (V5.setCell ⟨H + 2, 0, none⟩ (.slice A2 1 c2)) (H + 2) 25 #[.slice A2 1 c2] := E2.set 0 _
              have R1' := rd_far (v := .slice A2 1 c2) (g := H + 2) (s := 0) R1 (fun p e => by have := F1 p e; omega)
              have R2' := rd_far (v := .slice A2 1 c2) (g := H + 2) (s := 0) R2 (fun p e => by have := F2 p e; omega)
              rw [show V5.heap.size = (V5.setCell ⟨H + 2, 0, none⟩ (.slice A2 1 c2)).heap.size by simp] at R1' R2'
              have hb' : Below H w0 (V5.setCell ⟨H + 2, 0, none⟩ (.slice A2 1 c2)) := hb0.setCell (p := ⟨H + 2, 0, none⟩) (by show H ≤ H + 2; omega) _
              have hk' := hk0.trans (KeepsOthers.setCell V5 ⟨H + 2, 0, none⟩ (.slice A2 1 c2))
              clear E1 E2 R1 R2 hb0 hk0
              have HFIN := Lib.hid (show ReadR H mk cl w0 (V5.setCell ⟨H + 2, 0, none⟩ (.slice A2 1 c2)) from ⟨A1, A2, c1, c2, E1', E2', by rw [← HMK2.out]; exact R1', by rw [← HCL2.out]; exact R2', F1, F2, hb'⟩)
              have HKEEP := Lib.hid (hk'.from w2.heap.size)
              clear E1' E2' R1' R2' hb' hk' F1 F2
              try simp only [Act.put, List.getElem_toArray, List.getElem_cons_zero, List.getElem_cons_succ, List.setIfInBounds_toArray, List.set_cons_zero, List.set_cons_succ]
              refine heldIn_done (by kernel_rfl) ?_
              gi_wp2_with fail
              exact ⟨HKEEP.out, HFIN.out⟩
            refine AllH.cons rfl (by rfl) (fun Kq hKq => ?_) AllH.nil
            refine opIn_of_op (fun c e => by cases e) (wp_build1 _ rfl (3) rfl ?_)
            intro V2 b61 hv'
            have E1' := E1.below hv' E1.lt
            have E2' := E2.below hv' E2.lt
            have b57' := b57.below hv' b57.lt
            have hV' := hV.trans (hv'.mono hV.size)
            refine hKq _ _ (fun _ => ⟨E1'.cell 0, E2'.cell 0⟩) ?_
            clear hKq Kq hv' hV E1 E2 b57
            have E1 := E1'
            have E2 := E2'
            have b57 := b57'
            have hV := hV'
            clear E1' E2' b57' hV'
            try simp only [Act.put, List.getElem_toArray, List.getElem_cons_zero, List.getElem_cons_succ, List.setIfInBounds_toArray, List.set_cons_zero, List.set_cons_succ]
            refine heldIn_ready (L := [3]) (by kernel_rfl) (by simp) ?_
            refine AllH.cons rfl (by rfl) (fun Kq hKq => ?_) AllH.nil
            refine opIn_of_op (fun c e => by cases e) (wp_app_int _ _ rfl V2.heap.size (.slice none 0 0) [] rfl (IOwn.nil _ _) (-1) b57 rfl (by simp) (Nat.le_refl _) ?_)
            intro v58 V3 o58 hg58
            have hv' : Below V2.heap.size V2 V3 := hg58.below (Nat.le_refl _) (fun g e => by simp [Value.ownBlock] at e)
            rw [List.nil_append] at o58
            have bs58 := hV.size
            have E1' := E1.below hv' E1.lt
            have E2' := E2.below hv' E2.lt
            have b57' := b57.below hv' b57.lt
            have b61' := b61.below hv' b61.lt
            have hV' := hV.trans (hv'.mono hV.size)
            refine hKq _ _ (fun _ => ⟨E1'.cell 0, E2'.cell 0⟩) ?_
            clear hKq Kq hv' hV E1 E2 b57 b61 hg58
            have E1 := E1'
            have E2 := E2'
            have b57 := b57'
            have b61 := b61'
            have hV := hV'
            clear E1' E2' b57' b61' hV'
            obtain ⟨A1, c1, ev58, -, -, -⟩ := o58.shape
            subst ev58
            simp only [List.length_cons, List.length_nil, Nat.zero_add] at o58 ⊢
            have F1 : ∀ p, A1 = some p → H + 2 < p.block := fun p e => Nat.lt_of_lt_of_le hz3 (Nat.le_trans bs58 (own_far o58 p e))
            clear bs58
            try simp only [Act.put, List.getElem_toArray, List.getElem_cons_zero, List.getElem_cons_succ, List.setIfInBounds_toArray, List.set_cons_zero, List.set_cons_succ]
            refine heldIn_ready (L := [7]) (by kernel_rfl) (by simp) ?_
            refine AllH.cons rfl (by rfl) (fun Kq hKq => ?_) AllH.nil
            refine opIn_of_op (fun c e => by cases e) (wp_app_int _ _ rfl V3.heap.size (.slice none 0 0) [] rfl (IOwn.nil _ _) (3) b61 rfl (by simp) (Nat.le_refl _) ?_)
            intro v62 V4 o62 hg62
            have hv' : Below V3.heap.size V3 V4 := hg62.below (Nat.le_refl _) (fun g e => by simp [Value.ownBlock] at e)
            rw [List.nil_append] at o62
            have bs62 := hV.size
            have E1' := E1.below hv' E1.lt
            have E2' := E2.below hv' E2.lt
            have b57' := b57.below hv' b57.lt
            have b61' := b61.below hv' b61.lt
            have o58' := IOwn.below o58 hv'
            have hV' := hV.trans (hv'.mono hV.size)
            refine hKq _ _ (fun _ => ⟨E1'.cell 0, E2'.cell 0⟩) ?_
            clear hKq Kq hv' hV E1 E2 b57 b61 o58 hg62
            have E1 := E1'
            have E2 := E2'
            have b57 := b57'
            have b61 := b61'
            have o58 := o58'
            have hV := hV'
            clear E1' E2' b57' b61' o58' hV'
            obtain ⟨A2, c2, ev62, -, -, -⟩ := o62.shape
            subst ev62
            simp only [List.length_cons, List.length_nil, Nat.zero_add] at o62 ⊢
            have F2 : ∀ p, A2 = some p → H + 2 < p.block := fun p e => Nat.lt_of_lt_of_le hz3 (Nat.le_trans bs62 (own_far o62 p e))
            clear bs62
            try simp only [Act.put, List.getElem_toArray, List.getElem_cons_zero, List.getElem_cons_succ, List.setIfInBounds_toArray, List.set_cons_zero, List.set_cons_succ]
            have R1 := iown_rd1 o58
            have R2 := iown_rd1 o62
            have hb0 : Below H w0 V4 := HBB.out.trans ((hB3.trans (hV.mono hB3.size)).mono (by have h1 := HBB.out.size; have h2 := HH.out; omega))
            have hk0 := keeps_of_below (hB3.trans (hV.mono hB3.size))
            clear o58 o62 b57 b61 hV
            refine heldIn_ready (L := [8]) (by kernel_rfl) (by simp) ?_
            refine AllH.cons rfl (by rfl) (fun Kq hKq => ?_) AllH.nil
            have ce1 : V4.cell? ⟨H + 1, 0, none⟩ = some (.slice none 0 0) := E1.cell 0
            have fe1 := E1.frozen 0
            refine opIn_of_op (fun c e => by cases e) ?_
            go_simp
            refine hKq _ _ (fun h => absurd h (by decide)) ?_
            clear hKq Kq ce1 fe1
            have E1' : Blk (V4.setCell ⟨H + 1, 0, none⟩ (.slice A1 1 c1)) (H + 1) 25 #[.slice A1 1 c1] := E1.set 0 _
            have E2' : Blk (V4.setCell ⟨H + 1, 0, none⟩ (.slice A1 1 c1)) (H + 2) 25 #[.slice none 0 0] := E2.far (p := ⟨H + 1, 0, none⟩) (by show H + 2 ≠ H + 1; omega) _
            have R1' := rd_far (v := .slice A1 1 c1) (g := H + 1) (s := 0) R1 (fun p e => by have := F1 p e; omega)
            have R2' := rd_far (v := .slice A1 1 c1) (g := H + 1) (s := 0) R2 (fun p e => by have := F2 p e; omega)
            rw [show V4.heap.size = (V4.setCell ⟨H + 1, 0, none⟩ (.slice A1 1 c1)).heap.size by simp] at R1' R2'
            have hb' : Below H w0 (V4.setCell ⟨H + 1, 0, none⟩ (.slice A1 1 c1)) := hb0.setCell (p := ⟨H + 1, 0, none⟩) (by show H ≤ H + 1; omega) _
            have hk' := hk0.trans (KeepsOthers.setCell V4 ⟨H + 1, 0, none⟩ (.slice A1 1 c1))
            clear E1 E2 R1 R2 hb0 hk0
            generalize (V4.setCell ⟨H + 1, 0, none⟩ (.slice A1 1 c1)) = V5 at E1' E2' R1' R2' hb' hk' ⊢
            try simp only [Act.put, List.getElem_toArray, List.getElem_cons_zero, List.getElem_cons_succ, List.setIfInBounds_toArray, List.set_cons_zero, List.set_cons_succ]
            have E1 := E1'
            have E2 := E2'
            have R1 := R1'
            have R2 := R2'
            have hb0 := hb'
            have hk0 := hk'
            clear E1' E2' R1' R2' hb' hk'
            refine heldIn_ready (L := [9]) (by kernel_rfl) (by simp) ?_
            refine AllH.cons rfl (by rfl) (fun Kq hKq => ?_) AllH.nil
            have ce2 : V5.cell? ⟨H + 2, 0, none⟩ = some (.slice none 0 0) := E2.cell 0
            have fe2 := E2.frozen 0
            refine opIn_of_op (fun c e => by cases e) ?_
            go_simp
            refine hKq _ _ (fun h => absurd h (by decide)) ?_
            clear hKq Kq ce2 fe2
            have E1' : Blk (V5.setCell ⟨H + 2, 0, none⟩ (.slice A2 1 c2)) (H + 1) 25 #[.slice A1 1 c1] := E1.far (p := ⟨H + 2, 0, none⟩) (by show H + 1 ≠ H + 2; omega) _
            have E2' : Blk (V5.setCell ⟨H + 2, 0, none⟩ (.slice A2 1 c2)) (H + 2) 25 #[.slice A2 1 c2] := E2.set 0 _
            have R1' := rd_far (v := .slice A2 1 c2) (g := H + 2) (s := 0) R1 (fun p e => by have := F1 p e; omega)
            have R2' := rd_far (v := .slice A2 1 c2) (g := H + 2) (s := 0) R2 (fun p e => by have := F2 p e; omega)
            rw [show V5.heap.size = (V5.setCell ⟨H + 2, 0, none⟩ (.slice A2 1 c2)).heap.size by simp] at R1' R2'
            have hb' : Below H w0 (V5.setCell ⟨H + 2, 0, none⟩ (.slice A2 1 c2)) := hb0.setCell (p := ⟨H + 2, 0, none⟩) (by show H ≤ H + 2; omega) _
            have hk' := hk0.trans (KeepsOthers.setCell V5 ⟨H + 2, 0, none⟩ (.slice A2 1 c2))
            clear E1 E2 R1 R2 hb0 hk0
            have HFIN := Lib.hid (show ReadR H mk cl w0 (V5.setCell ⟨H + 2, 0, none⟩ (.slice A2 1 c2)) from ⟨A1, A2, c1, c2, E1', E2', by rw [← HMK2.out]; exact R1', by rw [← HCL2.out]; exact R2', F1, F2, hb'⟩)
            have HKEEP := Lib.hid (hk'.from w2.heap.size)
            clear E1' E2' R1' R2' hb' hk' F1 F2
            try simp only [Act.put, List.getElem_toArray, List.getElem_cons_zero, List.getElem_cons_succ, List.setIfInBounds_toArray, List.set_cons_zero, List.set_cons_succ]
            refine heldIn_done (by kernel_rfl) ?_
            gi_wp2_with fail
            exact ⟨HKEEP.out, HFIN.out⟩
          refine AllH.cons rfl (by rfl) (fun Kq hKq => ?_) AllH.nil
          refine opIn_of_op (fun c e => by cases e) (wp_build1 _ rfl (3) rfl ?_)
          intro V1 b61 hv'
          have E1' := E1.below hv' E1.lt
          have E2' := E2.below hv' E2.lt
          have hV' := hV.trans (hv'.mono hV.size)
          refine hKq _ _ (fun _ => ⟨E1'.cell 0, E2'.cell 0⟩) ?_
          clear hKq Kq hv' hV E1 E2
          have E1 := E1'
          have E2 := E2'
          have hV := hV'
          clear E1' E2' hV'
          try simp only [Act.put, List.getElem_toArray, List.getElem_cons_zero, List.getElem_cons_succ, List.setIfInBounds_toArray, List.set_cons_zero, List.set_cons_succ]
          refine heldIn_ready (L := [2]) (by kernel_rfl) (by simp) ?_
          refine AllH.cons rfl (by rfl) (fun Kq hKq => ?_) AllH.nil
          refine opIn_of_op (fun c e => by cases e) (wp_build1 _ rfl (-1) rfl ?_)
          intro V2 b57 hv'
          have E1' := E1.below hv' E1.lt
          have E2' := E2.below hv' E2.lt
          have b61' := b61.below hv' b61.lt
          have hV' := hV.trans (hv'.mono hV.size)
          refine hKq _ _ (fun _ => ⟨E1'.cell 0, E2'.cell 0⟩) ?_
          clear hKq Kq hv' hV E1 E2 b61
          have E1 := E1'
          have E2 := E2'
          have b61 := b61'
          have hV := hV'
          clear E1' E2' b61' hV'
          try simp only [Act.put, List.getElem_toArray, List.getElem_cons_zero, List.getElem_cons_succ, List.setIfInBounds_toArray, List.set_cons_zero, List.set_cons_succ]
          refine heldIn_ready (L := [3]) (by kernel_rfl) (by simp) ?_
          refine AllH.cons rfl (by rfl) (fun Kq hKq => ?_) AllH.nil
          refine opIn_of_op (fun c e => by cases e) (wp_app_int _ _ rfl V2.heap.size (.slice none 0 0) [] rfl (IOwn.nil _ _) (-1) b57 rfl (by simp) (Nat.le_refl _) ?_)
          intro v58 V3 o58 hg58
          have hv' : Below V2.heap.size V2 V3 := hg58.below (Nat.le_refl _) (fun g e => by simp [Value.ownBlock] at e)
          rw [List.nil_append] at o58
          have bs58 := hV.size
          have E1' := E1.below hv' E1.lt
          have E2' := E2.below hv' E2.lt
          have b61' := b61.below hv' b61.lt
          have b57' := b57.below hv' b57.lt
          have hV' := hV.trans (hv'.mono hV.size)
          refine hKq _ _ (fun _ => ⟨E1'.cell 0, E2'.cell 0⟩) ?_
          clear hKq Kq hv' hV E1 E2 b61 b57 hg58
          have E1 := E1'
          have E2 := E2'
          have b61 := b61'
          have b57 := b57'
          have hV := hV'
          clear E1' E2' b61' b57' hV'
          obtain ⟨A1, c1, ev58, -, -, -⟩ := o58.shape
          subst ev58
          simp only [List.length_cons, List.length_nil, Nat.zero_add] at o58 ⊢
          have F1 : ∀ p, A1 = some p → H + 2 < p.block := fun p e => Nat.lt_of_lt_of_le hz3 (Nat.le_trans bs58 (own_far o58 p e))
          clear bs58
          try simp only [Act.put, List.getElem_toArray, List.getElem_cons_zero, List.getElem_cons_succ, List.setIfInBounds_toArray, List.set_cons_zero, List.set_cons_succ]
          refine heldIn_ready (L := [7]) (by kernel_rfl) (by simp) ?_
          refine AllH.cons rfl (by rfl) (fun Kq hKq => ?_) AllH.nil
          refine opIn_of_op (fun c e => by cases e) (wp_app_int _ _ rfl V3.heap.size (.slice none 0 0) [] rfl (IOwn.nil _ _) (3) b61 rfl (by simp) (Nat.le_refl _) ?_)
          intro v62 V4 o62 hg62
          have hv' : Below V3.heap.size V3 V4 := hg62.below (Nat.le_refl _) (fun g e => by simp [Value.ownBlock] at e)
          rw [List.nil_append] at o62
          have bs62 := hV.size
          have E1' := E1.below hv' E1.lt
          have E2' := E2.below hv' E2.lt
          have b61' := b61.below hv' b61.lt
          have b57' := b57.below hv' b57.lt
          have o58' := IOwn.below o58 hv'
          have hV' := hV.trans (hv'.mono hV.size)
          refine hKq _ _ (fun _ => ⟨E1'.cell 0, E2'.cell 0⟩) ?_
          clear hKq Kq hv' hV E1 E2 b61 b57 o58 hg62
          have E1 := E1'
          have E2 := E2'
          have b61 := b61'
          have b57 := b57'
          have o58 := o58'
          have hV := hV'
          clear E1' E2' b61' b57' o58' hV'
          obtain ⟨A2, c2, ev62, -, -, -⟩ := o62.shape
          subst ev62
          simp only [List.length_cons, List.length_nil, Nat.zero_add] at o62 ⊢
          have F2 : ∀ p, A2 = some p → H + 2 < p.block := fun p e => Nat.lt_of_lt_of_le hz3 (Nat.le_trans bs62 (own_far o62 p e))
          clear bs62
          try simp only [Act.put, List.getElem_toArray, List.getElem_cons_zero, List.getElem_cons_succ, List.setIfInBounds_toArray, List.set_cons_zero, List.set_cons_succ]
          have R1 := iown_rd1 o58
          have R2 := iown_rd1 o62
          have hb0 : Below H w0 V4 := HBB.out.trans ((hB3.trans (hV.mono hB3.size)).mono (by have h1 := HBB.out.size; have h2 := HH.out; omega))
          have hk0 := keeps_of_below (hB3.trans (hV.mono hB3.size))
          clear o58 o62 b57 b61 hV
          refine heldIn_ready (L := [8]) (by kernel_rfl) (by simp) ?_
          refine AllH.cons rfl (by rfl) (fun Kq hKq => ?_) AllH.nil
          have ce1 : V4.cell? ⟨H + 1, 0, none⟩ = some (.slice none 0 0) := E1.cell 0
          have fe1 := E1.frozen 0
          refine opIn_of_op (fun c e => by cases e) ?_
          go_simp
          refine hKq _ _ (fun h => absurd h (by decide)) ?_
          clear hKq Kq ce1 fe1
          have E1' : Blk (V4.setCell ⟨H + 1, 0, none⟩ (.slice A1 1 c1)) (H + 1) 25 #[.slice A1 1 c1] := E1.set 0 _
          have E2' : Blk (V4.setCell ⟨H + 1, 0, none⟩ (.slice A1 1 c1)) (H + 2) 25 #[.slice none 0 0] := E2.far (p := ⟨H + 1, 0, none⟩) (by show H + 2 ≠ H + 1; omega) _
          have R1' := rd_far (v := .slice A1 1 c1) (g := H + 1) (s := 0) R1 (fun p e => by have := F1 p e; omega)
          have R2' := rd_far (v := .slice A1 1 c1) (g := H + 1) (s := 0) R2 (fun p e => by have := F2 p e; omega)
          rw [show V4.heap.size = (V4.setCell ⟨H + 1, 0, none⟩ (.slice A1 1 c1)).heap.size by simp] at R1' R2'
          have hb' : Below H w0 (V4.setCell ⟨H + 1, 0, none⟩ (.slice A1 1 c1)) := hb0.setCell (p := ⟨H + 1, 0, none⟩) (by show H ≤ H + 1; omega) _
          have hk' := hk0.trans (KeepsOthers.setCell V4 ⟨H + 1, 0, none⟩ (.slice A1 1 c1))
          clear E1 E2 R1 R2 hb0 hk0
          generalize (V4.setCell ⟨H + 1, 0, none⟩ (.slice A1 1 c1)) = V5 at E1' E2' R1' R2' hb' hk' ⊢
          try simp only [Act.put, List.getElem_toArray, List.getElem_cons_zero, List.getElem_cons_succ, List.setIfInBounds_toArray, List.set_cons_zero, List.set_cons_succ]
          have E1 := E1'
          have E2 := E2'
          have R1 := R1'
          have R2 := R2'
          have hb0 := hb'
          have hk0 := hk'
          clear E1' E2' R1' R2' hb' hk'
          refine heldIn_ready (L := [9]) (by kernel_rfl) (by simp) ?_
          refine AllH.cons rfl (by rfl) (fun Kq hKq => ?_) AllH.nil
          have ce2 : V5.cell? ⟨H + 2, 0, none⟩ = some (.slice none 0 0) := E2.cell 0
          have fe2 := E2.frozen 0
          refine opIn_of_op (fun c e => by cases e) ?_
          go_simp
          refine hKq _ _ (fun h => absurd h (by decide)) ?_
          clear hKq Kq ce2 fe2
          have E1' : Blk (V5.setCell ⟨H + 2, 0, none⟩ (.slice A2 1 c2)) (H + 1) 25 #[.slice A1 1 c1] := E1.far (p := ⟨H + 2, 0, none⟩) (by show H + 1 ≠ H + 2; omega) _
          have E2' : Blk (V5.setCell ⟨H + 2, 0, none⟩ (.slice A2 1 c2)) (H + 2) 25 #[.slice A2 1 c2] := E2.set 0 _
          have R1' := rd_far (v := .slice A2 1 c2) (g := H + 2) (s := 0) R1 (fun p e => by have := F1 p e; omega)
          have R2' := rd_far (v := .slice A2 1 c2) (g := H + 2) (s := 0) R2 (fun p e => by have := F2 p e; omega)
          rw [show V5.heap.size = (V5.setCell ⟨H + 2, 0, none⟩ (.slice A2 1 c2)).heap.size by simp] at R1' R2'
          have hb' : Below H w0 (V5.setCell ⟨H + 2, 0, none⟩ (.slice A2 1 c2)) := hb0.setCell (p := ⟨H + 2, 0, none⟩) (by show H ≤ H + 2; omega) _
          have hk' := hk0.trans (KeepsOthers.setCell V5 ⟨H + 2, 0, none⟩ (.slice A2 1 c2))
          clear E1 E2 R1 R2 hb0 hk0
          have HFIN := Lib.hid (show ReadR H mk cl w0 (V5.setCell ⟨H + 2, 0, none⟩ (.slice A2 1 c2)) from ⟨A1, A2, c1, c2, E1', E2', by rw [← HMK2.out]; exact R1', by rw [← HCL2.out]; exact R2', F1, F2, hb'⟩)
          have HKEEP := Lib.hid (hk'.from w2.heap.size)
          clear E1' E2' R1' R2' hb' hk' F1 F2
          try simp only [Act.put, List.getElem_toArray, List.getElem_cons_zero, List.getElem_cons_succ, List.setIfInBounds_toArray, List.set_cons_zero, List.set_cons_succ]
          refine heldIn_done (by kernel_rfl) ?_
          gi_wp2_with fail
          exact ⟨HKEEP.out, HFIN.out⟩
        | false =>
          have e0 : (if 0 < (cntN bx 2 k : Int) then (3 : Int) else 0) = 0 := if_neg (by have := HBX.out.cl2 rfl; omega)
          have hlt : last = t := by have := HLAST.out rfl; rw [if_pos (by omega)] at this; exact this
          subst hlt
          have HCL2 := Lib.hid (show (0 : Int) = cl by rw [HCL.out]; rfl)
          have HMK2 := Lib.hid (show lo + (last : Int) * st = mk by rw [HMK.out]; rfl)
          have q1 : w3.cell? ⟨g9, 1, none⟩ = some (.int .i64 lo) := hG9.cell 1
          have q3 : w3.cell? ⟨g9, 3, none⟩ = some (.int .i64 st) := hG9.cell 3
          rw [e0]
          clear e0
          gi_wp2_with fail
          have hz3 : H + 2 < w3.heap.size := hE4.lt
          refine wpIn_region_heldIn (fun W' => W'.cell? ⟨H + 1, 0, none⟩ = some (.slice none 0 0) ∧ W'.cell? ⟨H + 2, 0, none⟩ = some (.slice none 0 0)) [0, 1, 2, 3, 4, 5, 6, 7] (by kernel_rfl) ⟨hE3.cell 0, hE4.cell 0⟩ (fun hS => ?_)
          refine heldIn_take2 (i := 0) (v := .slice none 0 0) rfl (by kernel_rfl) (semAs_round _ (by kernel_rfl)) (fun _ _ _ h => h) ⟨Or.inl ⟨by rfl, fun W' hS' => by obtain ⟨p0, p1⟩ := hS'; go_simp⟩, fun w => rfl⟩ hS ?_
          try simp only [Act.put, List.getElem_toArray, List.getElem_cons_zero, List.getElem_cons_succ, List.setIfInBounds_toArray, List.set_cons_zero, List.set_cons_succ]
          refine heldIn_take2 (i := 1) (v := .int .i64 ((lo + (last : Int) * st))) rfl (by kernel_rfl) (semAs_round _ (by kernel_rfl)) (fun _ _ _ h => h) ⟨Or.inl ⟨by rfl, fun W' hS' => by go_simp⟩, fun w => rfl⟩ hS ?_
          try simp only [Act.put, List.getElem_toArray, List.getElem_cons_zero, List.getElem_cons_succ, List.setIfInBounds_toArray, List.set_cons_zero, List.set_cons_succ]
          refine heldIn_take2 (i := 4) (v := .slice none 0 0) rfl (by kernel_rfl) (semAs_round _ (by kernel_rfl)) (fun _ _ _ h => h) ⟨Or.inl ⟨by rfl, fun W' hS' => by obtain ⟨p0, p1⟩ := hS'; go_simp⟩, fun w => rfl⟩ hS ?_
          try simp only [Act.put, List.getElem_toArray, List.getElem_cons_zero, List.getElem_cons_succ, List.setIfInBounds_toArray, List.set_cons_zero, List.set_cons_succ]
          refine heldIn_take2 (i := 5) (v := .int .i64 0) rfl (by kernel_rfl) (semAs_round _ (by kernel_rfl)) (fun _ _ _ h => h) ⟨Or.inl ⟨by rfl, fun W' hS' => by go_simp⟩, fun w => rfl⟩ hS ?_
          try simp only [Act.put, List.getElem_toArray, List.getElem_cons_zero, List.getElem_cons_succ, List.setIfInBounds_toArray, List.set_cons_zero, List.set_cons_succ]
          have hV : Below w3.heap.size w3 w3.drew := (Below.refl _ _).drew
          have E1 := Blk.drew hE3
          have E2 := Blk.drew hE4
          generalize w3.drew = V0 at hV E1 E2 ⊢
          clear hS
          refine heldIn_ready (L := [2, 6]) (by kernel_rfl) (by simp) ?_
          refine AllH.cons rfl (by rfl) (fun Kq hKq => ?_) ?_
          · skip
            refine opIn_of_op (fun c e => by cases e) (wp_build1 _ rfl ((lo + (last : Int) * st)) rfl ?_)
            intro V1 b57 hv'
            have E1' := E1.below hv' E1.lt
            have E2' := E2.below hv' E2.lt
            have hV' := hV.trans (hv'.mono hV.size)
            refine hKq _ _ (fun _ => ⟨E1'.cell 0, E2'.cell 0⟩) ?_
            clear hKq Kq hv' hV E1 E2
            have E1 := E1'
            have E2 := E2'
            have hV := hV'
            clear E1' E2' hV'
            try simp only [Act.put, List.getElem_toArray, List.getElem_cons_zero, List.getElem_cons_succ, List.setIfInBounds_toArray, List.set_cons_zero, List.set_cons_succ]
            refine heldIn_ready (L := [3, 6]) (by kernel_rfl) (by simp) ?_
            refine AllH.cons rfl (by rfl) (fun Kq hKq => ?_) ?_
            · skip
              refine opIn_of_op (fun c e => by cases e) (wp_app_int _ _ rfl V1.heap.size (.slice none 0 0) [] rfl (IOwn.nil _ _) ((lo + (last : Int) * st)) b57 rfl (by simp) (Nat.le_refl _) ?_)
              intro v58 V2 o58 hg58
              have hv' : Below V1.heap.size V1 V2 := hg58.below (Nat.le_refl _) (fun g e => by simp [Value.ownBlock] at e)
              rw [List.nil_append] at o58
              have bs58 := hV.size
              have E1' := E1.below hv' E1.lt
              have E2' := E2.below hv' E2.lt
              have b57' := b57.below hv' b57.lt
              have hV' := hV.trans (hv'.mono hV.size)
              refine hKq _ _ (fun _ => ⟨E1'.cell 0, E2'.cell 0⟩) ?_
              clear hKq Kq hv' hV E1 E2 b57 hg58
              have E1 := E1'
              have E2 := E2'
              have b57 := b57'
              have hV := hV'
              clear E1' E2' b57' hV'
              obtain ⟨A1, c1, ev58, -, -, -⟩ := o58.shape
              subst ev58
              simp only [List.length_cons, List.length_nil, Nat.zero_add] at o58 ⊢
              have F1 : ∀ p, A1 = some p → H + 2 < p.block := fun p e => Nat.lt_of_lt_of_le hz3 (Nat.le_trans bs58 (own_far o58 p e))
              clear bs58
              try simp only [Act.put, List.getElem_toArray, List.getElem_cons_zero, List.getElem_cons_succ, List.setIfInBounds_toArray, List.set_cons_zero, List.set_cons_succ]
              refine heldIn_ready (L := [6]) (by kernel_rfl) (by simp) ?_
              refine AllH.cons rfl (by rfl) (fun Kq hKq => ?_) AllH.nil
              refine opIn_of_op (fun c e => by cases e) (wp_build1 _ rfl (0) rfl ?_)
              intro V3 b61 hv'
              have E1' := E1.below hv' E1.lt
              have E2' := E2.below hv' E2.lt
              have b57' := b57.below hv' b57.lt
              have o58' := IOwn.below o58 hv'
              have hV' := hV.trans (hv'.mono hV.size)
              refine hKq _ _ (fun _ => ⟨E1'.cell 0, E2'.cell 0⟩) ?_
              clear hKq Kq hv' hV E1 E2 b57 o58
              have E1 := E1'
              have E2 := E2'
              have b57 := b57'
              have o58 := o58'
              have hV := hV'
              clear E1' E2' b57' o58' hV'
              try simp only [Act.put, List.getElem_toArray, List.getElem_cons_zero, List.getElem_cons_succ, List.setIfInBounds_toArray, List.set_cons_zero, List.set_cons_succ]
              refine heldIn_ready (L := [7]) (by kernel_rfl) (by simp) ?_
              refine AllH.cons rfl (by rfl) (fun Kq hKq => ?_) AllH.nil
              refine opIn_of_op (fun c e => by cases e) (wp_app_int _ _ rfl V3.heap.size (.slice none 0 0) [] rfl (IOwn.nil _ _) (0) b61 rfl (by simp) (Nat.le_refl _) ?_)
              intro v62 V4 o62 hg62
              have hv' : Below V3.heap.size V3 V4 := hg62.below (Nat.le_refl _) (fun g e => by simp [Value.ownBlock] at e)
              rw [List.nil_append] at o62
              have bs62 := hV.size
              have E1' := E1.below hv' E1.lt
              have E2' := E2.below hv' E2.lt
              have b57' := b57.below hv' b57.lt
              have o58' := IOwn.below o58 hv'
              have b61' := b61.below hv' b61.lt
              have hV' := hV.trans (hv'.mono hV.size)
              refine hKq _ _ (fun _ => ⟨E1'.cell 0, E2'.cell 0⟩) ?_
              clear hKq Kq hv' hV E1 E2 b57 o58 b61 hg62
              have E1 := E1'
              have E2 := E2'
              have b57 := b57'
              have o58 := o58'
              have b61 := b61'
              have hV := hV'
              clear E1' E2' b57' o58' b61' hV'
              obtain ⟨A2, c2, ev62, -, -, -⟩ := o62.shape
              subst ev62
              simp only [List.length_cons, List.length_nil, Nat.zero_add] at o62 ⊢
              have F2 : ∀ p, A2 = some p → H + 2 < p.block := fun p e => Nat.lt_of_lt_of_le hz3 (Nat.le_trans bs62 (own_far o62 p e))
              clear bs62
              try simp only [Act.put, List.getElem_toArray, List.getElem_cons_zero, List.getElem_cons_succ, List.setIfInBounds_toArray, List.set_cons_zero, List.set_cons_succ]
              have R1 := iown_rd1 o58
              have R2 := iown_rd1 o62
              have hb0 : Below H w0 V4 := HBB.out.trans ((hB3.trans (hV.mono hB3.size)).mono (by have h1 := HBB.out.size; have h2 := HH.out; omega))
              have hk0 := keeps_of_below (hB3.trans (hV.mono hB3.size))
              clear o58 o62 b57 b61 hV
              refine heldIn_ready (L := [8]) (by kernel_rfl) (by simp) ?_
              refine AllH.cons rfl (by rfl) (fun Kq hKq => ?_) AllH.nil
              have ce1 : V4.cell? ⟨H + 1, 0, none⟩ = some (.slice none 0 0) := E1.cell 0
              have fe1 := E1.frozen 0
              refine opIn_of_op (fun c e => by cases e) ?_
              go_simp
              refine hKq _ _ (fun h => absurd h (by decide)) ?_
              clear hKq Kq ce1 fe1
              have E1' : Blk (V4.setCell ⟨H + 1, 0, none⟩ (.slice A1 1 c1)) (H + 1) 25 #[.slice A1 1 c1] := E1.set 0 _
              have E2' : Blk (V4.setCell ⟨H + 1, 0, none⟩ (.slice A1 1 c1)) (H + 2) 25 #[.slice none 0 0] := E2.far (p := ⟨H + 1, 0, none⟩) (by show H + 2 ≠ H + 1; omega) _
              have R1' := rd_far (v := .slice A1 1 c1) (g := H + 1) (s := 0) R1 (fun p e => by have := F1 p e; omega)
              have R2' := rd_far (v := .slice A1 1 c1) (g := H + 1) (s := 0) R2 (fun p e => by have := F2 p e; omega)
              rw [show V4.heap.size = (V4.setCell ⟨H + 1, 0, none⟩ (.slice A1 1 c1)).heap.size by simp] at R1' R2'
              have hb' : Below H w0 (V4.setCell ⟨H + 1, 0, none⟩ (.slice A1 1 c1)) := hb0.setCell (p := ⟨H + 1, 0, none⟩) (by show H ≤ H + 1; omega) _
              have hk' := hk0.trans (KeepsOthers.setCell V4 ⟨H + 1, 0, none⟩ (.slice A1 1 c1))
              clear E1 E2 R1 R2 hb0 hk0
              generalize (V4.setCell ⟨H + 1, 0, none⟩ (.slice A1 1 c1)) = V5 at E1' E2' R1' R2' hb' hk' ⊢
              try simp only [Act.put, List.getElem_toArray, List.getElem_cons_zero, List.getElem_cons_succ, List.setIfInBounds_toArray, List.set_cons_zero, List.set_cons_succ]
              have E1 := E1'
              have E2 := E2'
              have R1 := R1'
              have R2 := R2'
              have hb0 := hb'
              have hk0 := hk'
              clear E1' E2' R1' R2' hb' hk'
              refine heldIn_ready (L := [9]) (by kernel_rfl) (by simp) ?_
              refine AllH.cons rfl (by rfl) (fun Kq hKq => ?_) AllH.nil
              have ce2 : V5.cell? ⟨H + 2, 0, none⟩ = some (.slice none 0 0) := E2.cell 0
              have fe2 := E2.frozen 0
              refine opIn_of_op (fun c e => by cases e) ?_
              go_simp
              refine hKq _ _ (fun h => absurd h (by decide)) ?_
              clear hKq Kq ce2 fe2
              have E1' : Blk (V5.setCell ⟨H + 2, 0, none⟩ (.slice A2 1 c2)) (H + 1) 25 #[.slice A1 1 c1] := E1.far (p := ⟨H + 2, 0, none⟩) (by show H + 1 ≠ H + 2; omega) _
              have E2' : Blk (V5.setCell ⟨H + 2, 0, none⟩ (.slice A2 1 c2)) (H + 2) 25 #[.slice A2 1 c2] := E2.set 0 _
              have R1' := rd_far (v := .slice A2 1 c2) (g := H + 2) (s := 0) R1 (fun p e => by have := F1 p e; omega)
              have R2' := rd_far (v := .slice A2 1 c2) (g := H + 2) (s := 0) R2 (fun p e => by have := F2 p e; omega)
              rw [show V5.heap.size = (V5.setCell ⟨H + 2, 0, none⟩ (.slice A2 1 c2)).heap.size by simp] at R1' R2'
              have hb' : Below H w0 (V5.setCell ⟨H + 2, 0, none⟩ (.slice A2 1 c2)) := hb0.setCell (p := ⟨H + 2, 0, none⟩) (by show H ≤ H + 2; omega) _
              have hk' := hk0.trans (KeepsOthers.setCell V5 ⟨H + 2, 0, none⟩ (.slice A2 1 c2))
              clear E1 E2 R1 R2 hb0 hk0
              have HFIN := Lib.hid (show ReadR H mk cl w0 (V5.setCell ⟨H + 2, 0, none⟩ (.slice A2 1 c2)) from ⟨A1, A2, c1, c2, E1', E2', by rw [← HMK2.out]; exact R1', by rw [← HCL2.out]; exact R2', F1, F2, hb'⟩)
              have HKEEP := Lib.hid (hk'.from w2.heap.size)
              clear E1' E2' R1' R2' hb' hk' F1 F2
              try simp only [Act.put, List.getElem_toArray, List.getElem_cons_zero, List.getElem_cons_succ, List.setIfInBounds_toArray, List.set_cons_zero, List.set_cons_succ]
              refine heldIn_done (by kernel_rfl) ?_
              gi_wp2_with fail
              exact ⟨HKEEP.out, HFIN.out⟩
            refine AllH.cons rfl (by rfl) (fun Kq hKq => ?_) AllH.nil
            refine opIn_of_op (fun c e => by cases e) (wp_build1 _ rfl (0) rfl ?_)
            intro V2 b61 hv'
            have E1' := E1.below hv' E1.lt
            have E2' := E2.below hv' E2.lt
            have b57' := b57.below hv' b57.lt
            have hV' := hV.trans (hv'.mono hV.size)
            refine hKq _ _ (fun _ => ⟨E1'.cell 0, E2'.cell 0⟩) ?_
            clear hKq Kq hv' hV E1 E2 b57
            have E1 := E1'
            have E2 := E2'
            have b57 := b57'
            have hV := hV'
            clear E1' E2' b57' hV'
            try simp only [Act.put, List.getElem_toArray, List.getElem_cons_zero, List.getElem_cons_succ, List.setIfInBounds_toArray, List.set_cons_zero, List.set_cons_succ]
            refine heldIn_ready (L := [3]) (by kernel_rfl) (by simp) ?_
            refine AllH.cons rfl (by rfl) (fun Kq hKq => ?_) AllH.nil
            refine opIn_of_op (fun c e => by cases e) (wp_app_int _ _ rfl V2.heap.size (.slice none 0 0) [] rfl (IOwn.nil _ _) ((lo + (last : Int) * st)) b57 rfl (by simp) (Nat.le_refl _) ?_)
            intro v58 V3 o58 hg58
            have hv' : Below V2.heap.size V2 V3 := hg58.below (Nat.le_refl _) (fun g e => by simp [Value.ownBlock] at e)
            rw [List.nil_append] at o58
            have bs58 := hV.size
            have E1' := E1.below hv' E1.lt
            have E2' := E2.below hv' E2.lt
            have b57' := b57.below hv' b57.lt
            have b61' := b61.below hv' b61.lt
            have hV' := hV.trans (hv'.mono hV.size)
            refine hKq _ _ (fun _ => ⟨E1'.cell 0, E2'.cell 0⟩) ?_
            clear hKq Kq hv' hV E1 E2 b57 b61 hg58
            have E1 := E1'
            have E2 := E2'
            have b57 := b57'
            have b61 := b61'
            have hV := hV'
            clear E1' E2' b57' b61' hV'
            obtain ⟨A1, c1, ev58, -, -, -⟩ := o58.shape
            subst ev58
            simp only [List.length_cons, List.length_nil, Nat.zero_add] at o58 ⊢
            have F1 : ∀ p, A1 = some p → H + 2 < p.block := fun p e => Nat.lt_of_lt_of_le hz3 (Nat.le_trans bs58 (own_far o58 p e))
            clear bs58
            try simp only [Act.put, List.getElem_toArray, List.getElem_cons_zero, List.getElem_cons_succ, List.setIfInBounds_toArray, List.set_cons_zero, List.set_cons_succ]
            refine heldIn_ready (L := [7]) (by kernel_rfl) (by simp) ?_
            refine AllH.cons rfl (by rfl) (fun Kq hKq => ?_) AllH.nil
            refine opIn_of_op (fun c e => by cases e) (wp_app_int _ _ rfl V3.heap.size (.slice none 0 0) [] rfl (IOwn.nil _ _) (0) b61 rfl (by simp) (Nat.le_refl _) ?_)
            intro v62 V4 o62 hg62
            have hv' : Below V3.heap.size V3 V4 := hg62.below (Nat.le_refl _) (fun g e => by simp [Value.ownBlock] at e)
            rw [List.nil_append] at o62
            have bs62 := hV.size
            have E1' := E1.below hv' E1.lt
            have E2' := E2.below hv' E2.lt
            have b57' := b57.below hv' b57.lt
            have b61' := b61.below hv' b61.lt
            have o58' := IOwn.below o58 hv'
            have hV' := hV.trans (hv'.mono hV.size)
            refine hKq _ _ (fun _ => ⟨E1'.cell 0, E2'.cell 0⟩) ?_
            clear hKq Kq hv' hV E1 E2 b57 b61 o58 hg62
            have E1 := E1'
            have E2 := E2'
            have b57 := b57'
            have b61 := b61'
            have o58 := o58'
            have hV := hV'
            clear E1' E2' b57' b61' o58' hV'
            obtain ⟨A2, c2, ev62, -, -, -⟩ := o62.shape
            subst ev62
            simp only [List.length_cons, List.length_nil, Nat.zero_add] at o62 ⊢
            have F2 : ∀ p, A2 = some p → H + 2 < p.block := fun p e => Nat.lt_of_lt_of_le hz3 (Nat.le_trans bs62 (own_far o62 p e))
            clear bs62
            try simp only [Act.put, List.getElem_toArray, List.getElem_cons_zero, List.getElem_cons_succ, List.setIfInBounds_toArray, List.set_cons_zero, List.set_cons_succ]
            have R1 := iown_rd1 o58
            have R2 := iown_rd1 o62
            have hb0 : Below H w0 V4 := HBB.out.trans ((hB3.trans (hV.mono hB3.size)).mono (by have h1 := HBB.out.size; have h2 := HH.out; omega))
            have hk0 := keeps_of_below (hB3.trans (hV.mono hB3.size))
            clear o58 o62 b57 b61 hV
            refine heldIn_ready (L := [8]) (by kernel_rfl) (by simp) ?_
            refine AllH.cons rfl (by rfl) (fun Kq hKq => ?_) AllH.nil
            have ce1 : V4.cell? ⟨H + 1, 0, none⟩ = some (.slice none 0 0) := E1.cell 0
            have fe1 := E1.frozen 0
            refine opIn_of_op (fun c e => by cases e) ?_
            go_simp
            refine hKq _ _ (fun h => absurd h (by decide)) ?_
            clear hKq Kq ce1 fe1
            have E1' : Blk (V4.setCell ⟨H + 1, 0, none⟩ (.slice A1 1 c1)) (H + 1) 25 #[.slice A1 1 c1] := E1.set 0 _
            have E2' : Blk (V4.setCell ⟨H + 1, 0, none⟩ (.slice A1 1 c1)) (H + 2) 25 #[.slice none 0 0] := E2.far (p := ⟨H + 1, 0, none⟩) (by show H + 2 ≠ H + 1; omega) _
            have R1' := rd_far (v := .slice A1 1 c1) (g := H + 1) (s := 0) R1 (fun p e => by have := F1 p e; omega)
            have R2' := rd_far (v := .slice A1 1 c1) (g := H + 1) (s := 0) R2 (fun p e => by have := F2 p e; omega)
            rw [show V4.heap.size = (V4.setCell ⟨H + 1, 0, none⟩ (.slice A1 1 c1)).heap.size by simp] at R1' R2'
            have hb' : Below H w0 (V4.setCell ⟨H + 1, 0, none⟩ (.slice A1 1 c1)) := hb0.setCell (p := ⟨H + 1, 0, none⟩) (by show H ≤ H + 1; omega) _
            have hk' := hk0.trans (KeepsOthers.setCell V4 ⟨H + 1, 0, none⟩ (.slice A1 1 c1))
            clear E1 E2 R1 R2 hb0 hk0
            generalize (V4.setCell ⟨H + 1, 0, none⟩ (.slice A1 1 c1)) = V5 at E1' E2' R1' R2' hb' hk' ⊢
            try simp only [Act.put, List.getElem_toArray, List.getElem_cons_zero, List.getElem_cons_succ, List.setIfInBounds_toArray, List.set_cons_zero, List.set_cons_succ]
            have E1 := E1'
            have E2 := E2'
            have R1 := R1'
            have R2 := R2'
            have hb0 := hb'
            have hk0 := hk'
            clear E1' E2' R1' R2' hb' hk'
            refine heldIn_ready (L := [9]) (by kernel_rfl) (by simp) ?_
            refine AllH.cons rfl (by rfl) (fun Kq hKq => ?_) AllH.nil
            have ce2 : V5.cell? ⟨H + 2, 0, none⟩ = some (.slice none 0 0) := E2.cell 0
            have fe2 := E2.frozen 0
            refine opIn_of_op (fun c e => by cases e) ?_
            go_simp
            refine hKq _ _ (fun h => absurd h (by decide)) ?_
            clear hKq Kq ce2 fe2
            have E1' : Blk (V5.setCell ⟨H + 2, 0, none⟩ (.slice A2 1 c2)) (H + 1) 25 #[.slice A1 1 c1] := E1.far (p := ⟨H + 2, 0, none⟩) (by show H + 1 ≠ H + 2; omega) _
            have E2' : Blk (V5.setCell ⟨H + 2, 0, none⟩ (.slice A2 1 c2)) (H + 2) 25 #[.slice A2 1 c2] := E2.set 0 _
            have R1' := rd_far (v := .slice A2 1 c2) (g := H + 2) (s := 0) R1 (fun p e => by have := F1 p e; omega)
            have R2' := rd_far (v := .slice A2 1 c2) (g := H + 2) (s := 0) R2 (fun p e => by have := F2 p e; omega)
            rw [show V5.heap.size = (V5.setCell ⟨H + 2, 0, none⟩ (.slice A2 1 c2)).heap.size by simp] at R1' R2'
            have hb' : Below H w0 (V5.setCell ⟨H + 2, 0, none⟩ (.slice A2 1 c2)) := hb0.setCell (p := ⟨H + 2, 0, none⟩) (by show H ≤ H + 2; omega) _
            have hk' := hk0.trans (KeepsOthers.setCell V5 ⟨H + 2, 0, none⟩ (.slice A2 1 c2))
            clear E1 E2 R1 R2 hb0 hk0
            have HFIN := Lib.hid (show ReadR H mk cl w0 (V5.setCell ⟨H + 2, 0, none⟩ (.slice A2 1 c2)) from ⟨A1, A2, c1, c2, E1', E2', by rw [← HMK2.out]; exact R1', by rw [← HCL2.out]; exact R2', F1, F2, hb'⟩)
            have HKEEP := Lib.hid (hk'.from w2.heap.size)
            clear E1' E2' R1' R2' hb' hk' F1 F2
            try simp only [Act.put, List.getElem_toArray, List.getElem_cons_zero, List.getElem_cons_succ, List.setIfInBounds_toArray, List.set_cons_zero, List.set_cons_succ]
            refine heldIn_done (by kernel_rfl) ?_
            gi_wp2_with fail
            exact ⟨HKEEP.out, HFIN.out⟩
          refine AllH.cons rfl (by rfl) (fun Kq hKq => ?_) AllH.nil
          refine opIn_of_op (fun c e => by cases e) (wp_build1 _ rfl (0) rfl ?_)
          intro V1 b61 hv'
          have E1' := E1.below hv' E1.lt
          have E2' := E2.below hv' E2.lt
          have hV' := hV.trans (hv'.mono hV.size)
          refine hKq _ _ (fun _ => ⟨E1'.cell 0, E2'.cell 0⟩) ?_
          clear hKq Kq hv' hV E1 E2
          have E1 := E1'
          have E2 := E2'
          have hV := hV'
          clear E1' E2' hV'
          try simp only [Act.put, List.getElem_toArray, List.getElem_cons_zero, List.getElem_cons_succ, List.setIfInBounds_toArray, List.set_cons_zero, List.set_cons_succ]
          refine heldIn_ready (L := [2]) (by kernel_rfl) (by simp) ?_
          refine AllH.cons rfl (by rfl) (fun Kq hKq => ?_) AllH.nil
          refine opIn_of_op (fun c e => by cases e) (wp_build1 _ rfl ((lo + (last : Int) * st)) rfl ?_)
          intro V2 b57 hv'
          have E1' := E1.below hv' E1.lt
          have E2' := E2.below hv' E2.lt
          have b61' := b61.below hv' b61.lt
          have hV' := hV.trans (hv'.mono hV.size)
          refine hKq _ _ (fun _ => ⟨E1'.cell 0, E2'.cell 0⟩) ?_
          clear hKq Kq hv' hV E1 E2 b61
          have E1 := E1'
          have E2 := E2'
          have b61 := b61'
          have hV := hV'
          clear E1' E2' b61' hV'
          try simp only [Act.put, List.getElem_toArray, List.getElem_cons_zero, List.getElem_cons_succ, List.setIfInBounds_toArray, List.set_cons_zero, List.set_cons_succ]
          refine heldIn_ready (L := [3]) (by kernel_rfl) (by simp) ?_
          refine AllH.cons rfl (by rfl) (fun Kq hKq => ?_) AllH.nil
          refine opIn_of_op (fun c e => by cases e) (wp_app_int _ _ rfl V2.heap.size (.slice none 0 0) [] rfl (IOwn.nil _ _) ((lo + (last : Int) * st)) b57 rfl (by simp) (Nat.le_refl _) ?_)
          intro v58 V3 o58 hg58
          have hv' : Below V2.heap.size V2 V3 := hg58.below (Nat.le_refl _) (fun g e => by simp [Value.ownBlock] at e)
          rw [List.nil_append] at o58
          have bs58 := hV.size
          have E1' := E1.below hv' E1.lt
          have E2' := E2.below hv' E2.lt
          have b61' := b61.below hv' b61.lt
          have b57' := b57.below hv' b57.lt
          have hV' := hV.trans (hv'.mono hV.size)
          refine hKq _ _ (fun _ => ⟨E1'.cell 0, E2'.cell 0⟩) ?_
          clear hKq Kq hv' hV E1 E2 b61 b57 hg58
          have E1 := E1'
          have E2 := E2'
          have b61 := b61'
          have b57 := b57'
          have hV := hV'
          clear E1' E2' b61' b57' hV'
          obtain ⟨A1, c1, ev58, -, -, -⟩ := o58.shape
          subst ev58
          simp only [List.length_cons, List.length_nil, Nat.zero_add] at o58 ⊢
          have F1 : ∀ p, A1 = some p → H + 2 < p.block := fun p e => Nat.lt_of_lt_of_le hz3 (Nat.le_trans bs58 (own_far o58 p e))
          clear bs58
          try simp only [Act.put, List.getElem_toArray, List.getElem_cons_zero, List.getElem_cons_succ, List.setIfInBounds_toArray, List.set_cons_zero, List.set_cons_succ]
          refine heldIn_ready (L := [7]) (by kernel_rfl) (by simp) ?_
          refine AllH.cons rfl (by rfl) (fun Kq hKq => ?_) AllH.nil
          refine opIn_of_op (fun c e => by cases e) (wp_app_int _ _ rfl V3.heap.size (.slice none 0 0) [] rfl (IOwn.nil _ _) (0) b61 rfl (by simp) (Nat.le_refl _) ?_)
          intro v62 V4 o62 hg62
          have hv' : Below V3.heap.size V3 V4 := hg62.below (Nat.le_refl _) (fun g e => by simp [Value.ownBlock] at e)
          rw [List.nil_append] at o62
          have bs62 := hV.size
          have E1' := E1.below hv' E1.lt
          have E2' := E2.below hv' E2.lt
          have b61' := b61.below hv' b61.lt
          have b57' := b57.below hv' b57.lt
          have o58' := IOwn.below o58 hv'
          have hV' := hV.trans (hv'.mono hV.size)
          refine hKq _ _ (fun _ => ⟨E1'.cell 0, E2'.cell 0⟩) ?_
          clear hKq Kq hv' hV E1 E2 b61 b57 o58 hg62
          have E1 := E1'
          have E2 := E2'
          have b61 := b61'
          have b57 := b57'
          have o58 := o58'
          have hV := hV'
          clear E1' E2' b61' b57' o58' hV'
          obtain ⟨A2, c2, ev62, -, -, -⟩ := o62.shape
          subst ev62
          simp only [List.length_cons, List.length_nil, Nat.zero_add] at o62 ⊢
          have F2 : ∀ p, A2 = some p → H + 2 < p.block := fun p e => Nat.lt_of_lt_of_le hz3 (Nat.le_trans bs62 (own_far o62 p e))
          clear bs62
          try simp only [Act.put, List.getElem_toArray, List.getElem_cons_zero, List.getElem_cons_succ, List.setIfInBounds_toArray, List.set_cons_zero, List.set_cons_succ]
          have R1 := iown_rd1 o58
          have R2 := iown_rd1 o62
          have hb0 : Below H w0 V4 := HBB.out.trans ((hB3.trans (hV.mono hB3.size)).mono (by have h1 := HBB.out.size; have h2 := HH.out; omega))
          have hk0 := keeps_of_below (hB3.trans (hV.mono hB3.size))
          clear o58 o62 b57 b61 hV
          refine heldIn_ready (L := [8]) (by kernel_rfl) (by simp) ?_
          refine AllH.cons rfl (by rfl) (fun Kq hKq => ?_) AllH.nil
          have ce1 : V4.cell? ⟨H + 1, 0, none⟩ = some (.slice none 0 0) := E1.cell 0
          have fe1 := E1.frozen 0
          refine opIn_of_op (fun c e => by cases e) ?_
          go_simp
          refine hKq _ _ (fun h => absurd h (by decide)) ?_
          clear hKq Kq ce1 fe1
          have E1' : Blk (V4.setCell ⟨H + 1, 0, none⟩ (.slice A1 1 c1)) (H + 1) 25 #[.slice A1 1 c1] := E1.set 0 _
          have E2' : Blk (V4.setCell ⟨H + 1, 0, none⟩ (.slice A1 1 c1)) (H + 2) 25 #[.slice none 0 0] := E2.far (p := ⟨H + 1, 0, none⟩) (by show H + 2 ≠ H + 1; omega) _
          have R1' := rd_far (v := .slice A1 1 c1) (g := H + 1) (s := 0) R1 (fun p e => by have := F1 p e; omega)
          have R2' := rd_far (v := .slice A1 1 c1) (g := H + 1) (s := 0) R2 (fun p e => by have := F2 p e; omega)
          rw [show V4.heap.size = (V4.setCell ⟨H + 1, 0, none⟩ (.slice A1 1 c1)).heap.size by simp] at R1' R2'
          have hb' : Below H w0 (V4.setCell ⟨H + 1, 0, none⟩ (.slice A1 1 c1)) := hb0.setCell (p := ⟨H + 1, 0, none⟩) (by show H ≤ H + 1; omega) _
          have hk' := hk0.trans (KeepsOthers.setCell V4 ⟨H + 1, 0, none⟩ (.slice A1 1 c1))
          clear E1 E2 R1 R2 hb0 hk0
          generalize (V4.setCell ⟨H + 1, 0, none⟩ (.slice A1 1 c1)) = V5 at E1' E2' R1' R2' hb' hk' ⊢
          try simp only [Act.put, List.getElem_toArray, List.getElem_cons_zero, List.getElem_cons_succ, List.setIfInBounds_toArray, List.set_cons_zero, List.set_cons_succ]
          have E1 := E1'
          have E2 := E2'
          have R1 := R1'
          have R2 := R2'
          have hb0 := hb'
          have hk0 := hk'
          clear E1' E2' R1' R2' hb' hk'
          refine heldIn_ready (L := [9]) (by kernel_rfl) (by simp) ?_
          refine AllH.cons rfl (by rfl) (fun Kq hKq => ?_) AllH.nil
          have ce2 : V5.cell? ⟨H + 2, 0, none⟩ = some (.slice none 0 0) := E2.cell 0
          have fe2 := E2.frozen 0
          refine opIn_of_op (fun c e => by cases e) ?_
          go_simp
          refine hKq _ _ (fun h => absurd h (by decide)) ?_
          clear hKq Kq ce2 fe2
          have E1' : Blk (V5.setCell ⟨H + 2, 0, none⟩ (.slice A2 1 c2)) (H + 1) 25 #[.slice A1 1 c1] := E1.far (p := ⟨H + 2, 0, none⟩) (by show H + 1 ≠ H + 2; omega) _
          have E2' : Blk (V5.setCell ⟨H + 2, 0, none⟩ (.slice A2 1 c2)) (H + 2) 25 #[.slice A2 1 c2] := E2.set 0 _
          have R1' := rd_far (v := .slice A2 1 c2) (g := H + 2) (s := 0) R1 (fun p e => by have := F1 p e; omega)
          have R2' := rd_far (v := .slice A2 1 c2) (g := H + 2) (s := 0) R2 (fun p e => by have := F2 p e; omega)
          rw [show V5.heap.size = (V5.setCell ⟨H + 2, 0, none⟩ (.slice A2 1 c2)).heap.size by simp] at R1' R2'
          have hb' : Below H w0 (V5.setCell ⟨H + 2, 0, none⟩ (.slice A2 1 c2)) := hb0.setCell (p := ⟨H + 2, 0, none⟩) (by show H ≤ H + 2; omega) _
          have hk' := hk0.trans (KeepsOthers.setCell V5 ⟨H + 2, 0, none⟩ (.slice A2 1 c2))
          clear E1 E2 R1 R2 hb0 hk0
          have HFIN := Lib.hid (show ReadR H mk cl w0 (V5.setCell ⟨H + 2, 0, none⟩ (.slice A2 1 c2)) from ⟨A1, A2, c1, c2, E1', E2', by rw [← HMK2.out]; exact R1', by rw [← HCL2.out]; exact R2', F1, F2, hb'⟩)
          have HKEEP := Lib.hid (hk'.from w2.heap.size)
          clear E1' E2' R1' R2' hb' hk' F1 F2
          try simp only [Act.put, List.getElem_toArray, List.getElem_cons_zero, List.getElem_cons_succ, List.setIfInBounds_toArray, List.set_cons_zero, List.set_cons_succ]
          refine heldIn_done (by kernel_rfl) ?_
          gi_wp2_with fail
          exact ⟨HKEEP.out, HFIN.out⟩
  case done =>
    rintro D W hD ⟨A1, A2, c1, c2, h1, h2, h3, h4, h5, h6, h7⟩ hK
    rw [HA0.out]
    go_wp2_with fail
    refine wp_only ?_
    refine wp_region_held_drew (S := fun W' => W'.cell? ⟨H + 1, 0, none⟩ = some (.slice A1 1 c1) ∧ W'.cell? ⟨H + 2, 0, none⟩ = some (.slice A2 1 c2)) (by kernel_rfl) ⟨h1.cell 0, h2.cell 0⟩ (fun hS => ?_)
    refine wpAnyH_take (i := 0) (v := .slice A1 1 c1) rfl (by kernel_rfl) (by kernel_rfl) (by kernel_rfl) (fun _ _ _ h => h) (Or.inl ⟨by rfl, fun W' hS' => by obtain ⟨q0, q1⟩ := hS'; go_simp⟩) hS ?_
    simp only [Act.put, List.getElem_toArray, List.getElem_cons_zero, List.getElem_cons_succ, List.setIfInBounds_toArray, List.set_cons_zero, List.set_cons_succ]
    refine wpAnyH_take (i := 1) (v := .slice A2 1 c2) rfl (by kernel_rfl) (by kernel_rfl) (by kernel_rfl) (fun _ _ _ h => h) (Or.inl ⟨by rfl, fun W' hS' => by obtain ⟨q0, q1⟩ := hS'; go_simp⟩) hS ?_
    simp only [Act.put, List.getElem_toArray, List.getElem_cons_zero, List.getElem_cons_succ, List.setIfInBounds_toArray, List.set_cons_zero, List.set_cons_succ]
    have E1 := Blk.drew h1
    have E2 := Blk.drew h2
    have R1 := h3.drew
    have R2 := h4.drew
    have hb0 := h7.drew
    have hKd : W.drew.heap[D]? = some (.deferred (some [])) := hK
    have hzz : W.heap.size = W.drew.heap.size := rfl
    rw [hzz] at R1 R2
    clear hzz
    generalize W.drew = V at E1 E2 R1 R2 hb0 hKd ⊢
    clear hS h1 h2 h3 h4 h7 hK
    have ce : V.cell? ⟨H + 1, 0, none⟩ = some (.slice A1 1 c1) := E1.cell 0
    have fe := E1.frozen 0
    refine wpAnyH_ready (rs := [2]) (by kernel_rfl) (by simp) ?_
    refine AllReadyH.cons rfl (fun Kq hKq => ?_) AllReadyH.nil
    simp only [List.getElem_toArray, List.getElem_cons_zero, List.getElem_cons_succ]
    go_simp
    have E1' : Blk (V.setCell ⟨H + 1, 0, none⟩ (.slice A1 1 c1)) (H + 1) 25 #[.slice A1 1 c1] := E1.set 0 _
    have E2' : Blk (V.setCell ⟨H + 1, 0, none⟩ (.slice A1 1 c1)) (H + 2) 25 #[.slice A2 1 c2] := E2.far (p := ⟨H + 1, 0, none⟩) (by show H + 2 ≠ H + 1; omega) _
    have R1' := rd_far (v := .slice A1 1 c1) (g := H + 1) (s := 0) R1 (fun p e => by have := h5 p e; omega)
    have R2' := rd_far (v := .slice A1 1 c1) (g := H + 1) (s := 0) R2 (fun p e => by have := h6 p e; omega)
    rw [show V.heap.size = (V.setCell ⟨H + 1, 0, none⟩ (.slice A1 1 c1)).heap.size by simp] at R1' R2'
    have hb' : Below H w0 (V.setCell ⟨H + 1, 0, none⟩ (.slice A1 1 c1)) := hb0.setCell (p := ⟨H + 1, 0, none⟩) (by show H ≤ H + 1; omega) _
    have hK' := (KeepsOthers.setCell V ⟨H + 1, 0, none⟩ (.slice A1 1 c1)).same D _ hKd rfl
    refine hKq.out _ _ ⟨E1'.cell 0, E2'.cell 0⟩ (fun _ => ?_)
    clear hKq Kq ce fe E1 E2 R1 R2 hb0 hKd
    generalize (V.setCell ⟨H + 1, 0, none⟩ (.slice A1 1 c1)) = V1 at E1' E2' R1' R2' hb' hK' ⊢
    have E1 := E1'
    have E2 := E2'
    have R1 := R1'
    have R2 := R2'
    have hb0 := hb'
    have hKd := hK'
    clear E1' E2' R1' R2' hb' hK'
    have ce : V1.cell? ⟨H + 2, 0, none⟩ = some (.slice A2 1 c2) := E2.cell 0
    have fe := E2.frozen 0
    refine wpAnyH_ready (rs := [3]) (by kernel_rfl) (by simp) ?_
    refine AllReadyH.cons rfl (fun Kq hKq => ?_) AllReadyH.nil
    simp only [List.getElem_toArray, List.getElem_cons_zero, List.getElem_cons_succ]
    go_simp
    have E1' : Blk (V1.setCell ⟨H + 2, 0, none⟩ (.slice A2 1 c2)) (H + 1) 25 #[.slice A1 1 c1] := E1.far (p := ⟨H + 2, 0, none⟩) (by show H + 1 ≠ H + 2; omega) _
    have E2' : Blk (V1.setCell ⟨H + 2, 0, none⟩ (.slice A2 1 c2)) (H + 2) 25 #[.slice A2 1 c2] := E2.set 0 _
    have R1' := rd_far (v := .slice A2 1 c2) (g := H + 2) (s := 0) R1 (fun p e => by have := h5 p e; omega)
    have R2' := rd_far (v := .slice A2 1 c2) (g := H + 2) (s := 0) R2 (fun p e => by have := h6 p e; omega)
    rw [show V1.heap.size = (V1.setCell ⟨H + 2, 0, none⟩ (.slice A2 1 c2)).heap.size by simp] at R1' R2'
    have hb' : Below H w0 (V1.setCell ⟨H + 2, 0, none⟩ (.slice A2 1 c2)) := hb0.setCell (p := ⟨H + 2, 0, none⟩) (by show H ≤ H + 2; omega) _
    have hK' := (KeepsOthers.setCell V1 ⟨H + 2, 0, none⟩ (.slice A2 1 c2)).same D _ hKd rfl
    refine hKq.out _ _ ⟨E1'.cell 0, E2'.cell 0⟩ (fun _ => ?_)
    clear hKq Kq ce fe E1 E2 R1 R2 hb0 hKd
    generalize (V1.setCell ⟨H + 2, 0, none⟩ (.slice A2 1 c2)) = V2 at E1' E2' R1' R2' hb' hK' ⊢
    have E1 := E1'
    have E2 := E2'
    have R1 := R1'
    have R2 := R2'
    have hb0 := hb'
    have hKd := hK'
    clear E1' E2' R1' R2' hb' hK'
    refine wpAnyH_take (i := 4) (v := .int .i64 0) rfl (by kernel_rfl) (by kernel_rfl) (by kernel_rfl) (fun _ _ _ h => h) (Or.inl ⟨by rfl, fun W' hS' => by go_simp⟩) ⟨E1.cell 0, E2.cell 0⟩ ?_
    simp only [Act.put, List.getElem_toArray, List.getElem_cons_zero, List.getElem_cons_succ, List.setIfInBounds_toArray, List.set_cons_zero, List.set_cons_succ]
    refine wpAnyH_done (by kernel_rfl) ?_ _
    simp only [onlyNormal]
    go_wp2_with fail
    refine ⟨by simp, .inl ⟨_, _, rfl, run_takeDeferred hKd, ?_⟩⟩
    have hgp := grownBy_putObj' V2 D (.deferred none)
    have hrr : ∀ r, some D = some r → ∃ o : Obj, V2.heap[r]? = some o ∧ o.isCells = false := fun r e => by cases e; exact ⟨_, hKd, rfl⟩
    have hc5 : (V2.putObj D (.deferred none)).cell? ⟨H + 1, 0, none⟩ = some (.slice A1 1 c1) := cell_kept (E1.cell 0) hgp hrr
    have hc6 : (V2.putObj D (.deferred none)).cell? ⟨H + 1 + 1, 0, none⟩ = some (.slice A2 1 c2) := cell_kept (E2.cell 0) hgp hrr
    refine ⟨.tuple #[.slice A1 1 c1, .slice A2 1 c2, .int .i64 0], ?_, A1, A2, c1, c2, rfl, rd_kept R1 hgp hrr, rd_kept R2 hgp hrr, ?_⟩
    · simp [results, Tryz.f37, go_sem, hc5, hc6]
    · rw [← HH.out]
      exact hb0.trans (belowK_b (w := w2) (by omega) V2 D _ _ hD hKd rfl rfl)
end Go.Proofs.YtkkcbkfpaoldmaaGreatDoor

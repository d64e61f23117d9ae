/- Several texts in one: N39, N50, N51, N52, Ro, Rq, N53. -/
import Derived.Test.YtkkcbkfpaoldmaaGreatDoorM16
import Derived.Carry
import Derived.MapKept
import Derived.RangeFuncRecord
import Derived.Test.YtkkcbkfpaoldmaaGreatDoorM01
import Derived.Test.YtkkcbkfpaoldmaaGreatDoorM03
import Derived.RangeFuncNested
import Derived.RangeFuncBound
import Derived.RangeFuncCalls
import Derived.RangeFuncLeaves
import Derived.Shelf.Abstract
import Derived.Shelf.RegionOpen
import Derived.OwnWalkIn
import Derived.TacticsInMore
import Derived.LoopNIn
import Derived.LoopIn
import Derived.Deep.Cut
import Derived.OwnWalk
/- Walks: recount.need, looks, looks$1, looks$2, right, Start. -/
namespace Go.Proofs.YtkkcbkfpaoldmaaGreatDoor
open Go Go.RowKit

set_option maxRecDepth 100000 in
theorem rcneed_ok (e : Int) (w : World) : Calls Tryz.prog 43 #[.bool true, .int .i64 e] w (fun en w' => en = .returned (.tuple #[]) ∧ w = w') := by
  go_enter Tryz.func43, Tryz.ntmps43
  go_wp2_with fail
  go_end0
  exact ⟨rfl, rfl⟩
/-- What a look does, as a value. -/
def lookV (x : Bool) : Value := .agg #[.func (.func (if x then 97 else 96)) #[] #[]]
def lookE : Array MapEntry := #[⟨.bool false, lookV false, 0⟩, ⟨.bool true, lookV true, 1⟩]
open Go.MapKept in
theorem look_run (b : Nat) (x : Bool) (W : World) (h : W.heap[b]? = some (.map lookE 2)) : (Instr.lookup 125 (.map (some b)) (.bool x) false).run Tryz.prog W = .ok (lookV x) W := by
  have hk : IsKey .bool (.bool x) := by simp [IsKey]
  have hf : Instr.findNow .bool (.bool x) lookE.toList 0 = some (some ((if x then 1 else 0), lookV x)) := by cases x <;> rfl
  have hc : ∀ e, (Instr.checkKey e 10000 4 (.bool x)).run Tryz.prog W = .ok () W := fun e => run_checkKey (P := Tryz.prog) (w := W) Tryz.underlying4 hk e 9999
  have hq := run_findKey (P := Tryz.prog) (w := W) Tryz.underlying4 hf
  simp [Instr.lookup, run_underlying Tryz.underlying125, Go.MapKept.run_getObj_map h, hc, hq, Result.andThen]
open Go.MapKept in
theorem look_put (b : Nat) (x : Bool) (v : Value) (es : Array MapEntry) (n : Nat) (W : World) (h : W.heap[b]? = some (.map es n)) (hf : Instr.findNow .bool (.bool x) es.toList 0 = some none) :
    (Instr.mapUpdate 125 (.map (some b)) (.bool x) v).run Tryz.prog W = .ok () (W.putObj b (.map (es.push ⟨.bool x, v, n⟩) (n + 1))) := by
  have hk : IsKey .bool (.bool x) := by simp [IsKey]
  have hc : ∀ e, (Instr.checkKey e 10000 4 (.bool x)).run Tryz.prog W = .ok () W := fun e => run_checkKey (P := Tryz.prog) (w := W) Tryz.underlying4 hk e 9999
  have hq := run_findKey (P := Tryz.prog) (w := W) Tryz.underlying4 hf
  simp [Instr.mapUpdate, run_underlying Tryz.underlying125, Go.MapKept.run_getObj_map h, hc, hq, Go.MapKept.run_setObj_map _ h, Result.andThen, World.putObj]
def LooksPost (w : World) (e : Ending) (w' : World) : Prop := ∃ b, e = .returned (.map (some b)) ∧ w'.heap[b]? = some (.map lookE 2) ∧ w.heap.size ≤ b ∧ Below w.heap.size w w'
theorem below_putObj {B b : Nat} {w W : World} (h : Below B w W) (hb : B ≤ b) (o : Obj) : Below B w (W.putObj b o) := ⟨h.os, h.tape, h.output, by simp [World.putObj]; exact h.size, fun i hi => (World.putObj_heap_other (by omega)).trans (h.block i hi)⟩
set_option maxRecDepth 100000 in
set_option linter.unusedSimpArgs false in
theorem looks_any (w : World) : Calls Tryz.prog 73 #[] w (LooksPost w) := by
  have hmm := @run_makeMap Tryz.prog
  have h0 : (w.alloc (.map #[] 0)).heap[w.heap.size]? = some (.map #[] 0) := World.alloc_heap_new w _
  have h1 := look_put w.heap.size false (lookV false) #[] 0 _ h0 rfl
  obtain ⟨W1, hW1⟩ : ∃ W, W = (w.alloc (.map #[] 0)).putObj w.heap.size (.map (#[].push ⟨.bool false, lookV false, 0⟩) (0 + 1)) := ⟨_, rfl⟩
  have h2 : W1.heap[w.heap.size]? = some (.map (#[].push ⟨.bool false, lookV false, 0⟩) (0 + 1)) := by rw [hW1]; exact World.putObj_heap_same (by simp)
  have hb1 : Below w.heap.size w W1 := by rw [hW1]; exact below_putObj ((Below.refl _ w).alloc (Nat.le_refl _) _) (Nat.le_refl _) _
  rw [← hW1] at h1
  have h3 := look_put w.heap.size true (lookV true) _ _ _ h2 rfl
  obtain ⟨W2, hW2⟩ : ∃ W, W = W1.putObj w.heap.size (.map ((#[].push ⟨.bool false, lookV false, 0⟩).push ⟨.bool true, lookV true, 0 + 1⟩) (0 + 1 + 1)) := ⟨_, rfl⟩
  have h4 : W2.heap[w.heap.size]? = some (.map lookE 2) := by rw [hW2]; exact World.putObj_heap_same (Array.getElem?_eq_some_iff.1 h2).1
  have hb2 : Below w.heap.size w W2 := by rw [hW2]; exact below_putObj hb1 (Nat.le_refl _) _
  rw [← hW2] at h3
  have HB := Lib.hid hb2
  have H4 := Lib.hid h4
  clear h0 h2 h4 hb1 hb2 hW1 hW2
  simp only [lookV, Bool.false_eq_true, if_false, if_true] at h1 h3
  go_enter Tryz.func73, Tryz.ntmps73
  go_wp2_with fail
  go_ret
  exact ⟨w.heap.size, rfl, H4.out, Nat.le_refl _, HB.out⟩
/-- The cells of a recount. -/
abbrev recC (n w : Int) (A1 : Option Addr) (n1 c1 : Nat) (A2 : Option Addr) (n2 c2 : Nat) (a s : Int) : Array Value := #[.int .i64 n, .int .i64 w, .bool false, .slice A1 n1 c1, .bool false, .slice A2 n2 c2, .int .i64 a, .int .i64 s]
set_option maxRecDepth 100000 in
set_option linter.unusedSimpArgs false in
theorem looks1_ok (g : Nat) (t : TypeId) (n v : Int) (A1 A2 : Option Addr) (n1 c1 n2 c2 : Nat) (a s : Int) (nd : Int) (w : World) (hg : Blk w g t (recC n v A1 n1 c1 A2 n2 c2 a s)) :
    Calls Tryz.prog 96 #[.pointer (some ⟨g, 0, none⟩), .int .i64 nd] w (fun e w' => e = .returned (.tuple #[]) ∧ Blk w' g t (recC n v A1 n1 c1 A2 n2 c2 a 2) ∧ Only w w' g ∧ w'.heap.size = w.heap.size) := by
  have c7 : w.cell? ⟨g, 7, none⟩ = some (.int .i64 s) := hg.cell 7
  have f7 := hg.frozen 7
  have HB := Lib.hid (show Blk (w.setCell ⟨g, 7, none⟩ (.int .i64 2)) g t (recC n v A1 n1 c1 A2 n2 c2 a 2) from hg.set 7 _)
  have HO := Lib.hid (show Only w (w.setCell ⟨g, 7, none⟩ (.int .i64 2)) g from (Only.refl w g).set (p := ⟨g, 7, none⟩) (.inl rfl) _)
  clear hg
  go_enter Tryz.func96, Tryz.ntmps96
  go_wp2_with fail
  go_end0
  exact ⟨rfl, HB.out, HO.out, by simp⟩
set_option maxRecDepth 100000 in
set_option linter.unusedSimpArgs false in
theorem looks2_ok (g : Nat) (t : TypeId) (n v : Int) (A1 A2 : Option Addr) (n1 c1 n2 c2 : Nat) (a s : Nat) (ha : a ≤ 100) (nd : Nat) (w : World) (hg : Blk w g t (recC n v A1 n1 c1 A2 n2 c2 a s)) :
    Calls Tryz.prog 97 #[.pointer (some ⟨g, 0, none⟩), .int .i64 nd] w (fun e w' => e = .returned (.tuple #[]) ∧ Blk w' g t (recC n v A1 n1 c1 A2 n2 c2 (a + 1 : Nat) ((if a + 1 = nd then 1 else s : Nat) : Int)) ∧ Only w w' g ∧ w'.heap.size = w.heap.size) := by
  have c6 : w.cell? ⟨g, 6, none⟩ = some (.int .i64 a) := hg.cell 6
  have c7 : w.cell? ⟨g, 7, none⟩ = some (.int .i64 s) := hg.cell 7
  have f6 := hg.frozen 6
  have f7 := hg.frozen 7
  have B1 : Blk (w.setCell ⟨g, 6, none⟩ (.int .i64 ((a : Int) + 1))) g t (recC n v A1 n1 c1 A2 n2 c2 (a + 1 : Nat) s) := by
    have h := hg.set 6 (.int .i64 ((a : Int) + 1))
    have e : ((a + 1 : Nat) : Int) = (a : Int) + 1 := by omega
    rw [e]
    exact h
  have HB := Lib.hid B1
  have HB2 := Lib.hid (show Blk ((w.setCell ⟨g, 6, none⟩ (.int .i64 ((a : Int) + 1))).setCell ⟨g, 7, none⟩ (.int .i64 1)) g t (recC n v A1 n1 c1 A2 n2 c2 (a + 1 : Nat) (1 : Nat)) from B1.set 7 _)
  have HO := Lib.hid (show Only w (w.setCell ⟨g, 6, none⟩ (.int .i64 ((a : Int) + 1))) g from (Only.refl w g).set (p := ⟨g, 6, none⟩) (.inl rfl) _)
  have HO2 := Lib.hid (show Only w ((w.setCell ⟨g, 6, none⟩ (.int .i64 ((a : Int) + 1))).setCell ⟨g, 7, none⟩ (.int .i64 1)) g from ((Only.refl w g).set (p := ⟨g, 6, none⟩) (.inl rfl) _).set (p := ⟨g, 7, none⟩) (.inl rfl) _)
  clear hg B1
  by_cases h : a + 1 = nd
  · have g1 : ((a : Int) + 1 == (nd : Int)) = true := beq_iff_eq.2 (by omega)
    have HH := Lib.hid h
    rw [if_pos h]
    clear h
    go_enter Tryz.func97, Tryz.ntmps97
    go_wp2_with fail
    go_end0
    exact ⟨rfl, HB2.out, HO2.out, by simp⟩
  · have g1 : ((a : Int) + 1 == (nd : Int)) = false := beq_eq_false_iff_ne.2 (by omega)
    rw [if_neg h]
    clear h
    go_enter Tryz.func97, Tryz.ntmps97
    go_wp2_with fail
    go_end0
    exact ⟨rfl, HB.out, HO.out, by simp⟩
end Go.Proofs.YtkkcbkfpaoldmaaGreatDoor

/- Walks: recount.right, Start, sheets. -/
namespace Go.Proofs.YtkkcbkfpaoldmaaGreatDoor
open Go Go.RowKit

/-- A limit that the program takes. -/
structure LimOk (w : World) (B : Nat) (A3 : Option Addr) (n3 c3 : Nat) (A4 : Option Addr) (n4 c4 : Nat) (Nn Dd : List Int) : Prop where
  rat : RatOk w B A3 n3 c3 A4 n4 c4 Nn Dd
  s1 : n3 ≤ 1024
  s2 : n4 ≤ 1024
  p0 : 0 < valL Nn
  p1 : valL Nn ≤ valL Dd
theorem LimOk.below {w w' : World} {B : Nat} {A3 A4 : Option Addr} {n3 c3 n4 c4 : Nat} {Nn Dd : List Int} (h : LimOk w B A3 n3 c3 A4 n4 c4 Nn Dd) (hb : Below B w w') : LimOk w' B A3 n3 c3 A4 n4 c4 Nn Dd := { h with rat := h.rat.below hb }
theorem LimOk.more {w : World} {B B' : Nat} {A3 A4 : Option Addr} {n3 c3 n4 c4 : Nat} {Nn Dd : List Int} (h : LimOk w B A3 n3 c3 A4 n4 c4 Nn Dd) (hb : B ≤ B') : LimOk w B' A3 n3 c3 A4 n4 c4 Nn Dd := { h with rat := h.rat.more hb }
theorem kNeed_lim (n w : Nat) (hn : n ≤ 5) (hw1 : 1 ≤ w) (hw : w ≤ n) (A3 A4 : Option Addr) (n3 c3 n4 c4 : Nat) (Nn Dd : List Int) (W : World) (hl : LimOk W W.heap.size A3 n3 c3 A4 n4 c4 Nn Dd) :
    Calls Tryz.prog 4 #[.int .i64 n, .int .i64 w, .agg (ratC A3 n3 c3 A4 n4 c4)] W (Ret (.tuple #[.int .i64 (need n w (valL Nn) (valL Dd) : Nat), .int .i64 0]) W) :=
  kNeed_ok n w hn hw1 hw A3 A4 n3 c3 n4 c4 Nn Dd W hl.rat hl.s1 hl.s2 hl.p0 hl.p1
theorem recSize : (Tryz.prog.info? 52).map (·.size) = some 8 := by kernel_rfl
section
variable {ops : Array Oper} {rest : List Oper} {o : Oper} {a : Act} {Q : Exit → Act → World → Prop}
theorem store_rec (hgd : o.guard = none) (p y : Operand) (ho : o.op = .store 52 p y) {w : World} {g : Nat} {c : Array Value} {tt : TypeId} (hg : Blk w g tt c) (n v : Int) (A1 A2 : Option Addr) (n1 k1 n2 k2 : Nat) (x s : Int)
    (hx : a.eval p = .pointer (some ⟨g, 0, none⟩)) (hy : a.eval y = .agg (recC n v A1 n1 k1 A2 n2 k2 x s)) (hold : c.size = 8)
    (h : ∀ w', Blk w' g tt (recC n v A1 n1 k1 A2 n2 k2 x s) → Only w w' g → w'.heap.size = w.heap.size → wpList Tryz.prog ops Q rest (a.put o.dst undef) w') : wpList Tryz.prog ops Q (o :: rest) a w :=
  wpList_store_row hgd _ p y ho g _ hx hy tt c hg recSize (by rw [hold]; rfl) (by simp [Value.oneCell'])
    (h _ (setRow_heap w g c _ tt _ hg) ⟨rfl, rfl, rfl, by simp, fun i _ hne => setRow_other w g i _ (fun e => hne (by rw [e]))⟩ (by simp))
theorem wp_store_rec {K : Act → World → Prop} (p y : Operand) (ho : o.op = .store 52 p y) {w : World} {g : Nat} {c : Array Value} {tt : TypeId} (hg : Blk w g tt c) (n v : Int) (A1 A2 : Option Addr) (n1 k1 n2 k2 : Nat) (x s : Int)
    (hx : a.eval p = .pointer (some ⟨g, 0, none⟩)) (hy : a.eval y = .agg (recC n v A1 n1 k1 A2 n2 k2 x s)) (hold : c.size = 8)
    (h : ∀ w', Blk w' g tt (recC n v A1 n1 k1 A2 n2 k2 x s) → Only w w' g → w'.heap.size = w.heap.size → K (a.put o.dst undef) w') : o.wp Tryz.prog a w K Q :=
  wp_store_row 52 p y ho g _ hx hy tt c hg recSize (by rw [hold]; rfl) (by simp [Value.oneCell'])
    (h _ (setRow_heap w g c _ tt _ hg) ⟨rfl, rfl, rfl, by simp, fun i _ hne => setRow_other w g i _ (fun e => hne (by rw [e]))⟩ (by simp))
end
set_option maxRecDepth 100000 in
set_option linter.unusedSimpArgs false in
set_option linter.unusedVariables false in
set_option maxHeartbeats 4000000 in
theorem rcright_ok (n v : Nat) (hn : n ≤ 5) (hw1 : 1 ≤ v) (hw : v ≤ n) (A3 A4 : Option Addr) (n3 c3 n4 c4 : Nat) (Nn Dd : List Int) (a s : Nat) (ha : (s = 1 ∧ a = need n v (valL Nn) (valL Dd)) ∨ (s = 0 ∧ a < need n v (valL Nn) (valL Dd))) (w : World) (hl : LimOk w w.heap.size A3 n3 c3 A4 n4 c4 Nn Dd) :
    Calls Tryz.prog 42 #[.agg (recC n v A3 n3 c3 A4 n4 c4 a s)] w (Ret (.int .i64 (need n v (valL Nn) (valL Dd) : Nat)) w) := by
  have HN := Lib.hid (fun W (h : Below w.heap.size w W) => kNeed_lim n v hn hw1 hw A3 A4 n3 c3 n4 c4 Nn Dd W ((hl.below h).more h.size))
  obtain ⟨nd, hnd⟩ : ∃ x, x = need n v (valL Nn) (valL Dd) := ⟨_, rfl⟩
  rw [← hnd] at HN ha ⊢
  have g0 : decide ((0 : Int) ≤ (a : Int)) = true := decide_eq_true (by omega)
  clear hl hnd
  rcases ha with ⟨rfl, rfl⟩ | ⟨rfl, ha⟩
  · go_enter Tryz.func42, Tryz.ntmps42
    go_wp2_with fail
    refine calls_gen (fun W => Blk W w.heap.size 52 (recC n v A3 n3 c3 A4 n4 c4 a (1 : Nat)) ∧ Below w.heap.size w W) ⟨Blk.new _ _ _, (Below.refl _ w).alloc (Nat.le_refl _) _⟩ (fun W0 ⟨b0, hB0⟩ => ?_)
    refine (HN.out W0 hB0).mono ?_
    rintro e W1 ⟨rfl, hb1⟩
    have d0 := b0.below hb1 b0.lt
    have HB1 := Lib.hid (hB0.trans (hb1.mono hB0.size))
    have k6 : W1.cell? ⟨w.heap.size, 6, none⟩ = some (.int .i64 a) := d0.cell 6
    have k7 : W1.cell? ⟨w.heap.size, 7, none⟩ = some (.int .i64 (1 : Nat)) := d0.cell 7
    clear b0 hB0 hb1 d0
    go_wp2_with fail
    refine (rcneed_ok 570 W1).mono ?_
    rintro e W2 ⟨rfl, rfl⟩
    go_wp2_with fail
    have g1 : ((a : Int) == (a : Int)) = true := by simp
    refine (rcneed_ok 570 W1).mono ?_
    rintro e W2 ⟨rfl, rfl⟩
    go_wp2_with fail
    go_ret
    exact ⟨rfl, HB1.out⟩
  · have g1 : decide ((a : Int) < (nd : Int)) = true := decide_eq_true (by omega)
    have g1n : decide (a < nd) = true := decide_eq_true ha
    clear ha
    go_enter Tryz.func42, Tryz.ntmps42
    go_wp2_with fail
    refine calls_gen (fun W => Blk W w.heap.size 52 (recC n v A3 n3 c3 A4 n4 c4 a (0 : Nat)) ∧ Below w.heap.size w W) ⟨Blk.new _ _ _, (Below.refl _ w).alloc (Nat.le_refl _) _⟩ (fun W0 ⟨b0, hB0⟩ => ?_)
    refine (HN.out W0 hB0).mono ?_
    rintro e W1 ⟨rfl, hb1⟩
    have d0 := b0.below hb1 b0.lt
    have HB1 := Lib.hid (hB0.trans (hb1.mono hB0.size))
    have k6 : W1.cell? ⟨w.heap.size, 6, none⟩ = some (.int .i64 a) := d0.cell 6
    have k7 : W1.cell? ⟨w.heap.size, 7, none⟩ = some (.int .i64 (0 : Nat)) := d0.cell 7
    clear b0 hB0 hb1 d0
    go_wp2_with fail
    refine (rcneed_ok 570 W1).mono ?_
    rintro e W2 ⟨rfl, rfl⟩
    go_wp2_with fail
    refine (rcneed_ok 570 W1).mono ?_
    rintro e W2 ⟨rfl, rfl⟩
    go_wp2_with fail
    go_ret
    exact ⟨rfl, HB1.out⟩
set_option maxRecDepth 100000 in
set_option linter.unusedSimpArgs false in
set_option linter.unusedVariables false in
set_option maxHeartbeats 4000000 in
theorem rcStart_ok (n v : Nat) (hn : n ≤ 5) (hw1 : 1 ≤ v) (hw : v ≤ n) (A3 A4 : Option Addr) (n3 c3 n4 c4 : Nat) (Nn Dd : List Int) (w : World) (hl : LimOk w w.heap.size A3 n3 c3 A4 n4 c4 Nn Dd) :
    Calls Tryz.prog 14 #[.int .i64 n, .int .i64 v, .agg (ratC A3 n3 c3 A4 n4 c4)] w (Ret (.tuple #[.agg (recC n v A3 n3 c3 A4 n4 c4 0 (startR (need n v (valL Nn) (valL Dd)) : Nat)), .int .i64 0]) w) := by
  have HN := Lib.hid (fun W (h : Below w.heap.size w W) => kNeed_lim n v hn hw1 hw A3 A4 n3 c3 n4 c4 Nn Dd W ((hl.below h).more h.size))
  obtain ⟨nd, hnd⟩ : ∃ x, x = need n v (valL Nn) (valL Dd) := ⟨_, rfl⟩
  rw [← hnd] at HN ⊢
  clear hl hnd
  go_enter Tryz.func14, Tryz.ntmps14
  go_wp2_with fail
  refine calls_gen (fun W => Blk W w.heap.size 29 (ratC A3 n3 c3 A4 n4 c4) ∧ Blk W (w.heap.size + 1) 52 (recC 0 0 none 0 0 none 0 0 0 0) ∧ Below w.heap.size w W) ⟨(Blk.new _ _ _).alloc _, Blk.new' _ _ _ (by simp), ((Below.refl _ w).alloc (Nat.le_refl _) _).alloc (by simp) _⟩ (fun W0 ⟨b0, b1, hB0⟩ => ?_)
  refine (HN.out W0 hB0).mono ?_
  rintro e W1 ⟨rfl, hb1⟩
  have d0 := b0.below hb1 b0.lt
  have D1 := Lib.hid (b1.below hb1 b1.lt)
  have HB1 := Lib.hid (hB0.trans (hb1.mono hB0.size))
  have k0 : W1.cell? ⟨w.heap.size, 0, none⟩ = some (.bool false) := d0.cell 0
  have k1 : W1.cell? ⟨w.heap.size, 1, none⟩ = some (.slice A3 n3 c3) := d0.cell 1
  have k2 : W1.cell? ⟨w.heap.size, 2, none⟩ = some (.bool false) := d0.cell 2
  have k3 : W1.cell? ⟨w.heap.size, 3, none⟩ = some (.slice A4 n4 c4) := d0.cell 3
  clear b0 b1 hB0 hb1 d0
  go_upto_region 5 with (refine store_rec rfl _ _ rfl D1.out n v A3 A4 n3 c3 n4 c4 0 0 rfl rfl rfl ?_; intro w8 hD8 hO8 hz8)
  have HB8 := Lib.hid (HB1.out.trans (hO8.toBelow HB1.out.size (by omega)))
  have hD8' := Lib.hid hD8
  clear k0 k1 k2 k3 hO8 hz8 D1 hD8
  by_cases h0 : nd = 0
  · subst h0
    have k7 : w8.cell? ⟨w.heap.size + 1, 7, none⟩ = some (.int .i64 0) := hD8'.out.cell 7
    have f7 := hD8'.out.frozen 7
    go_upto_region 7 with fail
    have hD9 : Blk (w8.setCell ⟨w.heap.size + 1, 7, none⟩ (.int .i64 1)) (w.heap.size + 1) 52 (recC n v A3 n3 c3 A4 n4 c4 0 1) := hD8'.out.set 7 _
    have hB9 : Below w.heap.size w (w8.setCell ⟨w.heap.size + 1, 7, none⟩ (.int .i64 1)) := HB8.out.setCell (p := ⟨w.heap.size + 1, 7, none⟩) (by show w.heap.size ≤ w.heap.size + 1; omega) _
    generalize w8.setCell ⟨w.heap.size + 1, 7, none⟩ (.int .i64 1) = W9 at hD9 hB9 ⊢
    have q0 : W9.cell? ⟨w.heap.size + 1, 0, none⟩ = some (.int .i64 n) := hD9.cell 0
    have q1 : W9.cell? ⟨w.heap.size + 1, 1, none⟩ = some (.int .i64 v) := hD9.cell 1
    have q2 : W9.cell? ⟨w.heap.size + 1, 2, none⟩ = some (.bool false) := hD9.cell 2
    have q3 : W9.cell? ⟨w.heap.size + 1, 3, none⟩ = some (.slice A3 n3 c3) := hD9.cell 3
    have q4 : W9.cell? ⟨w.heap.size + 1, 4, none⟩ = some (.bool false) := hD9.cell 4
    have q5 : W9.cell? ⟨w.heap.size + 1, 5, none⟩ = some (.slice A4 n4 c4) := hD9.cell 5
    have q6 : W9.cell? ⟨w.heap.size + 1, 6, none⟩ = some (.int .i64 0) := hD9.cell 6
    have q7 : W9.cell? ⟨w.heap.size + 1, 7, none⟩ = some (.int .i64 1) := hD9.cell 7
    clear k7 f7
    go_wp2_with (refine store_rec rfl _ _ rfl hD9 n v A3 A4 n3 c3 n4 c4 0 1 rfl rfl rfl ?_; intro w10 hD10 hO10 hz10)
    refine bodyPost_ret (results_row_tmp rfl _ _ (w.heap.size + 1) 52 _ (0, 0) _ _ rfl rfl hD10 Tryz.underlying52 rfl recSize) rfl ?_
    exact ⟨rfl, hB9.trans (hO10.toBelow hB9.size (by omega))⟩
  · have g0 : ((nd : Int) == 0) = false := beq_eq_false_iff_ne.2 (by omega)
    have g0n : (nd == 0) = false := beq_eq_false_iff_ne.2 h0
    have HST := Lib.hid (show startR nd = 0 from if_neg h0)
    clear h0
    have hD9 := hD8'.out
    have q0 : w8.cell? ⟨w.heap.size + 1, 0, none⟩ = some (.int .i64 n) := hD9.cell 0
    have q1 : w8.cell? ⟨w.heap.size + 1, 1, none⟩ = some (.int .i64 v) := hD9.cell 1
    have q2 : w8.cell? ⟨w.heap.size + 1, 2, none⟩ = some (.bool false) := hD9.cell 2
    have q3 : w8.cell? ⟨w.heap.size + 1, 3, none⟩ = some (.slice A3 n3 c3) := hD9.cell 3
    have q4 : w8.cell? ⟨w.heap.size + 1, 4, none⟩ = some (.bool false) := hD9.cell 4
    have q5 : w8.cell? ⟨w.heap.size + 1, 5, none⟩ = some (.slice A4 n4 c4) := hD9.cell 5
    have q6 : w8.cell? ⟨w.heap.size + 1, 6, none⟩ = some (.int .i64 0) := hD9.cell 6
    have q7 : w8.cell? ⟨w.heap.size + 1, 7, none⟩ = some (.int .i64 0) := hD9.cell 7
    go_wp2_with (refine store_rec rfl _ _ rfl hD9 n v A3 A4 n3 c3 n4 c4 0 0 rfl rfl rfl ?_; intro w10 hD10 hO10 hz10)
    refine bodyPost_ret (results_row_tmp rfl _ _ (w.heap.size + 1) 52 _ (0, 0) _ _ rfl rfl hD10 Tryz.underlying52 rfl recSize) rfl ?_
    exact ⟨by rw [HST.out]; rfl, HB8.out.trans (hO10.toBelow HB8.out.size (by omega))⟩
end Go.Proofs.YtkkcbkfpaoldmaaGreatDoor

/- Walks: recount.sheets and the iterator that it returns. -/
namespace Go.Proofs.YtkkcbkfpaoldmaaGreatDoor
open Go Go.RowKit Go.Shelf
attribute [local go_sem] Oper.semAt_some

def SheetsPost (Ao Aa : Option Addr) (no co na ca : Nat) (w : World) (e : Ending) (w' : World) : Prop :=
  ∃ g1 g2 g3 b t1 t2 t3, e = .returned (.func (.func 74) #[] #[.pointer (some ⟨g1, 0, none⟩), .pointer (some ⟨g2, 0, none⟩), .pointer (some ⟨g3, 0, none⟩)]) ∧
    Blk w' g1 t1 #[.slice Ao no co] ∧ Blk w' g2 t2 #[.map (some b)] ∧ Blk w' g3 t3 #[.slice Aa na ca] ∧ w'.heap[b]? = some (.map lookE 2) ∧ (w.heap.size ≤ g1 ∧ w.heap.size ≤ g2 ∧ w.heap.size ≤ g3 ∧ w.heap.size ≤ b) ∧ Below w.heap.size w w'
set_option maxRecDepth 100000 in
set_option linter.unusedSimpArgs false in
set_option linter.unusedVariables false in
set_option maxHeartbeats 8000000 in
theorem rcsheets_any (Ao Aa : Option Addr) (no co na ca : Nat) (w : World) : Calls Tryz.prog 44 #[.slice Ao no co, .slice Aa na ca] w (SheetsPost Ao Aa no co na ca w) := by
  go_enter Tryz.func44, Tryz.ntmps44
  go_wp2_with fail
  refine calls_gen (fun W => Blk W w.heap.size 25 #[.slice Ao no co] ∧ Blk W (w.heap.size + 1) 42 #[.slice Aa na ca] ∧ w.heap.size + 2 ≤ W.heap.size ∧ Below w.heap.size w W) ⟨(Blk.new _ _ _).alloc _, Blk.new' _ _ _ (by simp), by simp, ((Below.refl _ w).alloc (Nat.le_refl _) _).alloc (by simp) _⟩ (fun W0 ⟨b0, b1, hz, hB0⟩ => ?_)
  refine (looks_any W0).mono ?_
  rintro e W1 ⟨b, rfl, hm, hbs, hb1⟩
  have D0 := Lib.hid (b0.below hb1 b0.lt)
  have D1 := Lib.hid (b1.below hb1 b1.lt)
  have HB1 := Lib.hid (hB0.trans (hb1.mono hB0.size))
  obtain ⟨W2, hW2⟩ : ∃ W, W = W1.alloc (.cells #[.map (some b)] 125) := ⟨_, rfl⟩
  have hb12 : Below W1.heap.size W1 W2 := by rw [hW2]; exact (Below.refl _ _).alloc (Nat.le_refl _) _
  have HN := Lib.hid (show Blk W2 W1.heap.size 125 #[.map (some b)] by rw [hW2]; exact Blk.new _ _ _)
  have HM := Lib.hid ((hb12.block b (Array.getElem?_eq_some_iff.1 hm).1).trans hm)
  have HE0 := Lib.hid (D0.out.below hb12 D0.out.lt)
  have HE1 := Lib.hid (D1.out.below hb12 D1.out.lt)
  have HB2 := Lib.hid (HB1.out.trans (hb12.mono HB1.out.size))
  have HBS := Lib.hid (show w.heap.size ≤ b by have := hB0.size; omega)
  have HZ := Lib.hid HB1.out.size
  have HW := Lib.hid hW2
  clear b0 b1 hz hB0 hb1 hm hbs hb12 hW2 D0 D1 HB1
  go_wp2_with fail
  go_ret
  exact ⟨_, _, _, b, _, _, _, rfl, by rw [← HW.out]; exact HE0.out, by rw [← HW.out]; exact HN.out, by rw [← HW.out]; exact HE1.out, by rw [← HW.out]; exact HM.out, ⟨Nat.le_refl _, HZ.out, Nat.le_succ _, HBS.out⟩, by rw [← HW.out]; exact HB2.out⟩
/-- Cells outside E, and the map b, lie as they lay. -/
def KeptM (E : Nat → Prop) (b : Nat) (W W' : World) : Prop := KeptX E W W' ∧ ∀ o, W.heap[b]? = some o → W'.heap[b]? = some o
theorem KeptM.refl (E : Nat → Prop) (b : Nat) (W : World) : KeptM E b W W := ⟨KeptX.refl E W, fun _ h => h⟩
theorem KeptM.trans {E : Nat → Prop} {b : Nat} {X Y Z : World} (h : KeptM E b X Y) (k : KeptM E b Y Z) : KeptM E b X Z := ⟨h.1.trans k.1, fun o ho => k.2 o (h.2 o ho)⟩
theorem KeptM.of_below {E : Nat → Prop} {b : Nat} {W W' : World} (h : Below W.heap.size W W') : KeptM E b W W' := ⟨KeptX.of_below h, fun _ ho => (h.block b (Array.getElem?_eq_some_iff.1 ho).1).trans ho⟩
theorem KeptX.rd {E : Nat → Prop} {W W' : World} {B n : Nat} {A : Option Addr} {f : Nat → Value} (k : KeptX E W W') (h : Rd W B A n f) (he : ∀ b, A = some b → ¬ E b.block) : Rd W' W'.heap.size A n f := fun hl => by
  obtain ⟨b, off, e, hb, hc⟩ := h hl
  have hcell : ∀ j, j < n → W'.cell? ⟨b, off + j, none⟩ = some (f j) := fun j hj => by
    have h1 := hc j hj
    rw [World.cell?] at h1
    cases ho : W.heap[b]? with
    | none => simp [ho] at h1
    | some o =>
      cases o with
      | cells cs t fr =>
        have h2 := k.2 b _ ho rfl (he _ e)
        rw [World.cell?]
        simp only [h2]
        simp only [ho] at h1
        exact h1
      | _ => simp [ho] at h1
  refine ⟨b, off, e, ?_, hcell⟩
  have h3 := hcell 0 hl
  rw [World.cell?] at h3
  cases ho : W'.heap[b]? with
  | none => simp [ho] at h3
  | some o => exact (Array.getElem?_eq_some_iff.1 ho).1
/-- Which sheets the order looks at. -/
def agAt (o : List Int) (ag : List Bool) (k : Nat) : Bool := ag.getD (o.getD k 0).toNat false
def shV (o : List Int) (ag : List Bool) (no : Nat) (pre : List Bool) (x : Bool) (_ : World) : Prop := pre.length < no ∧ x = agAt o ag pre.length
def shEnc (x : Bool) : Array Value := #[lookV x]
def ShRel (W : World) (no g2 g3 b : Nat) (t2 t3 : TypeId) (Ao Aa : Option Addr) (na ca : Nat) (o : List Int) (ag : List Bool) (J : List Bool → World → Prop) (i : Value) (wr : World) : Prop :=
  ∃ (k : Nat) (pre : List Bool), k ≤ no ∧ i = .int .i64 k ∧ pre.length = k ∧ J pre wr ∧ Blk wr g2 t2 #[.map (some b)] ∧ Blk wr g3 t3 #[.slice Aa na ca] ∧ wr.heap[b]? = some (.map lookE 2) ∧
    Rd wr wr.heap.size Ao no (fun j => .int .i64 (o.getD j 0)) ∧ Rd wr wr.heap.size Aa na (fun j => .bool (ag.getD j false)) ∧ W.heap.size ≤ wr.heap.size
set_option maxRecDepth 100000 in
set_option linter.unusedSimpArgs false in
set_option linter.unusedVariables false in
set_option maxHeartbeats 8000000 in
theorem rcsheets1_in (n l g1 g2 g3 b : Nat) (t1 t2 t3 : TypeId) (Ao Aa : Option Addr) (no co na ca : Nat) (o : List Int) (ag : List Bool) (hno : no ≤ 1000000) (hor : ∀ k, k < no → 0 ≤ o.getD k 0 ∧ o.getD k 0 < (na : Int)) (E : Nat → Prop) (J Jx : List Bool → World → Prop) (W : World)
    (hE1 : ¬ E g1) (hE2 : ¬ E g2) (hE3 : ¬ E g3) (hEo : ∀ p, Ao = some p → ¬ E p.block) (hEa : ∀ p, Aa = some p → ¬ E p.block)
    (hJ : ∀ s A B, J s A → Below W.heap.size A B → J s B)
    (hY : ∀ pre x W1, J pre W1 → shV o ag no pre x W1 → pre.length < no → YieldAt Fence.wide (n - 1) Tryz.prog l (shEnc x) W1 fun e W' => (e = .returned (.bool true) ∧ J (pre ++ [x]) W' ∧ KeptM E b W1 W') ∨ (e = .returned (.bool false) ∧ Jx (pre ++ [x]) W'))
    (h1 : Blk W g1 t1 #[.slice Ao no co]) (h2 : Blk W g2 t2 #[.map (some b)]) (h3 : Blk W g3 t3 #[.slice Aa na ca]) (hm : W.heap[b]? = some (.map lookE 2))
    (hRo : Rd W W.heap.size Ao no (fun j => .int .i64 (o.getD j 0))) (hRa : Rd W W.heap.size Aa na (fun j => .bool (ag.getD j false))) (h0 : J [] W) :
    Calls Tryz.prog 74 #[.func (.yield l) #[] #[], .pointer (some ⟨g1, 0, none⟩), .pointer (some ⟨g2, 0, none⟩), .pointer (some ⟨g3, 0, none⟩)] W fun e W' => (∃ v, e = .returned v) ∧ ((∃ xs : List Bool, xs.length = no ∧ J xs W') ∨ (∃ pre : List Bool, True ∧ Jx pre W')) := by
  have HY := Lib.hid hY
  have HJ := Lib.hid hJ
  have HE2 := Lib.hid hE2
  have HE3 := Lib.hid hE3
  have HEO := Lib.hid hEo
  have HEA := Lib.hid hEa
  have HOR := Lib.hid hor
  have HSTART := Lib.hid (show ShRel W no g2 g3 b t2 t3 Ao Aa na ca o ag J (.int .i64 ((0 : Nat) : Int)) W from ⟨0, [], by omega, rfl, rfl, h0, h2, h3, hm, hRo, hRa, Nat.le_refl _⟩)
  have k1 : W.cell? ⟨g1, 0, none⟩ = some (.slice Ao no co) := h1.cell 0
  clear hY hJ hE1 hE2 hE3 hEo hEa hor h1 h2 h3 hm hRo hRa h0
  go_enter Tryz.func74, Tryz.ntmps74
  go_wp2_with fail
  clear k1
  go_loopw [9] (fun i wr => ShRel W no g2 g3 b t2 t3 Ao Aa na ca o ag J i wr) (fun i _ => no - (intOf i).toNat)
  case atStart => exact HSTART.out
  case round =>
    clear HSTART
    obtain ⟨k, pre, hk, rfl, hpl, hJp, hg2, hg3, hm, hRo, hRa, hz⟩ := hrel
    have HPL := Lib.hid hpl
    have HJP := Lib.hid hJp
    have HG2 := Lib.hid hg2
    have HG3 := Lib.hid hg3
    have HM := Lib.hid hm
    have HRO := Lib.hid hRo
    have HRA := Lib.hid hRa
    clear hpl hJp hg2 hg3 hm hRo hRa
    rcases Nat.lt_or_ge k no with hlt | hge
    · have g1' : decide ((k : Int) < (no : Int)) = true := decide_eq_true (by omega)
      have g1n : decide (k < no) = true := decide_eq_true hlt
      obtain ⟨ba, oa, rfl, _, hca⟩ := HRO.out.at_ (k := k) hlt
      obtain ⟨x, hx⟩ : ∃ x, x = o.getD k 0 := ⟨_, rfl⟩
      have hxr := HOR.out k hlt
      rw [← hx] at hca hxr
      obtain ⟨j, hj⟩ : ∃ j : Nat, j = x.toNat := ⟨_, rfl⟩
      have hxj : x = (j : Int) := by omega
      have hjn : j < na := by omega
      rw [hxj] at hca
      obtain ⟨bb, ob, rfl, _, hcb⟩ := HRA.out.at_ (k := j) hjn
      obtain ⟨v, hv⟩ : ∃ v, v = ag.getD j false := ⟨_, rfl⟩
      rw [← hv] at hcb
      have HAG := Lib.hid (show v = agAt o ag k by rw [agAt, ← hx, ← hj]; exact hv)
      have HCB := Lib.hid hcb
      clear hv hx hxj hxr hcb hj
      go_upto_region 3 with fail
      refine (wpIn_wide (n := n)).1 ?_
      refine wpIn_region_heldIn (fun W' => W'.cell? ⟨g2, 0, none⟩ = some (.map (some b)) ∧ W'.cell? ⟨g3, 0, none⟩ = some (.slice (some ⟨bb, ob, none⟩) na ca) ∧ W'.cell? ⟨bb, ob + j, none⟩ = some (.bool v) ∧ W'.heap[b]? = some (.map lookE 2)) [0, 1, 2, 3, 4, 5, 6] (by kernel_rfl) ⟨HG2.out.cell 0, HG3.out.cell 0, HCB.out, HM.out⟩ (fun hS => ?_)
      refine heldIn_take (i := 0) (v := .func (.yield l) #[] #[]) rfl (by kernel_rfl) rfl (fun _ _ _ h => h) ⟨Or.inl ⟨by rfl, fun W' hS' => by go_simp⟩, fun w => rfl⟩ hS ?_
      try simp only [Act.put, List.getElem_toArray, List.getElem_cons_zero, List.getElem_cons_succ, List.setIfInBounds_toArray, List.set_cons_zero, List.set_cons_succ]
      refine heldIn_take (i := 1) (v := .map (some b)) rfl (by kernel_rfl) rfl (fun _ _ _ h => h) ⟨Or.inl ⟨by rfl, fun W' hS' => by obtain ⟨q0, q1, q2, q3⟩ := hS'; go_simp⟩, fun w => rfl⟩ hS ?_
      try simp only [Act.put, List.getElem_toArray, List.getElem_cons_zero, List.getElem_cons_succ, List.setIfInBounds_toArray, List.set_cons_zero, List.set_cons_succ]
      refine heldIn_take (i := 2) (v := .slice (some ⟨bb, ob, none⟩) na ca) rfl (by kernel_rfl) rfl (fun _ _ _ h => h) ⟨Or.inl ⟨by rfl, fun W' hS' => by obtain ⟨q0, q1, q2, q3⟩ := hS'; go_simp⟩, fun w => rfl⟩ hS ?_
      try simp only [Act.put, List.getElem_toArray, List.getElem_cons_zero, List.getElem_cons_succ, List.setIfInBounds_toArray, List.set_cons_zero, List.set_cons_succ]
      refine heldIn_take (i := 3) (v := .int .i64 j) rfl (by kernel_rfl) rfl (fun _ _ _ h => h) ⟨Or.inl ⟨by rfl, fun W' hS' => by go_simp⟩, fun w => rfl⟩ hS ?_
      try simp only [Act.put, List.getElem_toArray, List.getElem_cons_zero, List.getElem_cons_succ, List.setIfInBounds_toArray, List.set_cons_zero, List.set_cons_succ]
      refine heldIn_take (i := 4) (v := .pointer (some ⟨bb, ob + j, none⟩)) rfl (by kernel_rfl) rfl (fun _ _ _ h => h) ⟨Or.inl ⟨by rfl, fun W' hS' => by go_simp⟩, fun w => rfl⟩ hS ?_
      try simp only [Act.put, List.getElem_toArray, List.getElem_cons_zero, List.getElem_cons_succ, List.setIfInBounds_toArray, List.set_cons_zero, List.set_cons_succ]
      refine heldIn_take (i := 5) (v := .bool v) rfl (by kernel_rfl) rfl (fun _ _ _ h => h) ⟨Or.inl ⟨by rfl, fun W' hS' => by obtain ⟨q0, q1, q2, q3⟩ := hS'; go_simp⟩, fun w => rfl⟩ hS ?_
      try simp only [Act.put, List.getElem_toArray, List.getElem_cons_zero, List.getElem_cons_succ, List.setIfInBounds_toArray, List.set_cons_zero, List.set_cons_succ]
      refine heldIn_take (i := 6) (v := lookV v) rfl (by kernel_rfl) rfl (fun _ _ _ h => h) ⟨Or.inl ⟨by rfl, fun W' hS' => by obtain ⟨q0, q1, q2, q3⟩ := hS'; have q4 := look_run b v W' q3; go_simp⟩, fun w => rfl⟩ hS ?_
      try simp only [Act.put, List.getElem_toArray, List.getElem_cons_zero, List.getElem_cons_succ, List.setIfInBounds_toArray, List.set_cons_zero, List.set_cons_succ]
      have hbd : Below wr.heap.size wr wr.drew := (Below.refl _ _).drew
      obtain ⟨fn, tmps, assign, body, hy, hRr⟩ := HY.out pre v wr.drew (HJ.out _ _ _ HJP.out (hbd.mono hz)) ⟨by have := HPL.out; omega, by rw [HPL.out]; exact HAG.out⟩ (by have := HPL.out; omega)
      have hy' : (Instr.yield l #[lookV v]).run Tryz.prog wr.drew = .ok (.round l fn tmps assign body) wr.drew := hy
      have k2 := HG2.out.below hbd HG2.out.lt
      have k3 := HG3.out.below hbd HG3.out.lt
      have HM2 := Lib.hid ((hbd.block b (Array.getElem?_eq_some_iff.1 HM.out).1).trans HM.out)
      have HRO2 := Lib.hid ((HRO.out.below hbd).more hbd.size)
      have HRA2 := Lib.hid ((HRA.out.below hbd).more hbd.size)
      have HK2 := Lib.hid k2
      have HK3 := Lib.hid k3
      clear hy k2 k3 hca hbd
      refine heldIn_one (i := 7) (by kernel_rfl) rfl (by rfl) (by rfl) (fun Kq hKq => ?_)
      refine ⟨fun f _ => trivial, ?_⟩
      go_simp
      refine ⟨fun h => (by cases h), hRr.mono ?_⟩
      rintro e5 W5 (⟨rfl, hJ5, hk5⟩ | ⟨rfl, hJx5⟩)
      · refine hKq _ _ ?_
        clear hKq Kq
        try simp only [Act.put, List.getElem_toArray, List.getElem_cons_zero, List.getElem_cons_succ, List.setIfInBounds_toArray, List.set_cons_zero, List.set_cons_succ]
        refine heldIn_one (i := 8) (by kernel_rfl) rfl (by rfl) (by rfl) (fun Kq hKq => ?_)
        refine opIn_wide ?_
        go_simp
        refine hKq _ _ ?_
        clear hKq Kq
        try simp only [Act.put, List.getElem_toArray, List.getElem_cons_zero, List.getElem_cons_succ, List.setIfInBounds_toArray, List.set_cons_zero, List.set_cons_succ]
        refine heldIn_done (by kernel_rfl) ?_
        go_wp2_with fail
        go_roundw
        case rel => exact ⟨k + 1, pre ++ [v], by omega, by go_num, by rw [List.length_append, List.length_singleton, HPL.out], hJ5, hk5.1.blk HK2.out HE2.out, hk5.1.blk HK3.out HE3.out, hk5.2 _ HM2.out, hk5.1.rd HRO2.out HEO.out, hk5.1.rd HRA2.out HEA.out, Nat.le_trans hz hk5.1.1⟩
        case measure => simp [intOf]; omega
      · refine hKq _ _ ?_
        clear hKq Kq
        try simp only [Act.put, List.getElem_toArray, List.getElem_cons_zero, List.getElem_cons_succ, List.setIfInBounds_toArray, List.set_cons_zero, List.set_cons_succ]
        refine heldIn_one (i := 8) (by kernel_rfl) rfl (by rfl) (by rfl) (fun Kq hKq => ?_)
        refine opIn_wide ?_
        go_simp
        refine hKq _ _ ?_
        clear hKq Kq
        try simp only [Act.put, List.getElem_toArray, List.getElem_cons_zero, List.getElem_cons_succ, List.setIfInBounds_toArray, List.set_cons_zero, List.set_cons_succ]
        refine heldIn_done (by kernel_rfl) ?_
        go_wp2_with fail
        refine bodyPost_ret (results_none rfl _ _ _) rfl ?_
        exact ⟨⟨_, rfl⟩, .inr ⟨_, trivial, hJx5⟩⟩
    · obtain rfl : k = no := by omega
      have g1' : decide ((k : Int) < (k : Int)) = false := by simp
      go_wp2_with fail
      go_end0
      exact ⟨⟨_, rfl⟩, .inl ⟨pre, HPL.out, HJP.out⟩⟩
end Go.Proofs.YtkkcbkfpaoldmaaGreatDoor

/- Walks: sheets.zip of one criterion and one element, and the iterators that it returns. -/
namespace Go.Proofs.YtkkcbkfpaoldmaaGreatDoor
open Go Go.RowKit Go.Shelf
attribute [local go_sem] Oper.semAt_some

/-- A criterion's numbers. -/
structure Crit where
  s : ByteArray
  lo : Int
  hi : Int
  st : Int
  ho : Int
  tr : Int
  rv : Bool
abbrev Crit.c (x : Crit) : Array Value := critC x.s x.lo x.hi x.st x.ho x.tr x.rv
theorem grown_of_below1 {A B : World} (h : Below A.heap.size A B) : A.grownBy B none := ⟨h.os, h.tape, h.output, h.size, fun i hi _ => h.block i hi⟩
def zipEnc (x : Crit) (v : Value) (_ : Unit) : Array Value := #[.agg x.c, v]
set_option maxRecDepth 100000 in
set_option linter.unusedSimpArgs false in
set_option linter.unusedVariables false in
set_option maxHeartbeats 8000000 in
theorem zipB_any (Ac Av : Option Addr) (nc cc nv cv : Nat) (w : World) : Calls Tryz.prog 65 #[.slice Ac nc cc, .slice Av nv cv] w (fun e w' => e = .returned (.func (.func 92) #[] #[.pointer (some ⟨w.heap.size, 0, none⟩), .pointer (some ⟨w.heap.size + 1, 0, none⟩)]) ∧
    w' = (w.alloc (.cells #[.slice Ac nc cc] 44)).alloc (.cells #[.slice Av nv cv] 24)) := by
  go_enter Tryz.func65, Tryz.ntmps65
  go_wp2_with fail
  go_ret
  exact ⟨rfl, rfl⟩
set_option maxRecDepth 100000 in
set_option linter.unusedSimpArgs false in
set_option linter.unusedVariables false in
set_option maxHeartbeats 8000000 in
theorem zipB1_in (n l g1 g2 gc : Nat) (t1 t2 tc : TypeId) (x : Crit) (Ab : Option Addr) (nb kb : Nat) (Av : Option Addr) (cv : Nat) (J Jx : List Unit → World → Prop) (W : World)
    (hJ : ∀ s A, J s A → J s A.drew)
    (hY : ∀ pre (u : Unit) W1, J pre W1 → pre = [] → pre.length < 1 → YieldAt Fence.wide (n - 1) Tryz.prog l (zipEnc x (.slice Ab nb kb) u) W1 fun e W' => (e = .returned (.bool true) ∧ J (pre ++ [u]) W' ∧ True) ∨ (e = .returned (.bool false) ∧ Jx (pre ++ [u]) W'))
    (h1 : Blk W g1 t1 #[.slice (some ⟨gc, 0, none⟩) 1 1]) (h2 : Blk W g2 t2 #[.slice Av 1 cv]) (hc : Blk W gc tc x.c) (hv : Rd W W.heap.size Av 1 (fun _ => .slice Ab nb kb)) (h0 : J [] W) :
    Calls Tryz.prog 92 #[.func (.yield l) #[] #[], .pointer (some ⟨g1, 0, none⟩), .pointer (some ⟨g2, 0, none⟩)] W fun e W' => (∃ v, e = .returned v) ∧ ((∃ xs : List Unit, xs.length = 1 ∧ J xs W') ∨ (∃ pre : List Unit, True ∧ Jx pre W')) := by
  obtain ⟨bv, ov, rfl, _, hcv⟩ := hv.at_ (k := 0) (by omega)
  obtain ⟨xs, lo, hi, st, ho, tr, rv⟩ := x
  simp only [Crit.c] at hc
  have HY := Lib.hid hY
  have HJ := Lib.hid hJ
  have H1 := Lib.hid h1
  have H2 := Lib.hid h2
  have HC := Lib.hid hc
  have HCV := Lib.hid hcv
  have HJ0 := Lib.hid h0
  have k1 : W.cell? ⟨g1, 0, none⟩ = some (.slice (some ⟨gc, 0, none⟩) 1 1) := h1.cell 0
  have k2 : W.cell? ⟨g2, 0, none⟩ = some (.slice (some ⟨bv, ov, none⟩) 1 cv) := h2.cell 0
  clear hY hJ h1 h2 hc hv hcv h0
  go_enter Tryz.func92, Tryz.ntmps92
  go_wp2_with fail
  clear k1 k2
  go_loopw [10] (fun i wr => ∃ (k : Nat) (pre : List Unit), k ≤ 1 ∧ i = .int .i64 k ∧ pre.length = k ∧ J pre wr ∧ (k = 0 → wr = W)) (fun i _ => 1 - (intOf i).toNat)
  case atStart => exact ⟨0, [], by omega, rfl, rfl, HJ0.out, fun _ => rfl⟩
  case round =>
    clear HJ0
    obtain ⟨k, pre, hk, rfl, hpl, hJp, hW⟩ := hrel
    have HPL := Lib.hid hpl
    have HJP := Lib.hid hJp
    rcases Nat.eq_zero_or_pos k with rfl | hpos
    rotate_left
    · obtain rfl : k = 1 := by omega
      clear hW hpl hJp
      go_wp2_with fail
      go_end0
      exact ⟨⟨_, rfl⟩, .inl ⟨pre, HPL.out, HJP.out⟩⟩
    obtain rfl := hW rfl
    clear hW hpl hJp
    have g1' : decide (((0 : Nat) : Int) < 1) = true := by decide
    go_upto_region 3 with fail
    refine (wpIn_wide (n := n)).1 ?_
    refine wpIn_region_heldIn (fun W' => W'.cell? ⟨g1, 0, none⟩ = some (.slice (some ⟨gc, 0, none⟩) 1 1) ∧ W'.cell? ⟨g2, 0, none⟩ = some (.slice (some ⟨bv, ov, none⟩) 1 cv) ∧ W'.cell? ⟨gc, 0, none⟩ = some (.string xs) ∧ W'.cell? ⟨gc, 1, none⟩ = some (.int .i64 lo) ∧ W'.cell? ⟨gc, 2, none⟩ = some (.int .i64 hi) ∧ W'.cell? ⟨gc, 3, none⟩ = some (.int .i64 st) ∧ W'.cell? ⟨gc, 4, none⟩ = some (.int .i64 ho) ∧ W'.cell? ⟨gc, 5, none⟩ = some (.int .i64 tr) ∧ W'.cell? ⟨gc, 6, none⟩ = some (.bool rv) ∧ W'.cell? ⟨bv, ov, none⟩ = some (.slice Ab nb kb)) [0, 1, 2, 3, 4, 5, 6, 7, 8] (by kernel_rfl)
      ⟨H1.out.cell 0, H2.out.cell 0, HC.out.cell 0, HC.out.cell 1, HC.out.cell 2, HC.out.cell 3, HC.out.cell 4, HC.out.cell 5, HC.out.cell 6, HCV.out⟩ (fun hS => ?_)
    refine heldIn_take (i := 0) (v := .func (.yield l) #[] #[]) rfl (by kernel_rfl) rfl (fun _ _ _ h => h) ⟨Or.inl ⟨by rfl, fun W' hS' => by go_simp⟩, fun w => rfl⟩ hS ?_
    try simp only [Act.put, List.getElem_toArray, List.getElem_cons_zero, List.getElem_cons_succ, List.setIfInBounds_toArray, List.set_cons_zero, List.set_cons_succ]
    refine heldIn_take (i := 1) (v := .slice (some ⟨gc, 0, none⟩) 1 1) rfl (by kernel_rfl) rfl (fun _ _ _ h => h) ⟨Or.inl ⟨by rfl, fun W' hS' => by obtain ⟨q0, q1, q2, q3, q4, q5, q6, q7, q8, q9⟩ := hS'; go_simp⟩, fun w => rfl⟩ hS ?_
    try simp only [Act.put, List.getElem_toArray, List.getElem_cons_zero, List.getElem_cons_succ, List.setIfInBounds_toArray, List.set_cons_zero, List.set_cons_succ]
    refine heldIn_take (i := 2) (v := .int .i64 0) rfl (by kernel_rfl) rfl (fun _ _ _ h => h) ⟨Or.inl ⟨by rfl, fun W' hS' => by go_simp⟩, fun w => rfl⟩ hS ?_
    try simp only [Act.put, List.getElem_toArray, List.getElem_cons_zero, List.getElem_cons_succ, List.setIfInBounds_toArray, List.set_cons_zero, List.set_cons_succ]
    refine heldIn_take (i := 3) (v := .pointer (some ⟨gc, 0, none⟩)) rfl (by kernel_rfl) rfl (fun _ _ _ h => h) ⟨Or.inl ⟨by rfl, fun W' hS' => by go_simp⟩, fun w => rfl⟩ hS ?_
    try simp only [Act.put, List.getElem_toArray, List.getElem_cons_zero, List.getElem_cons_succ, List.setIfInBounds_toArray, List.set_cons_zero, List.set_cons_succ]
    refine heldIn_take (i := 4) (v := .agg (critC xs lo hi st ho tr rv)) rfl (by kernel_rfl) rfl (fun _ _ _ h => h) ⟨Or.inl ⟨by rfl, fun W' hS' => by obtain ⟨q0, q1, q2, q3, q4, q5, q6, q7, q8, q9⟩ := hS'; go_simp⟩, fun w => rfl⟩ hS ?_
    try simp only [Act.put, List.getElem_toArray, List.getElem_cons_zero, List.getElem_cons_succ, List.setIfInBounds_toArray, List.set_cons_zero, List.set_cons_succ]
    refine heldIn_take (i := 5) (v := .slice (some ⟨bv, ov, none⟩) 1 cv) rfl (by kernel_rfl) rfl (fun _ _ _ h => h) ⟨Or.inl ⟨by rfl, fun W' hS' => by obtain ⟨q0, q1, q2, q3, q4, q5, q6, q7, q8, q9⟩ := hS'; go_simp⟩, fun w => rfl⟩ hS ?_
    try simp only [Act.put, List.getElem_toArray, List.getElem_cons_zero, List.getElem_cons_succ, List.setIfInBounds_toArray, List.set_cons_zero, List.set_cons_succ]
    refine heldIn_take (i := 6) (v := .int .i64 0) rfl (by kernel_rfl) rfl (fun _ _ _ h => h) ⟨Or.inl ⟨by rfl, fun W' hS' => by go_simp⟩, fun w => rfl⟩ hS ?_
    try simp only [Act.put, List.getElem_toArray, List.getElem_cons_zero, List.getElem_cons_succ, List.setIfInBounds_toArray, List.set_cons_zero, List.set_cons_succ]
    refine heldIn_take (i := 7) (v := .pointer (some ⟨bv, ov, none⟩)) rfl (by kernel_rfl) rfl (fun _ _ _ h => h) ⟨Or.inl ⟨by rfl, fun W' hS' => by go_simp⟩, fun w => rfl⟩ hS ?_
    try simp only [Act.put, List.getElem_toArray, List.getElem_cons_zero, List.getElem_cons_succ, List.setIfInBounds_toArray, List.set_cons_zero, List.set_cons_succ]
    refine heldIn_take (i := 8) (v := .slice Ab nb kb) rfl (by kernel_rfl) rfl (fun _ _ _ h => h) ⟨Or.inl ⟨by rfl, fun W' hS' => by obtain ⟨q0, q1, q2, q3, q4, q5, q6, q7, q8, q9⟩ := hS'; go_simp⟩, fun w => rfl⟩ hS ?_
    try simp only [Act.put, List.getElem_toArray, List.getElem_cons_zero, List.getElem_cons_succ, List.setIfInBounds_toArray, List.set_cons_zero, List.set_cons_succ]
    have hbd : Below wr.heap.size wr wr.drew := (Below.refl _ _).drew
    obtain ⟨fn, tmps, assign, body, hy, hRr⟩ := HY.out pre () wr.drew (HJ.out _ _ HJP.out) (List.length_eq_zero_iff.1 HPL.out) (by have := HPL.out; omega)
    have hy' : (Instr.yield l #[.agg (critC xs lo hi st ho tr rv), .slice Ab nb kb]).run Tryz.prog wr.drew = .ok (.round l fn tmps assign body) wr.drew := hy
    clear hy hbd
    refine heldIn_one (i := 9) (by kernel_rfl) rfl (by rfl) (by rfl) (fun Kq hKq => ?_)
    refine ⟨fun f _ => trivial, ?_⟩
    go_simp
    refine ⟨fun h => (by cases h), hRr.mono ?_⟩
    rintro e5 W5 (⟨rfl, hJ5, hk5⟩ | ⟨rfl, hJx5⟩)
    · refine hKq _ _ ?_
      clear hKq Kq
      try simp only [Act.put, List.getElem_toArray, List.getElem_cons_zero, List.getElem_cons_succ, List.setIfInBounds_toArray, List.set_cons_zero, List.set_cons_succ]
      refine heldIn_one (i := 10) (by kernel_rfl) rfl (by rfl) (by rfl) (fun Kq hKq => ?_)
      refine opIn_wide ?_
      go_simp
      refine hKq _ _ ?_
      clear hKq Kq
      try simp only [Act.put, List.getElem_toArray, List.getElem_cons_zero, List.getElem_cons_succ, List.setIfInBounds_toArray, List.set_cons_zero, List.set_cons_succ]
      refine heldIn_done (by kernel_rfl) ?_
      go_wp2_with fail
      go_roundw
      case rel => exact ⟨1, pre ++ [()], by omega, by go_num, by rw [List.length_append, List.length_singleton, HPL.out], hJ5, fun h => by omega⟩
      case measure => simp [intOf]
    · refine hKq _ _ ?_
      clear hKq Kq
      try simp only [Act.put, List.getElem_toArray, List.getElem_cons_zero, List.getElem_cons_succ, List.setIfInBounds_toArray, List.set_cons_zero, List.set_cons_succ]
      refine heldIn_one (i := 10) (by kernel_rfl) rfl (by rfl) (by rfl) (fun Kq hKq => ?_)
      refine opIn_wide ?_
      go_simp
      refine hKq _ _ ?_
      clear hKq Kq
      try simp only [Act.put, List.getElem_toArray, List.getElem_cons_zero, List.getElem_cons_succ, List.setIfInBounds_toArray, List.set_cons_zero, List.set_cons_succ]
      refine heldIn_done (by kernel_rfl) ?_
      go_wp2_with fail
      refine bodyPost_ret (results_none rfl _ _ _) rfl ?_
      exact ⟨⟨_, rfl⟩, .inr ⟨_, trivial, hJx5⟩⟩
theorem zipB1_stops (n g1 g2 gc : Nat) (t1 t2 tc : TypeId) (x : Crit) (Ab : Option Addr) (nb kb : Nat) (Av : Option Addr) (cv : Nat) (W0 : World) (h1 : Blk W0 g1 t1 #[.slice (some ⟨gc, 0, none⟩) 1 1]) (h2 : Blk W0 g2 t2 #[.slice Av 1 cv]) (hc : Blk W0 gc tc x.c) (hv : Rd W0 W0.heap.size Av 1 (fun _ => .slice Ab nb kb)) :
    SeqB Fence.wide n Tryz.prog 92 #[.pointer (some ⟨g1, 0, none⟩), .pointer (some ⟨g2, 0, none⟩)] (zipEnc x (.slice Ab nb kb)) (fun _ _ => True) (fun _ => True) (fun pre _ _ => pre = []) (fun xs => xs.length = 1) (fun _ => True) 1 W0 := fun l J Jx W hW hJ _ _ hY h0 =>
  callsIn_wide.2 (zipB1_in n l g1 g2 gc t1 t2 tc x Ab nb kb Av cv J Jx W (fun s A h => hJ s A A.drew h (Below.refl _ A).drew) hY (h1.below hW h1.lt) (h2.below hW h2.lt) (hc.below hW hc.lt) ((hv.below hW).more hW.size) h0)
theorem zipB1_V (n g1 g2 gc : Nat) (t1 t2 tc : TypeId) (x : Crit) (Ab : Option Addr) (nb kb : Nat) (Av : Option Addr) (cv : Nat) (W0 : World) (h1 : Blk W0 g1 t1 #[.slice (some ⟨gc, 0, none⟩) 1 1]) (h2 : Blk W0 g2 t2 #[.slice Av 1 cv]) (hc : Blk W0 gc tc x.c) (hv : Rd W0 W0.heap.size Av 1 (fun _ => .slice Ab nb kb)) :
    SeqV Fence.wide n Tryz.prog 92 #[.pointer (some ⟨g1, 0, none⟩), .pointer (some ⟨g2, 0, none⟩)] (zipEnc x (.slice Ab nb kb)) (fun _ _ => True) none (fun _ => True) (fun pre _ _ => pre = []) (fun xs => xs.length = 1) (fun _ => True) (fun _ _ => True) 1 W0 := fun l J Jx W hW hJ _ _ hY h0 =>
  callsIn_wide.2 ((zipB1_in n l g1 g2 gc t1 t2 tc x Ab nb kb Av cv J Jx W (fun s A h => hJ s A A.drew none h (grown_of_below1 (Below.refl _ A).drew) (fun r e => by cases e)) hY (h1.below hW h1.lt) (h2.below hW h2.lt) (hc.below hW hc.lt) ((hv.below hW).more hW.size) h0).mono fun e W' h => by
    rcases h with ⟨h1, ⟨xs, h2, h3⟩ | h2⟩
    · exact ⟨h1, .inl ⟨xs, h2, h3, trivial⟩⟩
    · exact ⟨h1, .inr h2⟩)
set_option maxRecDepth 100000 in
set_option linter.unusedSimpArgs false in
set_option linter.unusedVariables false in
set_option maxHeartbeats 8000000 in
theorem zipI_any (Ac Av : Option Addr) (nc cc nv cv : Nat) (w : World) : Calls Tryz.prog 38 #[.slice Ac nc cc, .slice Av nv cv] w (fun e w' => e = .returned (.func (.func 67) #[] #[.pointer (some ⟨w.heap.size, 0, none⟩), .pointer (some ⟨w.heap.size + 1, 0, none⟩)]) ∧
    w' = (w.alloc (.cells #[.slice Ac nc cc] 44)).alloc (.cells #[.slice Av nv cv] 25)) := by
  go_enter Tryz.func38, Tryz.ntmps38
  go_wp2_with fail
  go_ret
  exact ⟨rfl, rfl⟩
set_option maxRecDepth 100000 in
set_option linter.unusedSimpArgs false in
set_option linter.unusedVariables false in
set_option maxHeartbeats 8000000 in
theorem zipI1_in (n l g1 g2 gc : Nat) (t1 t2 tc : TypeId) (x : Crit) (m : Int) (Av : Option Addr) (cv : Nat) (J Jx : List Unit → World → Prop) (W : World)
    (hJ : ∀ s A, J s A → J s A.drew)
    (hY : ∀ pre (u : Unit) W1, J pre W1 → pre = [] → pre.length < 1 → YieldAt Fence.wide (n - 1) Tryz.prog l (zipEnc x (.int .i64 m) u) W1 fun e W' => (e = .returned (.bool true) ∧ J (pre ++ [u]) W' ∧ True) ∨ (e = .returned (.bool false) ∧ Jx (pre ++ [u]) W'))
    (h1 : Blk W g1 t1 #[.slice (some ⟨gc, 0, none⟩) 1 1]) (h2 : Blk W g2 t2 #[.slice Av 1 cv]) (hc : Blk W gc tc x.c) (hv : Rd W W.heap.size Av 1 (fun _ => .int .i64 m)) (h0 : J [] W) :
    Calls Tryz.prog 67 #[.func (.yield l) #[] #[], .pointer (some ⟨g1, 0, none⟩), .pointer (some ⟨g2, 0, none⟩)] W fun e W' => (∃ v, e = .returned v) ∧ ((∃ xs : List Unit, xs.length = 1 ∧ J xs W') ∨ (∃ pre : List Unit, True ∧ Jx pre W')) := by
  obtain ⟨bv, ov, rfl, _, hcv⟩ := hv.at_ (k := 0) (by omega)
  obtain ⟨xs, lo, hi, st, ho, tr, rv⟩ := x
  simp only [Crit.c] at hc
  have HY := Lib.hid hY
  have HJ := Lib.hid hJ
  have H1 := Lib.hid h1
  have H2 := Lib.hid h2
  have HC := Lib.hid hc
  have HCV := Lib.hid hcv
  have HJ0 := Lib.hid h0
  have k1 : W.cell? ⟨g1, 0, none⟩ = some (.slice (some ⟨gc, 0, none⟩) 1 1) := h1.cell 0
  have k2 : W.cell? ⟨g2, 0, none⟩ = some (.slice (some ⟨bv, ov, none⟩) 1 cv) := h2.cell 0
  clear hY hJ h1 h2 hc hv hcv h0
  go_enter Tryz.func67, Tryz.ntmps67
  go_wp2_with fail
  clear k1 k2
  go_loopw [10] (fun i wr => ∃ (k : Nat) (pre : List Unit), k ≤ 1 ∧ i = .int .i64 k ∧ pre.length = k ∧ J pre wr ∧ (k = 0 → wr = W)) (fun i _ => 1 - (intOf i).toNat)
  case atStart => exact ⟨0, [], by omega, rfl, rfl, HJ0.out, fun _ => rfl⟩
  case round =>
    clear HJ0
    obtain ⟨k, pre, hk, rfl, hpl, hJp, hW⟩ := hrel
    have HPL := Lib.hid hpl
    have HJP := Lib.hid hJp
    rcases Nat.eq_zero_or_pos k with rfl | hpos
    rotate_left
    · obtain rfl : k = 1 := by omega
      clear hW hpl hJp
      go_wp2_with fail
      go_end0
      exact ⟨⟨_, rfl⟩, .inl ⟨pre, HPL.out, HJP.out⟩⟩
    obtain rfl := hW rfl
    clear hW hpl hJp
    have g1' : decide (((0 : Nat) : Int) < 1) = true := by decide
    go_upto_region 3 with fail
    refine (wpIn_wide (n := n)).1 ?_
    refine wpIn_region_heldIn (fun W' => W'.cell? ⟨g1, 0, none⟩ = some (.slice (some ⟨gc, 0, none⟩) 1 1) ∧ W'.cell? ⟨g2, 0, none⟩ = some (.slice (some ⟨bv, ov, none⟩) 1 cv) ∧ W'.cell? ⟨gc, 0, none⟩ = some (.string xs) ∧ W'.cell? ⟨gc, 1, none⟩ = some (.int .i64 lo) ∧ W'.cell? ⟨gc, 2, none⟩ = some (.int .i64 hi) ∧ W'.cell? ⟨gc, 3, none⟩ = some (.int .i64 st) ∧ W'.cell? ⟨gc, 4, none⟩ = some (.int .i64 ho) ∧ W'.cell? ⟨gc, 5, none⟩ = some (.int .i64 tr) ∧ W'.cell? ⟨gc, 6, none⟩ = some (.bool rv) ∧ W'.cell? ⟨bv, ov, none⟩ = some (.int .i64 m)) [0, 1, 2, 3, 4, 5, 6, 7, 8] (by kernel_rfl)
      ⟨H1.out.cell 0, H2.out.cell 0, HC.out.cell 0, HC.out.cell 1, HC.out.cell 2, HC.out.cell 3, HC.out.cell 4, HC.out.cell 5, HC.out.cell 6, HCV.out⟩ (fun hS => ?_)
    refine heldIn_take (i := 0) (v := .func (.yield l) #[] #[]) rfl (by kernel_rfl) rfl (fun _ _ _ h => h) ⟨Or.inl ⟨by rfl, fun W' hS' => by go_simp⟩, fun w => rfl⟩ hS ?_
    try simp only [Act.put, List.getElem_toArray, List.getElem_cons_zero, List.getElem_cons_succ, List.setIfInBounds_toArray, List.set_cons_zero, List.set_cons_succ]
    refine heldIn_take (i := 1) (v := .slice (some ⟨gc, 0, none⟩) 1 1) rfl (by kernel_rfl) rfl (fun _ _ _ h => h) ⟨Or.inl ⟨by rfl, fun W' hS' => by obtain ⟨q0, q1, q2, q3, q4, q5, q6, q7, q8, q9⟩ := hS'; go_simp⟩, fun w => rfl⟩ hS ?_
    try simp only [Act.put, List.getElem_toArray, List.getElem_cons_zero, List.getElem_cons_succ, List.setIfInBounds_toArray, List.set_cons_zero, List.set_cons_succ]
    refine heldIn_take (i := 2) (v := .int .i64 0) rfl (by kernel_rfl) rfl (fun _ _ _ h => h) ⟨Or.inl ⟨by rfl, fun W' hS' => by go_simp⟩, fun w => rfl⟩ hS ?_
    try simp only [Act.put, List.getElem_toArray, List.getElem_cons_zero, List.getElem_cons_succ, List.setIfInBounds_toArray, List.set_cons_zero, List.set_cons_succ]
    refine heldIn_take (i := 3) (v := .pointer (some ⟨gc, 0, none⟩)) rfl (by kernel_rfl) rfl (fun _ _ _ h => h) ⟨Or.inl ⟨by rfl, fun W' hS' => by go_simp⟩, fun w => rfl⟩ hS ?_
    try simp only [Act.put, List.getElem_toArray, List.getElem_cons_zero, List.getElem_cons_succ, List.setIfInBounds_toArray, List.set_cons_zero, List.set_cons_succ]
    refine heldIn_take (i := 4) (v := .agg (critC xs lo hi st ho tr rv)) rfl (by kernel_rfl) rfl (fun _ _ _ h => h) ⟨Or.inl ⟨by rfl, fun W' hS' => by obtain ⟨q0, q1, q2, q3, q4, q5, q6, q7, q8, q9⟩ := hS'; go_simp⟩, fun w => rfl⟩ hS ?_
    try simp only [Act.put, List.getElem_toArray, List.getElem_cons_zero, List.getElem_cons_succ, List.setIfInBounds_toArray, List.set_cons_zero, List.set_cons_succ]
    refine heldIn_take (i := 5) (v := .slice (some ⟨bv, ov, none⟩) 1 cv) rfl (by kernel_rfl) rfl (fun _ _ _ h => h) ⟨Or.inl ⟨by rfl, fun W' hS' => by obtain ⟨q0, q1, q2, q3, q4, q5, q6, q7, q8, q9⟩ := hS'; go_simp⟩, fun w => rfl⟩ hS ?_
    try simp only [Act.put, List.getElem_toArray, List.getElem_cons_zero, List.getElem_cons_succ, List.setIfInBounds_toArray, List.set_cons_zero, List.set_cons_succ]
    refine heldIn_take (i := 6) (v := .int .i64 0) rfl (by kernel_rfl) rfl (fun _ _ _ h => h) ⟨Or.inl ⟨by rfl, fun W' hS' => by go_simp⟩, fun w => rfl⟩ hS ?_
    try simp only [Act.put, List.getElem_toArray, List.getElem_cons_zero, List.getElem_cons_succ, List.setIfInBounds_toArray, List.set_cons_zero, List.set_cons_succ]
    refine heldIn_take (i := 7) (v := .pointer (some ⟨bv, ov, none⟩)) rfl (by kernel_rfl) rfl (fun _ _ _ h => h) ⟨Or.inl ⟨by rfl, fun W' hS' => by go_simp⟩, fun w => rfl⟩ hS ?_
    try simp only [Act.put, List.getElem_toArray, List.getElem_cons_zero, List.getElem_cons_succ, List.setIfInBounds_toArray, List.set_cons_zero, List.set_cons_succ]
    refine heldIn_take (i := 8) (v := .int .i64 m) rfl (by kernel_rfl) rfl (fun _ _ _ h => h) ⟨Or.inl ⟨by rfl, fun W' hS' => by obtain ⟨q0, q1, q2, q3, q4, q5, q6, q7, q8, q9⟩ := hS'; go_simp⟩, fun w => rfl⟩ hS ?_
    try simp only [Act.put, List.getElem_toArray, List.getElem_cons_zero, List.getElem_cons_succ, List.setIfInBounds_toArray, List.set_cons_zero, List.set_cons_succ]
    have hbd : Below wr.heap.size wr wr.drew := (Below.refl _ _).drew
    obtain ⟨fn, tmps, assign, body, hy, hRr⟩ := HY.out pre () wr.drew (HJ.out _ _ HJP.out) (List.length_eq_zero_iff.1 HPL.out) (by have := HPL.out; omega)
    have hy' : (Instr.yield l #[.agg (critC xs lo hi st ho tr rv), .int .i64 m]).run Tryz.prog wr.drew = .ok (.round l fn tmps assign body) wr.drew := hy
    clear hy hbd
    refine heldIn_one (i := 9) (by kernel_rfl) rfl (by rfl) (by rfl) (fun Kq hKq => ?_)
    refine ⟨fun f _ => trivial, ?_⟩
    go_simp
    refine ⟨fun h => (by cases h), hRr.mono ?_⟩
    rintro e5 W5 (⟨rfl, hJ5, hk5⟩ | ⟨rfl, hJx5⟩)
    · refine hKq _ _ ?_
      clear hKq Kq
      try simp only [Act.put, List.getElem_toArray, List.getElem_cons_zero, List.getElem_cons_succ, List.setIfInBounds_toArray, List.set_cons_zero, List.set_cons_succ]
      refine heldIn_one (i := 10) (by kernel_rfl) rfl (by rfl) (by rfl) (fun Kq hKq => ?_)
      refine opIn_wide ?_
      go_simp
      refine hKq _ _ ?_
      clear hKq Kq
      try simp only [Act.put, List.getElem_toArray, List.getElem_cons_zero, List.getElem_cons_succ, List.setIfInBounds_toArray, List.set_cons_zero, List.set_cons_succ]
      refine heldIn_done (by kernel_rfl) ?_
      go_wp2_with fail
      go_roundw
      case rel => exact ⟨1, pre ++ [()], by omega, by go_num, by rw [List.length_append, List.length_singleton, HPL.out], hJ5, fun h => by omega⟩
      case measure => simp [intOf]
    · refine hKq _ _ ?_
      clear hKq Kq
      try simp only [Act.put, List.getElem_toArray, List.getElem_cons_zero, List.getElem_cons_succ, List.setIfInBounds_toArray, List.set_cons_zero, List.set_cons_succ]
      refine heldIn_one (i := 10) (by kernel_rfl) rfl (by rfl) (by rfl) (fun Kq hKq => ?_)
      refine opIn_wide ?_
      go_simp
      refine hKq _ _ ?_
      clear hKq Kq
      try simp only [Act.put, List.getElem_toArray, List.getElem_cons_zero, List.getElem_cons_succ, List.setIfInBounds_toArray, List.set_cons_zero, List.set_cons_succ]
      refine heldIn_done (by kernel_rfl) ?_
      go_wp2_with fail
      refine bodyPost_ret (results_none rfl _ _ _) rfl ?_
      exact ⟨⟨_, rfl⟩, .inr ⟨_, trivial, hJx5⟩⟩
theorem zipI1_stops (n g1 g2 gc : Nat) (t1 t2 tc : TypeId) (x : Crit) (m : Int) (Av : Option Addr) (cv : Nat) (W0 : World) (h1 : Blk W0 g1 t1 #[.slice (some ⟨gc, 0, none⟩) 1 1]) (h2 : Blk W0 g2 t2 #[.slice Av 1 cv]) (hc : Blk W0 gc tc x.c) (hv : Rd W0 W0.heap.size Av 1 (fun _ => .int .i64 m)) :
    SeqB Fence.wide n Tryz.prog 67 #[.pointer (some ⟨g1, 0, none⟩), .pointer (some ⟨g2, 0, none⟩)] (zipEnc x (.int .i64 m)) (fun _ _ => True) (fun _ => True) (fun pre _ _ => pre = []) (fun xs => xs.length = 1) (fun _ => True) 1 W0 := fun l J Jx W hW hJ _ _ hY h0 =>
  callsIn_wide.2 (zipI1_in n l g1 g2 gc t1 t2 tc x m Av cv J Jx W (fun s A h => hJ s A A.drew h (Below.refl _ A).drew) hY (h1.below hW h1.lt) (h2.below hW h2.lt) (hc.below hW hc.lt) ((hv.below hW).more hW.size) h0)
theorem zipI1_V (n g1 g2 gc : Nat) (t1 t2 tc : TypeId) (x : Crit) (m : Int) (Av : Option Addr) (cv : Nat) (W0 : World) (h1 : Blk W0 g1 t1 #[.slice (some ⟨gc, 0, none⟩) 1 1]) (h2 : Blk W0 g2 t2 #[.slice Av 1 cv]) (hc : Blk W0 gc tc x.c) (hv : Rd W0 W0.heap.size Av 1 (fun _ => .int .i64 m)) :
    SeqV Fence.wide n Tryz.prog 67 #[.pointer (some ⟨g1, 0, none⟩), .pointer (some ⟨g2, 0, none⟩)] (zipEnc x (.int .i64 m)) (fun _ _ => True) none (fun _ => True) (fun pre _ _ => pre = []) (fun xs => xs.length = 1) (fun _ => True) (fun _ _ => True) 1 W0 := fun l J Jx W hW hJ _ _ hY h0 =>
  callsIn_wide.2 ((zipI1_in n l g1 g2 gc t1 t2 tc x m Av cv J Jx W (fun s A h => hJ s A A.drew none h (grown_of_below1 (Below.refl _ A).drew) (fun r e => by cases e)) hY (h1.below hW h1.lt) (h2.below hW h2.lt) (hc.below hW hc.lt) ((hv.below hW).more hW.size) h0).mono fun e W' h => by
    rcases h with ⟨h1, ⟨xs, h2, h3⟩ | h2⟩
    · exact ⟨h1, .inl ⟨xs, h2, h3, trivial⟩⟩
    · exact ⟨h1, .inr h2⟩)
end Go.Proofs.YtkkcbkfpaoldmaaGreatDoor

/- A loop over an iterator that hands out one element and is not left. -/
namespace Go.Proofs.YtkkcbkfpaoldmaaGreatDoor
open Go Go.RowKit

/-- Behind the only round. -/
def onePost (B : Nat) (R : World → Prop) (W : World) (ex : Exit) (_ : Act) (W3 : World) : Prop := match ex with
  | .normal => KeepsFrom B W W3 ∧ R W3
  | _ => False
section
variable {F : Fence} {n : Nat} {P : Program}
theorem wpIn_range1 {g : Operand} {ps : Array Tmp} {assign body : Code} {Q : Exit → Act → World → Prop} {a : Act} {w : World} (hro : F.round = none) (h1 : 1 ≤ n) {gf : Nat} {lb : Array Value} (hg : a.eval g = .func (.func gf) #[] lb) (hFg : F.fn gf)
    (eg : ∀ args w, (callFunc gf args).run P w = .ok (.enter gf args) w) {encs : Unit → Array Value} {w0 : World}
    (hseq : SeqB F (n - 1) P gf lb encs (fun _ _ => True) (fun _ => True) (fun pre _ _ => pre = []) (fun xs => xs.length = 1) (fun _ => True) 1 w0) (hb0 : Below w0.heap.size w0 w) (hps : (encs ()).size = ps.size)
    (I0 R : World → Prop) (hI : ∀ A B, I0 A → Below w.heap.size A B → I0 B) (hR : ∀ A B, R A → Below w.heap.size A B → R B) (h0 : I0 w)
    (Ax : Act → World → Prop) (hAx : ∀ a' X Y row, Ax a' X → X.grownBy Y row → (∀ r, row = some r → ∃ o : Obj, X.heap[r]? = some o ∧ o.isCells = false) → Ax a' Y)
    (hassign : ∀ (l : Nat) (W : World) (K : Act → World → Prop), I0 W → (∀ a' W', KeepsFrom w.heap.size W W' → I0 W' → Ax a' W' → K a' W') →
      assign.wpIn (F.inRound l) (n - 1 - 1) P (Exit.then K (fun _ _ _ => False)) { tmps := (ps.zip (encs ())).foldl (fun t (p, v) => t.setIfInBounds p v) a.tmps, defers := [] } W)
    (hbody : ∀ (l : Nat) (a' : Act) (W : World), I0 W → Ax a' W → body.wpIn (F.inRound l) (n - 1 - 1) P (onePost w.heap.size R W) a' W)
    (hdone : ∀ (D : Nat) (W : World), w.heap.size ≤ D → R W → W.heap[D]? = some (.deferred (some [])) → Q .normal { a with defers := { target := .collected D, args := #[] } :: a.defers } W) :
    (Code.rangeFunc g ps assign body).wpIn F n P Q a w := by
  refine wpIn_rangeB hro h1 hg hFg eg hseq (fun _ _ => trivial) (fun _ _ _ _ _ _ _ _ => trivial) hb0 (fun _ => hps)
    (fun pre W => (pre = [] → I0 W) ∧ (pre ≠ [] → R W)) (fun _ _ _ => False) (fun s A B h hb => ⟨fun e => hI _ _ (h.1 e) hb, fun e => hR _ _ (h.2 e) hb⟩) (fun _ _ _ _ h => h.elim) (fun _ _ _ => trivial) ⟨fun _ => h0, fun h => absurd rfl h⟩
    (fun pre _ a' W => pre = [] ∧ Ax a' W) ?_ ?_ ?_ ?_ ?_
  · intro pre x a' s X Y row ⟨hp, hs⟩ hg hr
    refine ⟨hp, hAx a' X Y row hs hg fun r e => ?_⟩
    rcases hr r e with ⟨_, o, ho, hk⟩ | h
    · exact ⟨o, ho, by simpa [noCells] using hk⟩
    · cases h
  · intro l pre x W K hi hp hK
    exact hassign l W K (hi.1 hp) fun a' W' k1 k2 k3 => hK a' W' k1 trivial ⟨fun _ => k2, fun h => absurd hp h⟩ ⟨hp, k3⟩
  · intro l pre x a' W hi ⟨hp, hax⟩ _
    refine wpIn_mono (hbody l a' W (hi.1 hp) hax) fun ex a3 W3 h => ?_
    cases ex with
    | normal => exact ⟨h.1, trivial, (fun e => by simp at e), fun _ => h.2⟩
    | _ => exact h.elim
  · intro D xs W hD hx hi hK
    exact hdone D W hD (hi.2 (by intro e; rw [e] at hx; cases hx)) hK
  · intro D c pre W _ _ h _
    exact h.elim
end
end Go.Proofs.YtkkcbkfpaoldmaaGreatDoor

/- A loop over an iterator that hands out one element and is not left; what the round leaves behind may lie in new blocks. -/
namespace Go.Proofs.YtkkcbkfpaoldmaaGreatDoor
open Go Go.RowKit

/-- It holds on where blocks are added, and blocks that hold no cells turn, from B on. -/
def Bears1 (B : Nat) (I : World → Prop) : Prop := ∀ A C row, I A → A.grownBy C row → (∀ r, row = some r → B ≤ r ∧ ∃ o : Obj, A.heap[r]? = some o ∧ o.isCells = false) → I C
theorem rd_kept {A C : World} {X : Option Addr} {n : Nat} {f : Nat → Value} {row : Option Nat} (h : Rd A A.heap.size X n f) (hg : A.grownBy C row) (hr : ∀ r, row = some r → ∃ o : Obj, A.heap[r]? = some o ∧ o.isCells = false) : Rd C C.heap.size X n f := fun hl => by
  obtain ⟨b, off, e, hb, hc⟩ := h hl
  exact ⟨b, off, e, Nat.lt_of_lt_of_le hb hg.size, fun k hk => cell_kept (hc k hk) hg hr⟩
theorem below_kept1 {H B : Nat} {w0 A C : World} {row : Option Nat} (h : Below H w0 A) (hg : A.grownBy C row) (hr : ∀ r, row = some r → B ≤ r) (hB : H ≤ B) (hA : H ≤ A.heap.size) : Below H w0 C :=
  h.trans ⟨hg.os, hg.tape, hg.output, hg.size, fun i hi => hg.block i (by omega) (fun e => by have := hr i e.symm; omega)⟩
section
variable {F : Fence} {n : Nat} {P : Program}
theorem wpIn_range1V {g : Operand} {ps : Array Tmp} {assign body : Code} {Q : Exit → Act → World → Prop} {a : Act} {w : World} (hro : F.round = none) (h1 : 1 ≤ n) {gf : Nat} {lb : Array Value} (hg : a.eval g = .func (.func gf) #[] lb) (hFg : F.fn gf)
    (eg : ∀ args w, (callFunc gf args).run P w = .ok (.enter gf args) w) {encs : Unit → Array Value} {w0 : World}
    (hseq : SeqV F (n - 1) P gf lb encs (fun _ _ => True) none (fun _ => True) (fun pre _ _ => pre = []) (fun xs => xs.length = 1) (fun _ => True) (fun _ _ => True) 1 w0) (hb0 : Below w0.heap.size w0 w) (hps : (encs ()).size = ps.size)
    (I0 R : World → Prop) (hI : Bears1 w.heap.size I0) (hR : Bears1 w.heap.size R) (h0 : I0 w)
    (Ax : Act → World → Prop) (hAx : ∀ a' X Y row, Ax a' X → X.grownBy Y row → (∀ r, row = some r → ∃ o : Obj, X.heap[r]? = some o ∧ o.isCells = false) → Ax a' Y)
    (hassign : ∀ (l : Nat) (W : World) (K : Act → World → Prop), I0 W → (∀ a' W', KeepsFrom w.heap.size W W' → I0 W' → Ax a' W' → K a' W') →
      assign.wpIn (F.inRound l) (n - 1 - 1) P (Exit.then K (fun _ _ _ => False)) { tmps := (ps.zip (encs ())).foldl (fun t (p, v) => t.setIfInBounds p v) a.tmps, defers := [] } W)
    (hbody : ∀ (l : Nat) (a' : Act) (W : World), I0 W → Ax a' W → body.wpIn (F.inRound l) (n - 1 - 1) P (onePost w.heap.size R W) a' W)
    (hdone : ∀ (D : Nat) (W : World), w.heap.size ≤ D → R W → W.heap[D]? = some (.deferred (some [])) → Q .normal { a with defers := { target := .collected D, args := #[] } :: a.defers } W) :
    (Code.rangeFunc g ps assign body).wpIn F n P Q a w := by
  have hrr : ∀ (X : World) (row : Option Nat), (∀ r, row = some r → (w.heap.size ≤ r ∧ ∃ o : Obj, X.heap[r]? = some o ∧ noCells o = true) ∨ (none : Option Nat) = some r) → ∀ r, row = some r → w.heap.size ≤ r ∧ ∃ o : Obj, X.heap[r]? = some o ∧ o.isCells = false := fun X row hr r e => by
    rcases hr r e with ⟨hb, o, ho, hk⟩ | h
    · exact ⟨hb, o, ho, by simpa [noCells] using hk⟩
    · cases h
  refine wpIn_rangeV hro h1 hg hFg eg hseq (fun _ h => by cases h) (fun _ _ => trivial) (fun _ _ _ _ _ _ _ _ => trivial) hb0 (fun _ => hps)
    (fun pre W => (pre = [] → I0 W) ∧ (pre ≠ [] → R W)) (fun _ _ _ => False) (fun s A B row h hg' hr => ⟨fun e => hI _ _ row (h.1 e) hg' (hrr A row hr), fun e => hR _ _ row (h.2 e) hg' (hrr A row hr)⟩) (fun _ _ _ _ _ h => h.elim) (fun _ _ _ _ _ _ _ => trivial) (fun _ _ _ => trivial) ⟨fun _ => h0, fun h => absurd rfl h⟩
    (fun pre _ a' W => pre = [] ∧ Ax a' W) ?_ ?_ ?_ ?_ ?_
  · intro pre x a' s X Y row ⟨hp, hs⟩ hg' hr
    exact ⟨hp, hAx a' X Y row hs hg' fun r e => (hrr X row hr r e).2⟩
  · intro l pre x W K hi hp hK
    exact hassign l W K (hi.1 hp) fun a' W' k1 k2 k3 => hK a' W' k1 trivial ⟨fun _ => k2, fun h => absurd hp h⟩ ⟨hp, k3⟩
  · intro l pre x a' W hi ⟨hp, hax⟩ _
    refine wpIn_mono (hbody l a' W (hi.1 hp) hax) fun ex a3 W3 h => ?_
    cases ex with
    | normal => exact ⟨h.1, trivial, (fun e => by simp at e), fun _ => h.2⟩
    | _ => exact h.elim
  · intro D xs W hD hx hi _ hK
    exact hdone D W hD (hi.2 (by intro e; rw [e] at hx; cases hx)) hK
  · intro D c pre W _ _ h _
    exact h.elim
end
end Go.Proofs.YtkkcbkfpaoldmaaGreatDoor

/- Walk: sheets.Check of a valid sheet and one criterion. -/
namespace Go.Proofs.YtkkcbkfpaoldmaaGreatDoor
open Go Go.RowKit Go.Shelf
attribute [local go_sem] Oper.semAt_some

theorem critSize : (Tryz.prog.info? 23).map (·.size) = some 7 := by kernel_rfl
section
variable {ops : Array Oper} {rest : List Oper} {o : Oper} {a : Act} {Q : Exit → Act → World → Prop}
theorem store_crit (hgd : o.guard = none) (p y : Operand) (ho : o.op = .store 23 p y) {w : World} {g : Nat} {c : Array Value} {tt : TypeId} (hg : Blk w g tt c) (s : ByteArray) (lo hi st ho' tr : Int) (rv : Bool)
    (hx : a.eval p = .pointer (some ⟨g, 0, none⟩)) (hy : a.eval y = .agg (critC s lo hi st ho' tr rv)) (hold : c.size = 7)
    (h : ∀ w', Blk w' g tt (critC s lo hi st ho' tr rv) → Only w w' g → w'.heap.size = w.heap.size → wpList Tryz.prog ops Q rest (a.put o.dst undef) w') : wpList Tryz.prog ops Q (o :: rest) a w :=
  wpList_store_row hgd _ p y ho g _ hx hy tt c hg critSize (by rw [hold]; rfl) (by simp [Value.oneCell'])
    (h _ (setRow_heap w g c _ tt _ hg) ⟨rfl, rfl, rfl, by simp, fun i _ hne => setRow_other w g i _ (fun e => hne (by rw [e]))⟩ (by simp))
end
theorem gen_act {c : Code} {F : Fence} {n : Nat} {P : Program} {Q : Exit → Act → World → Prop} {a : Act} {w : World} (h : ∀ a0, a0 = a → c.wpIn F n P Q a0 w) : c.wpIn F n P Q a w := h a rfl
/-- The cells of a sheet. -/
abbrev sheetC (no rd en ju : Int) (Ab : Option Addr) (kb : Nat) : Array Value := #[.int .i64 no, .int .i64 rd, .int .i64 en, .int .i64 ju, .slice Ab 1 kb]
set_option maxRecDepth 100000 in
set_option linter.unusedSimpArgs false in
set_option linter.unusedVariables false in
set_option maxHeartbeats 8000000 in
theorem shCheck_ok (x : Crit) (hx : CrOk x.lo x.hi x.st x.ho x.tr) (gc : Nat) (tc : TypeId) (no en ju : Int) (hno : 0 ≤ no ∧ no ≤ 1048576) (hen : 0 ≤ en ∧ en ≤ 4095) (hju : 0 ≤ ju ∧ ju ≤ 255) (Abx Ab : Option Addr) (kb nb cb : Nat) (bx : List Int)
    (hnb : (nb : Int) = marksN x.lo x.hi x.st) (hbr : ∀ k, k < nb → 0 ≤ bx.getD k 0 ∧ bx.getD k 0 ≤ 2) (w0 : World) (hc : Blk w0 gc tc x.c) (hv : Rd w0 w0.heap.size Abx 1 (fun _ => .slice Ab nb cb)) (hb : Rd w0 w0.heap.size Ab nb (fun k => .int .i64 (bx.getD k 0))) :
    Calls Tryz.prog 64 #[.slice (some ⟨gc, 0, none⟩) 1 1, .agg (sheetC no 0 en ju Abx kb)] w0 (Ret (.int .i64 0) w0) := by
  obtain ⟨xs, lo, hi, st, ho, tr, rv⟩ := x
  simp only [Crit.c] at hc
  simp only at hx hnb
  have HC := Lib.hid hc
  have HV := Lib.hid hv
  have HB := Lib.hid hb
  have HBR := Lib.hid hbr
  have hgc := hc.lt
  have HBT := Lib.hid (fun W => better_ok xs lo hi st ho tr rv hx lo ⟨by omega, by have := hx.lh; omega, by simp⟩ W)
  have hmr := marks_range hx
  rw [← hnb] at hmr
  have k1 := hx.l0
  have k2 := hx.lh
  have k3 := hx.h1
  have k4 := hx.s1
  have hnm : 2 ≤ nb ∧ nb ≤ 1001 := by omega
  have hprod : ((nb : Int) - 1) * st = hi - lo := hmr.2.2
  have hw1 : wrap64 (hi - lo) = hi - lo := wrap_in _ (by omega)
  clear hc hv hb hbr hx hnb hmr
  refine (callsIn_wide (n := 5)).1 ?_
  refine callsIn_of_wp_marks Tryz.func64 rfl trivial ?_ rfl
  simp only [Tryz.ntmps64, List.size_toArray, List.length_cons, List.length_nil, Nat.reduceAdd, Nat.reduceSub, Array.replicate_succ, Array.replicate_zero, List.push_toArray, List.append_toArray, List.nil_append, List.cons_append]
  refine wpIn_wide.2 ?_
  go_wp2_with fail
  obtain ⟨H, hH⟩ : ∃ H, H = w0.heap.size := ⟨_, rfl⟩
  have HH := Lib.hid hH
  have hB0 : Below H w0 ((w0.alloc (.cells (sheetC no 0 en ju Abx kb) 46)).alloc (.cells #[.int .i64 0] 32)) := by rw [hH]; exact ((Below.refl _ _).alloc (Nat.le_refl _) _).alloc (by simp) _
  have hS0 : Blk ((w0.alloc (.cells (sheetC no 0 en ju Abx kb) 46)).alloc (.cells #[.int .i64 0] 32)) H 46 (sheetC no 0 en ju Abx kb) := by rw [hH]; exact (Blk.new _ _ _).alloc _
  have hE0 : Blk ((w0.alloc (.cells (sheetC no 0 en ju Abx kb) 46)).alloc (.cells #[.int .i64 0] 32)) (H + 1) 32 #[.int .i64 0] := by rw [hH]; exact Blk.new' _ _ _ (by simp)
  rw [← hH]
  clear hH
  go_loopw [18] (fun i wr => ∃ k : Nat, k ≤ 1 ∧ i = .int .i64 k ∧ Blk wr H 46 (sheetC no 0 en ju Abx kb) ∧ Blk wr (H + 1) 32 #[.int .i64 0] ∧ Below H w0 wr) (fun i _ => 1 - (intOf i).toNat)
  case atStart => exact ⟨0, by omega, rfl, hS0, hE0, hB0⟩
  case round =>
    clear hS0 hE0 hB0
    obtain ⟨k, hk, rfl, hS, hE, hB⟩ := hrel
    have HS := Lib.hid hS
    have HE := Lib.hid hE
    have HBB := Lib.hid hB
    have hCw := HC.out.below hB (by rw [HH.out]; exact hgc)
    clear hS hE hB
    rcases Nat.eq_zero_or_pos k with rfl | hpos
    · have q0 : wr.cell? ⟨gc, 0, none⟩ = some (.string xs) := hCw.cell 0
      have q1 : wr.cell? ⟨gc, 1, none⟩ = some (.int .i64 lo) := hCw.cell 1
      have q2 : wr.cell? ⟨gc, 2, none⟩ = some (.int .i64 hi) := hCw.cell 2
      have q3 : wr.cell? ⟨gc, 3, none⟩ = some (.int .i64 st) := hCw.cell 3
      have q4 : wr.cell? ⟨gc, 4, none⟩ = some (.int .i64 ho) := hCw.cell 4
      have q5 : wr.cell? ⟨gc, 5, none⟩ = some (.int .i64 tr) := hCw.cell 5
      have q6 : wr.cell? ⟨gc, 6, none⟩ = some (.bool rv) := hCw.cell 6
      clear hCw
      go_upto_region 6 with (refine store_crit rfl _ _ rfl (Blk.new wr 23 _) xs lo hi st ho tr rv rfl rfl rfl ?_; intro w5 bx5 hO hz; have hk5 : Below wr.heap.size wr w5 := ((Below.refl _ wr).alloc (Nat.le_refl _) _).trans (hO.toBelow (by simp) (Nat.le_refl _)); clear hO hz)
      obtain ⟨g6, hg6⟩ : ∃ g, g = wr.heap.size := ⟨_, rfl⟩
      rw [← hg6] at bx5 ⊢
      have HS5 := Lib.hid (HS.out.below hk5 HS.out.lt)
      have HE5 := Lib.hid (HE.out.below hk5 HE.out.lt)
      have HB5 := Lib.hid (HBB.out.trans (hk5.mono (by have h1 := HBB.out.size; have h2 := HH.out; omega)))
      clear hg6 q0 q1 q2 q3 q4 q5 q6 hk5
      have q0 : w5.cell? ⟨g6, 0, none⟩ = some (.string xs) := bx5.cell 0
      have q1 : w5.cell? ⟨g6, 1, none⟩ = some (.int .i64 lo) := bx5.cell 1
      have q2 : w5.cell? ⟨g6, 2, none⟩ = some (.int .i64 hi) := bx5.cell 2
      have q3 : w5.cell? ⟨g6, 3, none⟩ = some (.int .i64 st) := bx5.cell 3
      have q4 : w5.cell? ⟨g6, 4, none⟩ = some (.int .i64 ho) := bx5.cell 4
      have q5 : w5.cell? ⟨g6, 5, none⟩ = some (.int .i64 tr) := bx5.cell 5
      have q6 : w5.cell? ⟨g6, 6, none⟩ = some (.bool rv) := bx5.cell 6
      go_wp2_with fail
      refine (HBT.out w5).mono ?_
      rintro e w6 ⟨rfl, hb6⟩
      have HS6 := Lib.hid (HS5.out.below hb6 HS5.out.lt)
      have HE6 := Lib.hid (HE5.out.below hb6 HE5.out.lt)
      have HB6 := Lib.hid (HB5.out.trans (hb6.mono (by have h1 := HB5.out.size; have h2 := HH.out; omega)))
      clear q0 q1 q2 q3 q4 q5 q6 hb6 bx5
      go_wp2_with fail
      go_roundw
      case rel => exact ⟨1, by omega, by go_num, HS6.out, HE6.out, HB6.out⟩
      case measure => simp [intOf]
    · obtain rfl : k = 1 := by omega
      have s0 : wr.cell? ⟨H, 0, none⟩ = some (.int .i64 no) := HS.out.cell 0
      have s1 : wr.cell? ⟨H, 1, none⟩ = some (.int .i64 0) := HS.out.cell 1
      have s2 : wr.cell? ⟨H, 2, none⟩ = some (.int .i64 en) := HS.out.cell 2
      have s3 : wr.cell? ⟨H, 3, none⟩ = some (.int .i64 ju) := HS.out.cell 3
      have s4 : wr.cell? ⟨H, 4, none⟩ = some (.slice Abx 1 kb) := HS.out.cell 4
      go_wp2_with fail
      refine (between_ok no 0 1048576 hno.1 hno.2 wr).mono ?_
      rintro e w1 ⟨rfl, rfl⟩
      go_wp2_with fail
      refine (between_ok 0 0 7 (by omega) (by omega) wr).mono ?_
      rintro e w1 ⟨rfl, rfl⟩
      go_wp2_with fail
      refine (between_ok en 0 4095 hen.1 hen.2 wr).mono ?_
      rintro e w1 ⟨rfl, rfl⟩
      go_wp2_with fail
      refine (between_ok ju 0 255 hju.1 hju.2 wr).mono ?_
      rintro e w1 ⟨rfl, rfl⟩
      go_wp2_with fail
      refine (zipB_any (some ⟨gc, 0, none⟩) Abx 1 1 1 kb wr).mono ?_
      rintro e w2 ⟨rfl, hw2⟩
      have hb2 : Below wr.heap.size wr w2 := by rw [hw2]; exact ((Below.refl _ _).alloc (Nat.le_refl _) _).alloc (by simp) _
      have z1 : Blk w2 wr.heap.size 44 #[.slice (some ⟨gc, 0, none⟩) 1 1] := by rw [hw2]; exact (Blk.new _ _ _).alloc _
      have z2 : Blk w2 (wr.heap.size + 1) 24 #[.slice Abx 1 kb] := by rw [hw2]; exact Blk.new' _ _ _ (by simp)
      have hB2 : Below H w0 w2 := HBB.out.trans (hb2.mono (by have h1 := HBB.out.size; have h2 := HH.out; omega))
      have hB2w : Below w0.heap.size w0 w2 := by rw [← HH.out]; exact hB2
      have hE2 := HE.out.below hb2 HE.out.lt
      have hsH : H + 1 < wr.heap.size := HE.out.lt
      have HSEQ := Lib.hid (zipB1_stops 4 wr.heap.size (wr.heap.size + 1) gc _ _ tc ⟨xs, lo, hi, st, ho, tr, rv⟩ Ab nb cb Abx kb w2 z1 z2 (HC.out.below hB2w hgc) ((HV.out.below hB2w).more hB2w.size))
      have hz2 : wr.heap.size ≤ w2.heap.size := hb2.size
      have HI0 := Lib.hid (show Blk w2 (H + 1) 32 #[.int .i64 0] ∧ Below H w0 w2 from ⟨hE2, hB2⟩)
      clear hw2 hb2 z1 z2 hB2 hB2w hE2 s0 s1 s2 s3 s4 hCw
      go_wp2_with fail
      refine (wpIn_wide (n := 5)).1 ?_
      refine gen_act fun a0 ha0 => ?_
      have HA0 := Lib.hid ha0
      refine wpIn_range1 rfl (by omega) (gf := 92) (lb := #[.pointer (some ⟨wr.heap.size, 0, none⟩), .pointer (some ⟨wr.heap.size + 1, 0, none⟩)]) (by rw [HA0.out]; rfl) trivial (enters_of Tryz.func92 (by kernel_rfl) rfl) HSEQ.out (Below.refl _ _) rfl
        (fun W => Blk W (H + 1) 32 #[.int .i64 0] ∧ Below H w0 W) (fun W => Blk W (H + 1) 32 #[.int .i64 0] ∧ Below H w0 W)
        (fun A B h hb => ⟨h.1.below hb (by omega), h.2.trans (hb.mono (by omega))⟩) (fun A B h hb => ⟨h.1.below hb (by omega), h.2.trans (hb.mono (by omega))⟩) HI0.out
        (fun a' W => ∃ g9, a' = { tmps := (((a0.tmps.setIfInBounds 66 (.agg (critC xs lo hi st ho tr rv))).setIfInBounds 67 (.slice Ab nb cb)).setIfInBounds 9 (.pointer (some ⟨g9, 0, none⟩))).setIfInBounds 10 (.slice Ab nb cb), defers := [] } ∧ Blk W g9 23 (critC xs lo hi st ho tr rv))
        (fun a' X Y row ⟨g9, e, h⟩ hg hr => ⟨g9, e, blk_kept h hg hr⟩) ?assign ?body ?done
      case assign =>
        rintro l W K ⟨hE, hB⟩ hK
        rw [HA0.out]
        simp only [zipEnc, Crit.c, fold2, List.setIfInBounds_toArray, List.set_cons_zero, List.set_cons_succ]
        apply wpIn_seq_k
        intro K2 hK2
        refine wpIn_region_list_of (L := [_, _]) (by kernel_rfl) ?_ ?_
        · intro ho
          obtain ⟨_, _, h⟩ := ho
          exact h
        go_wp2_with (refine store_crit rfl _ _ rfl (Blk.new W 23 _) xs lo hi st ho tr rv rfl rfl rfl ?_; intro w5 bx5 hO hz; have hk5 : Below W.heap.size W w5 := ((Below.refl _ W).alloc (Nat.le_refl _) _).trans (hO.toBelow (by simp) (Nat.le_refl _)); clear hO hz)
        refine wpIn_region_list_of (L := [_]) (by kernel_rfl) ?_ ?_
        · intro ho
          obtain ⟨_, _, h⟩ := ho
          exact h
        go_wp2_with fail
        exact hK _ _ ((keeps_of_below hk5).from _) ⟨hE.below hk5 hE.lt, hB.trans (hk5.mono (by have h1 := hB.size; have h2 := HH.out; omega))⟩ ⟨_, by rw [HA0.out]; rfl, bx5⟩
      case body =>
        rintro l a' W ⟨hE, hB⟩ ⟨g9, rfl, hb9⟩
        rw [HA0.out]
        simp only [List.setIfInBounds_toArray, List.set_cons_zero, List.set_cons_succ]
        have q1 : W.cell? ⟨g9, 1, none⟩ = some (.int .i64 lo) := hb9.cell 1
        have q2 : W.cell? ⟨g9, 2, none⟩ = some (.int .i64 hi) := hb9.cell 2
        have q3 : W.cell? ⟨g9, 3, none⟩ = some (.int .i64 st) := hb9.cell 3
        have HE := Lib.hid hE
        have HBB := Lib.hid hB
        clear hE hB hb9
        gi_wp2_with fail
        gi_loopw [82] (fun i wr => ∃ k : Nat, k ≤ nb ∧ i = .int .i64 k ∧ Below W.heap.size W wr) (fun i _ => nb - (intOf i).toNat)
        case atStart => exact ⟨0, by omega, rfl, Below.refl _ _⟩
        case round =>
          obtain ⟨k, hk, rfl, hBr⟩ := hrel
          by_cases hlt : k < nb
          · obtain ⟨bb, ob, rfl, _, hcb⟩ := (((HB.out.below (by rw [← HH.out]; exact HBB.out)).more (by have h1 := HBB.out.size; have h2 := HH.out; omega) : Rd W W.heap.size Ab nb _).below hBr).at_ (k := k) hlt
            obtain ⟨y, hy⟩ : ∃ y, y = bx.getD k 0 := ⟨_, rfl⟩
            have hyr := HBR.out k hlt
            rw [← hy] at hcb hyr
            have g1 : decide ((k : Int) < (nb : Int)) = true := decide_eq_true (by omega)
            have g1n : decide (k < nb) = true := decide_eq_true hlt
            clear hy
            gi_wp2_with fail
            refine ⟨trivial, CallsIn.inRound _ (callsIn_wide.2 ((between_ok y 0 2 hyr.1 hyr.2 wr).mono ?_))⟩
            rintro e w3 ⟨rfl, rfl⟩
            gi_wp2_with fail
            go_roundw
            case rel => exact ⟨k + 1, by omega, by go_num, hBr⟩
            case measure => simp [intOf]; omega
          · obtain rfl : k = nb := by omega
            gi_wp2_with fail
            exact ⟨(keeps_of_below hBr).from _, HE.out.below hBr HE.out.lt, HBB.out.trans (hBr.mono (by have h1 := HBB.out.size; have h2 := HH.out; omega))⟩
      case done =>
        rintro D W hD ⟨hE, hB⟩ hK
        rw [HA0.out]
        have e1 : W.cell? ⟨H + 1, 0, none⟩ = some (.int .i64 0) := hE.cell 0
        have f1 := hE.frozen 0
        have hE9 : Blk (W.setCell ⟨H + 1, 0, none⟩ (.int .i64 0)) (H + 1) 32 #[.int .i64 0] := hE.set 0 _
        have hB9 : Below H w0 (W.setCell ⟨H + 1, 0, none⟩ (.int .i64 0)) := hB.setCell (p := ⟨H + 1, 0, none⟩) (Nat.le_succ _) _
        have hK' := (KeepsOthers.setCell W ⟨H + 1, 0, none⟩ (.int .i64 0)).same D _ hK rfl
        go_wp2_with fail
        generalize W.setCell ⟨H + 1, 0, none⟩ (.int .i64 0) = W9 at hE9 hB9 hK' ⊢
        refine ⟨by simp, .inl ⟨_, _, rfl, run_takeDeferred hK', ?_⟩⟩
        have hgp := grownBy_putObj' W9 D (.deferred none)
        have hrr : ∀ r, some D = some r → ∃ o : Obj, W9.heap[r]? = some o ∧ o.isCells = false := fun r e => by cases e; exact ⟨_, hK', rfl⟩
        have hc5 : (W9.putObj D (.deferred none)).cell? ⟨H + 1, 0, none⟩ = some (.int .i64 0) := cell_kept (hE9.cell 0) hgp hrr
        refine ⟨.int .i64 0, ?_, rfl, ?_⟩
        · simp [results, Tryz.f64, go_sem, hc5]
        · rw [← HH.out]
          exact hB9.trans (belowK_b (w := w2) (by omega) W9 D _ _ hD hK' rfl rfl)
end Go.Proofs.YtkkcbkfpaoldmaaGreatDoor

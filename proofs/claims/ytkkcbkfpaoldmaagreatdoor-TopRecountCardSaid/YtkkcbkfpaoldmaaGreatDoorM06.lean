/- Several texts in one: DigEq, Ext. -/
import Derived.Test.YtkkcbkfpaoldmaaGreatDoorM05
import Derived.DeepKeys
import Derived.BigQuiet
import Derived.OrdersIn
import Derived.Deep.MidRow
/- Equality of digests; a region that only reads, within a round of a range over func. -/
namespace Go.Proofs.YtkkcbkfpaoldmaaGreatDoor
open Go Go.RowKit

theorem u8Plain : Tryz.prog.plainKey 5 = true := by kernel_rfl
theorem u8One : Tryz.prog.cellsOf 5 = 1 := by kernel_rfl
theorem u8Info : ∃ i, Tryz.prog.info? 5 = some i := by
  have h : (Tryz.prog.info? 5).isSome = true := by kernel_rfl
  exact Option.isSome_iff_exists.1 h
set_option maxRecDepth 100000 in
theorem eqItems_dig (a b : List UInt8) (dd : Nat) (w : World) : ∀ (is : List Nat), (∀ i ∈ is, i < a.length ∧ i < b.length) →
    (Op.eqItems (dd + 1) 5 1 (dig a) (dig b) is).run Tryz.prog w = .ok (decide (∀ i ∈ is, byteAt a i = byteAt b i)) w
  | [], _ => by simp [Op.eqItems]
  | i :: is, h => by
    obtain ⟨h1, h2⟩ := h i (List.mem_cons_self ..)
    have ih := eqItems_dig a b dd w is (fun j hj => h j (List.mem_cons_of_mem _ hj))
    have p1 := run_part_plain (P := Tryz.prog) w (xs := dig a) (off := i * 1) u8Plain (by rw [Nat.mul_one]; exact dig_get a i h1)
    have p2 := run_part_plain (P := Tryz.prog) w (xs := dig b) (off := i * 1) u8Plain (by rw [Nat.mul_one]; exact dig_get b i h2)
    have p3 := run_equalIn_int (P := Tryz.prog) w dd 5 .u8 .u8 (byteAt a i) (byteAt b i) Tryz.underlying5
    simp only [Op.eqItems, Sem.run_bind, p1, p2, p3, Result.andThen_ok]
    by_cases e : byteAt a i = byteAt b i
    · have eb : (byteAt a i == byteAt b i) = true := by simpa using e
      rw [eb]
      simp only [Bool.not_true, Bool.false_eq_true, if_false, ih]
      congr 1
      simp [e]
    · have eb : (byteAt a i == byteAt b i) = false := by simpa using e
      rw [eb]
      simp [e]
theorem dig_eq_iff (a b : List UInt8) (ha : a.length = 32) (hb : b.length = 32) : (∀ i ∈ List.range 32, byteAt a i = byteAt b i) ↔ a = b := by
  constructor
  · intro h
    apply List.ext_getElem (by omega)
    intro i h1 h2
    have := h i (by simp; omega)
    unfold byteAt at this
    rw [List.getD_eq_getElem?_getD, List.getD_eq_getElem?_getD, List.getElem?_eq_getElem h1, List.getElem?_eq_getElem h2] at this
    have t : ((a[i].toNat : Nat) : Int) = ((b[i].toNat : Nat) : Int) := by simpa using this
    exact UInt8.toNat_inj.1 (by omega)
  · rintro rfl i _
    rfl
set_option maxRecDepth 100000 in
theorem run_equal_dig (a b : List UInt8) (ha : a.length = 32) (hb : b.length = 32) (dd : Nat) (w : World) : (Op.equalIn (dd + 2) 31 (.agg (dig a)) (.agg (dig b))).run Tryz.prog w = .ok (decide (a = b)) w := by
  obtain ⟨i, hi⟩ := u8Info
  rw [run_equalIn_array w (dd + 1) (dig a) (dig b) Tryz.underlying31 hi, u8One, eqItems_dig a b dd w (List.range 32) (fun i hi => by simp at hi; omega)]
  congr 1
  exact decide_eq_decide.2 (dig_eq_iff a b ha hb)
set_option maxRecDepth 100000 in
theorem run_eql_dig (a b : List UInt8) (ha : a.length = 32) (hb : b.length = 32) (w : World) : (binOp .eql 31 (.agg (dig a)) (.agg (dig b))).run Tryz.prog w = .ok (.bool (decide (a = b))) w := by
  rw [run_eql_struct, run_equal_dig a b ha hb 9998]
  rfl
set_option maxRecDepth 100000 in
theorem run_neq_dig (a b : List UInt8) (ha : a.length = 32) (hb : b.length = 32) (w : World) : (binOp .neq 31 (.agg (dig a)) (.agg (dig b))).run Tryz.prog w = .ok (.bool (!decide (a = b))) w := by
  rw [run_neq_struct, run_equal_dig a b ha hb 9998]
  rfl

section
variable {P : Program} {ops : Array Oper} {C : World → Prop}
/-- In a quiet walk: a row loaded out of the middle of a block. -/
theorem quiet_load_mid {o : Oper} {a : Act} {K : Act → Prop} (ty : TypeId) (x : Operand) (ho : o.op = .load ty x) (b off : Nat) (hx : a.eval x = .pointer (some ⟨b, off, none⟩)) (cs : List Value) (d : TypeDesc) (hC : ∀ w, C w → w.rangeAt b off cs)
    (hu : P.underlying ty = some d) (hd : d.isRow = true) (hi : (P.info? ty).map (·.size) = some cs.length) (h : K (a.put o.dst (.agg cs.toArray))) : o.quiet P a C K :=
  ⟨_, fun w hw => by
    unfold Oper.quietAt execOp
    simp only [ho, hx, Instr.loadAt, Instr.sureAddr, Sem.run_bind, Sem.run_pure, Result.andThen_ok, run_loadVar_mid w b off ty cs d (hC w hw) hu hd hi]
    exact ⟨rfl, rfl⟩, h⟩
theorem quiet_load_dig {C : World → Prop} {o : Oper} {a : Act} {K : Act → Prop} (x : Operand) (ho : o.op = .load 31 x) (b off : Nat) (hx : a.eval x = .pointer (some ⟨b, off, none⟩)) (d : List UInt8) (hd : d.length = 32) (hC : ∀ w, C w → w.rangeAt b off (dig d).toList)
    (h : K (a.put o.dst (.agg (dig d)))) : o.quiet Tryz.prog a C K := by
  refine quiet_load_mid _ x ho b off hx (dig d).toList _ hC Tryz.underlying31 rfl (by rw [Array.length_toList]; exact dig_info d hd) ?_
  simpa using h
/-- A region that draws its order and only reads, within a round: one walk in the order of the text. -/
theorem wpIn_region_quiet {lr n id : Nat} {Q : Exit → Act → World → Prop} {a : Act} {w : World} {l : List Oper} (hm : P.follows .mixedOrders = true) (hB : Region.lexB .any l.toArray = true) (hnd : noDefer l.toArray = true) (hlo : ¬ LetsOut Q)
    (h : wpQuiet P l.toArray (fun w' => ∃ q, w' = w.drewN q) (fun a' => ∀ w', (∃ q, w' = w.drewN q) → Q .normal a' w') l a) : (Code.region id l.toArray true).wpIn (Fence.wide.inRound lr) n P Q a w := by
  simp only [Region.lexB, Bool.and_eq_true] at hB
  refine wpIn_region_any hm (wpAnyIn_of (noDefer_spec hnd) hlo _ _ _ _ (wpAny_of_quiet (C := fun w' => ∃ q, w' = w.drewN q) (Q := fun a' => ∀ w', (∃ q, w' = w.drewN q) → Q .normal a' w') (fun _ w' hw' h => h w' hw') _ _ _ _ ⟨1, rfl⟩ ?_))
  have := wpAnyQ_lex (C := fun w' => ∃ q, w' = w.drewN q) (md := .any) hB.1 l 0 (Array.replicate l.toArray.size false) a (by simp) (by simpa using hB.2) h
  simpa using this
end
end Go.Proofs.YtkkcbkfpaoldmaaGreatDoor

/- A region that draws its order, whose callees make memory and leave alone all that was there: one walk, in the order of the text. -/
namespace Go.Proofs.YtkkcbkfpaoldmaaGreatDoor
open Go Go.RowKit

/-- A world that is w with new blocks. -/
structure Ext (w : World) where
  W : World
  below : Below w.heap.size w W
instance (w : World) : Nonempty (Ext w) := ⟨⟨w, Below.refl _ _⟩⟩
theorem Ext.call {P : Program} {w : World} {i : Ext w} {f : FuncId} {args : Array Value} {v : Value} (h : Calls P f args i.W (Ret v i.W)) : Calls P f args i.W (fun e w'' => e = .returned v ∧ ∃ j : Ext w, w'' = j.W) :=
  h.mono fun _ w'' ⟨he, hb⟩ => ⟨he, ⟨w'', i.below.trans (hb.mono i.below.size)⟩, rfl⟩
theorem Ext.same {P : Program} {w : World} {i : Ext w} {f : FuncId} {args : Array Value} {v : Value} (h : Calls P f args i.W (fun e w' => e = .returned v ∧ i.W = w')) : Calls P f args i.W (fun e w'' => e = .returned v ∧ ∃ j : Ext w, w'' = j.W) :=
  h.mono fun _ _ ⟨he, hb⟩ => ⟨he, i, hb.symm⟩
theorem wp_region_quiet_ext {P : Program} {id : Nat} {Q : Exit → Act → World → Prop} {a : Act} {w : World} {l : List Oper} (hm : P.follows .mixedOrders = true) (hB : Region.lexB .any l.toArray = true)
    (h : wpQuiet P l.toArray (fun w' => ∃ i : Ext w, w' = i.W) (fun a' => ∀ w', (∃ i : Ext w, w' = i.W) → Q .normal a' w') l a) : (Code.region id l.toArray true).wp P Q a w :=
  wp_region_quiet (C := fun w' => ∃ i : Ext w, w' = i.W) hm hB ⟨⟨w.drew, (Below.refl _ w).drew⟩, rfl⟩ (by simpa using h)
/-- The head quietly, then the tail, which comes in one order. -/
theorem wp_region_quiet_tail_ext {P : Program} {id : Nat} {Q : Exit → Act → World → Prop} {a : Act} {w : World} {l : List Oper} (n : Nat) (hm : P.follows .mixedOrders = true) (hB : Region.lexTailB .any l.toArray n = true)
    (h : wpQuiet P l.toArray (fun w' => ∃ i : Ext w, w' = i.W) (fun a' => ∀ w', (∃ i : Ext w, w' = i.W) → wpList P l.toArray Q (l.drop n) a' w') (l.take n) a) : (Code.region id l.toArray true).wp P Q a w := by
  simp only [Region.lexTailB, Bool.and_eq_true, decide_eq_true_eq] at hB
  obtain ⟨⟨⟨⟨hsel, hn⟩, hs⟩, hc⟩, hlex⟩ := hB
  have hn' : n < l.length := by simpa using hn
  have htl : (l.take n).length = n := by simp; omega
  have inv0 : HeadInv .any l.toArray n (Array.replicate l.toArray.size false) :=
    ⟨by simp, fun j oj _ hl => (by rw [getD_replicate_false] at hl; cases hl), fun t _ ht => getD_in (by simpa using ht) (getD_replicate_false _ _)⟩
  have H := HeadQ.lex (md := .any) hsel hs hc hn (l.take n) 0 _ a (fun j hj => by rw [htl] at hj; simp [hj]) (by rw [htl, Nat.zero_add]) inv0 (by rw [htl]; exact hlex) h
  refine wp_region_any hm ?_
  have := HeadQ.any (l := l.drop n) (Q' := Q) (fun j => by simp [List.getElem?_drop]) (by simp) (fun a' w' hw' h' => h' w' hw') _ _ _ { w with drawn := w.drawn + 1 } ⟨⟨w.drew, (Below.refl _ w).drew⟩, rfl⟩ H
  rwa [htl, List.length_drop, show n + (l.length - n) = l.toArray.size by simp; omega] at this
theorem Ext.cell {w : World} {p : Addr} {v : Value} (h : w.cell? p = some v) : ∀ i : Ext w, i.W.cell? p = some v := fun i => (i.below.cell (World.block_lt_of_cell? w p h)).trans h
theorem Ext.range {w : World} {b o : Nat} {cs : List Value} (h : w.rangeAt b o cs) : ∀ w', (∃ i : Ext w, w' = i.W) → w'.rangeAt b o cs := fun w' ⟨i, e⟩ j v hv => by
  rw [e]
  exact Ext.cell (h j v hv) i
end Go.Proofs.YtkkcbkfpaoldmaaGreatDoor

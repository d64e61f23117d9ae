/- A region that draws its order, whose callees make memory and leave alone all that was there: one walk, in the order of the text. -/
import Derived.Test.YtibnikokgbfcdaaDoorDigEq
import Derived.BigQuiet
namespace Go.Proofs.YtibnikokgbfcdaaDoor
open Go Go.RowKit

/-- A world that is w with new blocks. -/
structure Ext (w : World) where
  W : World
  below : Below w.heap.size w W
instance (w : World) : Nonempty (Ext w) := ⟨⟨w, Below.refl _ _⟩⟩
theorem Ext.call {P : Program} {w : World} {i : Ext w} {f : FuncId} {args : Array Value} {v : Value} (h : Calls P f args i.W (Ret v i.W)) : Calls P f args i.W (fun e w'' => e = .returned v ∧ ∃ j : Ext w, w'' = j.W) :=
  h.mono fun _ w'' ⟨he, hb⟩ => ⟨he, ⟨w'', i.below.trans (hb.mono i.below.size)⟩, rfl⟩
theorem Ext.same {P : Program} {w : World} {i : Ext w} {f : FuncId} {args : Array Value} {v : Value} (h : Calls P f args i.W (fun e w' => e = .returned v ∧ i.W = w')) : Calls P f args i.W (fun e w'' => e = .returned v ∧ ∃ j : Ext w, w'' = j.W) :=
  h.mono fun _ _ ⟨he, hb⟩ => ⟨he, i, hb.symm⟩
theorem wp_region_quiet_ext {P : Program} {id : Nat} {Q : Exit → Act → World → Prop} {a : Act} {w : World} {l : List Oper} (hm : P.follows .mixedOrders = true) (hB : Region.lexB .any l.toArray = true)
    (h : wpQuiet P l.toArray (fun w' => ∃ i : Ext w, w' = i.W) (fun a' => ∀ w', (∃ i : Ext w, w' = i.W) → Q .normal a' w') l a) : (Code.region id l.toArray true).wp P Q a w :=
  wp_region_quiet (C := fun w' => ∃ i : Ext w, w' = i.W) hm hB ⟨⟨w.drew, (Below.refl _ w).drew⟩, rfl⟩ (by simpa using h)
/-- The head quietly, then the tail, which comes in one order. -/
theorem wp_region_quiet_tail_ext {P : Program} {id : Nat} {Q : Exit → Act → World → Prop} {a : Act} {w : World} {l : List Oper} (n : Nat) (hm : P.follows .mixedOrders = true) (hB : Region.lexTailB .any l.toArray n = true)
    (h : wpQuiet P l.toArray (fun w' => ∃ i : Ext w, w' = i.W) (fun a' => ∀ w', (∃ i : Ext w, w' = i.W) → wpList P l.toArray Q (l.drop n) a' w') (l.take n) a) : (Code.region id l.toArray true).wp P Q a w := by
  simp only [Region.lexTailB, Bool.and_eq_true, decide_eq_true_eq] at hB
  obtain ⟨⟨⟨⟨hsel, hn⟩, hs⟩, hc⟩, hlex⟩ := hB
  have hn' : n < l.length := by simpa using hn
  have htl : (l.take n).length = n := by simp; omega
  have inv0 : HeadInv .any l.toArray n (Array.replicate l.toArray.size false) :=
    ⟨by simp, fun j oj _ hl => (by rw [getD_replicate_false] at hl; cases hl), fun t _ ht => getD_in (by simpa using ht) (getD_replicate_false _ _)⟩
  have H := HeadQ.lex (md := .any) hsel hs hc hn (l.take n) 0 _ a (fun j hj => by rw [htl] at hj; simp [hj]) (by rw [htl, Nat.zero_add]) inv0 (by rw [htl]; exact hlex) h
  refine wp_region_any hm ?_
  have := HeadQ.any (l := l.drop n) (Q' := Q) (fun j => by simp [List.getElem?_drop]) (by simp) (fun a' w' hw' h' => h' w' hw') _ _ _ { w with drawn := w.drawn + 1 } ⟨⟨w.drew, (Below.refl _ w).drew⟩, rfl⟩ H
  rwa [htl, List.length_drop, show n + (l.length - n) = l.toArray.size by simp; omega] at this
theorem Ext.cell {w : World} {p : Addr} {v : Value} (h : w.cell? p = some v) : ∀ i : Ext w, i.W.cell? p = some v := fun i => (i.below.cell (World.block_lt_of_cell? w p h)).trans h
theorem Ext.range {w : World} {b o : Nat} {cs : List Value} (h : w.rangeAt b o cs) : ∀ w', (∃ i : Ext w, w' = i.W) → w'.rangeAt b o cs := fun w' ⟨i, e⟩ j v hv => by
  rw [e]
  exact Ext.cell (h j v hv) i
end Go.Proofs.YtibnikokgbfcdaaDoor

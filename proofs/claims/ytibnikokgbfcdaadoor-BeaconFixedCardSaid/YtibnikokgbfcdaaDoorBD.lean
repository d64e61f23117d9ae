/- Digests compared, in regions of each kind. -/
import Derived.Test.YtibnikokgbfcdaaDoorDigEq
import Derived.Test.YtibnikokgbfcdaaDoorExt
import Derived.Test.YtibnikokgbfcdaaDoorSamp1
import Derived.Deep.RegionHeld
namespace Go.Proofs.YtibnikokgbfcdaaDoor
open Go Go.RowKit
section
variable {ops : Array Oper} {rest : List Oper} {o : Oper} {a : Act} {Q : Exit → Act → World → Prop}
theorem yields_neq_dig {S : World → Prop} (hw : Region.wanted o (yielded ops a.tmps) = true) (x y : Operand) (t : TypeId) (ho : o.op = .binOp .neq 23 x y t) (d e : List UInt8) (hd : d.length = 32) (he : e.length = 32)
    (hx : a.eval x = .agg (dig d)) (hy : a.eval y = .agg (dig e)) : YieldsIf Tryd.prog ops S o (.bool (!decide (d = e))) a :=
  .inl ⟨hw, fun w _ => by
    have hg : (eqGuard .neq 23 x y (.agg (dig d)) (.agg (dig e))).run Tryd.prog w = .ok () w := run_eqGuard_agg _ _ _ _ _ _ _ Tryd.eqGuardType23
    unfold execOp
    simp only [ho, hx, hy, hg, run_neq_dig d e hd he w, Sem.run_bind, Sem.run_pure, Result.andThen_ok]⟩
theorem yields_mid_dig {S : World → Prop} (hw : Region.wanted o (yielded ops a.tmps) = true) (x : Operand) (ho : o.op = .load 23 x) (g off : Nat) (hx : a.eval x = .pointer (some ⟨g, off, none⟩)) (d : List UInt8) (hd : d.length = 32)
    (hS : ∀ w, S w → w.rangeAt g off (dig d).toList) : YieldsIf Tryd.prog ops S o (.agg (dig d)) a := by
  have h := yieldsIf_load_mid (P := Tryd.prog) (ops := ops) (S := S) hw 23 x ho g off hx (dig d).toList _ hS Tryd.underlying23 rfl (by rw [Array.length_toList]; exact dig_info d hd)
  simpa using h
theorem bq_eql_dig {C : World → Prop} {Q : Act → Prop} (hw : Region.wanted o (yielded ops a.tmps) = true) (x y : Operand) (t : TypeId) (ho : o.op = .binOp .eql 23 x y t) (d e : List UInt8) (hd : d.length = 32) (he : e.length = 32)
    (hx : a.eval x = .agg (dig d)) (hy : a.eval y = .agg (dig e)) (h : wpQuiet Tryd.prog ops C Q rest (a.put o.dst (.bool (decide (d = e))))) : wpQuiet Tryd.prog ops C Q (o :: rest) a :=
  BigFrame.wpQuiet_want hw fun K hK => ⟨_, fun w _ => by
    have hg : (eqGuard .eql 23 x y (.agg (dig d)) (.agg (dig e))).run Tryd.prog w = .ok () w := run_eqGuard_agg _ _ _ _ _ _ _ Tryd.eqGuardType23
    unfold Oper.quietAt execOp
    simp only [ho, hx, hy, hg, run_eql_dig d e hd he w, Sem.run_bind, Sem.run_pure, Result.andThen_ok]
    exact ⟨rfl, rfl⟩, hK _ h⟩
theorem bq_neq_dig {C : World → Prop} {Q : Act → Prop} (hw : Region.wanted o (yielded ops a.tmps) = true) (x y : Operand) (t : TypeId) (ho : o.op = .binOp .neq 23 x y t) (d e : List UInt8) (hd : d.length = 32) (he : e.length = 32)
    (hx : a.eval x = .agg (dig d)) (hy : a.eval y = .agg (dig e)) (h : wpQuiet Tryd.prog ops C Q rest (a.put o.dst (.bool (!decide (d = e))))) : wpQuiet Tryd.prog ops C Q (o :: rest) a :=
  BigFrame.wpQuiet_want hw fun K hK => ⟨_, fun w _ => by
    have hg : (eqGuard .neq 23 x y (.agg (dig d)) (.agg (dig e))).run Tryd.prog w = .ok () w := run_eqGuard_agg _ _ _ _ _ _ _ Tryd.eqGuardType23
    unfold Oper.quietAt execOp
    simp only [ho, hx, hy, hg, run_neq_dig d e hd he w, Sem.run_bind, Sem.run_pure, Result.andThen_ok]
    exact ⟨rfl, rfl⟩, hK _ h⟩
theorem b_eql_g (hw : Region.wanted o (yielded ops a.tmps) = true) (x y : Operand) (t : TypeId) (ho : o.op = .binOp .eql 23 x y t) {w : World} (d e : List UInt8) (hd : d.length = 32) (he : e.length = 32)
    (hx : a.eval x = .agg (dig d)) (hy : a.eval y = .agg (dig e)) (b : Bool) (hb : decide (d = e) = b) (h : wpList Tryd.prog ops Q rest (a.put o.dst (.bool b)) w) : wpList Tryd.prog ops Q (o :: rest) a w := by
  have hg : (eqGuard .eql 23 x y (.agg (dig d)) (.agg (dig e))).run Tryd.prog w = .ok () w := run_eqGuard_agg _ _ _ _ _ _ _ Tryd.eqGuardType23
  unfold wpList
  rw [if_pos hw]
  refine .inl ?_
  unfold Oper.wp execOp
  simp only [ho, hx, hy, hg, run_eql_dig d e hd he w, Sem.run_bind, Sem.run_pure, Result.andThen_ok]
  rw [hb]
  exact h
theorem b_neq_g (hw : Region.wanted o (yielded ops a.tmps) = true) (x y : Operand) (t : TypeId) (ho : o.op = .binOp .neq 23 x y t) {w : World} (d e : List UInt8) (hd : d.length = 32) (he : e.length = 32)
    (hx : a.eval x = .agg (dig d)) (hy : a.eval y = .agg (dig e)) (b : Bool) (hb : (!decide (d = e)) = b) (h : wpList Tryd.prog ops Q rest (a.put o.dst (.bool b)) w) : wpList Tryd.prog ops Q (o :: rest) a w := by
  have hg : (eqGuard .neq 23 x y (.agg (dig d)) (.agg (dig e))).run Tryd.prog w = .ok () w := run_eqGuard_agg _ _ _ _ _ _ _ Tryd.eqGuardType23
  unfold wpList
  rw [if_pos hw]
  refine .inl ?_
  unfold Oper.wp execOp
  simp only [ho, hx, hy, hg, run_neq_dig d e hd he w, Sem.run_bind, Sem.run_pure, Result.andThen_ok]
  rw [hb]
  exact h
end
end Go.Proofs.YtibnikokgbfcdaaDoor

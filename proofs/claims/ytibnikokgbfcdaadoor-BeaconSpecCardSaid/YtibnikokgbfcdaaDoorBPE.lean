/- Equality of pledges. -/
import Derived.Test.YtibnikokgbfcdaaDoorB4
import Derived.Test.YtibnikokgbfcdaaDoorDigEq
import Derived.Laws.StructEq
namespace Go.Proofs.YtibnikokgbfcdaaDoor
open Go Go.RowKit

theorem intPlain : Tryd.prog.plainKey 3 = true := by kernel_rfl
theorem part_party (p : Pd) (w : World) : (part 3 p.cells.toArray 0).run Tryd.prog w = .ok (.int .i64 p.party) w := run_part_plain (P := Tryd.prog) w intPlain rfl
theorem extract_dg (p : Pd) (h : p.dg.length = 32) : p.cells.toArray.extract 1 (1 + 32) = dig p.dg := by
  apply Array.ext'
  have hl : (dig p.dg).toList.length = 32 := by rw [Array.length_toList, dig_size, h]
  simp only [Pd.cells, Array.toList_extract, List.extract_eq_take_drop]
  show List.take (1 + 32 - 1) ((dig p.dg).toList) = _
  rw [List.take_of_length_le (by omega)]
theorem part_dg (p : Pd) (h : p.dg.length = 32) (w : World) : (part 23 p.cells.toArray 1).run Tryd.prog w = .ok (.agg (dig p.dg)) w := by
  have hs : (sizeOf 23).run Tryd.prog w = .ok 32 w := by kernel_rfl
  have ha : (isAgg 23).run Tryd.prog w = .ok true w := by kernel_rfl
  simp only [part, Sem.run_bind, ha, hs, Result.andThen_ok, if_true, Sem.run_pure, extract_dg p h]
theorem pledgeFields : (Tryd.prog.fieldsOf 61).toList.map (fun f => (f.name == "_", f.type, f.offset)) = [(false, 3, 0), (false, 23, 1)] := by kernel_rfl
theorem pledgeUnder : Tryd.prog.underlying 61 = some (.struct (Tryd.prog.fieldsOf 61)) := by kernel_rfl
theorem pledgeHeld : Tryd.prog.stoodInHeld 61 = false := by kernel_rfl
def eqPd (p q : Pd) : Bool := decide (p.party = q.party) && decide (p.dg = q.dg)
theorem eqPd_iff (p q : Pd) : eqPd p q = true ↔ p = q := by
  obtain ⟨pp, pd⟩ := p
  obtain ⟨qp, qd⟩ := q
  simp [eqPd]
set_option linter.unusedSimpArgs false in
theorem run_equal_pd (p q : Pd) (hp : p.dg.length = 32) (hq : q.dg.length = 32) (dd : Nat) (w : World) : (Op.equalIn (dd + 3) 61 (.agg p.cells.toArray) (.agg q.cells.toArray)).run Tryd.prog w = .ok (eqPd p q) w := by
  rw [run_equalIn_struct w (dd + 2) 61 _ _ pledgeUnder pledgeHeld]
  have hf := pledgeFields
  generalize (Tryd.prog.fieldsOf 61).toList = fs at hf
  have hlen : fs.length = 2 := by have := congrArg List.length hf; simpa using this
  obtain ⟨f1, f2, rfl⟩ : ∃ f1 f2, fs = [f1, f2] := by
    match fs, hlen with
    | [f1, f2], _ => exact ⟨f1, f2, rfl⟩
  simp only [List.map_cons, List.map_nil, List.cons.injEq, Prod.mk.injEq, and_true] at hf
  obtain ⟨⟨n1, t1, o1⟩, n2, t2, o2⟩ := hf
  have m1 : f1.name ≠ "_" := by simpa using n1
  have m2 : f2.name ≠ "_" := by simpa using n2
  have e1 := run_equalIn_int (P := Tryd.prog) w (dd + 1) 3 .i64 .i64 p.party q.party Tryd.underlying3
  have e2 := run_equal_dig p.dg q.dg hp hq dd w
  simp only [Op.eqFields, if_pos m1, if_pos m2, t1, t2, o1, o2, Sem.run_bind, part_party, part_dg p hp, part_dg q hq, e1, Result.andThen_ok]
  unfold eqPd
  by_cases h1 : p.party = q.party
  · have hb : (p.party == q.party) = true := beq_iff_eq.2 h1
    rw [hb]
    simp only [Bool.not_true, Bool.false_eq_true, if_false, Sem.run_bind, part_dg p hp, part_dg q hq, e2, Result.andThen_ok]
    by_cases h2 : p.dg = q.dg
    · simp [h1, h2, Op.eqFields]
    · simp [h1, h2, Op.eqFields]
  · have hb : (p.party == q.party) = false := beq_eq_false_iff_ne.2 h1
    simp [hb, h1]
theorem run_eql_pd (p q : Pd) (hp : p.dg.length = 32) (hq : q.dg.length = 32) (w : World) : (binOp .eql 61 (.agg p.cells.toArray) (.agg q.cells.toArray)).run Tryd.prog w = .ok (.bool (eqPd p q)) w := by
  rw [run_eql_struct, run_equal_pd p q hp hq 9997]
  rfl
section
variable {ops : Array Oper} {rest : List Oper} {o : Oper} {a : Act} {Q : Exit → Act → World → Prop}
theorem eql_pd_g (hw : Region.wanted o (yielded ops a.tmps) = true) (x y : Operand) (t : TypeId) (ho : o.op = .binOp .eql 61 x y t) {w : World} (p q : Pd) (hp : p.dg.length = 32) (hq : q.dg.length = 32)
    (hx : a.eval x = .agg p.cells.toArray) (hy : a.eval y = .agg q.cells.toArray) (b : Bool) (hb : eqPd p q = b) (h : wpList Tryd.prog ops Q rest (a.put o.dst (.bool b)) w) : wpList Tryd.prog ops Q (o :: rest) a w := by
  have hg : (eqGuard .eql 61 x y (.agg p.cells.toArray) (.agg q.cells.toArray)).run Tryd.prog w = .ok () w := run_eqGuard_agg _ _ _ _ _ _ _ (by kernel_rfl)
  unfold wpList
  rw [if_pos hw]
  refine .inl ?_
  unfold Oper.wp execOp
  simp only [ho, hx, hy, hg, run_eql_pd p q hp hq w, Sem.run_bind, Sem.run_pure, Result.andThen_ok]
  rw [hb]
  exact h
end
end Go.Proofs.YtibnikokgbfcdaaDoor

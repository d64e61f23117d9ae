/- Several texts in one: Vals, Ints, W13. -/
import Derived.Test.YtkkcbkfpaoldmaaGreatDoorM05
import Derived.Laws.IdiomStrings
import Derived.Laws.OwnMore
import Derived.OneCell
import Derived.Deep.RegionLaw
import Derived.Below
/- Laws at single operations, for walks: values appended onto values of the call's own; bytes turned into a string; what an interface holds. -/
namespace Go.Proofs.YtkkcbkfpaoldmaaGreatDoor
open Go Go.RowKit

theorem vInfo_all : ∃ i, Tryz.prog.info? 194 = some i ∧ i.zero = some (.agg #[.int .i64 0, .int .i64 0, .string ⟨#[]⟩, .slice none 0 0]) ∧ i.size = 4 ∧ i.bytes = 56 := by
  have h : (Tryz.prog.info? 194).map (fun i => (i.zero, i.size, i.bytes)) = some (some (.agg #[.int .i64 0, .int .i64 0, .string ⟨#[]⟩, .slice none 0 0]), 4, 56) := by kernel_rfl
  obtain ⟨i, hi, h0, h1, h2⟩ := info_parts h
  exact ⟨i, hi, h0, h1, h2⟩
noncomputable def vInfo : TypeInfo := vInfo_all.choose
theorem vInfo_eq : Tryz.prog.info? 194 = some vInfo := vInfo_all.choose_spec.1
theorem vInfo_zero : vInfo.zero = some (.agg #[.int .i64 0, .int .i64 0, .string ⟨#[]⟩, .slice none 0 0]) := vInfo_all.choose_spec.2.1
theorem vInfo_size : vInfo.size = 4 := vInfo_all.choose_spec.2.2.1
theorem vInfo_bytes : vInfo.bytes = 56 := vInfo_all.choose_spec.2.2.2

/-- The cells of a value, and of values side by side. -/
def V4.cells (x : V4) : List Value := [.int .i64 x.kind, x.n, x.s, x.l]
def vcells (l : List V4) : List Value := l.flatMap V4.cells
theorem vcells_append (a b : List V4) : vcells (a ++ b) = vcells a ++ vcells b := by simp [vcells]
theorem vcells_len (l : List V4) : (vcells l).length = l.length * 4 := by
  induction l with
  | nil => rfl
  | cons x l ih => simp only [vcells, List.flatMap_cons, List.length_append, List.length_cons] at ih ⊢; rw [ih]; simp only [V4.cells, List.length_cons, List.length_nil]; omega
theorem vcells_get (l : List V4) : ∀ i x, l[i]? = some x → ∀ j, j < 4 → (vcells l)[i * 4 + j]? = x.cells[j]? := by
  induction l with
  | nil => intro i x h; simp at h
  | cons y l ih =>
    intro i x h j hj
    have e : vcells (y :: l) = y.cells ++ vcells l := by simp [vcells]
    have hy : y.cells.length = 4 := rfl
    cases i with
    | zero =>
      obtain rfl : y = x := by simpa using h
      rw [e, List.getElem?_append_left (by omega)]; simp
    | succ i =>
      rw [e, List.getElem?_append_right (by omega), hy, show (i + 1) * 4 + j - 4 = i * 4 + j by omega]
      exact ih i x (by simpa using h) j hj
def V4.one (x : V4) : Prop := x.n.oneCell' = true ∧ x.s.oneCell' = true ∧ x.l.oneCell' = true
theorem V4.cells_one {x : V4} (h : x.one) : ∀ u ∈ x.cells, u.oneCell' = true := by
  intro u hu
  simp only [V4.cells, List.mem_cons, List.not_mem_nil, or_false] at hu
  rcases hu with rfl | rfl | rfl | rfl
  · rfl
  · exact h.1
  · exact h.2.1
  · exact h.2.2
/-- The row of the call's own that holds these values. -/
def VOwn (w : World) (base : Nat) (v : Value) (l : List V4) : Prop := w.ownsRow base 194 4 v l.length (vcells l)
theorem VOwn.nil (w : World) (base : Nat) : VOwn w base (.slice none 0 0) [] := World.ownsRow_nil _ _ _ _
theorem VOwn.alloc {w : World} {base : Nat} {v : Value} {l : List V4} (h : VOwn w base v l) (o : Obj) : VOwn (w.alloc o) base v l := World.ownsRow.alloc h o
/-- An owned row of values, as a slice that holds them. -/
theorem VOwn.elems {w : World} {base : Nat} {v : Value} {l : List V4} (h : VOwn w base v l) : ∃ A c, v = .slice A l.length c ∧ l.length ≤ c ∧ c ≤ 9223372036854775807 ∧ Elems w w.heap.size A l := by
  rcases h.2 with ⟨rfl, h0⟩ | ⟨g, cap, cur, rfl, hbg, hg, hnc, hcm, hcs, htake⟩
  · refine ⟨none, 0, by rw [h0], by omega, by omega, fun hn => absurd hn (by omega)⟩
  · refine ⟨some ⟨g, 0, none⟩, cap, rfl, hnc, by simp only [maxLen] at hcm; omega, fun _ => ⟨g, 0, rfl, (Array.getElem?_eq_some_iff.1 hg).1, fun i x hx => ?_⟩⟩
    have hc : ∀ j, j < 4 → ∀ u, x.cells[j]? = some u → w.cell? ⟨g, 0 + i * 4 + j, none⟩ = some u := fun j hj u hu => by
      have := World.ownsRow.cells h (g := g) rfl (i * 4 + j) u ((vcells_get l i x hx j hj).trans hu)
      rw [Addr.add_mid] at this
      rw [← this]; congr 2; omega
    exact ⟨hc 0 (by omega) _ rfl, hc 1 (by omega) _ rfl, hc 2 (by omega) _ rfl, hc 3 (by omega) _ rfl⟩

section
variable {ops : Array Oper} {rest : List Oper} {o : Oper} {a : Act} {Q : Exit → Act → World → Prop}
theorem src_value {W : World} {g : Nat} {t : TypeId} (y : V4) (hy : y.one) (h : Blk W g t #[.int .i64 y.kind, y.n, y.s, y.l]) : Src Tryz.prog 4 192 (.slice (some ⟨g, 0, none⟩) 1 1) 1 y.cells W := by
  have hR : Rd W W.heap.size (some ⟨g, 0, none⟩) (1 * 4) (fun k => y.cells.getD k undef) := Rd.of_blk h h.lt fun k hk => by
    rcases k with _ | _ | _ | _ | k <;> first | rfl | omega
  have hs := src_rd (P := Tryz.prog) W (size := 4) (tx := 192) (n := 1) (c := 1) Tryz.underlying192 hR (by omega) (fun k hk => by
    refine V4.cells_one hy _ ?_
    rcases k with _ | _ | _ | _ | k <;> first | (simp [V4.cells]; done) | omega)
  have e : (List.range (1 * 4)).map (fun k => y.cells.getD k undef) = y.cells := rfl
  rw [e] at hs
  exact hs
theorem app_value (hgd : o.guard = none) (s x : Operand) (ho : o.op = .call { callee := .builtin .append, args := #[s, x], argTypes := #[192, 192] })
    (base : Nat) {w : World} (v : Value) (l : List V4) (hs : a.eval s = v) (hown : VOwn w base v l) (y : V4) (hy : y.one) {g : Nat} {t : TypeId} (hg : Blk w g t #[.int .i64 y.kind, y.n, y.s, y.l])
    (hx : a.eval x = .slice (some ⟨g, 0, none⟩) 1 1) (h47 : l.length + 1 ≤ 1000000000000) (hbase : base ≤ w.heap.size)
    (h : ∀ v' w', VOwn w' base v' (l ++ [y]) → Grew w w' v v' → wpList Tryz.prog ops Q rest (a.put o.dst v') w') : wpList Tryz.prog ops Q (o :: rest) a w :=
  wpList_append_src w hgd s x 192 192 ho base 194 vInfo (.agg #[.int .i64 0, .int .i64 0, .string ⟨#[]⟩, .slice none 0 0]) 4 56 Tryz.underlying192 vInfo_eq vInfo_zero vInfo_size vInfo_bytes rfl v l.length (vcells l) hs hown _ 1 y.cells hx (src_value y hy hg)
    (by simp only [maxLen]; omega) (by omega) hbase fun v' w' h1 h2 => h v' w' (by
      show World.ownsRow w' base 194 4 v' (l ++ [y]).length (vcells (l ++ [y]))
      rw [vcells_append, List.length_append, show vcells [y] = y.cells by simp [vcells]]; exact h1) h2
/-- The same at one operation of a region that draws its order. -/
theorem step_value {K : Act → World → Prop} {E : Prop} (hgd : o.guard = none) (s x : Operand) (ho : o.op = .call { callee := .builtin .append, args := #[s, x], argTypes := #[192, 192] })
    (base : Nat) (w : World) (v : Value) (l : List V4) (hs : a.eval s = v) (hown : VOwn w base v l) (y : V4) (hy : y.one) {g : Nat} {t : TypeId} (hg : Blk w g t #[.int .i64 y.kind, y.n, y.s, y.l])
    (hx : a.eval x = .slice (some ⟨g, 0, none⟩) 1 1) (h47 : l.length + 1 ≤ 1000000000000) (hbase : base ≤ w.heap.size)
    (h : ∀ v' w', VOwn w' base v' (l ++ [y]) → Grew w w' v v' → K (a.put o.dst v') w') :
    if Region.wanted o (yielded ops a.tmps) = true then Oper.wp Tryz.prog o a w K Q else E := by
  have hw : Region.wanted o (yielded ops a.tmps) = true := by simp [Region.wanted, hgd]
  rw [if_pos hw]
  obtain ⟨v', w', hrun, h2, h3⟩ := run_append_own_src (P := Tryz.prog) w base 192 192 o.type 194 vInfo (.agg #[.int .i64 0, .int .i64 0, .string ⟨#[]⟩, .slice none 0 0]) 4 56 Tryz.underlying192 vInfo_eq vInfo_zero vInfo_size vInfo_bytes rfl v l.length (vcells l) hown _ 1 y.cells (src_value y hy hg) (by simp only [maxLen]; omega) (by omega) hbase
  unfold Oper.wp execOp
  simp only [ho, resolve, invoke, builtin, Sem.run_bind, Sem.run_pure, Result.andThen_ok, List.map_toArray, List.map_cons, List.map_nil, hs, hx, hrun]
  exact h v' w' (by
      show World.ownsRow w' base 194 4 v' (l ++ [y]).length (vcells (l ++ [y]))
      rw [vcells_append, List.length_append, show vcells [y] = y.cells by simp [vcells]]; exact h2) h3
/-- 'string(b)' of bytes that can be read. -/
theorem run_str {w : World} {B : Nat} {A : Option Addr} {l : List UInt8} {c : Nat} (hR : RdB w B A l) : (convert 177 9 (.slice A l.length c)).run Tryz.prog w = .ok (.string ⟨l.toArray⟩) w := by
  cases A with
  | none =>
    obtain rfl : l = [] := by
      rcases l with _ | ⟨x, l⟩
      · rfl
      · obtain ⟨b, off, e, _⟩ := hR (by simp)
        cases e
    exact run_convert_bytes_nil (P := Tryz.prog) w 177 5 Tryz.underlying177 Tryz.underlying5 _ c _ Tryz.underlying9
  | some p =>
    rcases Nat.eq_zero_or_pos l.length with h0 | h0
    · obtain rfl := List.eq_nil_of_length_eq_zero h0
      exact run_convert_bytes_back (P := Tryz.prog) w 177 9 5 p c [] Tryz.underlying177 Tryz.underlying5 Tryz.underlying9 (fun j hj => by cases hj)
    · obtain ⟨b, off, e, _, hc⟩ := hR h0
      obtain rfl := Option.some.inj e
      refine run_convert_bytes_back (P := Tryz.prog) w 177 9 5 _ c l Tryz.underlying177 Tryz.underlying5 Tryz.underlying9 (fun j hj => ?_)
      rw [Addr.add_mid, hc j hj]
      simp [byteAt, List.getD_eq_getElem?_getD, List.getElem?_eq_getElem hj]
theorem to_str (hgd : o.guard = none) (x : Operand) (ho : o.op = .convert 177 9 x) {w : World} {B : Nat} {A : Option Addr} {l : List UInt8} {c : Nat} (hx : a.eval x = .slice A l.length c) (hR : RdB w B A l)
    (h : wpList Tryz.prog ops Q rest (a.put o.dst (.string ⟨l.toArray⟩)) w) : wpList Tryz.prog ops Q (o :: rest) a w :=
  wpList_plain hgd fun _ hK => by
    unfold Oper.wp execOp
    simp only [ho, hx, Sem.run_bind, Result.andThen_ok, run_str hR]
    exact hK _ _ h
theorem step_str {K : Act → World → Prop} {E : Prop} (hgd : o.guard = none) (x : Operand) (ho : o.op = .convert 177 9 x) {w : World} {B : Nat} {A : Option Addr} {l : List UInt8} {c n : Nat} (hx : a.eval x = .slice A n c) (hn : n = l.length) (hR : RdB w B A l)
    (h : K (a.put o.dst (.string ⟨l.toArray⟩)) w) : if Region.wanted o (yielded ops a.tmps) = true then Oper.wp Tryz.prog o a w K Q else E := by
  subst hn
  have hw : Region.wanted o (yielded ops a.tmps) = true := by simp [Region.wanted, hgd]
  rw [if_pos hw]
  unfold Oper.wp execOp
  simp only [ho, hx, Sem.run_bind, Result.andThen_ok, run_str hR]
  exact h
end
end Go.Proofs.YtkkcbkfpaoldmaaGreatDoor

/- Plain words on lists of numbers, and laws at single operations on slices of ints that a call owns. -/
namespace Go.Proofs.YtkkcbkfpaoldmaaGreatDoor
open Go Go.RowKit

theorem iInfo_all : ∃ i, Tryz.prog.info? 3 = some i ∧ i.zero = some (.int .i64 0) ∧ i.size = 1 ∧ i.bytes = 8 := by
  have h : (Tryz.prog.info? 3).map (fun i => (i.zero, i.size, i.bytes)) = some (some (.int .i64 0), 1, 8) := by kernel_rfl
  obtain ⟨i, hi, h0, h1, h2⟩ := info_parts h
  exact ⟨i, hi, h0, h1, h2⟩
noncomputable def iInfo : TypeInfo := iInfo_all.choose
theorem iInfo_eq : Tryz.prog.info? 3 = some iInfo := iInfo_all.choose_spec.1
theorem iInfo_zero : iInfo.zero = some (.int .i64 0) := iInfo_all.choose_spec.2.1
theorem iInfo_size : iInfo.size = 1 := iInfo_all.choose_spec.2.2.1
theorem iInfo_bytes : iInfo.bytes = 8 := iInfo_all.choose_spec.2.2.2

def icells (l : List Int) : List Value := l.map (Value.int .i64)
theorem icells_len (l : List Int) : (icells l).length = l.length := by simp [icells]
theorem icells_append (a b : List Int) : icells (a ++ b) = icells a ++ icells b := by simp [icells]
theorem icells_get (l : List Int) (k : Nat) (h : k < l.length) : (icells l)[k]? = some (.int .i64 (l.getD k 0)) := by
  simp [icells, List.getD_eq_getElem?_getD, List.getElem?_eq_getElem h]
theorem icells_set (l : List Int) (k : Nat) (x : Int) : icells (l.set k x) = (icells l).set k (.int .i64 x) := by simp [icells, List.map_set]
/-- The row of the call's own that holds these numbers. -/
def IOwn (w : World) (base : Nat) (v : Value) (l : List Int) : Prop := w.ownsRow base 3 1 v l.length (icells l)
theorem IOwn.nil (w : World) (base : Nat) : IOwn w base (.slice none 0 0) [] := World.ownsRow_nil _ _ _ _
theorem IOwn.alloc {w : World} {base : Nat} {v : Value} {l : List Int} (h : IOwn w base v l) (o : Obj) : IOwn (w.alloc o) base v l := World.ownsRow.alloc h o
theorem IOwn.below {w w' : World} {base : Nat} {v : Value} {l : List Int} (h : IOwn w base v l) (hb : Below w.heap.size w w') : IOwn w' base v l :=
  World.ownsRow.kept h (row := none) ⟨hb.os, hb.tape, hb.output, hb.size, fun i hi _ => hb.block i hi⟩ (by cases v.ownBlock <;> simp)
theorem IOwn.shape {w : World} {base : Nat} {v : Value} {l : List Int} (h : IOwn w base v l) : ∃ A c, v = .slice A l.length c ∧ l.length ≤ c ∧ c ≤ 9223372036854775807 ∧ Rd w w.heap.size A l.length (fun k => .int .i64 (l.getD k 0)) := by
  rcases h.2 with ⟨rfl, h0⟩ | ⟨g, cap, cur, rfl, hbg, hg, hnc, hcm, hcs, htake⟩
  · exact ⟨none, 0, by rw [h0], by omega, by omega, by rw [h0]; exact Rd.zero⟩
  · refine ⟨_, cap, rfl, hnc, by simp only [maxLen] at hcm; omega, fun _ => ⟨g, 0, rfl, (Array.getElem?_eq_some_iff.1 hg).1, fun k hk => ?_⟩⟩
    rw [Nat.zero_add, World.ownsRow.cellAt h k (by omega)]
    exact icells_get l k hk

section
variable {ops : Array Oper} {rest : List Oper} {o : Oper} {a : Act} {Q : Exit → Act → World → Prop}
theorem src_int {W : World} {g : Nat} {t : TypeId} (y : Int) (h : Blk W g t #[.int .i64 y]) : Src Tryz.prog 1 25 (.slice (some ⟨g, 0, none⟩) 1 1) 1 [.int .i64 y] W := by
  have hR : Rd W W.heap.size (some ⟨g, 0, none⟩) (1 * 1) (fun _ => .int .i64 y) := Rd.of_blk h h.lt fun k hk => by
    rcases k with _ | k <;> first | rfl | omega
  exact src_rd (P := Tryz.prog) W (size := 1) (tx := 25) (n := 1) (c := 1) Tryz.underlying25 hR (by omega) (fun k _ => rfl)
theorem app_int (hgd : o.guard = none) (s x : Operand) (ho : o.op = .call { callee := .builtin .append, args := #[s, x], argTypes := #[25, 25] })
    (base : Nat) {w : World} (v : Value) (l : List Int) (hs : a.eval s = v) (hown : IOwn w base v l) (y : Int) {g : Nat} {t : TypeId} (hg : Blk w g t #[.int .i64 y])
    (hx : a.eval x = .slice (some ⟨g, 0, none⟩) 1 1) (h47 : l.length + 1 ≤ 1000000000000) (hbase : base ≤ w.heap.size)
    (h : ∀ v' w', IOwn w' base v' (l ++ [y]) → Grew w w' v v' → wpList Tryz.prog ops Q rest (a.put o.dst v') w') : wpList Tryz.prog ops Q (o :: rest) a w :=
  wpList_append_src w hgd s x 25 25 ho base 3 iInfo (.int .i64 0) 1 8 Tryz.underlying25 iInfo_eq iInfo_zero iInfo_size iInfo_bytes rfl v l.length (icells l) hs hown _ 1 [.int .i64 y] hx (src_int y hg)
    (by simp only [maxLen]; omega) (by omega) hbase fun v' w' h1 h2 => h v' w' (by
      show World.ownsRow w' base 3 1 v' (l ++ [y]).length (icells (l ++ [y]))
      rw [icells_append, List.length_append]; exact h1) h2
end

/-- The numbers from 0 on. -/
def iota (n : Nat) : List Int := (List.range n).map fun (i : Nat) => (i : Int)
theorem iota_succ (n : Nat) : iota (n + 1) = iota n ++ [(n : Int)] := by simp [iota, List.range_succ]
theorem iota_length (n : Nat) : (iota n).length = n := by simp [iota]
/-- Two places exchanged. -/
def swapL (l : List Int) (i k : Nat) : List Int := (l.set i (l.getD k 0)).set k (l.getD i 0)
theorem swapL_length (l : List Int) (i k : Nat) : (swapL l i k).length = l.length := by simp [swapL]
/-- The exchanges from place i down. -/
def shuf (ks : Nat → Nat) : Nat → List Int → List Int
  | 0, l => l
  | i + 1, l => shuf ks i (swapL l (i + 1) (ks (i + 1)))
theorem shuf_length (ks : Nat → Nat) : ∀ i l, (shuf ks i l).length = l.length
  | 0, _ => rfl
  | i + 1, l => by rw [shuf, shuf_length ks i, swapL_length]
theorem IOwn.swap {w : World} {base g c : Nat} {l : List Int} (h : IOwn w base (.slice (some ⟨g, 0, none⟩) l.length c) l) (i k : Nat) :
    IOwn ((w.setCell ⟨g, i, none⟩ (.int .i64 (l.getD k 0))).setCell ⟨g, k, none⟩ (.int .i64 (l.getD i 0))) base (.slice (some ⟨g, 0, none⟩) l.length c) (swapL l i k) ∧
    Grew w ((w.setCell ⟨g, i, none⟩ (.int .i64 (l.getD k 0))).setCell ⟨g, k, none⟩ (.int .i64 (l.getD i 0))) (.slice (some ⟨g, 0, none⟩) l.length c) (.slice (some ⟨g, 0, none⟩) l.length c) := by
  obtain ⟨h1, g1⟩ := World.ownsRow.stored h i (.int .i64 (l.getD k 0))
  obtain ⟨h2, g2⟩ := World.ownsRow.stored h1 k (.int .i64 (l.getD i 0))
  refine ⟨?_, Grew.trans (v' := .slice (some ⟨g, 0, none⟩) l.length c) ⟨g1, .inl rfl⟩ ⟨g2, .inl rfl⟩⟩
  show World.ownsRow _ base 3 1 _ (swapL l i k).length (icells (swapL l i k))
  rw [swapL_length, swapL, icells_set, icells_set]
  exact h2
end Go.Proofs.YtkkcbkfpaoldmaaGreatDoor

/- Walk: draw.text. -/
namespace Go.Proofs.YtkkcbkfpaoldmaaGreatDoor
open Go Go.RowKit

/-- What the parts of a text are: numbers and digests. -/
inductive It where
  | num (k : Nat)
  | dig (d : List UInt8)
def It.iface : It → Value
  | .num k => .iface 3 (.int .i64 k)
  | .dig d => .iface 31 (.agg (Go.Proofs.YtkkcbkfpaoldmaaGreatDoor.dig d))
def It.v4 : It → V4
  | .num k => V4.int k
  | .dig d => V4.text ⟨d.toArray⟩
def It.enc : It → List UInt8
  | .num k => intB k
  | .dig d => textB d
def It.ok : It → Prop
  | .num k => k ≤ 4611686018427387000
  | .dig d => d.length = 32
theorem It.v4_one (x : It) : x.v4.one := by cases x <;> exact ⟨rfl, rfl, rfl⟩
theorem It.enc_of (w : World) (x : It) (h : x.ok) : Enc w x.v4 0 x.enc := by
  cases x with
  | num k => exact enc_int w k h
  | dig d => exact enc_text w ⟨d.toArray⟩
def zdig : Value := .agg (dig (List.replicate 32 0))
@[go_sem] theorem Tryz.asInt (v : Value) (w : World) : (Instr.typeAssert (.iface 3 v) 20 3 true).run Tryz.prog w = .ok (.tuple #[v, .bool true]) w := by kernel_rfl
@[go_sem] theorem Tryz.noInt (v : Value) (w : World) : (Instr.typeAssert (.iface 31 v) 20 3 true).run Tryz.prog w = .ok (.tuple #[.int .i64 0, .bool false]) w := by kernel_rfl
@[go_sem] theorem Tryz.asDig (v : Value) (w : World) : (Instr.typeAssert (.iface 31 v) 20 31 true).run Tryz.prog w = .ok (.tuple #[v, .bool true]) w := by kernel_rfl

theorem VOwn.shape {w : World} {base : Nat} {v : Value} {l : List V4} (h : VOwn w base v l) : ∃ A n c, v = .slice A n c ∧ n = l.length ∧ n ≤ c ∧ c ≤ 9223372036854775807 ∧ Elems w w.heap.size A l := by
  obtain ⟨A, c, rfl, h1, h2, h3⟩ := h.elems
  exact ⟨A, _, c, rfl, rfl, h1, h2, h3⟩
/-- A whole encoding in a row of the call's own. -/
def BytesPost (e : List UInt8) (w : World) (en : Ending) (w' : World) : Prop := ∃ v, en = .returned v ∧ w'.ownsRow w.heap.size 5 1 v e.length (bcells e) ∧ Below w.heap.size w w'

/-- What the loop of draw.text has laid after j parts. -/
def DRel (w : World) (l : List It) (m : Nat) (i : Value) (wr : World) : Prop :=
  ∃ (j : Nat) (v : Value), j ≤ m ∧ i = .int .i64 j ∧ Blk wr w.heap.size 194 #[.int .i64 3, .int .i64 0, .string ⟨#[]⟩, v] ∧ VOwn wr (w.heap.size + 1) v ((l.take j).map It.v4) ∧ Below w.heap.size w wr
theorem DRel.step {w wr w' : World} {l : List It} {j : Nat} {v v' : Value} {x : It} (hx : l[j]? = some x) (hB : Below w.heap.size w wr) (hX : Blk wr w.heap.size 194 #[.int .i64 3, .int .i64 0, .string ⟨#[]⟩, v]) (hown : VOwn wr (w.heap.size + 1) v ((l.take j).map It.v4))
    (hg : Grew wr w' v v') (hO : VOwn w' (w.heap.size + 1) v' ((l.take j).map It.v4 ++ [x.v4])) (i : Value) (hi : i = .int .i64 (j + 1 : Nat)) (m : Nat) (hj : j + 1 ≤ m) :
    DRel w l m i (w'.setCell ⟨w.heap.size, 3, none⟩ v') := by
  have hvk : some w.heap.size ≠ v.ownBlock := fun e => by have := (World.ownsRow.lt hown _ e.symm).1; omega
  have hvk' : some w.heap.size ≠ v'.ownBlock := hg.ne hX.lt hvk
  have hb : Below w.heap.size w w' := hB.trans (hg.below hB.size fun k hk => by have := (World.ownsRow.lt hown _ hk).1; omega)
  refine ⟨j + 1, v', hj, hi, (hX.grown hg.1 hvk).set 3 v', ?_, hb.setCell (Nat.le_refl _) _⟩
  have e : (l.take (j + 1)).map It.v4 = (l.take j).map It.v4 ++ [x.v4] := by rw [List.take_add_one, hx]; simp
  rw [e]
  exact ownsRow_setCell_below hO (Nat.lt_succ_self _) _

set_option maxRecDepth 100000 in
set_option maxHeartbeats 2000000 in
theorem dtext_any (l : List It) (A : Option Addr) (c : Nat) (w : World) (hR : Rd w w.heap.size A l.length (fun k => (l.getD k (.num 0)).iface)) (hn : l.length ≤ 1000) (hok : ∀ x ∈ l, x.ok) (he : (listB (l.map It.enc)).length + 16 ≤ 140737488355328) :
    Calls Tryz.prog 125 #[.slice A l.length c] w (BytesPost (listB (l.map It.enc)) w) := by
  obtain ⟨m, hm⟩ : ∃ m, m = l.length := ⟨_, rfl⟩
  rw [← hm] at hn ⊢
  have HM := Lib.hid hm
  have HOK := Lib.hid hok
  have HE := Lib.hid he
  have HR := Lib.hid hR
  clear hm hok he hR
  go_enter Tryz.func125, Tryz.ntmps125
  go_wp2_with (refine wpList_store_new rfl 194 _ _ rfl w _ #[.int .i64 3, .int .i64 0, .string ⟨#[]⟩, .slice none 0 0] 194 rfl rfl valueSize rfl rfl ?_)
  go_wp2_with fail
  go_loopw [13] (fun i wr => DRel w l m i wr) (fun i _ => m - (intOf i).toNat)
  case atStart => exact ⟨0, .slice none 0 0, by omega, rfl, Blk.new _ _ _, VOwn.nil _ _, (Below.refl _ w).alloc (Nat.le_refl _) _⟩
  case round =>
    obtain ⟨j, v, hj, rfl, hX, hown, hB⟩ := hrel
    by_cases hlt : j < m
    · obtain ⟨x, hx⟩ : ∃ x, l[j]? = some x := ⟨_, List.getElem?_eq_getElem (by rw [← HM.out]; exact hlt)⟩
      obtain ⟨b, off, rfl, hbl, hcell⟩ := (HR.out.below hB).at_ (k := j) (by rw [← HM.out]; exact hlt)
      have hxok := HOK.out x (List.mem_of_getElem? hx)
      rw [show l.getD j (It.num 0) = x by rw [List.getD_eq_getElem?_getD, hx]; rfl] at hcell
      have HS := Lib.hid (fun w' v' hg hO i hi => DRel.step (w' := w') (v' := v') hx hB hX hown hg hO i hi m (by omega))
      have hvk : some w.heap.size ≠ v.ownBlock := fun e => by have := (World.ownsRow.lt hown _ e.symm).1; omega
      have hsz := hB.size
      have hlen : ((l.take j).map It.v4).length ≤ 1000 := by rw [List.length_map, List.length_take]; omega
      have c3 : wr.cell? ⟨w.heap.size, 3, none⟩ = some v := hX.cell 3
      have hlt0 := hX.lt
      clear hx hB
      rcases x with k | d
      · have hcell' : wr.cell? ⟨b, off + j, none⟩ = some (.iface 3 (.int .i64 k)) := hcell
        clear hcell
        have hO1 := hown.alloc (.cells #[.int .i64 1, .int .i64 k, .string ⟨#[]⟩, .slice none 0 0] 194)
        have hX1 := hX.alloc (.cells #[.int .i64 1, .int .i64 k, .string ⟨#[]⟩, .slice none 0 0] 194)
        go_wp2_with (at_builtin; refine app_value rfl _ _ rfl (w.heap.size + 1) v _ rfl hO1 (V4.int k) ⟨rfl, rfl, rfl⟩ (Blk.new _ _ _) rfl (by omega) (by simp; omega) ?_; intro v2 w2 hown2 hg2; obtain ⟨A2, n2, cc2, rfl, -⟩ := hown2.shape; have hX2 := hX1.grown hg2.1 hvk; obtain ⟨_, e3⟩ := hX2.some_ (i := 3) (Nat.lt_succ_self 3); have f3 := hX2.frozen 3)
        go_roundw
        case rel => exact HS.out w2 _ hg2.alloc_first hown2 _ (by go_num)
        case measure => simp [intOf]; omega
      · have hcell' : wr.cell? ⟨b, off + j, none⟩ = some (.iface 31 (.agg (Go.Proofs.YtkkcbkfpaoldmaaGreatDoor.dig d))) := hcell
        have hd : d.length = 32 := hxok
        clear hcell hxok
        have hD : Blk (wr.alloc (.cells (dig d) 31)) wr.heap.size 31 (dig d) := Blk.new _ _ _
        have hO1 := hown.alloc (.cells (dig d) 31)
        have hX1 := hX.alloc (.cells (dig d) 31)
        have hB1 : Below wr.heap.size wr (wr.alloc (.cells (dig d) 31)) := (Below.refl _ wr).alloc (Nat.le_refl _) _
        go_wp2_with (refine store_dig_new rfl _ _ rfl wr _ _ d hd rfl rfl rfl ?_)
        generalize wr.alloc (.cells (dig d) 31) = w1 at hD hO1 hX1 hB1 ⊢
        have hDR : RdB w1 w1.heap.size (some ⟨wr.heap.size, 0, none⟩) d := RdB.of_blk hD fun k hk => by rw [Nat.zero_add]; exact dig_get d k hk
        have d3 : w1.cell? ⟨w.heap.size, 3, none⟩ = some v := hX1.cell 3
        have hsz1 := hB1.size
        have hcv : (convert 177 9 (.slice (some ⟨wr.heap.size, 0, none⟩) 32 32)).run Tryz.prog w1.drew = .ok (.string ⟨d.toArray⟩) w1.drew := by
          have := run_str (c := 32) hDR.drew
          rwa [hd] at this
        clear hD hDR
        have hlt1 := hX1.lt
        go_region_law (first
            | (refine step_value rfl _ _ rfl (w.heap.size + 1) _ v _ rfl (hO1.alloc _) (V4.text ⟨d.toArray⟩) ⟨rfl, rfl, rfl⟩ (Blk.new _ _ _) rfl (by omega) (by simp; omega) ?_; intro v2 w2 hown2 hg2; obtain ⟨A2, n2, cc2, rfl, -⟩ := hown2.shape; have hX2 := ((hX1.drew).alloc _).grown hg2.1 hvk; have hk3 : w2.cell? ⟨w.heap.size, 3, none⟩ = some v := hX2.cell 3; have f3 := hX2.frozen 3))
        all_goals
          clear hcv
          go_wp2_with fail
          go_roundw
          case rel => exact HS.out w2 _ ((Grew.of_below (hB1.alloc hB1.size _).drew v).trans hg2) hown2 _ (by go_num)
          case measure => simp [intOf]; omega
    · have hjm : j = m := by omega
      obtain ⟨A2, n2, c2, rfl, hn2, hlc, hcc, hEl⟩ := hown.shape
      have HN2 := Lib.hid hn2
      clear hn2
      have e0 : wr.cell? ⟨w.heap.size, 0, none⟩ = some (.int .i64 3) := hX.cell 0
      have e1 : wr.cell? ⟨w.heap.size, 1, none⟩ = some (.int .i64 0) := hX.cell 1
      have e2 : wr.cell? ⟨w.heap.size, 2, none⟩ = some (.string ⟨#[]⟩) := hX.cell 2
      have e3 : wr.cell? ⟨w.heap.size, 3, none⟩ = some (.slice A2 n2 c2) := hX.cell 3
      go_wp2_with fail
      refine (encode_ok ⟨3, .int .i64 0, .string ⟨#[]⟩, .slice A2 n2 c2⟩ 1 (listB (l.map It.enc)) wr ?_ (by omega) HE.out).mono ?_
      · have h2 := HN2.out
        have h3 := HM.out
        rw [hjm, h3, List.take_length, List.length_map] at h2
        rw [h2]
        have h4 := enc_list wr A2 (l.map It.v4) (l.map It.enc) c2 0 (by simp) (by rw [hjm, h3, List.take_length] at hEl; exact hEl) (by simp; omega) hcc (by simp; omega) (by omega) (fun i x e hx he => by
          rw [List.getElem?_map] at hx he
          obtain ⟨y, hy, rfl⟩ := Option.map_eq_some_iff.1 hx
          rw [hy] at he
          obtain rfl : y.enc = e := by simpa using he
          exact y.enc_of wr (HOK.out y (List.mem_of_getElem? hy)))
        rw [List.length_map] at h4
        exact h4
      · rintro e3 w3 ⟨v3, rfl, hown3, hb3⟩
        go_wp2_with fail
        go_ret
        exact ⟨v3, rfl, own_weaken hown3 hB.size, hB.trans (hb3.mono hB.size)⟩
end Go.Proofs.YtkkcbkfpaoldmaaGreatDoor

/- Laws at single operations, for walks: values appended onto values of the call's own; bytes turned into a string; what an interface holds. -/
import Derived.Test.YtibnikokgbfcdaaDoorW11
import Derived.Laws.IdiomStrings
namespace Go.Proofs.YtibnikokgbfcdaaDoor
open Go Go.RowKit

theorem vInfo_all : ∃ i, Tryd.prog.info? 93 = some i ∧ i.zero = some (.agg #[.int .i64 0, .int .i64 0, .string ⟨#[]⟩, .slice none 0 0]) ∧ i.size = 4 ∧ i.bytes = 56 := by
  have h : (Tryd.prog.info? 93).map (fun i => (i.zero, i.size, i.bytes)) = some (some (.agg #[.int .i64 0, .int .i64 0, .string ⟨#[]⟩, .slice none 0 0]), 4, 56) := by kernel_rfl
  obtain ⟨i, hi, h0, h1, h2⟩ := info_parts h
  exact ⟨i, hi, h0, h1, h2⟩
noncomputable def vInfo : TypeInfo := vInfo_all.choose
theorem vInfo_eq : Tryd.prog.info? 93 = some vInfo := vInfo_all.choose_spec.1
theorem vInfo_zero : vInfo.zero = some (.agg #[.int .i64 0, .int .i64 0, .string ⟨#[]⟩, .slice none 0 0]) := vInfo_all.choose_spec.2.1
theorem vInfo_size : vInfo.size = 4 := vInfo_all.choose_spec.2.2.1
theorem vInfo_bytes : vInfo.bytes = 56 := vInfo_all.choose_spec.2.2.2

/-- The cells of a value, and of values side by side. -/
def V4.cells (x : V4) : List Value := [.int .i64 x.kind, x.n, x.s, x.l]
def vcells (l : List V4) : List Value := l.flatMap V4.cells
theorem vcells_append (a b : List V4) : vcells (a ++ b) = vcells a ++ vcells b := by simp [vcells]
theorem vcells_len (l : List V4) : (vcells l).length = l.length * 4 := by
  induction l with
  | nil => rfl
  | cons x l ih => simp only [vcells, List.flatMap_cons, List.length_append, List.length_cons] at ih ⊢; rw [ih]; simp only [V4.cells, List.length_cons, List.length_nil]; omega
theorem vcells_get (l : List V4) : ∀ i x, l[i]? = some x → ∀ j, j < 4 → (vcells l)[i * 4 + j]? = x.cells[j]? := by
  induction l with
  | nil => intro i x h; simp at h
  | cons y l ih =>
    intro i x h j hj
    have e : vcells (y :: l) = y.cells ++ vcells l := by simp [vcells]
    have hy : y.cells.length = 4 := rfl
    cases i with
    | zero =>
      obtain rfl : y = x := by simpa using h
      rw [e, List.getElem?_append_left (by omega)]; simp
    | succ i =>
      rw [e, List.getElem?_append_right (by omega), hy, show (i + 1) * 4 + j - 4 = i * 4 + j by omega]
      exact ih i x (by simpa using h) j hj
def V4.one (x : V4) : Prop := x.n.oneCell' = true ∧ x.s.oneCell' = true ∧ x.l.oneCell' = true
theorem V4.cells_one {x : V4} (h : x.one) : ∀ u ∈ x.cells, u.oneCell' = true := by
  intro u hu
  simp only [V4.cells, List.mem_cons, List.not_mem_nil, or_false] at hu
  rcases hu with rfl | rfl | rfl | rfl
  · rfl
  · exact h.1
  · exact h.2.1
  · exact h.2.2
/-- The row of the call's own that holds these values. -/
def VOwn (w : World) (base : Nat) (v : Value) (l : List V4) : Prop := w.ownsRow base 93 4 v l.length (vcells l)
theorem VOwn.nil (w : World) (base : Nat) : VOwn w base (.slice none 0 0) [] := World.ownsRow_nil _ _ _ _
theorem VOwn.alloc {w : World} {base : Nat} {v : Value} {l : List V4} (h : VOwn w base v l) (o : Obj) : VOwn (w.alloc o) base v l := World.ownsRow.alloc h o
/-- An owned row of values, as a slice that holds them. -/
theorem VOwn.elems {w : World} {base : Nat} {v : Value} {l : List V4} (h : VOwn w base v l) : ∃ A c, v = .slice A l.length c ∧ l.length ≤ c ∧ c ≤ 9223372036854775807 ∧ Elems w w.heap.size A l := by
  rcases h.2 with ⟨rfl, h0⟩ | ⟨g, cap, cur, rfl, hbg, hg, hnc, hcm, hcs, htake⟩
  · refine ⟨none, 0, by rw [h0], by omega, by omega, fun hn => absurd hn (by omega)⟩
  · refine ⟨some ⟨g, 0, none⟩, cap, rfl, hnc, by simp only [maxLen] at hcm; omega, fun _ => ⟨g, 0, rfl, (Array.getElem?_eq_some_iff.1 hg).1, fun i x hx => ?_⟩⟩
    have hc : ∀ j, j < 4 → ∀ u, x.cells[j]? = some u → w.cell? ⟨g, 0 + i * 4 + j, none⟩ = some u := fun j hj u hu => by
      have := World.ownsRow.cells h (g := g) rfl (i * 4 + j) u ((vcells_get l i x hx j hj).trans hu)
      rw [Addr.add_mid] at this
      rw [← this]; congr 2; omega
    exact ⟨hc 0 (by omega) _ rfl, hc 1 (by omega) _ rfl, hc 2 (by omega) _ rfl, hc 3 (by omega) _ rfl⟩

section
variable {ops : Array Oper} {rest : List Oper} {o : Oper} {a : Act} {Q : Exit → Act → World → Prop}
theorem src_value {W : World} {g : Nat} {t : TypeId} (y : V4) (hy : y.one) (h : Blk W g t #[.int .i64 y.kind, y.n, y.s, y.l]) : Src Tryd.prog 4 91 (.slice (some ⟨g, 0, none⟩) 1 1) 1 y.cells W := by
  have hR : Rd W W.heap.size (some ⟨g, 0, none⟩) (1 * 4) (fun k => y.cells.getD k undef) := Rd.of_blk h h.lt fun k hk => by
    rcases k with _ | _ | _ | _ | k <;> first | rfl | omega
  have hs := src_rd (P := Tryd.prog) W (size := 4) (tx := 91) (n := 1) (c := 1) Tryd.underlying91 hR (by omega) (fun k hk => by
    refine V4.cells_one hy _ ?_
    rcases k with _ | _ | _ | _ | k <;> first | (simp [V4.cells]; done) | omega)
  have e : (List.range (1 * 4)).map (fun k => y.cells.getD k undef) = y.cells := rfl
  rw [e] at hs
  exact hs
theorem app_value (hgd : o.guard = none) (s x : Operand) (ho : o.op = .call { callee := .builtin .append, args := #[s, x], argTypes := #[91, 91] })
    (base : Nat) {w : World} (v : Value) (l : List V4) (hs : a.eval s = v) (hown : VOwn w base v l) (y : V4) (hy : y.one) {g : Nat} {t : TypeId} (hg : Blk w g t #[.int .i64 y.kind, y.n, y.s, y.l])
    (hx : a.eval x = .slice (some ⟨g, 0, none⟩) 1 1) (h47 : l.length + 1 ≤ 1000000000000) (hbase : base ≤ w.heap.size)
    (h : ∀ v' w', VOwn w' base v' (l ++ [y]) → Grew w w' v v' → wpList Tryd.prog ops Q rest (a.put o.dst v') w') : wpList Tryd.prog ops Q (o :: rest) a w :=
  wpList_append_src w hgd s x 91 91 ho base 93 vInfo (.agg #[.int .i64 0, .int .i64 0, .string ⟨#[]⟩, .slice none 0 0]) 4 56 Tryd.underlying91 vInfo_eq vInfo_zero vInfo_size vInfo_bytes rfl v l.length (vcells l) hs hown _ 1 y.cells hx (src_value y hy hg)
    (by simp only [maxLen]; omega) (by omega) hbase fun v' w' h1 h2 => h v' w' (by
      show World.ownsRow w' base 93 4 v' (l ++ [y]).length (vcells (l ++ [y]))
      rw [vcells_append, List.length_append, show vcells [y] = y.cells by simp [vcells]]; exact h1) h2
/-- The same at one operation of a region that draws its order. -/
theorem step_value {K : Act → World → Prop} {E : Prop} (hgd : o.guard = none) (s x : Operand) (ho : o.op = .call { callee := .builtin .append, args := #[s, x], argTypes := #[91, 91] })
    (base : Nat) (w : World) (v : Value) (l : List V4) (hs : a.eval s = v) (hown : VOwn w base v l) (y : V4) (hy : y.one) {g : Nat} {t : TypeId} (hg : Blk w g t #[.int .i64 y.kind, y.n, y.s, y.l])
    (hx : a.eval x = .slice (some ⟨g, 0, none⟩) 1 1) (h47 : l.length + 1 ≤ 1000000000000) (hbase : base ≤ w.heap.size)
    (h : ∀ v' w', VOwn w' base v' (l ++ [y]) → Grew w w' v v' → K (a.put o.dst v') w') :
    if Region.wanted o (yielded ops a.tmps) = true then Oper.wp Tryd.prog o a w K Q else E := by
  have hw : Region.wanted o (yielded ops a.tmps) = true := by simp [Region.wanted, hgd]
  rw [if_pos hw]
  obtain ⟨v', w', hrun, h2, h3⟩ := run_append_own_src (P := Tryd.prog) w base 91 91 o.type 93 vInfo (.agg #[.int .i64 0, .int .i64 0, .string ⟨#[]⟩, .slice none 0 0]) 4 56 Tryd.underlying91 vInfo_eq vInfo_zero vInfo_size vInfo_bytes rfl v l.length (vcells l) hown _ 1 y.cells (src_value y hy hg) (by simp only [maxLen]; omega) (by omega) hbase
  unfold Oper.wp execOp
  simp only [ho, resolve, invoke, builtin, Sem.run_bind, Sem.run_pure, Result.andThen_ok, List.map_toArray, List.map_cons, List.map_nil, hs, hx, hrun]
  exact h v' w' (by
      show World.ownsRow w' base 93 4 v' (l ++ [y]).length (vcells (l ++ [y]))
      rw [vcells_append, List.length_append, show vcells [y] = y.cells by simp [vcells]]; exact h2) h3
/-- 'string(b)' of bytes that can be read. -/
theorem run_str {w : World} {B : Nat} {A : Option Addr} {l : List UInt8} {c : Nat} (hR : RdB w B A l) : (convert 39 9 (.slice A l.length c)).run Tryd.prog w = .ok (.string ⟨l.toArray⟩) w := by
  cases A with
  | none =>
    obtain rfl : l = [] := by
      rcases l with _ | ⟨x, l⟩
      · rfl
      · obtain ⟨b, off, e, _⟩ := hR (by simp)
        cases e
    exact run_convert_bytes_nil (P := Tryd.prog) w 39 5 Tryd.underlying39 Tryd.underlying5 _ c _ Tryd.underlying9
  | some p =>
    rcases Nat.eq_zero_or_pos l.length with h0 | h0
    · obtain rfl := List.eq_nil_of_length_eq_zero h0
      exact run_convert_bytes_back (P := Tryd.prog) w 39 9 5 p c [] Tryd.underlying39 Tryd.underlying5 Tryd.underlying9 (fun j hj => by cases hj)
    · obtain ⟨b, off, e, _, hc⟩ := hR h0
      obtain rfl := Option.some.inj e
      refine run_convert_bytes_back (P := Tryd.prog) w 39 9 5 _ c l Tryd.underlying39 Tryd.underlying5 Tryd.underlying9 (fun j hj => ?_)
      rw [Addr.add_mid, hc j hj]
      simp [byteAt, List.getD_eq_getElem?_getD, List.getElem?_eq_getElem hj]
theorem to_str (hgd : o.guard = none) (x : Operand) (ho : o.op = .convert 39 9 x) {w : World} {B : Nat} {A : Option Addr} {l : List UInt8} {c : Nat} (hx : a.eval x = .slice A l.length c) (hR : RdB w B A l)
    (h : wpList Tryd.prog ops Q rest (a.put o.dst (.string ⟨l.toArray⟩)) w) : wpList Tryd.prog ops Q (o :: rest) a w :=
  wpList_plain hgd fun _ hK => by
    unfold Oper.wp execOp
    simp only [ho, hx, Sem.run_bind, Result.andThen_ok, run_str hR]
    exact hK _ _ h
theorem step_str {K : Act → World → Prop} {E : Prop} (hgd : o.guard = none) (x : Operand) (ho : o.op = .convert 39 9 x) {w : World} {B : Nat} {A : Option Addr} {l : List UInt8} {c n : Nat} (hx : a.eval x = .slice A n c) (hn : n = l.length) (hR : RdB w B A l)
    (h : K (a.put o.dst (.string ⟨l.toArray⟩)) w) : if Region.wanted o (yielded ops a.tmps) = true then Oper.wp Tryd.prog o a w K Q else E := by
  subst hn
  have hw : Region.wanted o (yielded ops a.tmps) = true := by simp [Region.wanted, hgd]
  rw [if_pos hw]
  unfold Oper.wp execOp
  simp only [ho, hx, Sem.run_bind, Result.andThen_ok, run_str hR]
  exact h
end
end Go.Proofs.YtibnikokgbfcdaaDoor

/- Rows of pledges or reveals of the call's own. -/
import Derived.Test.YtibnikokgbfcdaaDoorBeS
namespace Go.Proofs.YtibnikokgbfcdaaDoor
open Go Go.RowKit

theorem pledgeI_all : ∃ i z, Tryd.prog.info? 61 = some i ∧ i.zero = some z ∧ i.size = 33 ∧ i.bytes = 40 ∧ z.cells.size = 33 := by
  refine ⟨_, _, Option.eq_some_of_isSome (by kernel_rfl), Option.eq_some_of_isSome (by kernel_rfl), by kernel_rfl, by kernel_rfl, by kernel_rfl⟩
theorem revealI_all : ∃ i z, Tryd.prog.info? 69 = some i ∧ i.zero = some z ∧ i.size = 33 ∧ i.bytes = 40 ∧ z.cells.size = 33 := by
  refine ⟨_, _, Option.eq_some_of_isSome (by kernel_rfl), Option.eq_some_of_isSome (by kernel_rfl), by kernel_rfl, by kernel_rfl, by kernel_rfl⟩
def pcells (l : List Pd) : List Value := l.flatMap Pd.cells
def Dg32 (l : List Pd) : Prop := ∀ p ∈ l, p.dg.length = 32
theorem pcells_append (a b : List Pd) : pcells (a ++ b) = pcells a ++ pcells b := by simp [pcells]
theorem pcells_one (p : Pd) : pcells [p] = p.cells := by simp [pcells]
theorem pcells_get (l : List Pd) (h : Dg32 l) : ∀ i p, l[i]? = some p → ∀ j, j < 33 → (pcells l)[i * 33 + j]? = p.cells[j]? := by
  induction l with
  | nil => intro i x h; simp at h
  | cons y l ih =>
    intro i x hx j hj
    have e : pcells (y :: l) = y.cells ++ pcells l := by simp [pcells]
    have hy : y.cells.length = 33 := y.cells_len (h y (List.mem_cons_self ..))
    cases i with
    | zero =>
      obtain rfl : y = x := by simpa using hx
      rw [e, List.getElem?_append_left (by omega)]; simp
    | succ i =>
      rw [e, List.getElem?_append_right (by omega), hy, show (i + 1) * 33 + j - 33 = i * 33 + j by omega]
      exact ih (fun q hq => h q (List.mem_cons_of_mem _ hq)) i x (by simpa using hx) j hj
/-- The row of the call's own that holds these. -/
def POwn (t : TypeId) (w : World) (base : Nat) (v : Value) (l : List Pd) : Prop := w.ownsRow base t 33 v l.length (pcells l)
theorem POwn.nil (t : TypeId) (w : World) (base : Nat) : POwn t w base (.slice none 0 0) [] := World.ownsRow_nil _ _ _ _
theorem POwn.alloc {t : TypeId} {w : World} {base : Nat} {v : Value} {l : List Pd} (h : POwn t w base v l) (o : Obj) : POwn t (w.alloc o) base v l := World.ownsRow.alloc h o
theorem POwn.below {t : TypeId} {w w' : World} {base : Nat} {v : Value} {l : List Pd} (h : POwn t w base v l) (hb : Below w.heap.size w w') : POwn t w' base v l :=
  World.ownsRow.kept h (row := none) ⟨hb.os, hb.tape, hb.output, hb.size, fun i hi _ => hb.block i hi⟩ (by cases v.ownBlock <;> simp)
theorem POwn.shape {t : TypeId} {w : World} {base : Nat} {v : Value} {l : List Pd} (h : POwn t w base v l) (hl : Dg32 l) : ∃ A c, v = .slice A l.length c ∧ l.length ≤ c ∧ c ≤ 9223372036854775807 ∧ PRd w w.heap.size A l := by
  rcases h.2 with ⟨rfl, h0⟩ | ⟨g, cap, cur, rfl, hbg, hg, hnc, hcm, hcs, htake⟩
  · exact ⟨none, 0, by rw [h0], by omega, by omega, fun hn => absurd hn (by omega)⟩
  · refine ⟨some ⟨g, 0, none⟩, cap, rfl, hnc, by simp only [maxLen] at hcm; omega, fun _ => ⟨g, 0, rfl, (Array.getElem?_eq_some_iff.1 hg).1, fun k x hx => ?_⟩⟩
    have hp := hl x (List.mem_of_getElem? hx)
    refine ⟨hp, fun j u hu => ?_⟩
    have hj : j < 33 := by
      have := (List.getElem?_eq_some_iff.1 hu).1
      rw [x.cells_len hp] at this
      exact this
    have := World.ownsRow.cells h (g := g) rfl (k * 33 + j) u ((pcells_get l hl k x hx j hj).trans hu)
    rw [Addr.add_mid] at this
    rw [← this]
    congr 2
    omega
section
variable {ops : Array Oper} {rest : List Oper} {o : Oper} {a : Act} {Q : Exit → Act → World → Prop}
theorem src_pd {st t tt : TypeId} (hst : Tryd.prog.underlying st = some (.slice t)) {W : World} {g : Nat} (y : Pd) (hp : y.dg.length = 32) (h : Blk W g tt y.cells.toArray) : Src Tryd.prog 33 st (.slice (some ⟨g, 0, none⟩) 1 1) 1 y.cells W := by
  have hlen := y.cells_len hp
  have hR : Rd W W.heap.size (some ⟨g, 0, none⟩) (1 * 33) (fun k => y.cells.getD k undef) := Rd.of_blk h h.lt fun k hk => by
    rw [Nat.zero_add, List.getElem?_toArray, List.getElem?_eq_getElem (by omega)]
    simp [List.getD_eq_getElem?_getD, List.getElem?_eq_getElem (show k < y.cells.length by omega)]
  have hs := src_rd (P := Tryd.prog) W (size := 33) (tx := st) (n := 1) (c := 1) hst hR (by decide) (fun k hk => by
    have hk2 : k < y.cells.length := by omega
    have e : y.cells.getD k undef = y.cells[k] := by simp [List.getD_eq_getElem?_getD, List.getElem?_eq_getElem hk2]
    rw [e]
    exact y.one _ (List.getElem_mem hk2))
  have e : (List.range (1 * 33)).map (fun k => y.cells.getD k undef) = y.cells := by
    apply List.ext_getElem? fun k => ?_
    by_cases hk : k < 33
    · rw [List.getElem?_map, List.getElem?_range (by omega), List.getElem?_eq_getElem (by omega)]
      simp [List.getD_eq_getElem?_getD, List.getElem?_eq_getElem (show k < y.cells.length by omega)]
    · rw [List.getElem?_eq_none (by simp; omega), List.getElem?_eq_none (by omega)]
  rw [e] at hs
  exact hs
theorem app_pd {st t tt : TypeId} (hst : Tryd.prog.underlying st = some (.slice t)) (hI : ∃ i z, Tryd.prog.info? t = some i ∧ i.zero = some z ∧ i.size = 33 ∧ i.bytes = 40 ∧ z.cells.size = 33) (hgd : o.guard = none) (s x : Operand) (ho : o.op = .call { callee := .builtin .append, args := #[s, x], argTypes := #[st, st] })
    (base : Nat) {w : World} (v : Value) (l : List Pd) (hs : a.eval s = v) (hown : POwn t w base v l) (y : Pd) (hp : y.dg.length = 32) {g : Nat} (hg : Blk w g tt y.cells.toArray)
    (hx : a.eval x = .slice (some ⟨g, 0, none⟩) 1 1) (h47 : l.length + 1 ≤ 1000000) (hbase : base ≤ w.heap.size)
    (h : ∀ v' w', POwn t w' base v' (l ++ [y]) → Grew w w' v v' → wpList Tryd.prog ops Q rest (a.put o.dst v') w') : wpList Tryd.prog ops Q (o :: rest) a w := by
  obtain ⟨li, lz, hl1, hl2, hl3, hl4, hl5⟩ := hI
  exact wpList_append_src w hgd s x st st ho base t li lz 33 40 hst hl1 hl2 hl3 hl4 hl5 v l.length (pcells l) hs hown _ 1 y.cells hx (src_pd hst y hp hg)
    (by simp only [maxLen]; omega) (by omega) hbase fun v' w' h1 h2 => h v' w' (by
      show World.ownsRow w' base t 33 v' (l ++ [y]).length (pcells (l ++ [y]))
      rw [pcells_append, pcells_one, List.length_append]; exact h1) h2
end
end Go.Proofs.YtibnikokgbfcdaaDoor

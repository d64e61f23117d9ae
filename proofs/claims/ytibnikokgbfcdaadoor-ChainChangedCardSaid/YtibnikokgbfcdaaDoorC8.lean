/- Links laid one after the other: their cells, a row that owns them, an append onto links that came in. -/
import Derived.Test.YtibnikokgbfcdaaDoorChP
import Derived.Test.YtibnikokgbfcdaaDoorC6
import Derived.ArgAppend
import Derived.Deep.RegionLawGrows
namespace Go.Proofs.YtibnikokgbfcdaaDoor
open Go Go.RowKit

theorem linkI_all : ∃ i z, Tryd.prog.info? 52 = some i ∧ i.zero = some z ∧ i.size = 35 ∧ i.bytes = 72 ∧ z.cells.size = 35 := by
  refine ⟨_, _, Option.eq_some_of_isSome (by kernel_rfl), Option.eq_some_of_isSome (by kernel_rfl), by kernel_rfl, by kernel_rfl, by kernel_rfl⟩
/-- The cells of links, each with what it leads to. -/
def lcells (l : List (Lk × Value)) : List Value := l.flatMap (fun p => p.1.cells p.2)
theorem lcells_append (a b : List (Lk × Value)) : lcells (a ++ b) = lcells a ++ lcells b := by simp [lcells]
theorem lcells_one (p : Lk × Value) : lcells [p] = p.1.cells p.2 := by simp [lcells]
def Prev32 (l : List (Lk × Value)) : Prop := ∀ p ∈ l, p.1.prev.length = 32
theorem lcells_len (l : List (Lk × Value)) (h : Prev32 l) : (lcells l).length = l.length * 35 := by
  induction l with
  | nil => rfl
  | cons p l ih =>
    have h1 := ih (fun q hq => h q (List.mem_cons_of_mem _ hq))
    simp only [lcells, List.flatMap_cons, List.length_append, List.length_cons] at h1 ⊢
    rw [h1, p.1.cells_len p.2 (h p (List.mem_cons_self ..))]
    omega
theorem lcells_get (l : List (Lk × Value)) (h : Prev32 l) : ∀ i p, l[i]? = some p → ∀ j, j < 35 → (lcells l)[i * 35 + j]? = (p.1.cells p.2)[j]? := by
  induction l with
  | nil => intro i x h; simp at h
  | cons y l ih =>
    intro i x hx j hj
    have e : lcells (y :: l) = y.1.cells y.2 ++ lcells l := by simp [lcells]
    have hy : (y.1.cells y.2).length = 35 := y.1.cells_len y.2 (h y (List.mem_cons_self ..))
    cases i with
    | zero =>
      obtain rfl : y = x := by simpa using hx
      rw [e, List.getElem?_append_left (by omega)]; simp
    | succ i =>
      rw [e, List.getElem?_append_right (by omega), hy, show (i + 1) * 35 + j - 35 = i * 35 + j by omega]
      exact ih (fun q hq => h q (List.mem_cons_of_mem _ hq)) i x (by simpa using hx) j hj
theorem lcells_idx (l : List (Lk × Value)) (h : Prev32 l) {j : Nat} {u : Value} (hu : (lcells l)[j]? = some u) : ∃ p, l[j / 35]? = some p ∧ (p.1.cells p.2)[j % 35]? = some u := by
  have hj := (List.getElem?_eq_some_iff.1 hu).1
  rw [lcells_len l h] at hj
  have hd : j / 35 < l.length := by omega
  refine ⟨l[j / 35], List.getElem?_eq_getElem hd, ?_⟩
  rw [← lcells_get l h (j / 35) _ (List.getElem?_eq_getElem hd) (j % 35) (by omega), show j / 35 * 35 + j % 35 = j by omega]
  exact hu
/-- What a link leads to. -/
def Leads (w : World) (B : Nat) (p : Lk × Value) : Prop := p.1.prev.length = 32 ∧ ∃ D c, p.2 = .slice D p.1.data.length c ∧ p.1.data.length ≤ c ∧ c ≤ 9223372036854775807 ∧ RdB w B D p.1.data
theorem Leads.later {w w' : World} {B B' : Nat} {p : Lk × Value} (h : Leads w B p) (hb : Below B w w') (hB : B ≤ B') : Leads w' B' p := by
  obtain ⟨h1, D, c, h2, h3, h4, h5⟩ := h
  exact ⟨h1, D, c, h2, h3, h4, (h5.below hb).more hB⟩
theorem Leads.one {w : World} {B : Nat} {p : Lk × Value} (h : Leads w B p) : ∀ u ∈ p.1.cells p.2, u.oneCell' = true := by
  obtain ⟨h1, D, c, h2, -⟩ := h
  rw [h2]
  exact Lk.one _ _ _ _
/-- Links in memory, as cells. -/
theorem LRd.cells {w : World} {B : Nat} {A : Option Addr} {l : List Lk} (h : LRd w B A l) : ∃ ps : List (Lk × Value), ps.map Prod.fst = l ∧ (∀ p ∈ ps, Leads w B p) ∧ ∀ b, A = some b → ∀ (j : Nat) u, (lcells ps)[j]? = some u → w.cell? (b.add j) = some u := by
  rcases Nat.eq_zero_or_pos l.length with h0 | h0
  · obtain rfl := List.eq_nil_of_length_eq_zero h0
    exact ⟨[], rfl, fun p hp => (by cases hp), fun b _ j u hu => by simp [lcells] at hu⟩
  · obtain ⟨b, off, V, rfl, hb, hv⟩ := h.v h0
    have hL : ∀ p ∈ (List.range l.length).map (fun k => (l.getD k ⟨0, 0, [], []⟩, Value.slice (V k).1 (l.getD k ⟨0, 0, [], []⟩).data.length (V k).2)), Leads w B p := fun p hp => by
      obtain ⟨k, hk, rfl⟩ := List.mem_map.1 hp
      obtain ⟨h1, h2, h3, h4, h5⟩ := hv k (List.mem_range.1 hk)
      exact ⟨h1, _, _, rfl, h3, h4, h5⟩
    refine ⟨(List.range l.length).map (fun k => (l.getD k ⟨0, 0, [], []⟩, Value.slice (V k).1 (l.getD k ⟨0, 0, [], []⟩).data.length (V k).2)), ?_, hL, ?_⟩
    · rw [List.map_map]
      apply List.ext_getElem? fun k => ?_
      by_cases hk : k < l.length
      · rw [List.getElem?_map, List.getElem?_range hk, List.getElem?_eq_getElem hk]
        simp [List.getD_eq_getElem?_getD, List.getElem?_eq_getElem hk]
      · rw [List.getElem?_eq_none (by simp; omega), List.getElem?_eq_none (by omega)]
    · rintro b' e j u hu
      cases e
      have h32 : Prev32 ((List.range l.length).map (fun k => (l.getD k ⟨0, 0, [], []⟩, Value.slice (V k).1 (l.getD k ⟨0, 0, [], []⟩).data.length (V k).2))) := fun p hp => (hL p hp).1
      obtain ⟨p, hp, hu2⟩ := lcells_idx _ h32 hu
      have hk : j / 35 < l.length := by
        have := (List.getElem?_eq_some_iff.1 hp).1
        simpa using this
      rw [List.getElem?_map, List.getElem?_range hk] at hp
      obtain rfl := Option.some.inj hp
      have h2 := (hv (j / 35) hk).2.1 (j % 35) u hu2
      rw [Addr.add_mid, ← h2]
      congr 2
      omega
/-- A row of the call's own that holds links. -/
theorem own_links {w : World} {base : Nat} {v : Value} {ps : List (Lk × Value)} (h : w.ownsRow base 52 35 v ps.length (lcells ps)) (hl : ∀ p ∈ ps, Leads w w.heap.size p) :
    ∃ A c, v = .slice A ps.length c ∧ ps.length ≤ c ∧ c ≤ 9223372036854775807 ∧ LRd w w.heap.size A (ps.map Prod.fst) := by
  rcases h.2 with ⟨rfl, h0⟩ | ⟨g, cap, cur, rfl, hbg, hg, hnc, hcm, hcs, htake⟩
  · exact ⟨none, 0, by rw [h0], by omega, by omega, fun hn => absurd hn (by rw [List.length_map]; omega)⟩
  · refine ⟨some ⟨g, 0, none⟩, cap, rfl, hnc, by simp only [maxLen] at hcm; omega, fun _ => ⟨g, 0, rfl, (Array.getElem?_eq_some_iff.1 hg).1, fun k x hx => ?_⟩⟩
    rw [List.getElem?_map] at hx
    obtain ⟨p, hp, rfl⟩ := Option.map_eq_some_iff.1 hx
    obtain ⟨h1, D, c, h2, h3, h4, h5⟩ := hl p (List.mem_of_getElem? hp)
    refine ⟨h1, D, c, fun j u hu => ?_, h3, h4, h5⟩
    rw [← h2] at hu
    have hj : j < 35 := by
      have := (List.getElem?_eq_some_iff.1 hu).1
      rw [p.1.cells_len _ h1] at this
      exact this
    have := World.ownsRow.cells h (g := g) rfl (k * 35 + j) u ((lcells_get ps (fun q hq => (hl q hq).1) k p hp j hj).trans hu)
    rw [Addr.add_mid] at this
    rw [← this]
    congr 2
    omega
/-- How an append of one link onto links in a full slice ends. -/
theorem add_links {w w' : World} {l : List Lk} {ps : List (Lk × Value)} (hp : ps.map Prod.fst = l) (hl : ∀ p ∈ ps, Leads w w.heap.size p) {x : Lk} {u : Value} (hx : Leads w w.heap.size (x, u)) {v : Value} {n : Nat} (hn : n = l.length)
    (h : w'.ownsRow w.heap.size 52 35 v (n + 1) (lcells ps ++ x.cells u)) (hg : w.grownBy w' none) :
    ∃ B c, v = .slice B (n + 1) c ∧ n + 1 ≤ c ∧ c ≤ 9223372036854775807 ∧ LRd w' w'.heap.size B (l ++ [x]) := by
  have hb : Below w.heap.size w w' := ⟨hg.os, hg.tape, hg.output, hg.size, fun i hi => hg.block i hi (by simp)⟩
  have hpl : ps.length = n := by rw [hn, ← hp, List.length_map]
  have e : lcells ps ++ x.cells u = lcells (ps ++ [(x, u)]) := by rw [lcells_append, lcells_one]
  have hlen : (ps ++ [(x, u)]).length = n + 1 := by simp [hpl]
  rw [e, ← hlen] at h
  obtain ⟨B, c, h1, h2, h3, h4⟩ := own_links h (fun p hq => by
    rcases List.mem_append.1 hq with h5 | h5
    · exact (hl p h5).later hb hg.size
    · rw [List.mem_singleton.1 h5]
      exact hx.later hb hg.size)
  rw [hlen] at h1 h2
  refine ⟨B, c, h1, h2, h3, ?_⟩
  rw [List.map_append, hp] at h4
  exact h4
end Go.Proofs.YtibnikokgbfcdaaDoor

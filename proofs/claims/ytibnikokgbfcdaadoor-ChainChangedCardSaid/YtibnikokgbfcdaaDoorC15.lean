/- A link laid over one of an own row of links; a slice of links that begins at its head. -/
import Derived.Test.YtibnikokgbfcdaaDoorC12
namespace Go.Proofs.YtibnikokgbfcdaaDoor
open Go Go.RowKit

theorem only_setCells (g : Nat) : ∀ (vs : List Value) (o : Nat) (a w : World), Only a w g → Only a (w.setCells g o vs) g
  | [], _, _, _, h => h
  | v :: r, o, a, w, h => by
    rw [World.setCells]
    exact only_setCells g r (o + 1) a _ (Only.set h (.inl rfl) v)
theorem size_setCells (g : Nat) : ∀ (vs : List Value) (o : Nat) (w : World), (w.setCells g o vs).heap.size = w.heap.size
  | [], _, _ => rfl
  | v :: r, o, w => by
    rw [World.setCells, size_setCells g r]
    simp [World.setCell]
theorem own_set {w : World} {base : Nat} {ps : List (Lk × Value)} {n k : Nat} {v : Value} {x : Lk} {u : Value} (hn : n = ps.length) (h : w.ownsRow base 52 35 v n (lcells ps)) (hl : ∀ p ∈ ps, Leads w base p) (hx : Leads w base (x, u)) (hb : base ≤ w.heap.size) (hk : k < n) :
    ∃ g c, v = .slice (some ⟨g, 0, none⟩) n c ∧ base ≤ g ∧ n ≤ c ∧ c ≤ 9223372036854775807 ∧ w.there g (k * 35) 35 ∧ ∀ w', w' = w.setCells g (k * 35) (x.cells u) → Below base w w' ∧ LRd w' w'.heap.size (some ⟨g, 0, none⟩) ((ps.map Prod.fst).set k x) := by
  have hxl : (x.cells u).length = 35 := x.cells_len u hx.1
  rcases h.2 with ⟨rfl, h0⟩ | ⟨g, cap, cur, rfl, hbg, hg, hnc, hcm, hcs, htake⟩
  · omega
  · have hgl : g < w.heap.size := (Array.getElem?_eq_some_iff.1 hg).1
    have hth : w.there g (k * 35) 35 := fun j hj => by
      have h1 : (k + 1) * 35 ≤ cap * 35 := Nat.mul_le_mul_right 35 (by omega)
      rw [show w.cell? ⟨g, k * 35 + j, none⟩ = cur[k * 35 + j]? from cell_of_row w g _ cur _ (0, 0) hg, Array.getElem?_eq_getElem (by omega)]
      exact ⟨rfl, frozen_of_row w g _ cur _ hg⟩
    refine ⟨g, cap, rfl, hbg, hnc, by simp only [maxLen] at hcm; omega, hth, ?_⟩
    rintro w' rfl
    have hB : Below base w (w.setCells g (k * 35) (x.cells u)) := (only_setCells g _ _ w w (Only.refl w g)).toBelow hb hbg
    have hz := size_setCells g (x.cells u) (k * 35) w
    refine ⟨hB, fun _ => ⟨g, 0, rfl, by rw [hz]; exact hgl, fun i y hy => ?_⟩⟩
    have fin : ∀ (p : Lk × Value), Leads w base p → (w.setCells g (k * 35) (x.cells u)).rangeAt g (0 + i * 35) (p.1.cells p.2) → LkAt (w.setCells g (k * 35) (x.cells u)) (w.setCells g (k * 35) (x.cells u)).heap.size g (0 + i * 35) p.1 := fun p hp hr => by
      obtain ⟨h1, D, c, h2, h3, h4, h5⟩ := hp
      rw [h2] at hr
      exact ⟨h1, D, c, hr, h3, h4, (h5.below hB).more (by rw [hz]; exact hb)⟩
    have hi : i < ps.length := by
      have := (List.getElem?_eq_some_iff.1 hy).1
      simpa using this
    rw [Nat.zero_add]
    rw [Nat.zero_add] at fin
    by_cases hik : i = k
    · subst hik
      rw [List.getElem?_set_self (by simpa using hi)] at hy
      obtain rfl := Option.some.inj hy
      exact fin (x, u) hx (World.rangeAt_setCells_same w g (i * 35) (x.cells u) (by rw [hxl]; exact hth))
    · rw [List.getElem?_set_ne (fun e => hik e.symm), List.getElem?_map] at hy
      obtain ⟨p, hp, rfl⟩ := Option.map_eq_some_iff.1 hy
      have hpl := hl p (List.mem_of_getElem? hp)
      have hr : w.rangeAt g (i * 35) (p.1.cells p.2) := fun j z hz2 => by
        have hj : j < 35 := by
          have := (List.getElem?_eq_some_iff.1 hz2).1
          rw [p.1.cells_len _ hpl.1] at this
          exact this
        have := World.ownsRow.cells h (g := g) rfl (i * 35 + j) z ((lcells_get ps (fun q hq => (hl q hq).1) i p hp j hj).trans hz2)
        rw [Addr.add_mid, Nat.zero_add] at this
        exact this
      refine fin p hpl (World.rangeAt_setCells_apart hr g (k * 35) (x.cells u) (.inr ?_))
      rw [hxl, p.1.cells_len _ hpl.1]
      rcases Nat.lt_or_ge i k with hlt | hge
      · left
        have : (i + 1) * 35 ≤ k * 35 := Nat.mul_le_mul_right 35 hlt
        omega
      · right
        have : (k + 1) * 35 ≤ i * 35 := Nat.mul_le_mul_right 35 (by omega)
        omega
theorem store_link_mid {ops : Array Oper} {rest : List Oper} {o : Oper} {a : Act} {w : World} {Q : Exit → Act → World → Prop} (hgd : o.guard = none) (p y : Operand) (ho : o.op = .store 52 p y) (g k : Nat) (x : Lk) (A : Option Addr) (n c : Nat) (hl : x.prev.length = 32)
    (hx : a.eval p = .pointer (some ⟨g, k, none⟩)) (hy : a.eval y = .agg (x.cells (.slice A n c)).toArray) (ht : w.there g k 35)
    (h : wpList Tryd.prog ops Q rest (a.put o.dst undef) (w.setCells g k (x.cells (.slice A n c)))) : wpList Tryd.prog ops Q (o :: rest) a w := by
  have hs : (x.cells (.slice A n c)).toArray.size = 35 := by rw [List.size_toArray, x.cells_len _ hl]
  refine wpList_store_mid hgd _ p y ho g k (x.cells (.slice A n c)).toArray hx hy (by rw [hs]; exact ht) (by rw [hs]; exact linkInfo) (all_oneCell_toArray (x.one A n c)) ?_
  exact h
end Go.Proofs.YtibnikokgbfcdaaDoor

/- Plain laws of chains that part. -/
import Derived.Test.YtibnikokgbfcdaaDoorC7
namespace Go.Proofs.YtibnikokgbfcdaaDoor
open Go

theorem eqLk_comm (x y : Lk) : eqLk x y = eqLk y x := by
  rw [eqLk_dec, eqLk_dec]
  by_cases h : x = y
  · rw [h]
  · rw [decide_eq_false h, decide_eq_false (fun e => h e.symm)]
theorem diffAt_comm (l m : List Lk) : diffAt l m = diffAt m l := by
  unfold diffAt
  rw [Nat.min_comm]
  congr 1
  funext i
  rw [eqLk_comm]
theorem diffAt_none_inv {l m : List Lk} (h : diffAt l m = none) : ∀ j, j < min l.length m.length → l.getD j lk0 = m.getD j lk0 := by
  intro j hj
  have := List.find?_eq_none.1 h j (List.mem_range.2 hj)
  rw [eqLk_dec] at this
  simpa using this
theorem diffAt_some_inv {l m : List Lk} {k : Nat} (h : diffAt l m = some k) : k < min l.length m.length ∧ (∀ j, j < k → l.getD j lk0 = m.getD j lk0) ∧ l.getD k lk0 ≠ m.getD k lk0 := by
  unfold diffAt at h
  have h1 := List.mem_range.1 (List.mem_of_find?_eq_some h)
  have h2 := List.find?_some h
  rw [eqLk_dec] at h2
  refine ⟨h1, fun j hj => ?_, by simpa using h2⟩
  rw [List.find?_range_eq_some] at h
  have := h.2.2 j hj
  rw [eqLk_dec] at this
  simpa using this
theorem take_eq_of_getD {l m : List Lk} {k : Nat} (h1 : k ≤ l.length) (h2 : k ≤ m.length) (h : ∀ j, j < k → l.getD j lk0 = m.getD j lk0) : l.take k = m.take k := by
  apply List.ext_getElem? fun j => ?_
  by_cases hj : j < k
  · rw [List.getElem?_take_of_lt hj, List.getElem?_take_of_lt hj]
    have e := h j hj
    rw [List.getD_eq_getElem?_getD, List.getD_eq_getElem?_getD, List.getElem?_eq_getElem (by omega), List.getElem?_eq_getElem (by omega)] at e
    rw [List.getElem?_eq_getElem (by omega), List.getElem?_eq_getElem (by omega)]
    exact congrArg some e
  · rw [List.getElem?_eq_none (by rw [List.length_take]; omega), List.getElem?_eq_none (by rw [List.length_take]; omega)]
/-- How two chains part, in both orders. -/
theorem part_shape (l m : List Lk) :
    (∃ e f, e ≠ 0 ∧ f ≠ 0 ∧ partOf l m = (0, false, e) ∧ partOf m l = (0, false, f)) ∨
    (partOf l m = (0, false, 0) ∧ partOf m l = (0, false, 0) ∧ l.take (min l.length m.length) = m.take (min l.length m.length)) ∨
    ∃ k, k < min l.length m.length ∧ partOf l m = ((k : Int), true, 0) ∧ partOf m l = ((k : Int), true, 0) ∧ l.take k = m.take k ∧ l.getD k lk0 ≠ m.getD k lk0 := by
  by_cases h1 : chkOf l = 0
  · by_cases h2 : chkOf m = 0
    · by_cases h3 : 0 < l.length ∧ 0 < m.length ∧ (l.getD 0 lk0).node ≠ (m.getD 0 lk0).node
      · have h4 : 0 < m.length ∧ 0 < l.length ∧ (m.getD 0 lk0).node ≠ (l.getD 0 lk0).node := ⟨h3.2.1, h3.1, fun e => h3.2.2 e.symm⟩
        refine .inl ⟨80, 80, by decide, by decide, ?_, ?_⟩
        · rw [partOf, h1, h2, if_neg (by decide), if_neg (by decide), if_pos h3]
        · rw [partOf, h1, h2, if_neg (by decide), if_neg (by decide), if_pos h4]
      · have h4 : ¬ (0 < m.length ∧ 0 < l.length ∧ (m.getD 0 lk0).node ≠ (l.getD 0 lk0).node) := fun h => h3 ⟨h.2.1, h.1, fun e => h.2.2 e.symm⟩
        cases h5 : diffAt l m with
        | none =>
          refine .inr (.inl ⟨?_, ?_, take_eq_of_getD (Nat.min_le_left _ _) (Nat.min_le_right _ _) (diffAt_none_inv h5)⟩)
          · rw [partOf, h1, h2, if_neg (by decide), if_neg (by decide), if_neg h3, h5]
          · rw [partOf, h1, h2, if_neg (by decide), if_neg (by decide), if_neg h4, diffAt_comm, h5]
        | some k =>
          obtain ⟨a, b, c⟩ := diffAt_some_inv h5
          refine .inr (.inr ⟨k, a, ?_, ?_, take_eq_of_getD (by omega) (by omega) b, c⟩)
          · rw [partOf, h1, h2, if_neg (by decide), if_neg (by decide), if_neg h3, h5]
          · rw [partOf, h1, h2, if_neg (by decide), if_neg (by decide), if_neg h4, diffAt_comm, h5]
    · refine .inl ⟨chkOf m, chkOf m, h2, h2, ?_, ?_⟩
      · rw [partOf, h1, if_neg (by decide), if_pos h2]
      · rw [partOf, if_pos h2]
  · by_cases h2 : chkOf m = 0
    · refine .inl ⟨chkOf l, chkOf l, h1, h1, ?_, ?_⟩
      · rw [partOf, if_pos h1]
      · rw [partOf, h2, if_neg (by decide), if_pos h1]
    · refine .inl ⟨chkOf l, chkOf m, h1, h2, ?_, ?_⟩
      · rw [partOf, if_pos h1]
      · rw [partOf, if_pos h2]
end Go.Proofs.YtibnikokgbfcdaaDoor

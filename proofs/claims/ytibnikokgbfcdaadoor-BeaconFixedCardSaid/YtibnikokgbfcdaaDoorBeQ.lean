/- Plain laws: which reveals open which pledges; texts of pledges told apart. -/
import Derived.Test.YtibnikokgbfcdaaDoorBeP
namespace Go.Proofs.YtibnikokgbfcdaaDoor
open Go

/-- Does a reveal open a pledge? -/
def opensP (p x : Pd) : Bool := decide (p.party = x.party) && decide (commitOf x.party.toNat x.dg = p.dg)
theorem opensP_iff {p x : Pd} : opensP p x = true ↔ p.party = x.party ∧ commitOf x.party.toNat x.dg = p.dg := by simp [opensP]
theorem form_pairwise {l : List Pd} (h : inForm l) : l.Pairwise (fun a b => a.party < b.party) := by
  rw [List.pairwise_iff_getElem]
  intro i j hi hj hij
  have := h.lt i j hij hj
  simpa [List.getD_eq_getElem?_getD, List.getElem?_eq_getElem hi, List.getElem?_eq_getElem hj] using this
theorem single {l : List Pd} (hp : l.Pairwise (fun a b => a.party < b.party)) {y : Pd} (hall : ∀ x ∈ l, x.party = y.party) (hy : y ∈ l) : l = [y] := by
  match l, hp, hall, hy with
  | [], _, _, hy => cases hy
  | [a], _, _, hy => rw [List.mem_singleton.1 hy]
  | a :: b :: t, hp, hall, _ =>
    have h1 := (List.pairwise_cons.1 hp).1 b (List.mem_cons_self ..)
    have h2 := hall a (List.mem_cons_self ..)
    have h3 := hall b (List.mem_cons_of_mem _ (List.mem_cons_self ..))
    omega
theorem filter_opens {m : List Pd} (h : inForm m) (p : Pd) : m.filter (opensP p) = ((openedBy m p).map (fun v => (⟨p.party, v⟩ : Pd))).toList := by
  cases e : openedBy m p with
  | none =>
    refine List.filter_eq_nil_iff.2 fun x hx hc => ?_
    obtain ⟨h1, h2⟩ := opensP_iff.1 hc
    have : openedBy m p = some x.dg := (openedBy_some h).2 ⟨by rw [h1]; exact hx, by rw [h1]; exact h2⟩
    rw [e] at this
    cases this
  | some v =>
    obtain ⟨h1, h2⟩ := (openedBy_some h).1 e
    refine single (List.Pairwise.filter _ (form_pairwise h)) (fun x hx => ?_) (List.mem_filter.2 ⟨h1, opensP_iff.2 ⟨rfl, h2⟩⟩)
    exact ((opensP_iff.1 (List.mem_filter.1 hx).2).1).symm
theorem any_filter {m : List Pd} (f : Pd → Bool) : m.any f = !(m.filter f).isEmpty := by
  induction m with
  | nil => rfl
  | cons x m ih => cases h : f x <;> simp [h, ih]
theorem any_opensP {m : List Pd} (h : inForm m) (p : Pd) : m.any (opensP p) = (openedBy m p).isSome := by
  rw [any_filter, filter_opens h p]
  cases openedBy m p <;> rfl
/-- The reveals that the inner loop has laid: one for each pledge that it opens. -/
def repTo (l : List Pd) (u : Nat) (r : Pd) : List Pd := ((l.take u).filter (fun p => opensP p r)).map (fun _ => r)
theorem repTo_zero (l : List Pd) (r : Pd) : repTo l 0 r = [] := by simp [repTo]
theorem repTo_succ {l : List Pd} {u : Nat} (h : u < l.length) (r : Pd) : repTo l (u + 1) r = repTo l u r ++ if opensP (l.getD u pd0) r then [r] else [] := by
  rw [repTo, repTo, take_getD h, List.filter_append, List.map_append]
  congr 1
  generalize l.getD u pd0 = y
  cases e : opensP y r <;> simp [e]
theorem repTo_all {l : List Pd} (hl : inForm l) (r : Pd) : repTo l l.length r = if l.any (fun p => opensP p r) then [r] else [] := by
  rw [repTo, List.take_length]
  cases e : l.any (fun p => opensP p r) with
  | false =>
    have : l.filter (fun p => opensP p r) = [] := List.filter_eq_nil_iff.2 fun x hx hc => by
      have := List.any_eq_false.1 e x hx
      exact this hc
    rw [this]
    rfl
  | true =>
    obtain ⟨p, hp, ho⟩ := List.any_eq_true.1 e
    have : l.filter (fun p => opensP p r) = [p] := single (List.Pairwise.filter _ (form_pairwise hl)) (fun x hx => by
      rw [(opensP_iff.1 (List.mem_filter.1 hx).2).1, (opensP_iff.1 ho).1]) (List.mem_filter.2 ⟨hp, ho⟩)
    rw [this]
    rfl
theorem repTo_le (l : List Pd) (u : Nat) (r : Pd) : (repTo l u r).length ≤ u := by
  rw [repTo, List.length_map]
  exact Nat.le_trans (List.length_filter_le _ _) (by rw [List.length_take]; omega)
theorem repTo_mem {l : List Pd} {u : Nat} {r x : Pd} (h : x ∈ repTo l u r) : x = r := by
  obtain ⟨-, -, rfl⟩ := List.mem_map.1 h
  rfl
/-- The reveals that the outer loop has laid. -/
def openTo (l m : List Pd) (t : Nat) : List Pd := openers l (m.take t)
theorem openTo_zero (l m : List Pd) : openTo l m 0 = [] := by simp [openTo, openers]
theorem openTo_succ {l m : List Pd} (hl : inForm l) {t : Nat} (h : t < m.length) : openTo l m (t + 1) = openTo l m t ++ repTo l l.length (m.getD t pd0) := by
  rw [repTo_all hl, openTo, openTo, openers, openers, take_getD h, List.filter_append]
  congr 1
  generalize m.getD t pd0 = r
  have e : (l.any fun p => decide (p.party = r.party) && decide (commitOf r.party.toNat r.dg = p.dg)) = l.any (fun p => opensP p r) := rfl
  cases e2 : l.any (fun p => opensP p r) with
  | false => rw [e2] at e; simp [e]
  | true => rw [e2] at e; simp [e]
theorem openTo_all (l m : List Pd) : openTo l m m.length = openers l m := by rw [openTo, List.take_length]
theorem openTo_le (l m : List Pd) (t : Nat) : (openTo l m t).length ≤ t := by
  rw [openTo, openers]
  exact Nat.le_trans (List.length_filter_le _ _) (by rw [List.length_take]; omega)
theorem openTo_mem {l m : List Pd} {t : Nat} {x : Pd} (h : x ∈ openTo l m t) : x ∈ m := List.mem_of_mem_take (List.mem_filter.1 h).1
/-- The texts that the inner loop of the specification has laid for a pledge. -/
def revTo (m : List Pd) (p : Pd) (u : Nat) : List (List UInt8) := ((m.take u).filter (opensP p)).map (fun x => commitText x.party.toNat x.dg)
theorem revTo_zero (m : List Pd) (p : Pd) : revTo m p 0 = [] := by simp [revTo]
theorem revTo_succ {m : List Pd} {u : Nat} (h : u < m.length) (p : Pd) : revTo m p (u + 1) = revTo m p u ++ if opensP p (m.getD u pd0) then [commitText (m.getD u pd0).party.toNat (m.getD u pd0).dg] else [] := by
  rw [revTo, revTo, take_getD h, List.filter_append, List.map_append]
  congr 1
  generalize m.getD u pd0 = y
  cases e : opensP p y <;> simp [e]
theorem revTo_all {m : List Pd} (hm : inForm m) (p : Pd) : revTo m p m.length = ((openedBy m p).map (commitText p.party.toNat)).toList := by
  rw [revTo, List.take_length, filter_opens hm p]
  cases openedBy m p <;> rfl
theorem revTo_le (m : List Pd) (p : Pd) (u : Nat) : (revTo m p u).length ≤ u := by
  rw [revTo, List.length_map]
  exact Nat.le_trans (List.length_filter_le _ _) (by rw [List.length_take]; omega)
theorem any_take' {r : List Pd} {u : Nat} (f : Pd → Bool) (h : u < r.length) : (r.take (u + 1)).any f = ((r.take u).any f || f (r.getD u pd0)) := by
  rw [take_getD h, List.any_append]
  simp
/-- Texts of one party with different values differ. -/
theorem commitText_inj {k : Nat} {u v : List UInt8} (hu : u.length = 32) (hv : v.length = 32) (h : commitText k u = commitText k v) : u = v := by
  simp only [commitText, listB, textB, List.length_cons, List.length_nil, List.flatten_cons, List.flatten_nil, List.append_nil, hu, hv, List.cons.injEq, List.append_cancel_left_eq, true_and] at h
  exact h
/-- A party opens a pledge with two values. -/
def Hit (r s p : Pd) : Prop := r.party = s.party ∧ r.dg ≠ s.dg ∧ p.party = r.party ∧ commitOf r.party.toNat r.dg = p.dg ∧ commitOf s.party.toNat s.dg = p.dg
theorem all_step {P : Pd → Prop} {l : List Pd} {t : Nat} (h : t < l.length) (h1 : ∀ x ∈ l.take t, P x) (h2 : P (l.getD t pd0)) : ∀ x ∈ l.take (t + 1), P x := fun x hx => by
  rw [take_getD h] at hx
  rcases List.mem_append.1 hx with h3 | h3
  · exact h1 x h3
  · rw [List.mem_singleton.1 h3]
    exact h2
theorem no_hits {l m n : List Pd} (hl : inForm l) (hm : inForm m) (hn : inForm n) (hmis : missingOf l m = missingOf l n) (hv : valueOf l m ≠ valueOf l n) : ¬ ∀ r ∈ m, ∀ s ∈ n, ∀ p ∈ l, ¬ Hit r s p := fun h => by
  obtain ⟨p, r, s, hp, hr, hs, h1, h2, h3, h4, h5⟩ := beacon_fixed hl hm hn hmis hv
  exact h r hr s hs p hp ⟨h1, h3, h2, h4, h5⟩
end Go.Proofs.YtibnikokgbfcdaaDoor

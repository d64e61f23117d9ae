/- Plain laws of chains: texts of links are told apart; chains with one head; a link replaced; a link added. -/
import Derived.Test.YtibnikokgbfcdaaDoorC3
namespace Go.Proofs.YtibnikokgbfcdaaDoor
open Go

theorem ofNat_small {a b : Nat} (ha : a < 256) (hb : b < 256) (h : UInt8.ofNat a = UInt8.ofNat b) : a = b := by
  have h1 := congrArg UInt8.toNat h
  simp only [UInt8.toNat_ofNat'] at h1
  omega
theorem numB_inj : ∀ (u v : Nat) (a b : List UInt8), numB u ++ a = numB v ++ b → u = v ∧ a = b := by
  intro u
  induction u using Nat.strongRecOn with
  | ind u ih =>
    intro v a b h
    by_cases hu : u < 128
    · rw [numB_small u hu] at h
      by_cases hv : v < 128
      · rw [numB_small v hv] at h
        simp only [List.cons_append, List.nil_append, List.cons.injEq] at h
        exact ⟨ofNat_small (by omega) (by omega) h.1, h.2⟩
      · rw [numB_step v (by omega)] at h
        simp only [List.cons_append, List.nil_append, List.cons.injEq] at h
        have := ofNat_small (by omega) (by omega) h.1
        omega
    · rw [numB_step u (by omega)] at h
      by_cases hv : v < 128
      · rw [numB_small v hv] at h
        simp only [List.cons_append, List.nil_append, List.cons.injEq] at h
        have := ofNat_small (by omega) (by omega) h.1
        omega
      · rw [numB_step v (by omega)] at h
        simp only [List.cons_append, List.cons.injEq] at h
        have h1 := ofNat_small (by omega) (by omega) h.1
        obtain ⟨h2, h3⟩ := ih (u / 128) (by omega) (v / 128) a b h.2
        exact ⟨by omega, h3⟩
theorem intB_inj {n m : Nat} {a b : List UInt8} (h : intB n ++ a = intB m ++ b) : n = m ∧ a = b := by
  simp only [intB, List.cons_append, List.cons.injEq, true_and] at h
  obtain ⟨h1, h2⟩ := numB_inj _ _ _ _ h
  exact ⟨by omega, h2⟩
theorem textB_inj {l m a b : List UInt8} (h : textB l ++ a = textB m ++ b) : l = m ∧ a = b := by
  simp only [textB, List.cons_append, List.cons.injEq, true_and, List.append_assoc] at h
  obtain ⟨h1, h2⟩ := numB_inj _ _ _ _ h
  exact List.append_inj h2 h1
theorem linkText_inj {x y : Lk} (h1 : 0 ≤ x.node) (h2 : 0 ≤ x.no) (h3 : 0 ≤ y.node) (h4 : 0 ≤ y.no) (h : linkText x = linkText y) : x = y := by
  simp only [linkText, listB, List.cons.injEq, true_and, List.flatten_cons, List.flatten_nil] at h
  obtain ⟨-, h5⟩ := numB_inj _ _ _ _ h
  obtain ⟨a1, h6⟩ := intB_inj h5
  obtain ⟨a2, h7⟩ := intB_inj h6
  obtain ⟨a3, h8⟩ := textB_inj h7
  obtain ⟨a4, -⟩ := textB_inj h8
  obtain ⟨xn, xo, xp, xd⟩ := x
  obtain ⟨yn, yo, yp, yd⟩ := y
  simp only at h1 h2 h3 h4 a1 a2 a3 a4
  obtain rfl : xn = yn := by omega
  obtain rfl : xo = yo := by omega
  subst a3 a4
  rfl

/-- The text of which the head is the digest: its tag and its bytes. -/
def textOf (l : List Lk) : List UInt8 × List UInt8 := match l.getLast? with | none => (noneTag, []) | some x => (linkTag, linkText x)
theorem headOf_text (l : List Lk) : headOf l = tagged (textOf l).1 (textOf l).2 := by
  unfold headOf textOf
  split <;> simp_all
def clashOf (l m : List Lk) : Bool := decide (textOf l ≠ textOf m) && decide (headOf l = headOf m)
theorem take_last {l : List Lk} {k : Nat} (h : k < l.length) : (l.take (k + 1)).getLast? = some (l.getD k lk0) := by
  rw [List.getLast?_eq_getElem?, List.length_take, Nat.min_eq_left h, Nat.succ_sub_one, List.getElem?_take_of_lt (Nat.lt_succ_self k), List.getD_eq_getElem?_getD, List.getElem?_eq_getElem h]
  rfl
theorem textOf_take {l : List Lk} {k : Nat} (h : k < l.length) : textOf (l.take (k + 1)) = (linkTag, linkText (l.getD k lk0)) := by
  simp only [textOf, take_last h]
theorem chkAt.nonneg {l : List Lk} {j y : Nat} (h : chkAt l j y) : 0 ≤ (l.getD y lk0).node ∧ 0 ≤ (l.getD y lk0).no := ⟨h.2.1, by have := h.2.2.2.1; omega⟩
theorem link_eq_of_text {l m : List Lk} (hl : chkOk l) (hm : chkOk m) {k : Nat} (h1 : k < l.length) (h2 : k < m.length) (h : textOf (l.take (k + 1)) = textOf (m.take (k + 1))) : l.getD k lk0 = m.getD k lk0 := by
  rw [textOf_take h1, textOf_take h2] at h
  have a := (hl k h1).nonneg
  have b := (hm k h2).nonneg
  exact linkText_inj a.1 a.2 b.1 b.2 (Prod.mk.inj h).2
theorem ext_getD {l m : List Lk} (hlen : l.length = m.length) (h : ∀ k, k < l.length → l.getD k lk0 = m.getD k lk0) : l = m := by
  apply List.ext_getElem? fun k => ?_
  by_cases hk : k < l.length
  · have e := h k hk
    rw [List.getD_eq_getElem?_getD, List.getD_eq_getElem?_getD, List.getElem?_eq_getElem hk, List.getElem?_eq_getElem (by omega)] at e
    rw [List.getElem?_eq_getElem hk, List.getElem?_eq_getElem (by omega)]
    exact congrArg some e
  · rw [List.getElem?_eq_none (by omega), List.getElem?_eq_none (by omega)]
theorem chain_equal {l m : List Lk} (hl : chkOk l) (hm : chkOk m) (hlen : l.length = m.length) (hh : headOf l = headOf m) (hno : ∀ i, 1 ≤ i → i ≤ l.length → clashOf (l.take i) (m.take i) = false) : l = m := by
  have step : ∀ i, 1 ≤ i → i ≤ l.length → headOf (l.take i) = headOf (m.take i) → l.getD (i - 1) lk0 = m.getD (i - 1) lk0 := by
    intro i h1 h2 h3
    have h4 := hno i h1 h2
    simp only [clashOf, h3, decide_true, Bool.and_true, decide_eq_false_iff_not, Decidable.not_not] at h4
    obtain ⟨k, rfl⟩ : ∃ k, i = k + 1 := ⟨i - 1, by omega⟩
    exact link_eq_of_text hl hm (by omega) (by omega) h4
  have heads : ∀ j, j ≤ l.length → headOf (l.take (l.length - j)) = headOf (m.take (l.length - j)) := by
    intro j
    induction j with
    | zero => intro _; rw [Nat.sub_zero, List.take_length, hlen, List.take_length]; exact hh
    | succ j ih =>
      intro hj
      have h1 := step (l.length - j) (by omega) (by omega) (ih (by omega))
      rw [show l.length - j - 1 = l.length - (j + 1) by omega] at h1
      have a := (hl (l.length - (j + 1)) (by omega)).2.2.2.2.2
      have b := (hm (l.length - (j + 1)) (by omega)).2.2.2.2.2
      rw [← a, ← b, h1]
  refine ext_getD hlen fun k hk => ?_
  have h1 := heads (l.length - (k + 1)) (by omega)
  rw [show l.length - (l.length - (k + 1)) = k + 1 by omega] at h1
  exact step (k + 1) (by omega) (by omega) h1
theorem chain_changed {l : List Lk} {k : Nat} {x : Lk} (hl : chkOk l) (hm : chkOk (l.set k x)) (hk : k + 1 < l.length) (hx : l.getD k lk0 ≠ x) : clashOf (l.take (k + 1)) ((l.set k x).take (k + 1)) = true := by
  have hlm : (l.set k x).length = l.length := List.length_set
  have hset : (l.set k x).getD k lk0 = x := by rw [List.getD_eq_getElem?_getD, List.getElem?_set_self (by omega)]; rfl
  have hnx : (l.set k x).getD (k + 1) lk0 = l.getD (k + 1) lk0 := by rw [List.getD_eq_getElem?_getD, List.getElem?_set_ne (by omega), List.getD_eq_getElem?_getD]
  have a := (hl (k + 1) hk).2.2.2.2.2
  have b := (hm (k + 1) (by omega)).2.2.2.2.2
  rw [hnx] at b
  simp only [clashOf, Bool.and_eq_true, decide_eq_true_eq]
  refine ⟨fun e => hx ?_, a.symm.trans b⟩
  have h := link_eq_of_text hl hm (by omega) (by omega) e
  rw [hset] at h
  exact h
/-- A link added. -/
def addL (l : List Lk) (node : Int) (d : List UInt8) : List Lk := l ++ [⟨node, l.length, headOf l, d⟩]
theorem addL_length (l : List Lk) (node : Int) (d : List UInt8) : (addL l node d).length = l.length + 1 := by simp [addL]
theorem getD_append_left {l m : List Lk} {k : Nat} (h : k < l.length) : (l ++ m).getD k lk0 = l.getD k lk0 := by
  rw [List.getD_eq_getElem?_getD, List.getElem?_append_left h, List.getD_eq_getElem?_getD]
theorem addL_last (l : List Lk) (node : Int) (d : List UInt8) : (addL l node d).getD l.length lk0 = ⟨node, l.length, headOf l, d⟩ := by
  rw [addL, List.getD_eq_getElem?_getD, List.getElem?_append_right (Nat.le_refl _), Nat.sub_self]
  rfl
theorem addL_take (l : List Lk) (node : Int) (d : List UInt8) {k : Nat} (h : k ≤ l.length) : (addL l node d).take k = l.take k := by rw [addL, List.take_append_of_le_length h]
theorem chkOk_add {l : List Lk} {node : Int} {d : List UInt8} (hl : chkOk l) (h0 : 0 ≤ node) (h1 : node < 24) (hn : l ≠ [] → (l.getD 0 lk0).node = node) (hd : d.length ≤ 65536) : chkOk (addL l node d) := by
  intro k hk
  rw [addL_length] at hk
  rcases Nat.lt_or_ge k l.length with h | h
  · have a := hl k h
    unfold chkAt at a ⊢
    rw [addL_take l node d (by omega), show (addL l node d).getD k lk0 = l.getD k lk0 from getD_append_left h, show (addL l node d).getD 0 lk0 = l.getD 0 lk0 from getD_append_left (by omega)]
    exact a
  · obtain rfl : k = l.length := by omega
    unfold chkAt
    rw [addL_take l node d (Nat.le_refl _), List.take_length, addL_last]
    refine ⟨?_, h0, h1, rfl, hd, rfl⟩
    rcases Nat.eq_zero_or_pos l.length with e | e
    · obtain rfl := List.eq_nil_of_length_eq_zero e
      rfl
    · rw [show (addL l node d).getD 0 lk0 = l.getD 0 lk0 from getD_append_left e]
      exact (hn (by intro e'; rw [e'] at e; exact absurd e (by decide))).symm
theorem chkOk_take {l : List Lk} (h : chkOk l) (i : Nat) : chkOk (l.take i) := by
  intro k hk
  rw [List.length_take] at hk
  have a := h k (by omega)
  have e : ∀ j, j < i → (l.take i).getD j lk0 = l.getD j lk0 := fun j hj => by rw [List.getD_eq_getElem?_getD, List.getElem?_take_of_lt hj, List.getD_eq_getElem?_getD]
  unfold chkAt at a ⊢
  rw [e k (by omega), e 0 (by omega), List.take_take, Nat.min_eq_left (by omega)]
  exact a
theorem chk_fine0 {l : List Lk} {k : Nat} (h : ∀ j, j < k → chkAt l j j) (hk : k ≤ l.length) (hl : k ≤ 1024) : ∀ x, (l.take k).getLast? = some x → x.fine := by
  intro x hx
  rcases Nat.eq_zero_or_pos k with e | e
  · subst e; rw [List.take_zero] at hx; cases hx
  · obtain ⟨j, rfl⟩ : ∃ j, k = j + 1 := ⟨k - 1, by omega⟩
    rw [take_last (by omega)] at hx
    obtain rfl := Option.some.inj hx
    obtain ⟨h1, h2, h3, h4, h5, h6⟩ := h j (by omega)
    exact ⟨h2, by omega, by omega, by omega, h5⟩
theorem chkOk_nil : chkOk [] := fun k hk => absurd hk (by simp)
end Go.Proofs.YtibnikokgbfcdaaDoor

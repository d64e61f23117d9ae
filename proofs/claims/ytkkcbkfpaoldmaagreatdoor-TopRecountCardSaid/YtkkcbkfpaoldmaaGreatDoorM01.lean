/- Several texts in one: NP1, NP2, NP5, NP6, NP3, NP4. -/
import Derived.IntWalk
/- Plain laws of digits to the base 2^30: sums of digits, carrying, comparing. -/
namespace Go.Proofs.YtkkcbkfpaoldmaaGreatDoor

/-- Powers of the base. -/
def bp : Nat → Int
  | 0 => 1
  | n + 1 => 1073741824 * bp n
theorem bp_pos : ∀ n, 0 < bp n
  | 0 => by decide
  | n + 1 => by have := bp_pos n; simp only [bp]; omega
theorem bp_succ (n : Nat) : bp (n + 1) = 1073741824 * bp n := rfl
theorem bp_add (a b : Nat) : bp (a + b) = bp a * bp b := by
  induction b with
  | zero => simp [bp]
  | succ b ih => rw [← Nat.add_assoc, bp_succ, bp_succ, ih]; grind
theorem bp_mono {a b : Nat} (h : a ≤ b) : bp a ≤ bp b := by
  obtain ⟨c, rfl⟩ := Nat.exists_eq_add_of_le h
  induction c with
  | zero => exact Int.le_refl _
  | succ c ih =>
    have h1 := ih (by omega)
    have h2 := bp_pos (a + c)
    rw [← Nat.add_assoc, bp_succ]
    omega
/-- The sum of n digits. -/
def dsum (f : Nat → Int) : Nat → Int
  | 0 => 0
  | n + 1 => dsum f n + f n * bp n
theorem dsum_succ (f : Nat → Int) (n : Nat) : dsum f (n + 1) = dsum f n + f n * bp n := rfl
theorem dsum_congr {f g : Nat → Int} {n : Nat} (h : ∀ i, i < n → f i = g i) : dsum f n = dsum g n := by
  induction n with
  | zero => rfl
  | succ n ih => rw [dsum_succ, dsum_succ, ih (fun i hi => h i (by omega)), h n (by omega)]
/-- Digits. -/
def Digs (f : Nat → Int) (n : Nat) : Prop := ∀ i, i < n → 0 ≤ f i ∧ f i < 1073741824
theorem Digs.less {f : Nat → Int} {n m : Nat} (h : Digs f n) (hm : m ≤ n) : Digs f m := fun i hi => h i (by omega)
theorem dsum_range {f : Nat → Int} {n : Nat} (h : Digs f n) : 0 ≤ dsum f n ∧ dsum f n < bp n := by
  induction n with
  | zero => exact ⟨Int.le_refl _, show (0 : Int) < 1 by decide⟩
  | succ n ih =>
    obtain ⟨h1, h2⟩ := ih (h.less (by omega))
    obtain ⟨h3, h4⟩ := h n (by omega)
    have hp := bp_pos n
    rw [dsum_succ, bp_succ]
    have h5 : 0 ≤ f n * bp n := Int.mul_nonneg h3 (by omega)
    have h6 : f n * bp n ≤ 1073741823 * bp n := Int.mul_le_mul_of_nonneg_right (by omega) (by omega)
    omega
theorem dsum_zeros {f : Nat → Int} {n m : Nat} (hm : m ≤ n) (h : ∀ i, m ≤ i → i < n → f i = 0) : dsum f n = dsum f m := by
  obtain ⟨c, rfl⟩ := Nat.exists_eq_add_of_le hm
  induction c with
  | zero => rfl
  | succ c ih => rw [← Nat.add_assoc, dsum_succ, h (m + c) (by omega) (by omega), ih (by omega) (fun i h1 h2 => h i h1 (by omega))]; omega
theorem dsum_zero (n : Nat) : dsum (fun _ => 0) n = 0 := (dsum_zeros (Nat.zero_le n) (fun _ _ _ => rfl)).trans rfl
theorem dsum_split (f : Nat → Int) (a b : Nat) : dsum f (a + b) = dsum f a + bp a * dsum (fun i => f (a + i)) b := by
  induction b with
  | zero => simp [dsum]
  | succ b ih => rw [← Nat.add_assoc, dsum_succ, dsum_succ, ih, bp_add]; grind
/-- One digit is replaced. -/
theorem dsum_set {f g : Nat → Int} {n i : Nat} (hi : i < n) (h : ∀ j, j < n → j ≠ i → g j = f j) : dsum g n = dsum f n + (g i - f i) * bp i := by
  induction n with
  | zero => omega
  | succ n ih =>
    rw [dsum_succ, dsum_succ]
    rcases Nat.lt_or_ge i n with h1 | h1
    · rw [ih h1 (fun j h2 h3 => h j (by omega) h3), h n (by omega) (by omega)]; omega
    · obtain rfl : i = n := by omega
      rw [dsum_congr (fun j hj => h j (by omega) (by omega))]
      grind
/-- A step of carrying: a digit and what goes on. -/
theorem carry_step (x : Int) (t : Nat) : (x % 1073741824) * bp t + (x / 1073741824) * bp (t + 1) = x * bp t := by
  have h := Int.mul_ediv_add_emod x 1073741824
  rw [bp_succ]
  have e : x * bp t = (1073741824 * (x / 1073741824) + x % 1073741824) * bp t := by rw [h]
  rw [e]
  grind
theorem emod_digit (x : Int) : 0 ≤ x % 1073741824 ∧ x % 1073741824 < 1073741824 := ⟨Int.emod_nonneg _ (by decide), Int.emod_lt_of_pos _ (by decide)⟩
/-- A number below a power, and its digits: the digits above are 0. -/
theorem over_zero {A o : Int} {t : Nat} {S : Int} (h : A + o * bp t = S) (hA : 0 ≤ A ∧ A < bp t) (hS : 0 ≤ S ∧ S < bp t) : o = 0 := by
  have hp := bp_pos t
  rcases Int.lt_trichotomy o 0 with h1 | h1 | h1
  · have : o * bp t ≤ (-1) * bp t := Int.mul_le_mul_of_nonneg_right (by omega) (by omega)
    omega
  · exact h1
  · have : 1 * bp t ≤ o * bp t := Int.mul_le_mul_of_nonneg_right (by omega) (by omega)
    omega
/-- Digits are told by their sum. -/
theorem dsum_inj {f g : Nat → Int} {n : Nat} (hf : Digs f n) (hg : Digs g n) (h : dsum f n = dsum g n) : ∀ i, i < n → f i = g i := by
  induction n with
  | zero => intro i hi; omega
  | succ n ih =>
    rw [dsum_succ, dsum_succ] at h
    have h1 := dsum_range (hf.less (Nat.le_succ n))
    have h2 := dsum_range (hg.less (Nat.le_succ n))
    have hp := bp_pos n
    have e : f n = g n := by
      have : (f n - g n) * bp n = dsum g n - dsum f n := by rw [Int.sub_mul]; omega
      rcases Int.lt_trichotomy (f n - g n) 0 with h3 | h3 | h3
      · have : (f n - g n) * bp n ≤ (-1) * bp n := Int.mul_le_mul_of_nonneg_right (by omega) (by omega)
        omega
      · omega
      · have : 1 * bp n ≤ (f n - g n) * bp n := Int.mul_le_mul_of_nonneg_right (by omega) (by omega)
        omega
    intro i hi
    rcases Nat.lt_or_ge i n with h3 | h3
    · exact ih (hf.less (by omega)) (hg.less (by omega)) (by rw [e] at h; omega) i h3
    · obtain rfl : i = n := by omega
      exact e
/-- The first digit from above that differs decides. -/
theorem dsum_lt_at {f g : Nat → Int} {n j : Nat} (hf : Digs f n) (hg : Digs g n) (hj : j < n) (he : ∀ i, j < i → i < n → f i = g i) (hl : f j < g j) : dsum f n < dsum g n := by
  induction n with
  | zero => omega
  | succ n ih =>
    rw [dsum_succ, dsum_succ]
    have hp := bp_pos n
    rcases Nat.lt_or_ge j n with h1 | h1
    · rw [he n h1 (by omega)]
      have := ih (hf.less (by omega)) (hg.less (by omega)) h1 (fun i h2 h3 => he i h2 (by omega))
      omega
    · obtain rfl : j = n := by omega
      have h2 := dsum_range (hf.less (Nat.le_succ j))
      have h3 := dsum_range (hg.less (Nat.le_succ j))
      have h4 : (f j + 1) * bp j ≤ g j * bp j := Int.mul_le_mul_of_nonneg_right (by omega) (by omega)
      rw [Int.add_mul] at h4
      omega
/-- Digits whose first one from above is not 0. -/
theorem dsum_top {f : Nat → Int} {n : Nat} (hf : Digs f (n + 1)) (h : f n ≠ 0) : bp n ≤ dsum f (n + 1) := by
  have h1 := dsum_range (hf.less (Nat.le_succ n))
  have h2 := hf n (by omega)
  have hp := bp_pos n
  rw [dsum_succ]
  have : 1 * bp n ≤ f n * bp n := Int.mul_le_mul_of_nonneg_right (by omega) (by omega)
  omega

/-- Lists of digits. -/
def dg (l : List Int) (i : Nat) : Int := l.getD i 0
def valL (l : List Int) : Int := dsum (dg l) l.length
def DigL (l : List Int) : Prop := ∀ x ∈ l, 0 ≤ x ∧ x < 1073741824
/-- No zeros at the end. -/
def TrimL (l : List Int) : Prop := 0 < l.length → dg l (l.length - 1) ≠ 0
theorem dg_mem {l : List Int} {i : Nat} (h : i < l.length) : dg l i ∈ l := by
  rw [dg, List.getD_eq_getElem?_getD, List.getElem?_eq_getElem h]
  exact List.getElem_mem h
theorem dg_out {l : List Int} {i : Nat} (h : l.length ≤ i) : dg l i = 0 := by
  rw [dg, List.getD_eq_getElem?_getD, List.getElem?_eq_none h]
  rfl
theorem DigL.digs {l : List Int} (h : DigL l) (n : Nat) : Digs (dg l) n := fun i _ => by
  rcases Nat.lt_or_ge i l.length with h1 | h1
  · exact h _ (dg_mem h1)
  · rw [dg_out h1]; decide
theorem DigL.of {l : List Int} (h : Digs (dg l) l.length) : DigL l := fun x hx => by
  obtain ⟨i, hi, rfl⟩ := List.mem_iff_getElem.1 hx
  have := h i hi
  rwa [dg, List.getD_eq_getElem?_getD, List.getElem?_eq_getElem hi] at this
theorem valL_more {l : List Int} {n : Nat} (h : l.length ≤ n) : dsum (dg l) n = valL l := dsum_zeros h (fun _ h1 _ => dg_out h1)
theorem valL_range {l : List Int} (h : DigL l) : 0 ≤ valL l ∧ valL l < bp l.length := dsum_range (h.digs _)
theorem valL_top {l : List Int} (h : DigL l) (ht : TrimL l) {n : Nat} (hn : l.length = n + 1) : bp n ≤ valL l := by
  rw [valL, hn]
  exact dsum_top (h.digs _) (by have := ht (by omega); rwa [hn, Nat.add_sub_cancel] at this)
theorem valL_nil : valL [] = 0 := rfl
theorem valL_pos {l : List Int} (h : DigL l) (ht : TrimL l) : 0 < valL l ↔ l ≠ [] := by
  constructor
  · rintro h1 rfl
    exact absurd h1 (by decide)
  · intro h1
    obtain ⟨n, hn⟩ : ∃ n, l.length = n + 1 := ⟨l.length - 1, by have := List.length_pos_iff.2 h1; omega⟩
    have := valL_top h ht hn
    have := bp_pos n
    omega
theorem ext_dg {l m : List Int} (hl : l.length = m.length) (h : ∀ i, i < l.length → dg l i = dg m i) : l = m := by
  refine List.ext_getElem hl fun i h1 h2 => ?_
  have := h i h1
  rwa [dg, dg, List.getD_eq_getElem?_getD, List.getD_eq_getElem?_getD, List.getElem?_eq_getElem h1, List.getElem?_eq_getElem h2] at this
theorem valL_lt_len {l m : List Int} (hl : DigL l) (hm : DigL m) (tm : TrimL m) (h : l.length < m.length) : valL l < valL m := by
  obtain ⟨n, hn⟩ : ∃ n, m.length = n + 1 := ⟨m.length - 1, by omega⟩
  have h1 := valL_top hm tm hn
  have h2 := valL_range hl
  have h3 : bp l.length ≤ bp n := bp_mono (by omega)
  omega
/-- Numbers without zeros at the end are told by their values. -/
theorem valL_inj {l m : List Int} (hl : DigL l) (hm : DigL m) (tl : TrimL l) (tm : TrimL m) (h : valL l = valL m) : l = m := by
  rcases Nat.lt_trichotomy l.length m.length with h1 | h1 | h1
  · have := valL_lt_len hl hm tm h1; omega
  · refine ext_dg h1 (dsum_inj (hl.digs _) (hm.digs _) ?_)
    rw [valL, valL, ← h1] at h
    exact h
  · have := valL_lt_len hm hl tl h1; omega
theorem dg_set {l : List Int} {i : Nat} (h : i < l.length) (v : Int) (j : Nat) : dg (l.set i v) j = if j = i then v else dg l j := by
  simp only [dg, List.getD_eq_getElem?_getD, List.getElem?_set]
  by_cases h1 : i = j
  · subst h1; simp [h]
  · simp [h1, Ne.symm h1]
theorem dsum_setL {l : List Int} {i n : Nat} (h : i < l.length) (hn : i < n) (v : Int) : dsum (dg (l.set i v)) n = dsum (dg l) n + (v - dg l i) * bp i := by
  rw [dsum_set hn (fun j _ h2 => by rw [dg_set h, if_neg h2]), dg_set h, if_pos rfl]
theorem DigL.set {l : List Int} (h : DigL l) (i : Nat) {v : Int} (hv : 0 ≤ v ∧ v < 1073741824) : DigL (l.set i v) := fun x hx => by
  rcases List.mem_or_eq_of_mem_set hx with h1 | rfl
  · exact h x h1
  · exact hv
/-- A list without the zeros at its end. -/
def trimL (l : List Int) (n : Nat) : List Int := l.take n
theorem dg_take {l : List Int} {n i : Nat} (h : i < n) : dg (l.take n) i = dg l i := by
  simp only [dg, List.getD_eq_getElem?_getD, List.getElem?_take, if_pos h]
theorem valL_take {l : List Int} {n : Nat} (hn : n ≤ l.length) (hz : ∀ i, n ≤ i → i < l.length → dg l i = 0) : valL (l.take n) = valL l := by
  have hl : (l.take n).length = n := by rw [List.length_take]; omega
  rw [valL, hl, dsum_congr (fun i hi => dg_take hi), valL, dsum_zeros hn hz]
theorem DigL.take {l : List Int} (h : DigL l) (n : Nat) : DigL (l.take n) := fun x hx => h x (List.mem_of_mem_take hx)
end Go.Proofs.YtkkcbkfpaoldmaaGreatDoor

/- Plain laws: products, quotients by one digit and by several (Knuth, algorithm D). -/
namespace Go.Proofs.YtkkcbkfpaoldmaaGreatDoor

/-- A digit is set to what remains of a sum; the rest goes on. -/
theorem carry_set (D u s : Int) (J : Nat) : (D + (s % 1073741824 - u) * bp J) + (s / 1073741824) * bp (J + 1) = D + (s - u) * bp J := by
  have h := carry_step s J
  grind
/-- A step of the division by one digit. -/
theorem short_step {Q d r A x : Int} {i : Nat} (h : Q * d + r * bp (i + 1) = A) : (Q + ((r * 1073741824 + x) / d) * bp i) * d + ((r * 1073741824 + x) % d) * bp i = A + x * bp i := by
  have e := Int.mul_ediv_add_emod (r * 1073741824 + x) d
  rw [bp_succ] at h
  have e2 : (d * ((r * 1073741824 + x) / d) + (r * 1073741824 + x) % d) * bp i = (r * 1073741824 + x) * bp i := by rw [e]
  grind
theorem short_digit {d r x : Int} (hd : 0 < d) (hr : 0 ≤ r ∧ r < d) (hx : 0 ≤ x ∧ x < 1073741824) : 0 ≤ (r * 1073741824 + x) / d ∧ (r * 1073741824 + x) / d < 1073741824 := by
  refine ⟨Int.ediv_nonneg (by omega) (by omega), Int.ediv_lt_of_lt_mul hd ?_⟩
  have : (r + 1) * 1073741824 ≤ d * 1073741824 := Int.mul_le_mul_of_nonneg_right (by omega) (by decide)
  rw [Int.mul_comm]
  omega
/-- The first guess is not too small. -/
theorem knuth_init {P U V head v1 v2 vr u2 ur : Int} (hP : 0 < P) (hv1 : 1073741824 ≤ 2 * v1) (hv2 : 0 ≤ v2) (hvr : 0 ≤ vr) (hu2 : 0 ≤ u2 ∧ u2 < 1073741824) (hur : 0 ≤ ur ∧ ur < P)
    (hV : V = (v1 * 1073741824 + v2) * P + vr) (hU : U = (head * 1073741824 + u2) * P + ur) (hU0 : 0 ≤ U) (hlt : U < V * 1073741824) : 0 ≤ U / V ∧ U / V ≤ head / v1 ∧ U / V ≤ 1073741823 := by
  have h1 : 0 ≤ v2 * P := Int.mul_nonneg hv2 (by omega)
  have h2 : 1 * P ≤ v1 * P := Int.mul_le_mul_of_nonneg_right (by omega) (by omega)
  have hVe : V = v1 * P * 1073741824 + v2 * P + vr := by rw [hV]; grind
  have hV0 : 0 < V := by omega
  have hq0 : 0 ≤ U / V := Int.ediv_nonneg hU0 (by omega)
  have hqm : U / V < 1073741824 := Int.ediv_lt_of_lt_mul hV0 (by rw [Int.mul_comm]; exact hlt)
  refine ⟨hq0, Int.le_ediv_of_mul_le (by omega) ?_, by omega⟩
  have h3 : U / V * V ≤ U := Int.ediv_mul_le U (by omega)
  have h4 : U / V * (v1 * P * 1073741824) ≤ U / V * V := Int.mul_le_mul_of_nonneg_left (by omega) hq0
  have h5 : u2 * P ≤ 1073741823 * P := Int.mul_le_mul_of_nonneg_right (by omega) (by omega)
  have hUe : U = head * (P * 1073741824) + u2 * P + ur := by rw [hU]; grind
  have h6 : U < (head + 1) * (P * 1073741824) := by rw [hUe, Int.add_mul]; omega
  have h7 : (U / V * v1) * (P * 1073741824) < (head + 1) * (P * 1073741824) := by
    have : (U / V * v1) * (P * 1073741824) = U / V * (v1 * P * 1073741824) := by grind
    omega
  have h8 := Int.lt_of_mul_lt_mul_right h7 (by omega)
  omega
/-- Where the test holds, the guess is too great. -/
theorem knuth_down {P U V head v1 v2 vr u2 ur g : Int} (hP : 0 < P) (hv1 : 1073741824 ≤ 2 * v1) (hv2 : 0 ≤ v2) (hvr : 0 ≤ vr) (hur : 0 ≤ ur ∧ ur < P)
    (hV : V = (v1 * 1073741824 + v2) * P + vr) (hU : U = (head * 1073741824 + u2) * P + ur) (hg : 0 ≤ g) (hc : (head - g * v1) * 1073741824 + u2 < g * v2) : U / V ≤ g - 1 := by
  have h1 : 0 ≤ v2 * P := Int.mul_nonneg hv2 (by omega)
  have h2 : 1 * P ≤ v1 * P := Int.mul_le_mul_of_nonneg_right (by omega) (by omega)
  have hVe : V = v1 * P * 1073741824 + v2 * P + vr := by rw [hV]; grind
  have hV0 : 0 < V := by omega
  have h3 : (head * 1073741824 + u2 + 1) * P ≤ (g * (v1 * 1073741824 + v2)) * P := Int.mul_le_mul_of_nonneg_right (by
    have : (head - g * v1) * 1073741824 = head * 1073741824 - g * (v1 * 1073741824) := by grind
    have : g * (v1 * 1073741824 + v2) = g * (v1 * 1073741824) + g * v2 := by grind
    omega) (by omega)
  have h4 : 0 ≤ g * vr := Int.mul_nonneg hg hvr
  have h5 : U < g * V := by
    have e1 : g * V = (g * (v1 * 1073741824 + v2)) * P + g * vr := by rw [hV]; grind
    have e2 : (head * 1073741824 + u2 + 1) * P = (head * 1073741824 + u2) * P + P := by grind
    omega
  have := Int.ediv_lt_of_lt_mul hV0 h5
  omega
/-- Where the test fails, the guess is at most one too great. -/
theorem knuth_stop {P U V head v1 v2 vr u2 ur g : Int} (hP : 0 < P) (hv1 : 1073741824 ≤ 2 * v1) (hv2 : 0 ≤ v2 ∧ v2 < 1073741824) (hvr : 0 ≤ vr ∧ vr < P) (hu2 : 0 ≤ u2) (hur : 0 ≤ ur)
    (hV : V = (v1 * 1073741824 + v2) * P + vr) (hU : U = (head * 1073741824 + u2) * P + ur) (hg : 0 ≤ g ∧ g ≤ 1073741823) (hc : g * v2 ≤ (head - g * v1) * 1073741824 + u2 ∨ 1073741824 ≤ head - g * v1) : g ≤ U / V + 1 := by
  have h1 : 0 ≤ v2 * P := Int.mul_nonneg hv2.1 (by omega)
  have h2 : 1 * P ≤ v1 * P := Int.mul_le_mul_of_nonneg_right (by omega) (by omega)
  have hVe : V = v1 * P * 1073741824 + v2 * P + vr := by rw [hV]; grind
  have hV0 : 0 < V := by omega
  have key : (g - 1) * V ≤ U := by
    have e0 : (g - 1) * V = g * V - V := by grind
    rcases hc with hc | hc
    · have h3 : (g * (v1 * 1073741824 + v2)) * P ≤ (head * 1073741824 + u2) * P := Int.mul_le_mul_of_nonneg_right (by
        have : (head - g * v1) * 1073741824 = head * 1073741824 - g * (v1 * 1073741824) := by grind
        have : g * (v1 * 1073741824 + v2) = g * (v1 * 1073741824) + g * v2 := by grind
        omega) (by omega)
      have e1 : g * V = (g * (v1 * 1073741824 + v2)) * P + g * vr := by rw [hV]; grind
      have h4 : g * vr ≤ 1073741823 * vr := Int.mul_le_mul_of_nonneg_right hg.2 hvr.1
      omega
    · have h3 : (g * v1) * (P * 1073741824) ≤ (head - 1073741824) * (P * 1073741824) := Int.mul_le_mul_of_nonneg_right (by omega) (by omega)
      have h5 : v2 * P ≤ 1073741823 * P := Int.mul_le_mul_of_nonneg_right (by omega) (by omega)
      have h6 : g * (v2 * P + vr) ≤ 1073741823 * (v2 * P + vr) := Int.mul_le_mul_of_nonneg_right hg.2 (by omega)
      have e1 : g * V = (g * v1) * (P * 1073741824) + g * (v2 * P + vr) := by rw [hV]; grind
      have e2 : U = head * (P * 1073741824) + u2 * P + ur := by rw [hU]; grind
      have e3 : (head - 1073741824) * (P * 1073741824) = head * (P * 1073741824) - 1073741824 * (P * 1073741824) := by grind
      have h7 : 0 ≤ u2 * P := Int.mul_nonneg hu2 (by omega)
      omega
  have := Int.le_ediv_of_mul_le hV0 key
  omega
/-- The digit of the quotient, told by the sign. -/
theorem knuth_sign {U V g E B L : Int} (hV : 0 < V) (hg : U / V ≤ g ∧ g ≤ U / V + 1) (hL : 0 ≤ L ∧ L < B) (hVB : V ≤ B) (hE : L + E * B = U - g * V) : (E < 0 → g = U / V + 1 ∧ E = -1) ∧ (¬ E < 0 → g = U / V ∧ E = 0) := by
  have h1 := Int.mul_ediv_add_emod U V
  have h2 := Int.emod_nonneg U (show V ≠ 0 by omega)
  have h3 := Int.emod_lt_of_pos U hV
  have hB : 0 < B := by omega
  rcases (show g = U / V ∨ g = U / V + 1 by omega) with h | h
  · have e1 : U - g * V = U % V := by rw [h, Int.mul_comm]; omega
    have hE0 : E = 0 := by
      rcases Int.lt_trichotomy E 0 with h4 | h4 | h4
      · have : E * B ≤ (-1) * B := Int.mul_le_mul_of_nonneg_right (by omega) (by omega)
        omega
      · exact h4
      · have : 1 * B ≤ E * B := Int.mul_le_mul_of_nonneg_right (by omega) (by omega)
        omega
    exact ⟨fun h4 => by omega, fun _ => ⟨h, hE0⟩⟩
  · have e1 : U - g * V = U % V - V := by rw [h, Int.add_mul, Int.mul_comm]; omega
    have hE1 : E = -1 := by
      rcases Int.lt_trichotomy E (-1) with h4 | h4 | h4
      · have : E * B ≤ (-2) * B := Int.mul_le_mul_of_nonneg_right (by omega) (by omega)
        omega
      · exact h4
      · have : 0 * B ≤ E * B := Int.mul_le_mul_of_nonneg_right (by omega) (by omega)
        omega
    exact ⟨fun _ => ⟨h, hE1⟩, fun h4 => by omega⟩
/-- Quotient and rest of what both were multiplied by. -/
theorem scaled_div {a b s q R : Int} (hb : 0 < b) (hs : 0 < s) (h : q * (b * s) + R = a * s) (hR : 0 ≤ R ∧ R < b * s) : q = a / b ∧ R / s = a % b ∧ R % s = 0 := by
  have h1 : R = (a - q * b) * s := by grind
  have h2 : R % s = 0 := by rw [h1]; exact Int.mul_emod_left _ _
  have h3 : R / s = a - q * b := by rw [h1]; exact Int.mul_ediv_cancel _ (by omega)
  have h4 : 0 ≤ a - q * b := by rw [← h3]; exact Int.ediv_nonneg hR.1 (by omega)
  have h5 : a - q * b < b := by rw [← h3]; exact Int.ediv_lt_of_lt_mul hs hR.2
  have h6 : q = a / b := by
    have : a = (a - q * b) + q * b := by omega
    rw [this, Int.add_mul_ediv_right _ _ (by omega), Int.ediv_eq_zero_of_lt h4 h5]
    omega
  refine ⟨h6, ?_, h2⟩
  rw [h3, h6, Int.emod_def, Int.mul_comm]
end Go.Proofs.YtkkcbkfpaoldmaaGreatDoor

/- Plain laws: the chances to miss, as products of small numbers. -/
namespace Go.Proofs.YtkkcbkfpaoldmaaGreatDoor

/-- A ratio in lowest terms: what it says of the numbers that it was made of. -/
theorem low_facts {a b p q : Int} (ha : 0 ≤ a) (hb : 0 < b) (hp : p = a / (Int.gcd a b : Nat)) (hq : q = b / (Int.gcd a b : Nat)) : p * b = a * q ∧ 0 ≤ p ∧ p ≤ a ∧ 0 < q ∧ q ≤ b := by
  obtain ⟨m, rfl⟩ : ∃ m : Nat, a = m := ⟨a.toNat, by omega⟩
  obtain ⟨n, rfl⟩ : ∃ n : Nat, b = n := ⟨b.toNat, by omega⟩
  have e : Int.gcd (m : Int) (n : Int) = Nat.gcd m n := rfl
  rw [e] at hp hq
  have hn : 0 < n := by omega
  have hg : 0 < Nat.gcd m n := Nat.gcd_pos_of_pos_right _ hn
  obtain ⟨x, hx⟩ := Nat.gcd_dvd_left m n
  obtain ⟨y, hy⟩ := Nat.gcd_dvd_right m n
  have e1 : m / Nat.gcd m n = x := Nat.div_eq_of_eq_mul_right hg hx
  have e2 : n / Nat.gcd m n = y := Nat.div_eq_of_eq_mul_right hg hy
  rw [← Int.natCast_ediv, e1] at hp
  rw [← Int.natCast_ediv, e2] at hq
  have hy0 : 0 < y := by
    rcases Nat.eq_zero_or_pos y with h | h
    · rw [h] at hy; omega
    · exact h
  have hxm : x ≤ m := by rw [← e1]; exact Nat.div_le_self _ _
  have hyn : y ≤ n := by rw [← e2]; exact Nat.div_le_self _ _
  subst hp hq
  refine ⟨?_, by omega, by omega, by omega, by omega⟩
  have : x * n = m * y := by
    obtain ⟨g, hgg⟩ : ∃ g, g = Nat.gcd m n := ⟨_, rfl⟩
    rw [← hgg] at hx hy
    rw [hx, hy, Nat.mul_left_comm, Nat.mul_assoc]
  exact_mod_cast this
/-- The numerators and denominators of the chances, not in lowest terms. -/
def chP (n w : Nat) : Nat → Int
  | 0 => 1
  | k + 1 => chP n w k * ((n - w - k : Nat) : Int)
def chQ (n : Nat) : Nat → Int
  | 0 => 1
  | k + 1 => chQ n k * ((n - k : Nat) : Int)
theorem chP_range (n w : Nat) (hn : n ≤ 5) : ∀ k, k ≤ 5 → 0 ≤ chP n w k ∧ chP n w k ≤ 3125 ∧ chP n w k ≤ 5 ^ k
  | 0, _ => by simp [chP]
  | 1, _ => by simp only [chP]; omega
  | 2, _ => by
    have h := chP_range n w hn 1 (by omega)
    have h1 : chP n w 1 ≤ 5 := h.2.2
    have e : chP n w 2 = chP n w 1 * ((n - w - 1 : Nat) : Int) := rfl
    have h2 : chP n w 1 * ((n - w - 1 : Nat) : Int) ≤ 5 * ((n - w - 1 : Nat) : Int) := Int.mul_le_mul_of_nonneg_right h1 (by omega)
    have h3 : 0 ≤ chP n w 1 * ((n - w - 1 : Nat) : Int) := Int.mul_nonneg h.1 (by omega)
    have h4 : (5 : Int) ^ 2 = 25 := by decide
    omega
  | 3, _ => by
    have h := chP_range n w hn 2 (by omega)
    have h1 : chP n w 2 ≤ 25 := h.2.2
    have e : chP n w 3 = chP n w 2 * ((n - w - 2 : Nat) : Int) := rfl
    have h2 : chP n w 2 * ((n - w - 2 : Nat) : Int) ≤ 25 * ((n - w - 2 : Nat) : Int) := Int.mul_le_mul_of_nonneg_right h1 (by omega)
    have h3 : 0 ≤ chP n w 2 * ((n - w - 2 : Nat) : Int) := Int.mul_nonneg h.1 (by omega)
    have h4 : (5 : Int) ^ 3 = 125 := by decide
    omega
  | 4, _ => by
    have h := chP_range n w hn 3 (by omega)
    have h1 : chP n w 3 ≤ 125 := h.2.2
    have e : chP n w 4 = chP n w 3 * ((n - w - 3 : Nat) : Int) := rfl
    have h2 : chP n w 3 * ((n - w - 3 : Nat) : Int) ≤ 125 * ((n - w - 3 : Nat) : Int) := Int.mul_le_mul_of_nonneg_right h1 (by omega)
    have h3 : 0 ≤ chP n w 3 * ((n - w - 3 : Nat) : Int) := Int.mul_nonneg h.1 (by omega)
    have h4 : (5 : Int) ^ 4 = 625 := by decide
    omega
  | 5, _ => by
    have h := chP_range n w hn 4 (by omega)
    have h1 : chP n w 4 ≤ 625 := h.2.2
    have e : chP n w 5 = chP n w 4 * ((n - w - 4 : Nat) : Int) := rfl
    have h2 : chP n w 4 * ((n - w - 4 : Nat) : Int) ≤ 625 * ((n - w - 4 : Nat) : Int) := Int.mul_le_mul_of_nonneg_right h1 (by omega)
    have h3 : 0 ≤ chP n w 4 * ((n - w - 4 : Nat) : Int) := Int.mul_nonneg h.1 (by omega)
    have h4 : (5 : Int) ^ 5 = 3125 := by decide
    omega
  | k + 6, h => by omega
theorem chQ_eq (n : Nat) : ∀ k, chQ n k = chP n 0 k
  | 0 => rfl
  | k + 1 => by rw [chQ, chP, chQ_eq n k, Nat.sub_zero]
theorem chQ_range (n : Nat) (hn : n ≤ 5) (k : Nat) (hk : k ≤ 5) : 0 ≤ chQ n k ∧ chQ n k ≤ 3125 := by
  rw [chQ_eq]
  have := chP_range n 0 hn k hk
  exact ⟨this.1, this.2.1⟩
theorem chQ_pos (n : Nat) : ∀ k, k ≤ n → 0 < chQ n k
  | 0, _ => show (0 : Int) < 1 by decide
  | k + 1, h => by
    rw [chQ]
    exact Int.mul_pos (chQ_pos n k (by omega)) (by omega)
/-- From the (n - w + 1)st sheet on the chance is 0. -/
theorem chP_end (n w : Nat) (hw : 1 ≤ w) (hn : w ≤ n) : chP n w n = 0 := by
  have key : ∀ d, chP n w (n - w + 1 + d) = 0 := by
    intro d
    induction d with
    | zero => rw [Nat.add_zero, chP, show n - w - (n - w) = 0 by omega]; simp
    | succ d ih => rw [← Nat.add_assoc, chP, ih, Int.zero_mul]
  have := key (w - 1)
  rwa [show n - w + 1 + (w - 1) = n by omega] at this
/-- Chance k as a ratio in lowest terms (or not). -/
structure ChOk (n w k : Nat) (p q : Int) : Prop where
  eq : p * chQ n k = chP n w k * q
  num : 0 ≤ p ∧ p ≤ chP n w k
  den : 0 < q ∧ q ≤ chQ n k
theorem ChOk.start (n w : Nat) : ChOk n w 0 1 1 := ⟨by simp [chQ, chP], by simp [chP], by simp [chQ]⟩
theorem ChOk.next {n w k : Nat} {p q fp fq p2 q2 : Int} (h : ChOk n w k p q) (hf : fp * ((n - k : Nat) : Int) = ((n - w - k : Nat) : Int) * fq ∧ 0 ≤ fp ∧ fp ≤ ((n - w - k : Nat) : Int) ∧ 0 < fq ∧ fq ≤ ((n - k : Nat) : Int))
    (h2 : p2 * (q * fq) = (p * fp) * q2 ∧ 0 ≤ p2 ∧ p2 ≤ p * fp ∧ 0 < q2 ∧ q2 ≤ q * fq) : ChOk n w (k + 1) p2 q2 := by
  obtain ⟨f1, f2, f3, f4, f5⟩ := hf
  obtain ⟨g1, g2, g3, g4, g5⟩ := h2
  have hpn := h.num
  have hqn := h.den
  refine ⟨?_, ⟨g2, ?_⟩, g4, ?_⟩
  · rw [chQ, chP]
    have hne : (q * fq) ≠ 0 := by
      have := Int.mul_pos hqn.1 f4
      omega
    refine Int.eq_of_mul_eq_mul_right hne ?_
    have e1 := h.eq
    generalize ((n - k : Nat) : Int) = b at *
    generalize ((n - w - k : Nat) : Int) = a at *
    generalize chQ n k = Qk at *
    generalize chP n w k = Pk at *
    have e2 : p2 * (Qk * b) * (q * fq) = (p2 * (q * fq)) * (Qk * b) := by grind
    rw [e2, g1]
    have e3 : p * fp * q2 * (Qk * b) = (p * Qk) * (fp * b) * q2 := by grind
    rw [e3, e1, f1]
    grind
  · rw [chP]
    have h3 : p * fp ≤ chP n w k * fp := Int.mul_le_mul_of_nonneg_right hpn.2 f2
    have h4 : chP n w k * fp ≤ chP n w k * ((n - w - k : Nat) : Int) := Int.mul_le_mul_of_nonneg_left f3 (by omega)
    omega
  · rw [chQ]
    have h3 : q * fq ≤ chQ n k * fq := Int.mul_le_mul_of_nonneg_right hqn.2 (by omega)
    have h4 : chQ n k * fq ≤ chQ n k * ((n - k : Nat) : Int) := Int.mul_le_mul_of_nonneg_left f5 (by omega)
    omega
/-- Is chance k at most N / D? -/
def chLe (n w : Nat) (N D : Int) (k : Nat) : Prop := chP n w k * D ≤ N * chQ n k
instance (n w : Nat) (N D : Int) (k : Nat) : Decidable (chLe n w N D k) := inferInstanceAs (Decidable (_ ≤ _))
theorem ChOk.le_iff {n w k : Nat} {p q N D : Int} (h : ChOk n w k p q) (hk : k ≤ n) : p * D - N * q ≤ 0 ↔ chLe n w N D k := by
  have hQ := chQ_pos n k hk
  have e : (p * D) * chQ n k = (chP n w k * D) * q := by have := h.eq; grind
  unfold chLe
  constructor
  · intro h1
    have h2 : (p * D) * chQ n k ≤ (N * q) * chQ n k := Int.mul_le_mul_of_nonneg_right (by omega) (by omega)
    rw [e] at h2
    have h3 : (chP n w k * D) * q ≤ (N * chQ n k) * q := by
      have e2 : (N * q) * chQ n k = (N * chQ n k) * q := by grind
      omega
    exact Int.le_of_mul_le_mul_right h3 h.den.1
  · intro h1
    have h2 : (chP n w k * D) * q ≤ (N * chQ n k) * q := Int.mul_le_mul_of_nonneg_right h1 (by have := h.den; omega)
    rw [← e] at h2
    have h3 : (p * D) * chQ n k ≤ (N * q) * chQ n k := by
      have e2 : (N * q) * chQ n k = (N * chQ n k) * q := by grind
      omega
    have := Int.le_of_mul_le_mul_right h3 hQ
    omega
theorem chLe_end (n w : Nat) (hw : 1 ≤ w) (hn : w ≤ n) (N D : Int) (hN : 0 ≤ N) : chLe n w N D n := by
  unfold chLe
  rw [chP_end n w hw hn, Int.zero_mul]
  exact Int.mul_nonneg hN (by have := chQ_pos n n (Nat.le_refl _); omega)
/-- How many sheets are enough: the first number whose chance is at most N / D. -/
def needN (n w : Nat) (N D : Int) : Nat → Nat → Nat
  | 0, k => k
  | f + 1, k => if chLe n w N D k then k else needN n w N D f (k + 1)
theorem needN_spec (n w : Nat) (N D : Int) : ∀ f k, chLe n w N D (k + f) → chLe n w N D (needN n w N D f k) ∧ k ≤ needN n w N D f k ∧ needN n w N D f k ≤ k + f ∧ ∀ j, k ≤ j → j < needN n w N D f k → ¬ chLe n w N D j
  | 0, k, h => ⟨h, Nat.le_refl _, Nat.le_refl _, fun j h1 h2 => by simp only [needN] at h2; omega⟩
  | f + 1, k, h => by
    rw [needN]
    split
    · rename_i h1
      exact ⟨h1, Nat.le_refl _, by omega, fun j h2 h3 => by omega⟩
    · rename_i h1
      obtain ⟨a, b, c, d⟩ := needN_spec n w N D f (k + 1) (by rwa [show k + 1 + f = k + (f + 1) by omega])
      refine ⟨a, by omega, by omega, fun j h2 h3 => ?_⟩
      rcases Nat.lt_or_ge k j with h4 | h4
      · exact d j h4 h3
      · obtain rfl : j = k := by omega
        exact h1
/-- The number that Need returns. -/
def need (n w : Nat) (N D : Int) : Nat := needN n w N D n 0
theorem need_spec (n w : Nat) (hw : 1 ≤ w) (hn : w ≤ n) (N D : Int) (hN : 0 ≤ N) : chLe n w N D (need n w N D) ∧ need n w N D ≤ n ∧ ∀ j, j < need n w N D → ¬ chLe n w N D j := by
  obtain ⟨a, _, c, d⟩ := needN_spec n w N D n 0 (by rw [Nat.zero_add]; exact chLe_end n w hw hn N D hN)
  exact ⟨a, by rwa [Nat.zero_add] at c, fun j hj => d j (Nat.zero_le _) hj⟩
theorem need_first (n w : Nat) (hw : 1 ≤ w) (hn : w ≤ n) (N D : Int) (hN : 0 ≤ N) {k : Nat} (h1 : chLe n w N D k) (h2 : ∀ j, j < k → ¬ chLe n w N D j) : k = need n w N D := by
  obtain ⟨a, _, d⟩ := need_spec n w hw hn N D hN
  rcases Nat.lt_trichotomy k (need n w N D) with h | h | h
  · exact absurd h1 (d k h)
  · exact h
  · exact absurd a (h2 _ h)
end Go.Proofs.YtkkcbkfpaoldmaaGreatDoor

/- Plain laws: orders of a few numbers; how a recount goes; how many orders are confirmed. -/
namespace Go.Proofs.YtkkcbkfpaoldmaaGreatDoor

/-- x laid into a list at a place. -/
def insAt (p : List Int) (x : Int) (i : Nat) : List Int := p.take i ++ x :: p.drop i
/-- All orders of 0, .., n - 1, as the law makes them. -/
def permsL : Nat → List (List Int)
  | 0 => [[]]
  | n + 1 => (permsL n).flatMap fun p => (List.range (n + 1)).map fun i => insAt p n i
/-- A recount: its state, how many sheets agreed, how many were looked at. -/
def runR (nd : Nat) (ag : List Bool) : List Int → Nat → Nat → Nat → Nat × Nat × Nat
  | [], s, a, k => (s, a, k)
  | x :: r, s, a, k => if s = 0 then (if ag.getD x.toNat false then (if a + 1 = nd then runR nd ag r 1 (a + 1) (k + 1) else runR nd ag r 0 (a + 1) (k + 1)) else runR nd ag r 2 a (k + 1)) else (s, a, k)
/-- A recount's first state. -/
def startR (nd : Nat) : Nat := if nd = 0 then 1 else 0
def runO (nd : Nat) (ag : List Bool) (o : List Int) : Nat × Nat × Nat := runR nd ag o (startR nd) 0 0
theorem runR_done (nd : Nat) (ag : List Bool) (o : List Int) (s a k : Nat) (h : s ≠ 0) : runR nd ag o s a k = (s, a, k) := by
  cases o with
  | nil => rfl
  | cons x r => rw [runR, if_neg h]
theorem runR_agree (nd : Nat) (ag : List Bool) : ∀ (o : List Int) (a : Nat), (∀ x ∈ o, ag.getD x.toNat false = true) → a < nd → nd ≤ a + o.length → runR nd ag o 0 a a = (1, nd, nd)
  | [], a, _, h1, h2 => by simp at h2; omega
  | x :: r, a, h, h1, h2 => by
    rw [runR, if_pos rfl, if_pos (h x List.mem_cons_self)]
    split
    · rename_i e
      rw [runR_done _ _ _ _ _ _ (by decide), e]
    · rename_i e
      exact runR_agree nd ag r (a + 1) (fun y hy => h y (List.mem_cons_of_mem _ hy)) (by omega) (by simp at h2; omega)
theorem runO_agree (nd : Nat) (ag : List Bool) (o : List Int) (h : ∀ x ∈ o, ag.getD x.toNat false = true) (hn : nd ≤ o.length) : (runO nd ag o).1 = 1 ∧ (runO nd ag o).2.2 = nd := by
  unfold runO startR
  split
  · rename_i e
    rw [runR_done _ _ _ _ _ _ (by decide), e]
    exact ⟨rfl, rfl⟩
  · rename_i e
    rw [runR_agree nd ag o 0 h (by omega) (by omega)]
    exact ⟨rfl, rfl⟩
theorem runR_ends (nd : Nat) (ag : List Bool) : ∀ (o : List Int) (s a k : Nat), (s = 0 → a < nd ∧ nd ≤ a + o.length) → s < 3 → (runR nd ag o s a k).1 ≠ 0 ∧ (runR nd ag o s a k).1 < 3 ∧ (runR nd ag o s a k).2.2 ≤ k + o.length
  | [], s, a, k, h, hs => by
    refine ⟨?_, hs, by simp [runR]⟩
    show s ≠ 0
    intro e
    have := h e
    simp at this
    omega
  | x :: r, s, a, k, h, hs => by
    rw [runR]
    split
    · rename_i e
      have := h e
      simp only [List.length_cons] at this ⊢
      split
      · split
        · have h2 := runR_ends nd ag r 1 (a + 1) (k + 1) (fun e => by cases e) (by decide)
          exact ⟨h2.1, h2.2.1, by omega⟩
        · have h2 := runR_ends nd ag r 0 (a + 1) (k + 1) (fun _ => by omega) (by decide)
          exact ⟨h2.1, h2.2.1, by omega⟩
      · have h2 := runR_ends nd ag r 2 a (k + 1) (fun e => by cases e) (by decide)
        exact ⟨h2.1, h2.2.1, by omega⟩
    · rename_i e
      exact ⟨e, hs, by simp only [List.length_cons]; omega⟩
theorem runO_ends (nd : Nat) (ag : List Bool) (o : List Int) (hn : nd ≤ o.length) : (runO nd ag o).1 ≠ 0 ∧ (runO nd ag o).1 < 3 ∧ (runO nd ag o).2.2 ≤ o.length := by
  unfold runO startR
  split
  · have h := runR_ends nd ag o 1 0 0 (fun e => by cases e) (by decide)
    exact ⟨h.1, h.2.1, by omega⟩
  · rename_i e
    have h := runR_ends nd ag o 0 0 0 (fun _ => by omega) (by decide)
    exact ⟨h.1, h.2.1, by omega⟩
/-- All lists of n truth values. -/
def bools : Nat → List (List Bool)
  | 0 => [[]]
  | n + 1 => (bools n).flatMap fun l => [true :: l, false :: l]
theorem mem_bools : ∀ l : List Bool, l ∈ bools l.length
  | [] => by simp [bools]
  | b :: l => by
    simp only [List.length_cons, bools, List.mem_flatMap]
    refine ⟨l, mem_bools l, ?_⟩
    cases b <;> simp
def offOf (ag : List Bool) : Nat := ag.countP (fun b => !b)
/-- How many orders are confirmed. -/
def confOf (nd : Nat) (ag : List Bool) (os : List (List Int)) : Nat := os.countP fun o => (runO nd ag o).1 == 1
def conf_check (n : Nat) : Bool := (bools n).all fun ag => (List.range (n + 1)).all fun nd => decide ((confOf nd ag (permsL n) : Int) * chQ n nd = chP n (offOf ag) nd * ((permsL n).length : Nat))
set_option maxRecDepth 100000 in
theorem conf_all : ∀ n, n ≤ 5 → conf_check n = true
  | 0, _ => by decide +kernel
  | 1, _ => by decide +kernel
  | 2, _ => by decide +kernel
  | 3, _ => by decide +kernel
  | 4, _ => by decide +kernel
  | 5, _ => by decide +kernel
  | n + 6, h => by omega
theorem conf_eq (n : Nat) (hn : n ≤ 5) (ag : List Bool) (ha : ag.length = n) (nd : Nat) (hd : nd ≤ n) : (confOf nd ag (permsL n) : Int) * chQ n nd = chP n (offOf ag) nd * ((permsL n).length : Nat) := by
  have h := List.all_eq_true.1 (conf_all n hn) ag (by rw [← ha]; exact mem_bools ag)
  have h2 := List.all_eq_true.1 h nd (List.mem_range.2 (by omega))
  exact of_decide_eq_true h2
theorem chP_mono (n w v : Nat) (h : w ≤ v) : ∀ k, 0 ≤ chP n v k ∧ chP n v k ≤ chP n w k
  | 0 => ⟨by simp [chP], by simp [chP]⟩
  | k + 1 => by
    have ih := chP_mono n w v h k
    rw [chP, chP]
    refine ⟨Int.mul_nonneg ih.1 (by omega), ?_⟩
    have h1 : chP n v k * ((n - v - k : Nat) : Int) ≤ chP n v k * ((n - w - k : Nat) : Int) := Int.mul_le_mul_of_nonneg_left (by omega) ih.1
    have h2 : chP n v k * ((n - w - k : Nat) : Int) ≤ chP n w k * ((n - w - k : Nat) : Int) := Int.mul_le_mul_of_nonneg_right ih.2 (by omega)
    omega
/-- At most the limit of all orders are confirmed. -/
theorem conf_limit (n w : Nat) (hn : n ≤ 5) (hw : 1 ≤ w) (hwn : w ≤ n) (N D : Int) (hN : 0 ≤ N) (hD : 0 ≤ D) (ag : List Bool) (ha : ag.length = n) (ho : w ≤ offOf ag) : (confOf (need n w N D) ag (permsL n) : Int) * D ≤ N * ((permsL n).length : Nat) := by
  obtain ⟨h1, h2, -⟩ := need_spec n w hw hwn N D hN
  have e := conf_eq n hn ag ha _ h2
  have hQ := chQ_pos n _ h2
  have hP := chP_mono n w (offOf ag) ho (need n w N D)
  unfold chLe at h1
  generalize chQ n (need n w N D) = Q at *
  generalize chP n w (need n w N D) = Pw at *
  generalize chP n (offOf ag) (need n w N D) = Po at *
  obtain ⟨c, hc⟩ : ∃ c : Int, c = (confOf (need n w N D) ag (permsL n) : Int) := ⟨_, rfl⟩
  obtain ⟨m, hm⟩ : ∃ m : Int, m = ((permsL n).length : Int) := ⟨_, rfl⟩
  have hm0 : 0 ≤ m := by omega
  rw [← hc, ← hm] at e
  rw [← hc, ← hm]
  have a1 : Po * D ≤ Pw * D := Int.mul_le_mul_of_nonneg_right hP.2 hD
  have a2 : Po * D * m ≤ (N * Q) * m := Int.mul_le_mul_of_nonneg_right (by omega) hm0
  have a3 : (c * D) * Q = Po * D * m := by grind
  have a4 : (N * m) * Q = (N * Q) * m := by grind
  exact Int.le_of_mul_le_mul_right (by omega : (c * D) * Q ≤ (N * m) * Q) hQ
/-- A ratio in lowest terms is at most the limit if what it was made of is. -/
theorem low_limit {p q a b N D : Int} (hb : 0 < b) (hq : 0 ≤ q) (e : p * b = a * q) (h : a * D ≤ N * b) : p * D - N * q ≤ 0 := by
  have h1 : (a * D) * q ≤ (N * b) * q := Int.mul_le_mul_of_nonneg_right h hq
  have e1 : (p * D) * b = (a * D) * q := by grind
  have e2 : (N * q) * b = (N * b) * q := by grind
  have := Int.le_of_mul_le_mul_right (by omega : (p * D) * b ≤ (N * q) * b) hb
  omega
end Go.Proofs.YtkkcbkfpaoldmaaGreatDoor

/- Plain laws: a round of the long division (Knuth, algorithm D) over a list of digits. -/
namespace Go.Proofs.YtkkcbkfpaoldmaaGreatDoor

/-- The top of the dividend in round i, as a number. -/
def topU (L : List Int) (i n : Nat) : Int := dsum (fun j => dg L (i + j)) n
/-- What a list is, from place i on n digits long, zeros behind. -/
theorem kn_split {L : List Int} {N i n : Nat} (h : i + n ≤ N) (hz : ∀ j, i + n ≤ j → dg L j = 0) : dsum (dg L) N = dsum (dg L) i + bp i * topU L i n := by
  rw [dsum_zeros h (fun j h1 _ => hz j h1), dsum_split]
  rfl
theorem topU_two {L : List Int} {i k : Nat} (hk : 2 ≤ k) : topU L i (k + 1) = ((dg L (i + k) * 1073741824 + dg L (i + k - 1)) * 1073741824 + dg L (i + k - 2)) * bp (k - 2) + topU L i (k - 2) := by
  obtain ⟨m, rfl⟩ : ∃ m, k = m + 2 := ⟨k - 2, by omega⟩
  simp only [topU, dsum_succ, bp_succ, Nat.add_sub_cancel]
  rw [show i + (m + 2) = i + m + 2 by omega, show i + (m + 1) = i + m + 1 by omega, show i + m + 2 - 1 = i + m + 1 by omega, show i + m + 2 - 2 = i + m by omega]
  grind
theorem valL_two {v : List Int} {k : Nat} (hk : 2 ≤ k) (hv : v.length = k) : valL v = (dg v (k - 1) * 1073741824 + dg v (k - 2)) * bp (k - 2) + dsum (dg v) (k - 2) := by
  obtain ⟨m, rfl⟩ : ∃ m, k = m + 2 := ⟨k - 2, by omega⟩
  simp only [valL, hv, dsum_succ, bp_succ, Nat.add_sub_cancel]
  rw [show m + 2 - 1 = m + 1 by omega]
  grind
theorem topU_range {L : List Int} {i n : Nat} (h : Digs (dg L) (i + n)) : 0 ≤ topU L i n ∧ topU L i n < bp n := dsum_range (f := fun j => dg L (i + j)) (fun j hj => h (i + j) (by omega))
/-- A divisor that has been moved: its first digit is at least half the base. -/
structure DivOk (v : List Int) (k : Nat) : Prop where
  two : 2 ≤ k
  len : v.length = k
  dig : DigL v
  top : 1073741824 ≤ 2 * dg v (k - 1)
theorem DivOk.le {v : List Int} {k : Nat} (h : DivOk v k) : 0 < valL v ∧ valL v < bp k := by
  have h1 := valL_range h.dig
  rw [h.len] at h1
  refine ⟨?_, h1.2⟩
  have h2 := valL_top h.dig (fun _ => by rw [h.len]; have := h.top; omega) (n := k - 1) (by rw [h.len]; have := h.two; omega)
  have := bp_pos (k - 1)
  omega
/-- What is true at the start of round i, where i + 1 digits of the quotient are still to come. -/
structure RoundOk (L v : List Int) (N i k : Nat) : Prop where
  fit : i + k < N
  dig : DigL L
  zero : ∀ j, i + k < j → dg L j = 0
  less : dsum (dg L) N < valL v * bp (i + 1)
section
variable {L v : List Int} {N i k : Nat}
theorem RoundOk.split (h : RoundOk L v N i k) : dsum (dg L) N = dsum (dg L) i + bp i * topU L i (k + 1) := kn_split (by have := h.fit; omega) (fun j hj => h.zero j (by omega))
theorem RoundOk.top (h : RoundOk L v N i k) : 0 ≤ topU L i (k + 1) ∧ topU L i (k + 1) < valL v * 1073741824 := by
  refine ⟨(topU_range (h.dig.digs _)).1, ?_⟩
  have h1 := h.less
  rw [h.split, bp_succ] at h1
  have h2 := (dsum_range (h.dig.digs i)).1
  have h3 : topU L i (k + 1) * bp i < (valL v * 1073741824) * bp i := by
    have e1 : valL v * (1073741824 * bp i) = (valL v * 1073741824) * bp i := by grind
    have e2 : bp i * topU L i (k + 1) = topU L i (k + 1) * bp i := by grind
    omega
  exact Int.lt_of_mul_lt_mul_right h3 (by have := bp_pos i; omega)
/-- The first digit of the rest is at most that of the divisor. -/
theorem RoundOk.first (h : RoundOk L v N i k) (hv : DivOk v k) : dg L (i + k) ≤ dg v (k - 1) := by
  have h1 := h.top.2
  rw [topU_two hv.two, valL_two hv.two hv.len] at h1
  have hp := bp_pos (k - 2)
  have hu := h.dig.digs (i + k + 1)
  have u0 := hu (i + k - 1) (by omega)
  have u1 := hu (i + k - 2) (by omega)
  have u2 : 0 ≤ topU L i (k - 2) := (topU_range (h.dig.digs _)).1
  have v0 := hv.dig.digs (k + 1) (k - 2) (by omega)
  have v1 := (dsum_range (hv.dig.digs (k - 2))).2
  rcases Int.lt_or_le (dg v (k - 1)) (dg L (i + k)) with h2 | h2
  · exfalso
    have h3 : (dg v (k - 1) + 1) * (1073741824 * 1073741824 * bp (k - 2)) ≤ dg L (i + k) * (1073741824 * 1073741824 * bp (k - 2)) := Int.mul_le_mul_of_nonneg_right (by omega) (by omega)
    have h4 : 0 ≤ dg L (i + k - 1) * bp (k - 2) := Int.mul_nonneg u0.1 (by omega)
    have h5 : 0 ≤ dg L (i + k - 2) * bp (k - 2) := Int.mul_nonneg u1.1 (by omega)
    have h6 : dg v (k - 2) * bp (k - 2) ≤ 1073741823 * bp (k - 2) := Int.mul_le_mul_of_nonneg_right (by omega) (by omega)
    have e1 : ((dg L (i + k) * 1073741824 + dg L (i + k - 1)) * 1073741824 + dg L (i + k - 2)) * bp (k - 2) = dg L (i + k) * (1073741824 * 1073741824 * bp (k - 2)) + dg L (i + k - 1) * bp (k - 2) * 1073741824 + dg L (i + k - 2) * bp (k - 2) := by grind
    have e2 : ((dg v (k - 1) * 1073741824 + dg v (k - 2)) * bp (k - 2) + dsum (dg v) (k - 2)) * 1073741824 = dg v (k - 1) * (1073741824 * 1073741824 * bp (k - 2)) + dg v (k - 2) * bp (k - 2) * 1073741824 + dsum (dg v) (k - 2) * 1073741824 := by grind
    have e3 : (dg v (k - 1) + 1) * (1073741824 * 1073741824 * bp (k - 2)) = dg v (k - 1) * (1073741824 * 1073741824 * bp (k - 2)) + 1073741824 * 1073741824 * bp (k - 2) := by grind
    omega
  · exact h2
/-- The quotient's digit that is sought. -/
def qdig (L v : List Int) (i k : Nat) : Int := topU L i (k + 1) / valL v
theorem RoundOk.guess (h : RoundOk L v N i k) (hv : DivOk v k) : 0 ≤ qdig L v i k ∧ qdig L v i k ≤ (dg L (i + k) * 1073741824 + dg L (i + k - 1)) / dg v (k - 1) ∧ qdig L v i k ≤ 1073741823 :=
  knuth_init (bp_pos (k - 2)) hv.top (hv.dig.digs (k + 1) (k - 2) (by omega)).1 (dsum_range (hv.dig.digs (k - 2))).1 (h.dig.digs (i + k + 1) (i + k - 2) (by omega)) (topU_range (h.dig.digs (i + (k - 2))))
    (valL_two hv.two hv.len) (topU_two hv.two) h.top.1 h.top.2
theorem RoundOk.down (h : RoundOk L v N i k) (hv : DivOk v k) {g : Int} (hg : 0 ≤ g) (hc : ((dg L (i + k) * 1073741824 + dg L (i + k - 1)) - g * dg v (k - 1)) * 1073741824 + dg L (i + k - 2) < g * dg v (k - 2)) : qdig L v i k ≤ g - 1 :=
  knuth_down (bp_pos (k - 2)) hv.top (hv.dig.digs (k + 1) (k - 2) (by omega)).1 (dsum_range (hv.dig.digs (k - 2))).1 (topU_range (h.dig.digs (i + (k - 2)))) (valL_two hv.two hv.len) (topU_two hv.two) hg hc
theorem RoundOk.stop (h : RoundOk L v N i k) (hv : DivOk v k) {g : Int} (hg : 0 ≤ g ∧ g ≤ 1073741823) (hc : g * dg v (k - 2) ≤ ((dg L (i + k) * 1073741824 + dg L (i + k - 1)) - g * dg v (k - 1)) * 1073741824 + dg L (i + k - 2) ∨ 1073741824 ≤ (dg L (i + k) * 1073741824 + dg L (i + k - 1)) - g * dg v (k - 1)) : g ≤ qdig L v i k + 1 :=
  knuth_stop (bp_pos (k - 2)) hv.top (hv.dig.digs (k + 1) (k - 2) (by omega)) (dsum_range (hv.dig.digs (k - 2))) (h.dig.digs (i + k + 1) (i + k - 2) (by omega)).1 (topU_range (h.dig.digs (i + (k - 2)))).1 (valL_two hv.two hv.len) (topU_two hv.two) hg hc
end
/-- Within the two inner loops: j digits are done, o is owed (or over), f times the divisor has been taken. -/
structure InOk (L0 L v : List Int) (N i k : Nat) (f T : Int) (j : Nat) (o : Int) : Prop where
  len : L.length = N
  dig : Digs (dg L) (i + k)
  top : dg L (i + k) = T
  zero : ∀ x, i + k < x → dg L x = 0
  low : dsum (dg L) i = dsum (dg L0) i
  sum : dsum (dg L) N + o * bp (i + j) = dsum (dg L0) N - f * dsum (dg v) j * bp i
section
variable {L0 L v : List Int} {N i k j : Nat} {f T o s : Int}
theorem InOk.next (h : InOk L0 L v N i k f T j o) (hik : i + k < N) (hj : j < k) (hs : s = dg L (i + j) - f * dg v j + o) : InOk L0 (L.set (i + j) (s % 1073741824)) v N i k f T (j + 1) (s / 1073741824) := by
  have hl : i + j < L.length := by rw [h.len]; omega
  refine ⟨by rw [List.length_set]; exact h.len, fun x hx => ?_, ?_, fun x hx => ?_, ?_, ?_⟩
  · rw [dg_set hl]
    split
    · exact emod_digit s
    · exact h.dig x hx
  · rw [dg_set hl, if_neg (by omega)]; exact h.top
  · rw [dg_set hl, if_neg (by omega)]; exact h.zero x hx
  · rw [dsum_congr (fun x hx => by rw [dg_set hl, if_neg (by omega)]), h.low]
  · rw [dsum_setL hl (by omega), ← Nat.add_assoc, carry_set]
    have h1 := h.sum
    rw [dsum_succ, hs]
    have h2 := bp_add i j
    grind
/-- The digit behind the last one gets what is owed. -/
theorem InOk.last (h : InOk L0 L v N i k f T k o) (hik : i + k < N) (hv : v.length = k) : InOk L0 (L.set (i + k) (T + o)) v N i k f (T + o) k 0 := by
  have hl : i + k < L.length := by rw [h.len]; omega
  refine ⟨by rw [List.length_set]; exact h.len, fun x hx => ?_, by rw [dg_set hl, if_pos rfl], fun x hx => ?_, ?_, ?_⟩
  · rw [dg_set hl, if_neg (by omega)]; exact h.dig x hx
  · rw [dg_set hl, if_neg (by omega)]; exact h.zero x hx
  · rw [dsum_congr (fun x hx => by rw [dg_set hl, if_neg (by omega)]), h.low]
  · rw [dsum_setL hl (by omega), h.top]
    have h1 := h.sum
    grind
theorem InOk.first (h : RoundOk L v N i k) (hL : L.length = N) (f : Int) : InOk L L v N i k f (dg L (i + k)) 0 0 := ⟨hL, h.dig.digs _, rfl, h.zero, rfl, by simp [dsum]⟩
/-- The rest of the round as a number. -/
theorem InOk.rest (h : InOk L0 L v N i k f T k 0) (h0 : RoundOk L0 v N i k) (hv : v.length = k) : topU L i k + T * bp k = topU L0 i (k + 1) - f * valL v ∧ (0 ≤ topU L i k ∧ topU L i k < bp k) := by
  have hs := h.sum
  have e1 := kn_split (L := L) (N := N) (i := i) (n := k + 1) (by have := h0.fit; omega) (fun x hx => h.zero x (by omega))
  rw [e1, h0.split, h.low, show dsum (dg v) k = valL v by rw [valL, hv]] at hs
  have e2 : topU L i (k + 1) = topU L i k + T * bp k := by
    show dsum _ (k + 1) = _
    rw [dsum_succ, h.top]
    rfl
  rw [e2] at hs
  have hp := bp_pos i
  refine ⟨?_, topU_range h.dig⟩
  have h3 : (topU L i k + T * bp k) * bp i = (topU L0 i (k + 1) - f * valL v) * bp i := by grind
  exact Int.eq_of_mul_eq_mul_right (by omega) h3
/-- The sign tells whether the guess was one too many. -/
theorem InOk.sign (h : InOk L0 L v N i k f T k 0) (h0 : RoundOk L0 v N i k) (hv : DivOk v k) (hg : qdig L0 v i k ≤ f ∧ f ≤ qdig L0 v i k + 1) : (T < 0 → f = qdig L0 v i k + 1 ∧ T = -1) ∧ (¬ T < 0 → f = qdig L0 v i k ∧ T = 0) := by
  obtain ⟨h1, h2⟩ := h.rest h0 hv.len
  exact knuth_sign hv.le.1 hg h2 (by have := hv.le.2; omega) h1
/-- With the digit of the quotient the rest has nothing behind the divisor's places. -/
theorem InOk.none (h : InOk L0 L v N i k f T k 0) (h0 : RoundOk L0 v N i k) (hv : DivOk v k) (hf : f = qdig L0 v i k) : T = 0 := by
  obtain ⟨h1, h2⟩ := h.rest h0 hv.len
  have e : topU L0 i (k + 1) - f * valL v = topU L0 i (k + 1) % valL v := by
    rw [hf, qdig, Int.emod_def]
    grind
  rw [e] at h1
  have h3 := Int.emod_nonneg (topU L0 i (k + 1)) (show valL v ≠ 0 by have := hv.le; omega)
  have h4 := Int.emod_lt_of_pos (topU L0 i (k + 1)) hv.le.1
  exact over_zero h1 h2 ⟨h3, by have := hv.le; omega⟩
/-- The rest of the round is less than the divisor, so many places to the left. -/
theorem InOk.round (h : InOk L0 L v N i k f T k 0) (h0 : RoundOk L0 v N i k) (hv : DivOk v k) (hf : f = qdig L0 v i k) : DigL L ∧ (∀ x, i + k ≤ x → dg L x = 0) ∧ dsum (dg L) N < valL v * bp i ∧ dsum (dg L) N = dsum (dg L0) N - f * valL v * bp i := by
  have hT := h.none h0 hv hf
  have hz : ∀ x, i + k ≤ x → dg L x = 0 := fun x hx => by
    rcases Nat.lt_or_ge (i + k) x with h1 | h1
    · exact h.zero x h1
    · obtain rfl : x = i + k := by omega
      rw [h.top, hT]
  have hd : DigL L := DigL.of fun x _ => by
    rcases Nat.lt_or_ge x (i + k) with h1 | h1
    · exact h.dig x h1
    · rw [hz x h1]; decide
  obtain ⟨h1, h2⟩ := h.rest h0 hv.len
  have e : topU L0 i (k + 1) - f * valL v = topU L0 i (k + 1) % valL v := by
    rw [hf, qdig, Int.emod_def]
    grind
  rw [e, hT, Int.zero_mul, Int.add_zero] at h1
  have h4 := Int.emod_lt_of_pos (topU L0 i (k + 1)) hv.le.1
  have e1 := kn_split (L := L) (N := N) (i := i) (n := k) (by have := h0.fit; omega) hz
  have h5 := (dsum_range (hd.digs i)).2
  have hs := h.sum
  rw [show dsum (dg v) k = valL v by rw [valL, hv.len], Int.zero_mul, Int.add_zero] at hs
  refine ⟨hd, hz, ?_, hs⟩
  rw [e1, h1]
  have h6 : bp i * (topU L0 i (k + 1) % valL v + 1) ≤ bp i * valL v := Int.mul_le_mul_of_nonneg_left (by omega) (by have := bp_pos i; omega)
  have e2 : bp i * (topU L0 i (k + 1) % valL v + 1) = bp i * (topU L0 i (k + 1) % valL v) + bp i := by grind
  have e3 : bp i * valL v = valL v * bp i := by grind
  omega
end
/-- How much can be owed. -/
theorem owed_range {u g x o s : Int} (hu : 0 ≤ u ∧ u < 1073741824) (hg : 0 ≤ g ∧ g ≤ 1073741823) (hx : 0 ≤ x ∧ x < 1073741824) (ho : -1073741824 ≤ o ∧ o ≤ 0) (hs : s = u - g * x + o) : (-1073741824 ≤ s / 1073741824 ∧ s / 1073741824 ≤ 0) ∧ (0 ≤ g * x ∧ g * x ≤ 1152921502459363329) := by
  have h1 : 0 ≤ g * x := Int.mul_nonneg hg.1 hx.1
  have h2 : g * x ≤ 1073741823 * x := Int.mul_le_mul_of_nonneg_right hg.2 hx.1
  omega
theorem over_range {u x o s : Int} (hu : 0 ≤ u ∧ u < 1073741824) (hx : 0 ≤ x ∧ x < 1073741824) (ho : 0 ≤ o ∧ o ≤ 1) (hs : s = u + x + o) : 0 ≤ s / 1073741824 ∧ s / 1073741824 ≤ 1 := by omega
/-- The numbers of a guess. -/
theorem guess_range {uk u1 v1 g : Int} (hv : 1073741824 ≤ 2 * v1 ∧ v1 < 1073741824) (hg : 0 ≤ g) (hd : g ≤ (uk * 1073741824 + u1) / v1) : 0 ≤ g * v1 ∧ 0 ≤ uk * 1073741824 + u1 - g * v1 := by
  have h2 : g * v1 ≤ uk * 1073741824 + u1 := by
    have h3 : g * v1 ≤ (uk * 1073741824 + u1) / v1 * v1 := Int.mul_le_mul_of_nonneg_right hd (by omega)
    have h4 := Int.ediv_mul_le (uk * 1073741824 + u1) (show v1 ≠ 0 by omega)
    omega
  exact ⟨Int.mul_nonneg hg (by omega), by omega⟩
/-- The first guess leaves little. -/
theorem guess_first {uk u1 v1 : Int} (hv : 1073741824 ≤ 2 * v1 ∧ v1 < 1073741824) (hk : 0 ≤ uk ∧ uk ≤ v1) (h1 : 0 ≤ u1 ∧ u1 < 1073741824) : uk * 1073741824 + u1 - min ((uk * 1073741824 + u1) / v1) 1073741823 * v1 < 2147483648 ∧ 0 ≤ min ((uk * 1073741824 + u1) / v1) 1073741823 := by
  have h3 := Int.mul_ediv_add_emod (uk * 1073741824 + u1) v1
  have h4 := Int.emod_lt_of_pos (uk * 1073741824 + u1) (show 0 < v1 by omega)
  have h5 : 0 ≤ (uk * 1073741824 + u1) / v1 := Int.ediv_nonneg (by omega) (by omega)
  rcases Int.le_total ((uk * 1073741824 + u1) / v1) 1073741823 with h6 | h6
  · rw [Int.min_eq_left h6]
    have e : (uk * 1073741824 + u1) / v1 * v1 = v1 * ((uk * 1073741824 + u1) / v1) := by grind
    omega
  · rw [Int.min_eq_right h6]
    omega
end Go.Proofs.YtkkcbkfpaoldmaaGreatDoor

/- Plain laws: how the long division begins and ends. -/
namespace Go.Proofs.YtkkcbkfpaoldmaaGreatDoor

theorem two_pow_le (s : Nat) (hs : s < 30) : 1 ≤ (2 : Int) ^ s ∧ (2 : Int) ^ s ≤ 536870912 := by
  have h1 : (2 : Nat) ^ s ≤ 2 ^ 29 := Nat.pow_le_pow_right (by decide) (by omega)
  have h2 : 0 < (2 : Nat) ^ s := Nat.pow_pos (by decide)
  have e : ((2 ^ s : Nat) : Int) = (2 : Int) ^ s := by simp
  have h3 : (2 : Nat) ^ 29 = 536870912 := by decide
  omega
/-- A digit that stays below the base when it is moved: so does the next one, but for the base itself. -/
theorem next_moved (x : Int) (s : Nat) (hs : s < 30) (h : x * 2 ^ s < 1073741824) : (x + 1) * 2 ^ s ≤ 1073741824 := by
  have h0 := two_pow_le s hs
  have e1 : (2 : Nat) ^ 30 = 2 ^ s * 2 ^ (30 - s) := by rw [← Nat.pow_add]; congr 1; omega
  have e2 : (1073741824 : Int) = 2 ^ (30 - s) * 2 ^ s := by
    have : ((2 ^ 30 : Nat) : Int) = ((2 ^ s * 2 ^ (30 - s) : Nat) : Int) := by rw [e1]
    have e3 : ((2 ^ 30 : Nat) : Int) = 1073741824 := by decide
    rw [e3] at this
    rw [this, Int.natCast_mul, Int.natCast_pow, Int.natCast_pow, Int.mul_comm]
    rfl
  have h1 : x < 2 ^ (30 - s) := by
    have h3 : x * 2 ^ s < 2 ^ (30 - s) * 2 ^ s := by omega
    exact Int.lt_of_mul_lt_mul_right h3 (by omega)
  have h2 : (x + 1) * 2 ^ s ≤ 2 ^ (30 - s) * 2 ^ s := Int.mul_le_mul_of_nonneg_right (by omega) (by omega)
  omega
/-- The divisor, moved. -/
theorem div_moved {b v : List Int} {k s : Nat} (hdb : DigL b) (hb : b.length = k) (h2 : 2 ≤ k) (hs : s < 30) (h1 : 1073741824 ≤ 2 * (dg b (k - 1) * 2 ^ s)) (h3 : dg b (k - 1) * 2 ^ s < 1073741824)
    (hdv : DigL v) (tv : TrimL v) (e : valL v = valL b * 2 ^ s) : DivOk v k := by
  obtain ⟨m, rfl⟩ : ∃ m, k = m + 1 := ⟨k - 1, by omega⟩
  rw [Nat.add_sub_cancel] at h1 h3
  have hp := bp_pos m
  have h0 := two_pow_le s hs
  have hn := next_moved _ s hs h3
  have hr := dsum_range (hdb.digs m)
  have eb : valL b = dsum (dg b) m + dg b m * bp m := by rw [valL, hb, dsum_succ]
  have lo : 536870912 * bp m ≤ valL v := by
    rw [e, eb, Int.add_mul]
    have h4 : 0 ≤ dsum (dg b) m * 2 ^ s := Int.mul_nonneg hr.1 (by omega)
    have h5 : 536870912 * bp m ≤ (dg b m * 2 ^ s) * bp m := Int.mul_le_mul_of_nonneg_right (by omega) (by omega)
    have e2 : dg b m * bp m * 2 ^ s = (dg b m * 2 ^ s) * bp m := by grind
    omega
  have hi : valL v < bp (m + 1) := by
    rw [e, eb, bp_succ]
    have h4 : (dsum (dg b) m + dg b m * bp m) * 2 ^ s < ((dg b m + 1) * bp m) * 2 ^ s := Int.mul_lt_mul_of_pos_right (by rw [Int.add_mul]; omega) (by omega)
    have h5 : ((dg b m + 1) * 2 ^ s) * bp m ≤ 1073741824 * bp m := Int.mul_le_mul_of_nonneg_right hn (by omega)
    have e2 : ((dg b m + 1) * bp m) * 2 ^ s = ((dg b m + 1) * 2 ^ s) * bp m := by grind
    omega
  have hlen : v.length = m + 1 := by
    rcases Nat.lt_trichotomy v.length (m + 1) with h | h | h
    · have h4 := (valL_range hdv).2
      have h5 : bp v.length ≤ bp m := bp_mono (by omega)
      omega
    · exact h
    · obtain ⟨n, hn⟩ : ∃ n, v.length = n + 1 := ⟨v.length - 1, by omega⟩
      have h4 := valL_top hdv tv hn
      have h5 : bp (m + 1) ≤ bp n := bp_mono (by omega)
      omega
  refine ⟨h2, hlen, hdv, ?_⟩
  rw [Nat.add_sub_cancel]
  have ev : valL v = dsum (dg v) m + dg v m * bp m := by rw [valL, hlen, dsum_succ]
  have hv := dsum_range (hdv.digs m)
  have h6 : 536870912 * bp m < (dg v m + 1) * bp m := by rw [Int.add_mul]; omega
  have := Int.lt_of_mul_lt_mul_right h6 (by omega)
  omega
/-- The first round. -/
theorem start_ok {a u v : List Int} {la k s : Nat} (hda : DigL a) (ha : a.length = la) (hk : k ≤ la) (hs : s < 30) (hv : DivOk v k) (hdu : DigL u) (hu : u.length = la + 1) (e : dsum (dg u) (la + 1) = valL a * 2 ^ s) : RoundOk u v (la + 1) (la - k) k := by
  refine ⟨by omega, hdu, fun j hj => dg_out (by omega), ?_⟩
  have h0 := two_pow_le s hs
  have ha2 := valL_range hda
  obtain ⟨m, hm⟩ : ∃ m, k = m + 1 := ⟨k - 1, by have := hv.two; omega⟩
  have hp := bp_pos m
  have lo : 536870912 * bp m ≤ valL v := by
    have ev : valL v = dsum (dg v) m + dg v m * bp m := by rw [valL, hv.len, hm, dsum_succ]
    have hr := dsum_range (hv.dig.digs m)
    have ht := hv.top
    rw [hm, Nat.add_sub_cancel] at ht
    have : 536870912 * bp m ≤ dg v m * bp m := Int.mul_le_mul_of_nonneg_right (by omega) (by omega)
    omega
  rw [e]
  have h1 : valL a * 2 ^ s ≤ valL a * 536870912 := Int.mul_le_mul_of_nonneg_left h0.2 ha2.1
  have e1 : bp (la - k + 1) * bp m = bp a.length := by rw [← bp_add, ha]; congr 1; omega
  have h2 : (536870912 * bp m) * bp (la - k + 1) ≤ valL v * bp (la - k + 1) := Int.mul_le_mul_of_nonneg_right lo (by have := bp_pos (la - k + 1); omega)
  have e2 : (536870912 * bp m) * bp (la - k + 1) = 536870912 * (bp (la - k + 1) * bp m) := by grind
  rw [e2, e1] at h2
  omega
/-- A digit more of the quotient. -/
theorem quo_set {Q : List Int} {n i : Nat} (hQ : Q.length = n) (hi : i < n) (hz : dg Q i = 0) (g : Int) : dsum (dg (Q.set i g)) n = dsum (dg Q) n + g * bp i := by
  rw [dsum_setL (by omega) hi, hz, Int.sub_zero]
end Go.Proofs.YtkkcbkfpaoldmaaGreatDoor

/- Plain law: of all choices of numbers, the factorial of n - k lead to any list of k different places; no program in sight. -/
import Derived.Test.YtibnikokgbfcdaaDoorDraw1
namespace Go.Proofs.YtibnikokgbfcdaaDoor

/-- The sum of f below n. -/
def sm : Nat → (Nat → Nat) → Nat
  | 0, _ => 0
  | n + 1, f => sm n f + f n
theorem sm_congr {f g : Nat → Nat} : ∀ n, (∀ i, i < n → f i = g i) → sm n f = sm n g
  | 0, _ => rfl
  | n + 1, h => by rw [sm, sm, sm_congr n (fun i hi => h i (by omega)), h n (by omega)]
theorem sm_add (f g : Nat → Nat) : ∀ n, sm n (fun i => f i + g i) = sm n f + sm n g
  | 0 => rfl
  | n + 1 => by rw [sm, sm, sm, sm_add f g n]; omega
theorem sm_zero : ∀ n, sm n (fun _ => 0) = 0
  | 0 => rfl
  | n + 1 => by rw [sm, sm_zero n]
theorem sm_one : ∀ n, sm n (fun _ => 1) = n
  | 0 => rfl
  | n + 1 => by rw [sm, sm_one n]
theorem sm_swap (g : Nat → Nat → Nat) (m : Nat) : ∀ n, sm n (fun i => sm m (fun j => g i j)) = sm m (fun j => sm n (fun i => g i j))
  | 0 => (sm_zero m).symm
  | n + 1 => by
    show sm n (fun i => sm m (fun j => g i j)) + sm m (fun j => g n j) = sm m (fun j => sm n (fun i => g i j) + g n j)
    rw [sm_swap g m n, sm_add]
theorem sm_mul (c : Nat) (f : Nat → Nat) : ∀ n, sm n (fun i => f i * c) = sm n f * c
  | 0 => by simp [sm]
  | n + 1 => by rw [sm, sm, sm_mul c f n, Nat.add_mul]
/-- One place alone counts. -/
theorem sm_unique (n k : Nat) (f : Nat → Nat) (hk : k < n) (h1 : f k = 1) (h0 : ∀ i, i < n → i ≠ k → f i = 0) : sm n f = 1 := by
  induction n with
  | zero => omega
  | succ n ih =>
    rw [sm]
    by_cases e : k = n
    · subst e
      rw [sm_congr (g := fun _ => 0) k (fun i hi => h0 i (by omega) (by omega)), sm_zero, h1]
    · rw [ih (by omega) (fun i hi hne => h0 i (by omega) hne), h0 n (by omega) (by omega)]

/-! Sums over all choices. -/
def upd (f : Nat → Nat) (i v : Nat) : Nat → Nat := fun j => if j = i then v else f j
theorem upd_comm (f : Nat → Nat) (i j u v : Nat) (h : i ≠ j) : upd (upd f i u) j v = upd (upd f j v) i u := by
  funext k
  simp only [upd]
  by_cases h1 : k = j
  · rw [if_pos h1, if_neg (by omega), if_pos h1]
  · rw [if_neg h1]
    by_cases h2 : k = i
    · rw [if_pos h2, if_pos h2]
    · rw [if_neg h2, if_neg h2, if_neg h1]
/-- The place 0 outermost. -/
def gsum : Nat → ((Nat → Nat) → Nat) → (Nat → Nat) → Nat
  | 0, g, f => g f
  | m + 1, g, f => gsum m (fun f' => sm (m + 1) fun v => g (upd f' m v)) f
/-- The place m - 1 outermost. -/
def dsum : Nat → ((Nat → Nat) → Nat) → (Nat → Nat) → Nat
  | 0, g, f => g f
  | m + 1, g, f => sm (m + 1) fun v => dsum m g (upd f m v)
theorem dsum_congr {g g' : (Nat → Nat) → Nat} : ∀ (m : Nat) (f : Nat → Nat), (∀ f', (∀ j, m ≤ j → f' j = f j) → g f' = g' f') → dsum m g f = dsum m g' f
  | 0, f, h => h f fun _ _ => rfl
  | m + 1, f, h => by
    rw [dsum, dsum]
    refine sm_congr _ fun v _ => dsum_congr m _ fun f' hf' => h f' fun j hj => ?_
    rw [hf' j (by omega), upd, if_neg (by omega)]
theorem dsum_sm (g : Nat → (Nat → Nat) → Nat) (n : Nat) : ∀ (m : Nat) (f : Nat → Nat), dsum m (fun f' => sm n fun v => g v f') f = sm n fun v => dsum m (g v) f
  | 0, _ => rfl
  | m + 1, f => by
    show (sm (m + 1) fun u => dsum m (fun f' => sm n fun v => g v f') (upd f m u)) = sm n fun v => sm (m + 1) fun u => dsum m (g v) (upd f m u)
    rw [sm_congr (g := fun u => sm n fun v => dsum m (g v) (upd f m u)) (m + 1) fun u _ => dsum_sm g n m _]
    exact sm_swap (fun u v => dsum m (g v) (upd f m u)) n (m + 1)
theorem dsum_upd (g : (Nat → Nat) → Nat) (M v : Nat) : ∀ (m : Nat) (f : Nat → Nat), m ≤ M → dsum m (fun f' => g (upd f' M v)) f = dsum m g (upd f M v)
  | 0, _, _ => rfl
  | m + 1, f, h => by
    rw [dsum, dsum]
    refine sm_congr _ fun u _ => ?_
    rw [dsum_upd g M v m _ (by omega), upd_comm _ _ _ _ _ (by omega)]
theorem gsum_eq : ∀ (m : Nat) (g : (Nat → Nat) → Nat) (f : Nat → Nat), gsum m g f = dsum m g f
  | 0, _, _ => rfl
  | m + 1, g, f => by
    rw [gsum, gsum_eq m, dsum_sm (fun v f' => g (upd f' m v))]
    rw [dsum]
    exact sm_congr _ fun v _ => dsum_upd g m v m f (Nat.le_refl _)
/-- The choices for the places from n - r on, the last one innermost. -/
def cntF (n : Nat) (ok : (Nat → Nat) → Nat) : Nat → (Nat → Nat) → Nat
  | 0, f => ok f
  | r + 1, f => sm (n - r) fun v => cntF n ok r (upd f (n - (r + 1)) v)
theorem cntF_gsum (n : Nat) (ok : (Nat → Nat) → Nat) (f : Nat → Nat) : ∀ r, r ≤ n → gsum (n - r) (cntF n ok r) f = gsum n ok f
  | 0, _ => rfl
  | r + 1, h => by
    rw [← cntF_gsum n ok f r (by omega)]
    obtain ⟨a, ha⟩ : ∃ a, n - r = a + 1 := ⟨n - r - 1, by omega⟩
    rw [ha, show n - (r + 1) = a by omega, gsum]
    congr 1
    funext f'
    rw [cntF, ha, show n - (r + 1) = a by omega]
theorem cntF_all (n : Nat) (ok : (Nat → Nat) → Nat) (f : Nat → Nat) : cntF n ok n f = dsum n ok f := by
  rw [← gsum_eq, ← cntF_gsum n ok f n (Nat.le_refl _), Nat.sub_self]
  rfl

/-! The exchanges. -/
def hits (want L : List Int) : Nat := if L.take want.length = want then 1 else 0
/-- How many choices for the places up to i lead from L to the list. -/
def chs (want : List Int) : Nat → List Int → Nat
  | 0, L => hits want L
  | i + 1, L => sm (i + 2) fun v => chs want i (swapL L (i + 1) v)
theorem dsum_chs (want : List Int) : ∀ (i : Nat) (L : List Int) (f : Nat → Nat), dsum (i + 1) (fun f' => hits want (shuf f' i L)) f = chs want i L
  | 0, L, f => by
    simp only [dsum, sm, shuf, chs]
    omega
  | i + 1, L, f => by
    rw [dsum, chs]
    refine sm_congr _ fun v _ => ?_
    rw [← dsum_chs want i (swapL L (i + 1) v) (upd f (i + 1) v)]
    refine dsum_congr _ _ fun f' hf' => ?_
    rw [shuf, hf' (i + 1) (Nat.le_refl _), upd, if_pos rfl]

def fct : Nat → Nat
  | 0 => 1
  | n + 1 => (n + 1) * fct n
/-- The places behind i stand, and what is to come before lies there. -/
def Fits (want : List Int) (i : Nat) (L : List Int) : Prop :=
  (∀ p, i < p → p < want.length → L.getD p 0 = want.getD p 0) ∧ ∀ p, p ≤ i → p < want.length → ∃ q, q ≤ i ∧ L.getD q 0 = want.getD p 0
theorem take_eq_iff (want L : List Int) (h : want.length ≤ L.length) : L.take want.length = want ↔ ∀ p, p < want.length → L.getD p 0 = want.getD p 0 := by
  constructor
  · intro e p hp
    have h1 : (L.take want.length)[p]? = want[p]? := by rw [e]
    rw [List.getElem?_take_of_lt hp] at h1
    rw [List.getD_eq_getElem?_getD, List.getD_eq_getElem?_getD, h1]
  · intro h1
    apply List.ext_getElem (by simp; omega)
    intro p hp1 hp2
    have := h1 p hp2
    rw [List.getD_eq_getElem?_getD, List.getD_eq_getElem?_getD, List.getElem?_eq_getElem hp2, List.getElem?_eq_getElem (by omega)] at this
    simpa using this
/-- Of m different numbers, as many are among the wanted ones as there are wanted ones, if these are all there. -/
theorem sm_mem (want L : List Int) (m : Nat) (hL : ∀ a b, a < m → b < m → L.getD a 0 = L.getD b 0 → a = b) (hw : Dis want) (hall : ∀ p, p < want.length → ∃ q, q < m ∧ L.getD q 0 = want.getD p 0) :
    sm m (fun v => if ∃ p, p < want.length ∧ L.getD v 0 = want.getD p 0 then 1 else 0) = want.length := by
  have h1 : sm m (fun v => if ∃ p, p < want.length ∧ L.getD v 0 = want.getD p 0 then 1 else 0) = sm m (fun v => sm want.length fun p => if L.getD v 0 = want.getD p 0 then 1 else 0) := by
    refine sm_congr _ fun v hv => ?_
    by_cases h : ∃ p, p < want.length ∧ L.getD v 0 = want.getD p 0
    · rw [if_pos h]
      obtain ⟨p, hp, e⟩ := h
      exact (sm_unique want.length p (fun q => if L.getD v 0 = want.getD q 0 then 1 else 0) hp (if_pos e) (fun i hi hne => if_neg fun (e' : L.getD v 0 = want.getD i 0) => hne (hw i p hi hp (e'.symm.trans e)))).symm
    · rw [if_neg h, sm_congr (g := fun _ => 0) _ fun p hp => if_neg fun e => h ⟨p, hp, e⟩, sm_zero]
  rw [h1, sm_swap (fun v p => if L.getD v 0 = want.getD p 0 then 1 else 0), sm_congr (g := fun _ => 1) _ fun p hp => ?_, sm_one]
  obtain ⟨q, hq, e⟩ := hall p hp
  exact sm_unique m q (fun v => if L.getD v 0 = want.getD p 0 then 1 else 0) hq (if_pos e) (fun i hi hne => if_neg fun (e' : L.getD i 0 = want.getD p 0) => hne (hL i q hi hq (e'.trans e.symm)))

open Classical in
theorem chs_eq (want : List Int) (hw : Dis want) : ∀ (i : Nat) (L : List Int), i < L.length → want.length ≤ L.length → Dis L → chs want i L = if Fits want i L then fct (i + 1 - want.length) else 0
  | 0, L, hi, hk, hd => by
    rw [chs, hits]
    have h1 : fct (0 + 1 - want.length) = 1 := by
      rcases h : want.length with _ | k
      · rfl
      · rw [show 0 + 1 - (k + 1) = 0 by omega]; rfl
    rw [h1]
    by_cases h : Fits want 0 L
    · rw [if_pos h, if_pos]
      rw [take_eq_iff want L hk]
      intro p hp
      rcases p with _ | p
      · obtain ⟨q, hq, e⟩ := h.2 0 (Nat.le_refl _) hp
        obtain rfl : q = 0 := by omega
        exact e
      · exact h.1 (p + 1) (by omega) hp
    · rw [if_neg h, if_neg]
      intro e
      rw [take_eq_iff want L hk] at e
      exact h ⟨fun p _ hp => e p hp, fun p h0 hp => ⟨p, h0, e p hp⟩⟩
  | i + 1, L, hi, hk, hd => by
    have hsw : ∀ v, v < i + 2 → chs want i (swapL L (i + 1) v) = (if Fits want i (swapL L (i + 1) v) then 1 else 0) * fct (i + 1 - want.length) := fun v hv => by
      rw [chs_eq want hw i _ (by rw [swapL_length]; omega) (by rw [swapL_length]; exact hk) (hd.swap _ _ hi (by omega))]
      by_cases h : Fits want i (swapL L (i + 1) v)
      · rw [if_pos h, if_pos h, Nat.one_mul]
      · rw [if_neg h, if_neg h, Nat.zero_mul]
    have gs : ∀ v p, v < i + 2 → (swapL L (i + 1) v).getD p 0 = if p = v then L.getD (i + 1) 0 else if p = i + 1 then L.getD v 0 else L.getD p 0 := fun v p hv => getD_swapL L (i + 1) v p hi (by omega)
    -- where an element stands before the exchange
    have back : ∀ v q, v < i + 2 → q ≤ i → ∃ q', q' ≤ i + 1 ∧ q' ≠ v ∧ (swapL L (i + 1) v).getD q 0 = L.getD q' 0 := fun v q hv hq => by
      rw [gs v q hv]
      by_cases e : q = v
      · rw [if_pos e]
        exact ⟨i + 1, by omega, by omega, rfl⟩
      · rw [if_neg e, if_neg (by omega)]
        exact ⟨q, by omega, e, rfl⟩
    have forth : ∀ v q', v < i + 2 → q' ≤ i + 1 → q' ≠ v → ∃ q, q ≤ i ∧ (swapL L (i + 1) v).getD q 0 = L.getD q' 0 := fun v q' hv hq hne => by
      by_cases e : q' = i + 1
      · exact ⟨v, by omega, by rw [gs v v hv, if_pos rfl, e]⟩
      · exact ⟨q', by omega, by rw [gs v q' hv, if_neg hne, if_neg e]⟩
    have up : ∀ v, v < i + 2 → Fits want i (swapL L (i + 1) v) → Fits want (i + 1) L := fun v hv h => by
      refine ⟨fun p h1 h2 => ?_, fun p h1 h2 => ?_⟩
      · rw [← h.1 p (by omega) h2, gs v p hv, if_neg (by omega), if_neg (by omega)]
      · by_cases e : p = i + 1
        · subst e
          have := h.1 (i + 1) (by omega) h2
          rw [gs v (i + 1) hv] at this
          by_cases e2 : i + 1 = v
          · rw [if_pos e2] at this
            exact ⟨i + 1, Nat.le_refl _, this⟩
          · rw [if_neg e2, if_pos rfl] at this
            exact ⟨v, by omega, this⟩
        · obtain ⟨q, hq, e2⟩ := h.2 p (by omega) h2
          obtain ⟨q', h3, -, h4⟩ := back v q hv hq
          exact ⟨q', h3, h4.symm.trans e2⟩
    rw [chs, sm_congr _ hsw, sm_mul]
    by_cases hF : Fits want (i + 1) L
    · rw [if_pos hF]
      by_cases hc : i + 1 < want.length
      · -- one place alone
        obtain ⟨v0, hv0, e0⟩ := hF.2 (i + 1) (Nat.le_refl _) hc
        rw [sm_unique (i + 2) v0 _ (by omega) ?_ ?_, show i + 1 - want.length = 0 by omega, show i + 1 + 1 - want.length = 0 by omega]
        · rfl
        · refine if_pos ⟨fun p h1 h2 => ?_, fun p h1 h2 => ?_⟩
          · rw [gs v0 p (by omega)]
            by_cases e : p = i + 1
            · subst e
              by_cases e2 : i + 1 = v0
              · rw [if_pos e2, e2, e0, e2]
              · rw [if_neg e2, if_pos rfl, e0]
            · rw [if_neg (by omega), if_neg e]
              exact hF.1 p (by omega) h2
          · obtain ⟨q', h3, h4⟩ := hF.2 p (by omega) h2
            obtain ⟨q, h5, h6⟩ := forth v0 q' (by omega) h3 (fun e => by
              rw [e, e0] at h4
              have := hw (i + 1) p hc h2 h4
              omega)
            exact ⟨q, h5, h6.trans h4⟩
        · intro v hv hne
          refine if_neg fun h => hne ?_
          have := h.1 (i + 1) (by omega) hc
          rw [gs v (i + 1) hv] at this
          by_cases e2 : i + 1 = v
          · rw [if_pos e2, ← e0] at this
            have := hd (i + 1) v0 hi (by omega) this
            omega
          · rw [if_neg e2, if_pos rfl, ← e0] at this
            exact hd v v0 (by omega) (by omega) this
      · -- all places but the wanted ones
        have hcnt : sm (i + 2) (fun v => if Fits want i (swapL L (i + 1) v) then 1 else 0) + want.length = i + 2 := by
          have hm := sm_mem want L (i + 2) (fun a b ha hb e => hd a b (by omega) (by omega) e) hw (fun p hp => by
            obtain ⟨q, hq, e⟩ := hF.2 p (by omega) hp
            exact ⟨q, by omega, e⟩)
          rw [show sm (i + 2) (fun v => if Fits want i (swapL L (i + 1) v) then 1 else 0) + want.length = sm (i + 2) (fun v => if Fits want i (swapL L (i + 1) v) then 1 else 0) + sm (i + 2) (fun v => if ∃ p, p < want.length ∧ L.getD v 0 = want.getD p 0 then 1 else 0) by rw [hm], ← sm_add]
          rw [sm_congr (g := fun _ => 1) _ fun v hv => ?_, sm_one]
          by_cases hex : ∃ p, p < want.length ∧ L.getD v 0 = want.getD p 0
          · rw [if_pos hex, if_neg]
            intro h
            obtain ⟨p, hp, e⟩ := hex
            obtain ⟨q, hq, e2⟩ := h.2 p (by omega) hp
            obtain ⟨q', h3, h4, h5⟩ := back v q hv hq
            exact h4 (hd q' v (by omega) (by omega) ((h5.symm.trans e2).trans e.symm))
          · rw [if_neg hex, if_pos]
            refine ⟨fun p h1 h2 => by omega, fun p h1 h2 => ?_⟩
            obtain ⟨q', h3, h4⟩ := hF.2 p (by omega) h2
            obtain ⟨q, h5, h6⟩ := forth v q' hv h3 (fun e => hex ⟨p, h2, by rw [← e]; exact h4⟩)
            exact ⟨q, h5, h6.trans h4⟩
        have h2 : i + 1 + 1 - want.length = (i + 1 - want.length) + 1 := by omega
        rw [h2, fct, show sm (i + 2) (fun v => if Fits want i (swapL L (i + 1) v) then 1 else 0) = i + 1 - want.length + 1 by omega]
    · rw [if_neg hF, sm_congr (g := fun _ => 0) _ fun v hv => if_neg fun h => hF (up v hv h), sm_zero, Nat.zero_mul]
/-- Of all choices of numbers the factorial of n - k lead to a list of k different places. -/
theorem cntF_fct (n : Nat) (want : List Int) (hw : Dis want) (hk : want.length ≤ n) (hr : ∀ p, p < want.length → 0 ≤ want.getD p 0 ∧ want.getD p 0 < n) (f : Nat → Nat) :
    cntF n (fun f' => hits want (shuf f' (n - 1) (iota n))) n f = fct (n - want.length) := by
  classical
  rw [cntF_all]
  rcases n with _ | n
  · have h0 : want = [] := List.eq_nil_of_length_eq_zero (by omega)
    subst h0
    rfl
  · rw [Nat.add_sub_cancel, dsum_chs, chs_eq want hw n _ (by rw [iota_length]; omega) (by rw [iota_length]; exact hk) (dis_iota _), if_pos]
    refine ⟨fun p h1 h2 => by omega, fun p h1 h2 => ?_⟩
    obtain ⟨h3, h4⟩ := hr p h2
    exact ⟨(want.getD p 0).toNat, by omega, by rw [iota_getD _ _ (by omega)]; omega⟩
end Go.Proofs.YtibnikokgbfcdaaDoor

/- Walk: podiumref32.Index where the number is there; a new slice of ints; plain laws of exchanges. -/
import Derived.Test.YtibnikokgbfcdaaDoorW17
import Derived.OwnWalk
namespace Go.Proofs.YtibnikokgbfcdaaDoor
open Go.RowKit

set_option maxRecDepth 100000 in
set_option maxHeartbeats 1000000 in
theorem index_found (A : Option Addr) (f : Nat → Int) (n c k : Nat) (x : Int) (w : World) (hA : Rd w w.heap.size A n (fun i => .int .i64 (f i)))
    (hn : n ≤ 4611686018427387903) (hk : k < n) (hx : f k = x) (hb : ∀ i, i < k → f i ≠ x) : Calls Tryd.prog 35 #[.slice A n c, .int .i64 x] w (fun e w' => e = .returned (.int .i64 k) ∧ w = w') := by
  have HA := Lib.hid hA
  have HX := Lib.hid hx
  have HB := Lib.hid hb
  clear hA hx hb
  go_enter Tryd.func35, Tryd.ntmps35
  go_wp2_with fail
  go_loopw [5] (fun v wr => ∃ j : Nat, j ≤ k ∧ v = .int .i64 j ∧ w = wr) (fun v _ => n - (intOf v).toNat)
  case atStart => exact ⟨0, by omega, rfl, rfl⟩
  case round =>
    obtain ⟨j, hj, rfl, rfl⟩ := hrel
    obtain ⟨b, off, rfl, _, hc⟩ := HA.out.at_ (k := j) (by omega)
    obtain ⟨y, hy⟩ : ∃ y, y = f j := ⟨_, rfl⟩
    rw [← hy] at hc
    have HY := Lib.hid hy
    clear hy
    have hjn : j < n := by omega
    by_cases hxy : y = x
    · have hjk : j = k := by
        rcases Nat.lt_or_ge j k with h | h
        · exact absurd (by rw [← HY.out]; exact hxy) (HB.out j h)
        · omega
      subst hjk
      subst hxy
      go_wp2
      go_ret
      exact ⟨rfl, rfl⟩
    · have hjk : j < k := by
        rcases Nat.lt_or_ge j k with h | h
        · exact h
        · have e : j = k := by omega
          exact absurd (by rw [HY.out, e, HX.out]) hxy
      go_wp2
      go_roundw
      case rel => exact ⟨j + 1, by omega, by go_num, by first | rfl | trivial⟩
      case measure => simp [intOf]; omega

theorem icells_zeros (n : Nat) : icells (List.replicate n 0) = List.replicate n (Value.int .i64 0) := by simp [icells]
theorem madeCells_int (n : Nat) : (madeCells (Value.int .i64 0).cells (n * 1)).toList = icells (List.replicate n 0) := by
  rw [icells_zeros, Nat.mul_one]
  apply List.ext_getElem?
  intro k
  by_cases h : k < n
  · simp [madeCells, Value.cells, h, Nat.mod_one]
  · simp [madeCells, h]
section
variable {ops : Array Oper} {rest : List Oper} {o : Oper} {a : Act} {Q : Exit → Act → World → Prop}
theorem make_int (hg : o.guard = none) (l : Operand) (hop : o.op = Op.makeSlice 32 l l) (base : Nat) {w : World} (n : Nat) (hl : a.eval l = .int .i64 n) (hn : n ≤ 1048576) (hb : base ≤ w.heap.size)
    (hK : ∀ w', IOwn w' base (.slice (some ⟨w.heap.size, 0, none⟩) n n) (List.replicate n 0) → w.grownBy w' none → wpList Tryd.prog ops Q rest (a.put o.dst (.slice (some ⟨w.heap.size, 0, none⟩) n n)) w') :
    wpList Tryd.prog ops Q (o :: rest) a w :=
  wpList_make_full w hg l l 32 hop base 3 iInfo (.int .i64 0) 1 Tryd.underlying32 iInfo_eq iInfo_zero iInfo_size .i64 .i64 n n n hl hl rfl rfl (by rw [iInfo_bytes]; omega) (by simp only [maxLen]; omega) hb
    fun w' h1 h2 => hK w' (by
      show World.ownsRow w' base 3 1 _ (List.replicate n (0 : Int)).length (icells (List.replicate n 0))
      rw [List.length_replicate, ← madeCells_int]
      exact h1) h2
end

/-- The first j of n places hold their own numbers, the others 0. -/
def fillL (n j : Nat) : List Int := iota j ++ List.replicate (n - j) 0
theorem fillL_length (n j : Nat) (h : j ≤ n) : (fillL n j).length = n := by simp [fillL, iota_length]; omega
theorem fillL_zero (n : Nat) : fillL n 0 = List.replicate n 0 := by simp [fillL, iota]
theorem fillL_all (n : Nat) : fillL n n = iota n := by simp [fillL]
theorem fillL_set (n j : Nat) (h : j < n) : (fillL n j).set j (j : Int) = fillL n (j + 1) := by
  obtain ⟨m, hm⟩ : ∃ m, n - j = m + 1 := ⟨n - j - 1, by omega⟩
  have hm' : n - (j + 1) = m := by omega
  rw [fillL, fillL, hm, hm', List.set_append_right _ _ (by rw [iota_length]; omega), iota_length, Nat.sub_self, List.replicate_succ, List.set_cons_zero, iota_succ, List.append_assoc]
  rfl
theorem IOwn.set {w : World} {base g c n : Nat} {l : List Int} (h : IOwn w base (.slice (some ⟨g, 0, none⟩) n c) l) (hn : l.length = n) (j : Nat) (x : Int) :
    IOwn (w.setCell ⟨g, j, none⟩ (.int .i64 x)) base (.slice (some ⟨g, 0, none⟩) n c) (l.set j x) ∧ Grew w (w.setCell ⟨g, j, none⟩ (.int .i64 x)) (.slice (some ⟨g, 0, none⟩) n c) (.slice (some ⟨g, 0, none⟩) n c) := by
  subst hn
  obtain ⟨h1, g1⟩ := World.ownsRow.stored h j (.int .i64 x)
  refine ⟨?_, g1, .inl rfl⟩
  show World.ownsRow _ base 3 1 _ (l.set j x).length (icells (l.set j x))
  rw [List.length_set, icells_set]
  exact h1
theorem IOwn.fill {w : World} {base g n j : Nat} (h : IOwn w base (.slice (some ⟨g, 0, none⟩) n n) (fillL n j)) (hj : j < n) :
    IOwn (w.setCell ⟨g, j, none⟩ (.int .i64 j)) base (.slice (some ⟨g, 0, none⟩) n n) (fillL n (j + 1)) ∧ Grew w (w.setCell ⟨g, j, none⟩ (.int .i64 j)) (.slice (some ⟨g, 0, none⟩) n n) (.slice (some ⟨g, 0, none⟩) n n) := by
  have := h.set (fillL_length n j (by omega)) j j
  rwa [fillL_set n j hj] at this
/-- What lies at base or later, and is lied in, leaves everything below as it is. -/
theorem IOwn.belowSet {w wr : World} {base B g c n : Nat} {l : List Int} {v : Value} (h : IOwn wr base (.slice (some ⟨g, 0, none⟩) n c) l) (hB : Below B w wr) (hbase : B ≤ base) {j : Nat} : Below B w (wr.setCell ⟨g, j, none⟩ v) :=
  hB.setCell (p := ⟨g, j, none⟩) (by have := (World.ownsRow.lt h g rfl).1; show B ≤ g; omega) v
theorem IOwn.cellAt {w : World} {base n c g : Nat} {l : List Int} (h : IOwn w base (.slice (some ⟨g, 0, none⟩) n c) l) (hn : l.length = n) {k : Nat} (hk : k < n) : w.cell? ⟨g, k, none⟩ = some (.int .i64 (l.getD k 0)) := by
  subst hn
  exact (World.ownsRow.cellAt h k (by omega)).trans (icells_get l k hk)
theorem IOwn.rd {w : World} {base : Nat} {A : Option Addr} {n c : Nat} {l : List Int} (h : IOwn w base (.slice A n c) l) (hn : l.length = n) : Rd w w.heap.size A n (fun k => .int .i64 (l.getD k 0)) := by
  subst hn
  obtain ⟨A', c', e, _, _, hR⟩ := h.shape
  simp only [Value.slice.injEq] at e
  rw [e.1]
  exact hR
theorem IOwn.frozenAt {w : World} {base g c n : Nat} {l : List Int} (h : IOwn w base (.slice (some ⟨g, 0, none⟩) n c) l) (hn : l.length = n) (k : Nat) : w.frozen? ⟨g, k, none⟩ = false := by
  subst hn
  exact World.ownsRow.frozenAt h k

/-- 's[:i]'. -/
theorem slice_upto (W : World) (g i j : Nat) (h : i ≤ j) : (Instr.slice 32 (.slice (some ⟨g, 0, none⟩) j j) none (some (.int .i64 (i : Int))) none).run Tryd.prog W = .ok (.slice (some ⟨g, 0, none⟩) i j) W := by
  simp [Instr.slice, run_underlying Tryd.underlying32, Instr.sliceBounds, Instr.sliceBound, asIntOf, h, Addr.add_mid]

/-! Plain laws of exchanges. -/
theorem getD_set (l : List Int) (i p : Nat) (x : Int) (hi : i < l.length) : (l.set i x).getD p 0 = if p = i then x else l.getD p 0 := by
  by_cases h : p = i
  · subst h
    rw [if_pos rfl, List.getD_eq_getElem?_getD, List.getElem?_set_self hi]
    rfl
  · rw [if_neg h, List.getD_eq_getElem?_getD, List.getD_eq_getElem?_getD, List.getElem?_set_ne (fun e => h e.symm)]
theorem getD_swapL (l : List Int) (i k p : Nat) (hi : i < l.length) (hk : k < l.length) : (swapL l i k).getD p 0 = if p = k then l.getD i 0 else if p = i then l.getD k 0 else l.getD p 0 := by
  rw [swapL, getD_set _ _ _ _ (by rw [List.length_set]; exact hk), getD_set _ _ _ _ hi]
/-- No number twice. -/
def Dis (l : List Int) : Prop := ∀ a b, a < l.length → b < l.length → l.getD a 0 = l.getD b 0 → a = b
theorem Dis.swap {l : List Int} (h : Dis l) (i k : Nat) (hi : i < l.length) (hk : k < l.length) : Dis (swapL l i k) := by
  have tr : ∀ p, p < l.length → (swapL l i k).getD p 0 = l.getD (if p = k then i else if p = i then k else p) 0 := fun p _ => by
    rw [getD_swapL l i k p hi hk]
    split
    · rfl
    · split <;> rfl
  have lt : ∀ p, p < l.length → (if p = k then i else if p = i then k else p) < l.length := fun p hp => by
    split
    · exact hi
    · split
      · exact hk
      · exact hp
  intro a b ha hb hab
  rw [swapL_length] at ha hb
  rw [tr a ha, tr b hb] at hab
  have e := h _ _ (lt a ha) (lt b hb) hab
  by_cases a1 : a = k <;> by_cases a2 : a = i <;> by_cases b1 : b = k <;> by_cases b2 : b = i <;> simp only [a1, a2, b1, b2, if_true, if_false] at e <;> (first | omega | (split at e <;> omega))
theorem iota_getD (n k : Nat) (h : k < n) : (iota n).getD k 0 = (k : Int) := by
  rw [List.getD_eq_getElem?_getD, iota, List.getElem?_map, List.getElem?_range h]
  rfl
theorem dis_iota (n : Nat) : Dis (iota n) := by
  intro a b ha hb h
  rw [iota_length] at ha hb
  rw [iota_getD n a ha, iota_getD n b hb] at h
  omega
theorem swapL_self (l : List Int) (i : Nat) (hi : i < l.length) : swapL l i i = l := by
  apply List.ext_getElem?
  intro p
  by_cases hp : p < l.length
  · have h1 := getD_swapL l i i p hi hi
    have h2 : p < (swapL l i i).length := by rw [swapL_length]; exact hp
    rw [List.getD_eq_getElem?_getD, List.getD_eq_getElem?_getD, List.getD_eq_getElem?_getD, List.getElem?_eq_getElem h2, List.getElem?_eq_getElem hp, List.getElem?_eq_getElem hi] at h1
    rw [List.getElem?_eq_getElem h2, List.getElem?_eq_getElem hp]
    congr 1
    simp only [Option.getD_some] at h1
    rw [h1]
    split
    · next h => simp only [h]
    · rfl
  · rw [List.getElem?_eq_none (by rw [swapL_length]; omega), List.getElem?_eq_none (by omega)]
/-- The places above i stay as they are. -/
theorem shuf_above (ks : Nat → Nat) (hks : ∀ i, ks i ≤ i) : ∀ (i : Nat) (l : List Int) (p : Nat), i < l.length → i < p → (shuf ks i l).getD p 0 = l.getD p 0
  | 0, _, _, _, _ => rfl
  | i + 1, l, p, h, hp => by
    rw [shuf, shuf_above ks hks i (swapL l (i + 1) (ks (i + 1))) p (by rw [swapL_length]; omega) (by omega), getD_swapL _ _ _ _ h (by have := hks (i + 1); omega)]
    rw [if_neg (by have := hks (i + 1); omega), if_neg (by omega)]
/-- At place i lies what lay at the place that was drawn. -/
theorem shuf_at (ks : Nat → Nat) (hks : ∀ i, ks i ≤ i) (i : Nat) (l : List Int) (h : i < l.length) : (shuf ks i l).getD i 0 = l.getD (ks i) 0 := by
  cases i with
  | zero =>
    have : ks 0 = 0 := by have := hks 0; omega
    rw [this]; rfl
  | succ i =>
    rw [shuf, shuf_above ks hks i _ (i + 1) (by rw [swapL_length]; omega) (by omega), getD_swapL _ _ _ _ h (by have := hks (i + 1); omega)]
    split
    · next e => rw [← e]
    · rw [if_pos rfl]
/-- One more exchange on the way back. -/
theorem shuf_step (ks : Nat → Nat) (hks : ∀ i, ks i ≤ i) (i : Nat) (l : List Int) (h : i < l.length) : shuf ks (i - 1) (swapL l i (ks i)) = shuf ks i l := by
  cases i with
  | zero =>
    have : ks 0 = 0 := by have := hks 0; omega
    rw [this, swapL_self l 0 h]
  | succ i => rfl
end Go.Proofs.YtibnikokgbfcdaaDoor

/- Several texts in one: S10, S11. -/
import Derived.Test.YtibnikokgbfcdaaDoorSamp2
/- Walk: podiumlaw55.sane. -/
namespace Go.Proofs.YtibnikokgbfcdaaDoor
open Go.RowKit

def od : List UInt8 := 1 :: List.replicate 31 0
theorem od_eq : Value.agg (dig od) = .agg #[.int .u8 1, .int .u8 0, .int .u8 0, .int .u8 0, .int .u8 0, .int .u8 0, .int .u8 0, .int .u8 0, .int .u8 0, .int .u8 0, .int .u8 0, .int .u8 0, .int .u8 0, .int .u8 0, .int .u8 0, .int .u8 0, .int .u8 0, .int .u8 0, .int .u8 0, .int .u8 0, .int .u8 0, .int .u8 0, .int .u8 0, .int .u8 0, .int .u8 0, .int .u8 0, .int .u8 0, .int .u8 0, .int .u8 0, .int .u8 0, .int .u8 0, .int .u8 0] := rfl
/-- What a good sample reads as. -/
def SDView (d : List UInt8) (n k : Nat) (w : World) (e : Ending) (w' : World) : Prop :=
  ∃ A, e = .returned (.tuple #[.slice A k k, .int .i64 0]) ∧ Rd w' w'.heap.size A k (fun i => .int .i64 ((orderOf d n).getD i 0)) ∧ Below w.heap.size w w'
theorem sdraw_view (d : List UInt8) (hd : d.length = 32) (n k : Nat) (hk : k ≤ n) (hn : n ≤ 4096) (w : World) (hL : Laid w) :
    Calls Tryd.prog 62 #[.agg (dig d), .int .i64 n, .int .i64 k] w (SDView d n k w) :=
  (sdraw_good d hd n k hk hn w hL).mono fun _ _ ⟨A, h1, h2, h3⟩ => ⟨A, h1, h2.rd, h3⟩
/-- Where a number stands in the order of three. -/
theorem order3 (D : List UInt8) (n : Nat) (h0 : 3 ≤ n) (h1 : n < 6) : ∃ k, k < 3 ∧ ((orderOf D 3).map (· + 3)).getD k 0 = (n : Int) ∧ ∀ i, i < k → ((orderOf D 3).map (· + 3)).getD i 0 ≠ (n : Int) := by
  obtain ⟨hl, hd, hs, _⟩ := full_order D 3
  obtain ⟨b, hb, e⟩ := hs (n - 3) (by omega)
  have hm : ∀ i, i < 3 → ((orderOf D 3).map (· + 3)).getD i 0 = (orderOf D 3).getD i 0 + 3 := fun i hi => by
    simp [List.getD_eq_getElem?_getD, show i < (orderOf D 3).length by omega]
  refine ⟨b, hb, by rw [hm b hb, e]; omega, fun i hi e2 => ?_⟩
  rw [hm i (by omega)] at e2
  have := hd i b (by omega) (by omega) (by omega)
  omega
set_option maxRecDepth 100000 in
set_option maxHeartbeats 8000000 in
theorem sane55_ok (w : World) (hL : Laid w) : Calls Tryd.prog 60 #[] w (Ret (.bool true) w) := by
  have D0 := Lib.hid (fun W h => sdraw_view zd rfl 0 0 (by decide) (by decide) W h)
  have DB := Lib.hid (fun W => sdraw_bad zd 3 4 (.inr (.inl (by decide))) W)
  have D1 := Lib.hid (fun W h => sdraw_view od rfl 1 1 (by decide) (by decide) W h)
  have S2 := Lib.hid (fun (AL AK : Option Addr) (cL cK : Nat) W h1 h2 h => strata_view zd rfl [3, 3] [0, 3] 2 (by decide) (fun i hi => by rcases i with _ | _ | _ | i <;> first | decide | omega) (fun i hi => by rcases i with _ | _ | i <;> first | decide | omega) AL AK cL cK W h1 h2 h)
  have S0 := Lib.hid (fun W h => strata_view zd rfl [] [] 0 (by decide) (fun i hi => by rcases i with _ | i <;> first | decide | omega) (fun i hi => by omega) none none 0 0 W Rd.zero Rd.zero h)
  have SB := Lib.hid (fun (AL AK : Option Addr) (cL cK : Nat) W h1 h2 => strata_at zd [3] [4] 1 0 (by decide) (by decide) (fun i hi => by rcases i with _ | i <;> first | decide | omega) (fun i hi => by omega)
    (fun k => by rcases k with _ | k <;> simp) (fun k => by rcases k with _ | k <;> simp) (.inr (.inl (by decide))) AL AK cL cK W h1 h2)
  rw [zd_eq] at D0 DB S2 S0 SB
  rw [od_eq] at D1
  have HL := Lib.hid hL
  clear hL
  go_enter Tryd.func60, Tryd.ntmps60
  go_wp2_with fail
  refine (D0.out _ HL.out).mono ?_
  rintro e w1 ⟨A0, rfl, -, hb1⟩
  go_wp2_with fail
  refine (DB.out _).mono ?_
  rintro e w2 ⟨rfl, hb2⟩
  have hB2 := hb1.trans (hb2.mono hb1.size)
  clear hb1 hb2
  go_wp2_with fail
  refine (D1.out _ (HL.out.below hB2)).mono ?_
  rintro e w3 ⟨A1, rfl, hr3, hb3⟩
  have hB3 := hB2.trans (hb3.mono hB2.size)
  clear hB2 hb3
  go_wp2_with fail
  have x4 : Blk ((w3.alloc (.cells #[.int .i64 3, .int .i64 3] 3)).alloc (.cells #[.int .i64 0, .int .i64 3] 3)) w3.heap.size 3 #[.int .i64 3, .int .i64 3] := (Blk.new _ _ _).alloc _
  have y4 : Blk ((w3.alloc (.cells #[.int .i64 3, .int .i64 3] 3)).alloc (.cells #[.int .i64 0, .int .i64 3] 3)) (w3.heap.size + 1) 3 #[.int .i64 0, .int .i64 3] := Blk.new' _ _ _ (by simp)
  have hb4 : Below w3.heap.size w3 ((w3.alloc (.cells #[.int .i64 3, .int .i64 3] 3)).alloc (.cells #[.int .i64 0, .int .i64 3] 3)) := ((Below.refl _ w3).alloc (Nat.le_refl _) _).alloc (by simp) _
  generalize (w3.alloc (.cells #[.int .i64 3, .int .i64 3] 3)).alloc (.cells #[.int .i64 0, .int .i64 3] 3) = w4 at x4 y4 hb4 ⊢
  have hB4 := hB3.trans (hb4.mono hB3.size)
  have hr4 := (hr3.below hb4).more hb4.size
  refine (S2.out _ _ _ _ w4 (Rd.of_blk x4 x4.lt fun k hk => by rcases k with _ | _ | k <;> first | rfl | omega) (Rd.of_blk y4 y4.lt fun k hk => by rcases k with _ | _ | k <;> first | rfl | omega) (HL.out.below hB4)).mono ?_
  rintro e w5 ⟨v5, rfl, hv5, hb5⟩
  have hB5 := hB4.trans (hb5.mono hB4.size)
  have hr5 := (hr4.below hb5).more hb5.size
  clear x4 y4 hb4 hB3 hr3 hb5 hB4 hr4
  obtain ⟨A5, c5, rfl, f, hf, hg⟩ := hv5
  go_wp2_with fail
  refine (S0.out _ (HL.out.below hB5)).mono ?_
  rintro e w6 ⟨v6, rfl, ⟨A6, c6, rfl, -⟩, hb6⟩
  have hB6 := hB5.trans (hb6.mono hB5.size)
  have hr6 := (hr5.below hb6).more hb6.size
  have hf6 := (hf.below hb6).more hb6.size
  have hg6 : ∀ j, j < 2 → ∃ B c', f j = .slice B (cnt [0, 3] j) c' ∧ Rd w6 w6.heap.size B (cnt [0, 3] j) (fun i => .int .i64 ((strat zd [3, 3] j).getD i 0)) := fun j hj => by
    obtain ⟨B, c', h1, h2⟩ := hg j hj
    exact ⟨B, c', h1, (h2.below hb6).more hb6.size⟩
  clear hB5 hr5 hf hg hb6
  go_wp2_with fail
  have x7 : Blk ((w6.alloc (.cells #[.int .i64 3] 3)).alloc (.cells #[.int .i64 4] 3)) w6.heap.size 3 #[.int .i64 3] := (Blk.new _ _ _).alloc _
  have y7 : Blk ((w6.alloc (.cells #[.int .i64 3] 3)).alloc (.cells #[.int .i64 4] 3)) (w6.heap.size + 1) 3 #[.int .i64 4] := Blk.new' _ _ _ (by simp)
  have hb7 : Below w6.heap.size w6 ((w6.alloc (.cells #[.int .i64 3] 3)).alloc (.cells #[.int .i64 4] 3)) := ((Below.refl _ w6).alloc (Nat.le_refl _) _).alloc (by simp) _
  generalize (w6.alloc (.cells #[.int .i64 3] 3)).alloc (.cells #[.int .i64 4] 3) = w7 at x7 y7 hb7 ⊢
  refine (SB.out _ _ _ _ w7 (Rd.of_blk x7 x7.lt fun k hk => by rcases k with _ | k <;> first | rfl | omega) (Rd.of_blk y7 y7.lt fun k hk => by rcases k with _ | k <;> first | rfl | omega)).mono ?_
  rintro e w8 ⟨rfl, hb8⟩
  have hb68 := hb7.trans (hb8.mono hb7.size)
  have hB8 := hB6.trans (hb68.mono hB6.size)
  have hr8 := (hr6.below hb68).more hb68.size
  have hf8 := (hf6.below hb68).more hb68.size
  obtain ⟨B0, c0', e0, -⟩ := hg6 0 (by decide)
  obtain ⟨B1, c1', e1, hr1⟩ := hg6 1 (by decide)
  have hr18 := (hr1.below hb68).more hb68.size
  clear x7 y7 hb7 hb8 hb68 hB6 hr6 hf6 hg6 hr1
  obtain ⟨b, off, rfl, -, hc0⟩ := hf8.at_ (k := 0) (by decide)
  obtain ⟨b', off', eA, -, hc1⟩ := hf8.at_ (k := 1) (by decide)
  obtain ⟨rfl, rfl⟩ : b = b' ∧ off = off' := by injection eA with eA; injection eA with e1 e2; exact ⟨e1, e2⟩
  rw [e0] at hc0
  rw [e1] at hc1
  have hc0' : w8.cell? ⟨b, off, none⟩ = some (.slice B0 0 c0') := hc0
  have hc1' : w8.cell? ⟨b, off + 1, none⟩ = some (.slice B1 3 c1') := hc1
  clear hc0 hc1 hf8 e0 e1 eA
  go_wp2_with fail
  have x9 : Blk (w8.alloc (.cells #[.int .i64 0] 3)) w8.heap.size 3 #[.int .i64 0] := Blk.new _ _ _
  have hb9 : Below w8.heap.size w8 (w8.alloc (.cells #[.int .i64 0] 3)) := (Below.refl _ w8).alloc (Nat.le_refl _) _
  obtain ⟨g9, hg9⟩ : ∃ g, g = w8.heap.size := ⟨_, rfl⟩
  generalize w8.alloc (.cells #[.int .i64 0] 3) = w9 at x9 hb9 ⊢
  have hB9 := hB8.trans (hb9.mono hB8.size)
  have d0 := (hb9.cell (p := ⟨b, off, none⟩) (World.block_lt_of_cell? w8 _ hc0')).trans hc0'
  have d1 := (hb9.cell (p := ⟨b, off + 1, none⟩) (World.block_lt_of_cell? w8 _ hc1')).trans hc1'
  have hr9 := (hr8.below hb9).more hb9.size
  have hr19 := (hr18.below hb9).more hb9.size
  rw [← hg9] at x9 ⊢
  clear hg9 hb9 hc0' hc1' hr8 hr18 hB8
  refine (sameInts_yes A1 (some ⟨g9, 0, none⟩) 1 1 1 (fun j => (orderOf od 1).getD j 0) (fun _ => 0) (fun i hi => by rcases i with _ | i <;> first | rfl | omega) (by decide) w9 hr9 (Rd.of_blk x9 x9.lt fun k hk => by rcases k with _ | k <;> first | rfl | omega)).mono ?_
  rintro e w10 ⟨rfl, q, hq⟩
  have hB10 : Below w.heap.size w w10 := by rw [hq]; exact below_drewN hB9 q
  have k0 : w10.cell? ⟨b, off, none⟩ = some (.slice B0 0 c0') := by rw [hq]; exact d0
  have k1 : w10.cell? ⟨b, off + 1, none⟩ = some (.slice B1 3 c1') := by rw [hq]; exact d1
  have hr10 : Rd w10 w10.heap.size B1 3 (fun i => .int .i64 ((strat zd [3, 3] 1).getD i 0)) := by rw [hq]; exact hr19
  clear x9 hB9 d0 d1 hr9 hr19 hq
  go_wp2_with fail
  have HI := Lib.hid (fun (n : Nat) (h0 : 3 ≤ n) (h1 : n < 6) => by
    obtain ⟨k, hk, e1, e2⟩ := order3 (partDig zd 1) n h0 h1
    exact (⟨k, index_found B1 (fun i => (strat zd [3, 3] 1).getD i 0) 3 c1' k (n : Int) w10 hr10 (by decide) hk e1 e2⟩ : ∃ k : Nat, Calls Tryd.prog 35 #[.slice B1 3 c1', .int .i64 n] w10 (fun e w' => e = .returned (.int .i64 k) ∧ w10 = w')))
  clear hr10
  go_loopw [13] (fun x wr => ∃ n : Nat, 3 ≤ n ∧ n ≤ 6 ∧ x = .int .i64 n ∧ w10 = wr) (fun x _ => 6 - (intOf x).toNat)
  case atStart => exact ⟨3, by omega, by omega, rfl, rfl⟩
  case round =>
    obtain ⟨n, h3, h6, rfl, rfl⟩ := hrel
    by_cases hlt : n < 6
    · obtain ⟨k, hk⟩ := HI.out n h3 hlt
      have HK := Lib.hid hk
      clear hk
      go_wp2_with fail
      refine HK.out.mono ?_
      rintro e w11 ⟨rfl, rfl⟩
      go_wp2_with fail
      go_roundw
      case rel => exact ⟨n + 1, by omega, by omega, by go_num, trivial⟩
      case measure => simp [intOf]; omega
    · obtain rfl : n = 6 := by omega
      go_wp2_with fail
      go_ret
      exact ⟨rfl, hB10⟩
end Go.Proofs.YtibnikokgbfcdaaDoor

/- Walks: sample.Strata and podiumref55.Strata at all arguments. -/
namespace Go.Proofs.YtibnikokgbfcdaaDoor
open Go.RowKit

def StOk (L K : List Int) : Prop := L.length ≤ 64 ∧ K.length = L.length ∧ ∀ i, i < L.length → 0 ≤ K.getD i 0 ∧ K.getD i 0 ≤ L.getD i 0 ∧ sumTo L (i + 1) ≤ 4096
theorem least (P : Nat → Prop) (h : ∃ i, P i) : ∃ p, P p ∧ ∀ i, i < p → ¬ P i := by
  obtain ⟨i, hi⟩ := h
  induction i using Nat.strongRecOn with
  | ind i ih =>
    by_cases h : ∃ j, j < i ∧ P j
    · obtain ⟨j, hj, hp⟩ := h
      exact ih j hj hp
    · exact ⟨i, hi, fun j hj hp => h ⟨j, hj, hp⟩⟩
theorem sumTo_range (L : List Int) : ∀ p, (∀ i, i < p → 0 ≤ L.getD i 0 ∧ sumTo L (i + 1) ≤ 4096) → ∀ i, i ≤ p → 0 ≤ sumTo L i ∧ sumTo L i ≤ 4096 := by
  intro p h i hi
  induction i with
  | zero => exact ⟨by simp [sumTo], by simp [sumTo]⟩
  | succ i ih =>
    have h1 := ih (by omega)
    have h2 := h i (by omega)
    refine ⟨?_, h2.2⟩
    rw [sumTo]
    omega
theorem sumTo_mono (L : List Int) (m : Nat) (h : ∀ i, i < m → 0 ≤ L.getD i 0) : ∀ i j, i ≤ j → j ≤ m → sumTo L i ≤ sumTo L j := by
  intro i j hij hj
  induction j with
  | zero => obtain rfl : i = 0 := by omega
            exact Int.le_refl _
  | succ j ih =>
    by_cases e : i = j + 1
    · subst e; exact Int.le_refl _
    · have := ih (by omega) (by omega)
      have := h j (by omega)
      rw [sumTo]
      omega
theorem sumTo_small (L : List Int) (m : Nat) (h : ∀ i, i < m → 0 ≤ L.getD i 0 ∧ L.getD i 0 ≤ 4096) : ∀ i, i ≤ m → 0 ≤ sumTo L i ∧ sumTo L i ≤ 4096 * i := by
  intro i hi
  induction i with
  | zero => exact ⟨by simp [sumTo], by simp [sumTo]⟩
  | succ i ih =>
    have h1 := ih (by omega)
    have h2 := h i (by omega)
    rw [sumTo]
    omega
/-- What either returns. -/
def StrataR (d : List UInt8) (L K : List Int) (w : World) (v : Value) (x : Int) : Prop :=
  (StOk L K ∧ x = 0 ∧ SView w v d L K L.length) ∨ (¬ StOk L K ∧ v = .slice none 0 0 ∧ x = if 64 < L.length then 2 else 550)
def StrataRPost (d : List UInt8) (L K : List Int) (w : World) (e : Ending) (w' : World) : Prop :=
  ∃ v x, e = .returned (.tuple #[v, .int .i64 x]) ∧ StrataR d L K w' v x ∧ Below w.heap.size w w'
theorem StrataR.same {d : List UInt8} {L K : List Int} {w w' : World} {v v' : Value} {x x' : Int} (h : StrataR d L K w v x) (h' : StrataR d L K w' v' x') (hb : Below w.heap.size w w') :
    x = x' ∧ Calls Tryd.prog 66 #[v, v'] w' (fun e w'' => e = .returned (.bool true) ∧ ∃ q, w'' = w'.drewN q) := by
  rcases h with ⟨h1, h2, h3⟩ | ⟨h1, h2, h3⟩ <;> rcases h' with ⟨g1, g2, g3⟩ | ⟨g1, g2, g3⟩
  · refine ⟨by rw [h2, g2], same55_yes v v' d L K L.length h1.1 (fun j hj => ?_) w' (h3.below hb) g3⟩
    have h4 := h1.2.2 j hj
    have h5 := (sumTo_range L L.length (fun i hi => ⟨by have := h1.2.2 i hi; omega, (h1.2.2 i hi).2.2⟩) j (by omega)).1
    rw [sumTo] at h4
    simp only [cnt]
    omega
  · exact absurd h1 g1
  · exact absurd g1 h1
  · subst h2 g2
    refine ⟨by rw [h3, g3], same55_yes _ _ [] [] [] 0 (by decide) (fun j hj => by omega) w' ?_ ?_⟩
    · exact ⟨none, 0, rfl, fun _ => undef, Rd.zero, fun j hj => by omega⟩
    · exact ⟨none, 0, rfl, fun _ => undef, Rd.zero, fun j hj => by omega⟩
theorem strata_all (d : List UInt8) (hd : d.length = 32) (AL : Option Addr) (L : List Int) (cL : Nat) (hl : L.length ≤ 9223372036854775807) (hIL : IntL L) (AK : Option Addr) (K : List Int) (cK : Nat) (_hk : K.length ≤ 9223372036854775807) (hIK : IntL K) (w : World) (hW : Laid w)
    (hRL : Rd w w.heap.size AL L.length (fun i => .int .i64 (L.getD i 0))) (hRK : Rd w w.heap.size AK K.length (fun i => .int .i64 (K.getD i 0))) :
    Calls Tryd.prog 64 #[.agg (dig d), .slice AL L.length cL, .slice AK K.length cK] w (StrataRPost d L K w) := by
  by_cases h64 : 64 < L.length
  · exact (strata_limit d AL AK L.length K.length cL cK h64 hl w).mono fun e w' ⟨he, hb⟩ => ⟨_, _, he, .inr ⟨fun h => by have := h.1; omega, rfl, by rw [if_pos h64]⟩, hb⟩
  by_cases hlen : K.length = L.length
  · by_cases hok : ∀ i, i < L.length → 0 ≤ K.getD i 0 ∧ K.getD i 0 ≤ L.getD i 0 ∧ sumTo L (i + 1) ≤ 4096
    · rw [hlen] at hRK ⊢
      refine (strata_view d hd L K L.length (by omega) (sumTo_range L _ fun i hi => ⟨by have := hok i hi; omega, (hok i hi).2.2⟩) (fun i hi => ⟨(hok i hi).1, (hok i hi).2.1⟩) AL AK cL cK w hRL hRK hW).mono fun e w' ⟨v, he, hv, hb⟩ => ?_
      exact ⟨v, 0, he, .inl ⟨⟨by omega, hlen, hok⟩, rfl, hv⟩, hb⟩
    · obtain ⟨p, hp, hmin⟩ := least (fun i => ¬ (i < L.length → 0 ≤ K.getD i 0 ∧ K.getD i 0 ≤ L.getD i 0 ∧ sumTo L (i + 1) ≤ 4096)) (by
        refine Classical.byContradiction fun hno => hok fun i hi => ?_
        exact Classical.byContradiction fun h => hno ⟨i, fun h' => h (h' hi)⟩)
      have hpl : p < L.length := Classical.byContradiction fun h => hp fun h' => absurd h' h
      have hgood : ∀ i, i < p → 0 ≤ K.getD i 0 ∧ K.getD i 0 ≤ L.getD i 0 ∧ sumTo L (i + 1) ≤ 4096 := fun i hi => Classical.byContradiction fun h => hmin i hi fun h' => h (h' (by omega))
      have hbad : K.getD p 0 < 0 ∨ L.getD p 0 < K.getD p 0 ∨ 4096 - sumTo L p < L.getD p 0 := by
        refine Classical.byContradiction fun h => hp fun _ => ?_
        rw [sumTo]
        omega
      rw [hlen] at hRK ⊢
      exact (strata_at d L K L.length p (by omega) hpl (sumTo_range L p fun i hi => ⟨by have := hgood i hi; omega, (hgood i hi).2.2⟩) (fun i hi => ⟨(hgood i hi).1, (hgood i hi).2.1⟩) hIL hIK hbad AL AK cL cK w hRL hRK).mono fun e w' ⟨he, hb⟩ =>
        ⟨_, _, he, .inr ⟨fun h => hok h.2.2, rfl, by rw [if_neg h64]⟩, hb⟩
  · exact (strata_len d AL AK L.length K.length cL cK (by omega) hlen w).mono fun e w' ⟨he, hb⟩ => ⟨_, _, he, .inr ⟨fun h => hlen h.2.1, rfl, by rw [if_neg h64]⟩, hb⟩

set_option maxRecDepth 100000 in
set_option maxHeartbeats 1000000 in
theorem rstrata_limit (d : List UInt8) (AL AK : Option Addr) (m n cL cK : Nat) (hm : 64 < m) (hm2 : m ≤ 9223372036854775807) (w : World) :
    Calls Tryd.prog 65 #[.agg (dig d), .slice AL m cL, .slice AK n cK] w (Ret (.tuple #[.slice none 0 0, .int .i64 2]) w) := by
  go_enter Tryd.func65, Tryd.ntmps65
  go_wp2
  go_ret2
  exact ⟨rfl, (Below.refl _ w).alloc (Nat.le_refl _) _⟩
set_option maxRecDepth 100000 in
set_option maxHeartbeats 1000000 in
theorem rstrata_len (d : List UInt8) (AL AK : Option Addr) (m n cL cK : Nat) (hm : m ≤ 64) (hn : n ≠ m) (w : World) :
    Calls Tryd.prog 65 #[.agg (dig d), .slice AL m cL, .slice AK n cK] w (Ret (.tuple #[.slice none 0 0, .int .i64 550]) w) := by
  have hn' : ¬ (n : Int) = (m : Int) := by omega
  go_enter Tryd.func65, Tryd.ntmps65
  go_wp2
  go_ret2
  exact ⟨rfl, (Below.refl _ w).alloc (Nat.le_refl _) _⟩
set_option maxRecDepth 100000 in
set_option maxHeartbeats 4000000 in
/-- The first loop, which ends at p where p is bad, or behind the last one where the sum is too great. -/
theorem rstrata_bad (d : List UInt8) (L K : List Int) (m p : Nat) (hm : m ≤ 64) (hp : p ≤ m) (hv : ∀ i, i < p → 0 ≤ K.getD i 0 ∧ K.getD i 0 ≤ L.getD i 0 ∧ L.getD i 0 ≤ 4096) (hIL : IntL L) (hIK : IntL K)
    (hbad : (p < m ∧ (K.getD p 0 < 0 ∨ L.getD p 0 < K.getD p 0 ∨ 4096 < L.getD p 0)) ∨ (p = m ∧ 4096 < sumTo L m))
    (AL AK : Option Addr) (cL cK : Nat) (w : World) (hRL : Rd w w.heap.size AL m (fun i => .int .i64 (L.getD i 0))) (hRK : Rd w w.heap.size AK m (fun i => .int .i64 (K.getD i 0))) :
    Calls Tryd.prog 65 #[.agg (dig d), .slice AL m cL, .slice AK m cK] w (Ret (.tuple #[.slice none 0 0, .int .i64 550]) w) := by
  have hsm := sumTo_small L p (fun i hi => by have := hv i hi; omega)
  have HV := Lib.hid hv
  have HSM := Lib.hid hsm
  have HRL := Lib.hid hRL
  have HRK := Lib.hid hRK
  have HIL := Lib.hid hIL
  have HIK := Lib.hid hIK
  have HBAD := Lib.hid hbad
  clear hv hRL hRK hIL hIK hbad hsm
  go_enter Tryd.func65, Tryd.ntmps65
  go_wp2_with fail
  have hB0 : Below w.heap.size w (w.alloc (.cells (dig d) 23)) := (Below.refl _ w).alloc (Nat.le_refl _) _
  generalize w.alloc (.cells (dig d) 23) = w0 at hB0 ⊢
  go_loopw [8, 9] (fun s i wr => ∃ k : Nat, k ≤ p ∧ i = .int .i64 k ∧ s = .int .i64 (sumTo L k) ∧ Below w.heap.size w wr) (fun _ i _ => m - (intOf i).toNat)
  case atStart => exact ⟨0, by omega, rfl, rfl, hB0⟩
  case round =>
    clear hB0
    obtain ⟨k, hk, rfl, rfl, hB⟩ := hrel
    have s1 := HSM.out k hk
    by_cases hkm : k < m
    · obtain ⟨b, off, rfl, _, hc⟩ := (HRL.out.below hB).at_ (k := k) hkm
      obtain ⟨b', off', rfl, _, hc'⟩ := (HRK.out.below hB).at_ (k := k) hkm
      have r1 := HIL.out k
      have r2 := HIK.out k
      by_cases hlt : k < p
      · have s3 := HV.out k hlt
        obtain ⟨x, hx⟩ : ∃ x, x = L.getD k 0 := ⟨_, rfl⟩
        obtain ⟨y, hy⟩ : ∃ y, y = K.getD k 0 := ⟨_, rfl⟩
        obtain ⟨s, hse⟩ : ∃ s, s = sumTo L k := ⟨_, rfl⟩
        rw [← hx] at hc s3 r1
        rw [← hy] at hc' s3 r2
        rw [← hse] at s1 ⊢
        have HNX := Lib.hid (show sumTo L (k + 1) = s + x by rw [sumTo, hse, hx])
        have n1 : decide (y < 0) = false := decide_eq_false (by omega)
        have n2 : decide (x < y) = false := decide_eq_false (by omega)
        have n3 : decide (4096 < x) = false := decide_eq_false (by omega)
        clear hx hy hse
        go_wp2_with fail
        go_quiet (fail)
        go_wp2_with fail
        go_roundw
        case rel => exact ⟨k + 1, by omega, by go_num, by rw [HNX.out], below_drewN hB _⟩
        case measure => simp [intOf]; omega
      · obtain rfl : k = p := by omega
        have hb : K.getD k 0 < 0 ∨ L.getD k 0 < K.getD k 0 ∨ 4096 < L.getD k 0 := by
          rcases HBAD.out with h | h
          · exact h.2
          · omega
        obtain ⟨x, hx⟩ : ∃ x, x = L.getD k 0 := ⟨_, rfl⟩
        obtain ⟨y, hy⟩ : ∃ y, y = K.getD k 0 := ⟨_, rfl⟩
        obtain ⟨s, hse⟩ : ∃ s, s = sumTo L k := ⟨_, rfl⟩
        rw [← hx] at hc r1 hb
        rw [← hy] at hc' r2 hb
        rw [← hse] at s1 ⊢
        clear hx hy hse hlt
        by_cases n1 : y < 0
        · clear hb
          go_wp2_with fail
          go_quiet (fail)
          go_wp2_with fail
          go_ret2
          exact ⟨rfl, below_drewN hB _⟩
        have n1' : decide (y < 0) = false := decide_eq_false n1
        by_cases n2 : x < y
        · clear hb
          go_wp2_with fail
          go_quiet (fail)
          go_wp2_with fail
          go_ret2
          exact ⟨rfl, below_drewN hB _⟩
        · have n2' : decide (x < y) = false := decide_eq_false n2
          have n3 : 4096 < x := by omega
          clear hb
          go_wp2_with fail
          go_quiet (fail)
          go_wp2_with fail
          go_ret2
          exact ⟨rfl, below_drewN hB _⟩
    · obtain rfl : m = k := by omega
      have hb : 4096 < sumTo L m := by
        rcases HBAD.out with h | h
        · omega
        · exact h.2
      obtain ⟨s, hse⟩ : ∃ s, s = sumTo L m := ⟨_, rfl⟩
      rw [← hse] at s1 hb ⊢
      clear hse
      go_wp2_with fail
      go_ret2
      exact ⟨rfl, hB⟩
theorem rstrata_all (d : List UInt8) (hd : d.length = 32) (AL : Option Addr) (L : List Int) (cL : Nat) (hl : L.length ≤ 9223372036854775807) (hIL : IntL L) (AK : Option Addr) (K : List Int) (cK : Nat) (_hk : K.length ≤ 9223372036854775807) (hIK : IntL K) (w : World)
    (hRL : Rd w w.heap.size AL L.length (fun i => .int .i64 (L.getD i 0))) (hRK : Rd w w.heap.size AK K.length (fun i => .int .i64 (K.getD i 0))) :
    Calls Tryd.prog 65 #[.agg (dig d), .slice AL L.length cL, .slice AK K.length cK] w (StrataRPost d L K w) := by
  by_cases h64 : 64 < L.length
  · exact (rstrata_limit d AL AK L.length K.length cL cK h64 hl w).mono fun e w' ⟨he, hb⟩ => ⟨_, _, he, .inr ⟨fun h => by have := h.1; omega, rfl, by rw [if_pos h64]⟩, hb⟩
  by_cases hlen : K.length = L.length
  · by_cases hok : ∀ i, i < L.length → 0 ≤ K.getD i 0 ∧ K.getD i 0 ≤ L.getD i 0 ∧ sumTo L (i + 1) ≤ 4096
    · rw [hlen] at hRK ⊢
      refine (rstrata_good d hd L K L.length (by omega) (sumTo_range L _ fun i hi => ⟨by have := hok i hi; omega, (hok i hi).2.2⟩) (fun i hi => ⟨(hok i hi).1, (hok i hi).2.1⟩) AL AK cL cK w hRL hRK).mono fun e w' ⟨v, he, hv, hb⟩ => ?_
      exact ⟨v, 0, he, .inl ⟨⟨by omega, hlen, hok⟩, rfl, hv.view⟩, hb⟩
    · rw [hlen] at hRK ⊢
      by_cases hall : ∀ i, i < L.length → 0 ≤ K.getD i 0 ∧ K.getD i 0 ≤ L.getD i 0 ∧ L.getD i 0 ≤ 4096
      · have hsum : 4096 < sumTo L L.length := by
          refine Classical.byContradiction fun hno => hok fun i hi => ⟨(hall i hi).1, (hall i hi).2.1, ?_⟩
          have := sumTo_mono L L.length (fun i hi => by have := hall i hi; omega) (i + 1) L.length (by omega) (Nat.le_refl _)
          omega
        exact (rstrata_bad d L K L.length L.length (by omega) (Nat.le_refl _) hall hIL hIK (.inr ⟨rfl, hsum⟩) AL AK cL cK w hRL hRK).mono fun e w' ⟨he, hb⟩ => ⟨_, _, he, .inr ⟨fun h => hok h.2.2, rfl, by rw [if_neg h64]⟩, hb⟩
      · obtain ⟨p, hp, hmin⟩ := least (fun i => ¬ (i < L.length → 0 ≤ K.getD i 0 ∧ K.getD i 0 ≤ L.getD i 0 ∧ L.getD i 0 ≤ 4096)) (by
          refine Classical.byContradiction fun hno => hall fun i hi => ?_
          exact Classical.byContradiction fun h => hno ⟨i, fun h' => h (h' hi)⟩)
        have hpl : p < L.length := Classical.byContradiction fun h => hp fun h' => absurd h' h
        have hgood : ∀ i, i < p → 0 ≤ K.getD i 0 ∧ K.getD i 0 ≤ L.getD i 0 ∧ L.getD i 0 ≤ 4096 := fun i hi => Classical.byContradiction fun h => hmin i hi fun h' => h (h' (by omega))
        have hbad : K.getD p 0 < 0 ∨ L.getD p 0 < K.getD p 0 ∨ 4096 < L.getD p 0 := by
          refine Classical.byContradiction fun h => hp fun _ => ?_
          omega
        exact (rstrata_bad d L K L.length p (by omega) (by omega) hgood hIL hIK (.inl ⟨hpl, hbad⟩) AL AK cL cK w hRL hRK).mono fun e w' ⟨he, hb⟩ => ⟨_, _, he, .inr ⟨fun h => hok h.2.2, rfl, by rw [if_neg h64]⟩, hb⟩
  · exact (rstrata_len d AL AK L.length K.length cL cK (by omega) hlen w).mono fun e w' ⟨he, hb⟩ => ⟨_, _, he, .inr ⟨fun h => hlen h.2.1, rfl, by rw [if_neg h64]⟩, hb⟩
end Go.Proofs.YtibnikokgbfcdaaDoor

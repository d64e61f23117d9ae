/- The law podiumlaw55.SampleEven: for all digests, numbers and lists she returns true. -/
import Derived.Test.YtibnikokgbfcdaaDoorEven1
import Derived.Test.YtibnikokgbfcdaaDoorSampleFirst
namespace Go.Proofs.YtibnikokgbfcdaaDoor
open Go.RowKit

/-- The numbers that are drawn, up to j. -/
def pickL (d : List UInt8) (n j : Nat) : List Int := (List.range n).map fun i => if 1 ≤ i ∧ i < j then ((pick d i : Nat) : Int) else 0
theorem pickL_length (d : List UInt8) (n j : Nat) : (pickL d n j).length = n := by simp [pickL]
theorem pickL_get (d : List UInt8) (n j i : Nat) (h : i < n) : (pickL d n j).getD i 0 = if 1 ≤ i ∧ i < j then ((pick d i : Nat) : Int) else 0 := by simp [pickL, List.getD_eq_getElem?_getD, h]
theorem pickL_one (d : List UInt8) (n : Nat) : pickL d n 1 = List.replicate n 0 := by
  apply List.ext_getElem (by simp [pickL])
  intro i h1 h2
  have e : (pickL d n 1)[i] = (pickL d n 1).getD i 0 := by rw [List.getD_eq_getElem?_getD, List.getElem?_eq_getElem h1]; rfl
  rw [e, pickL_get d n 1 i (by simpa using h2), if_neg (by omega)]
  simp
theorem pickL_set (d : List UInt8) (n j : Nat) (h : j < n) (h1 : 1 ≤ j) : (pickL d n j).set j ((pick d j : Nat) : Int) = pickL d n (j + 1) := by
  apply List.ext_getElem (by simp [pickL])
  intro i h1 h2
  have hi : i < n := by simpa [pickL] using h2
  have e1 : ((pickL d n j).set j ((pick d j : Nat) : Int))[i] = ((pickL d n j).set j ((pick d j : Nat) : Int)).getD i 0 := by rw [List.getD_eq_getElem?_getD, List.getElem?_eq_getElem h1]; rfl
  have e2 : (pickL d n (j + 1))[i] = (pickL d n (j + 1)).getD i 0 := by rw [List.getD_eq_getElem?_getD, List.getElem?_eq_getElem h2]; rfl
  rw [e1, e2, getD_set _ _ _ _ (by rw [pickL_length]; exact h), pickL_get d n j i hi, pickL_get d n (j + 1) i hi]
  by_cases e : i = j
  · subst e
    rw [if_pos rfl, if_pos (by omega)]
  · rw [if_neg e]
    by_cases h3 : 1 ≤ i ∧ i < j
    · rw [if_pos h3, if_pos (by omega)]
    · rw [if_neg h3, if_neg (by omega)]
theorem valid_zeros (n : Nat) : Valid n (List.replicate n 0) := ⟨by simp, fun i hi => by simp [List.getD_eq_getElem?_getD, hi]⟩
theorem fct_bound : ∀ r, r ≤ 6 → fct r ≤ 720 := fun r h => by
  rcases r with _ | _ | _ | _ | _ | _ | _ | r <;> first | decide | omega
/-- What Draw lays is the exchanges' list. -/
theorem shuf_pickL (d : List UInt8) (n : Nat) : shuf (chOf (pickL d n n)) (n - 1) (iota n) = orderOf d n := by
  rw [orderOf]
  refine shuf_congr _ _ _ _ fun j h1 h2 => ?_
  rw [chOf, pickL_get d n n j (by omega), if_pos (by omega)]
  simp
theorem take_get (L : List Int) (k i : Nat) (h : i < k) : (L.take k).getD i 0 = L.getD i 0 := by rw [List.getD_eq_getElem?_getD, List.getD_eq_getElem?_getD, List.getElem?_take_of_lt h]
/-- The first place of a number in a list. -/
theorem index_first (A : Option Addr) (L : List Int) (k c i : Nat) (hi : i < k) (hk : k ≤ 4096) (w : World) (hA : Rd w w.heap.size A k (fun i => .int .i64 (L.getD i 0))) :
    ∃ j, j ≤ i ∧ L.getD j 0 = L.getD i 0 ∧ (∀ p, p < j → L.getD p 0 ≠ L.getD i 0) ∧ Calls Tryd.prog 35 #[.slice A k c, .int .i64 (L.getD i 0)] w (fun e w' => e = .returned (.int .i64 j) ∧ w = w') := by
  obtain ⟨j, hj, hmin⟩ := least (fun p => L.getD p 0 = L.getD i 0) ⟨i, rfl⟩
  have hji : j ≤ i := Nat.le_of_not_lt fun h => hmin i h rfl
  exact ⟨j, hji, hj, hmin, index_found A (fun p => L.getD p 0) k c j _ w hA (by omega) (by omega) hj hmin⟩
set_option maxRecDepth 100000 in
set_option maxHeartbeats 4000000 in
theorem sampleEven_out (d : List UInt8) (hd : d.length = 32) (n k : Int) (h : n < 0 ∨ 40 < n ∨ k < 0 ∨ n < k) (A : Option Addr) (m c : Nat) (w : World) (hL : Laid w) :
    Calls Tryd.prog 23 #[.agg (dig d), .int .i64 n, .int .i64 k, .slice A m c] w (Ret (.bool true) w) := by
  have HS := Lib.hid (fun W h => sane55_ok W h)
  have HL := Lib.hid hL
  clear hL
  go_enter Tryd.func23, Tryd.ntmps23
  go_wp2_with fail
  have hD0 : Blk (w.alloc (.cells (dig d) 23)) w.heap.size 23 (dig d) := Blk.new _ _ _
  have hB0 : Below w.heap.size w (w.alloc (.cells (dig d) 23)) := (Below.refl _ w).alloc (Nat.le_refl _) _
  generalize w.alloc (.cells (dig d) 23) = w0 at hD0 hB0 ⊢
  refine (HS.out _ (HL.out.below hB0)).mono ?_
  rintro e w1 ⟨rfl, hb1⟩
  have hD1 := hD0.below hb1 hD0.lt
  have hB1 := hB0.trans (hb1.mono hB0.size)
  clear hD0 hB0 hb1
  by_cases z1 : n < 0
  · clear h
    go_wp2_with fail
    go_ret
    exact ⟨rfl, hB1⟩
  by_cases z2 : 40 < n
  · clear h
    go_wp2_with fail
    go_ret
    exact ⟨rfl, hB1⟩
  have h3 : k < 0 ∨ n < k := by omega
  have HA := Lib.hid (fun W => sdraw_bad d n k (by omega) W)
  clear h
  by_cases z3 : k < 0
  · clear h3
    go_wp2_with (refine load_dig rfl _ rfl d hd hD1 rfl ?_)
    refine (HA.out _).mono ?_
    rintro e w2 ⟨rfl, hb2⟩
    have hB2 := hB1.trans (hb2.mono hB1.size)
    go_wp2_with fail
    go_ret
    exact ⟨rfl, hB2⟩
  · have z4 : n < k := by omega
    clear h3
    go_wp2_with (refine load_dig rfl _ rfl d hd hD1 rfl ?_)
    refine (HA.out _).mono ?_
    rintro e w2 ⟨rfl, hb2⟩
    have hB2 := hB1.trans (hb2.mono hB1.size)
    go_wp2_with fail
    go_ret
    exact ⟨rfl, hB2⟩
set_option maxRecDepth 100000 in
set_option maxHeartbeats 8000000 in
theorem sampleEven_in (d : List UInt8) (hd : d.length = 32) (n k : Nat) (hk : k ≤ n) (hn : n ≤ 40) (A : Option Addr) (O : List Int) (c : Nat) (hO : O.length ≤ 9223372036854775807) (hIO : IntL O) (w : World) (hL : Laid w) (hRO : Rd w w.heap.size A O.length (fun i => .int .i64 (O.getD i 0))) :
    Calls Tryd.prog 23 #[.agg (dig d), .int .i64 n, .int .i64 k, .slice A O.length c] w (Ret (.bool true) w) := by
  have HS := Lib.hid (fun W h => sane55_ok W h)
  have HA := Lib.hid (fun W h => sdraw_view d hd n k hk (by omega) W h)
  have HN := Lib.hid (fun i (hi : i < 4096) W hW => (number_pick d i hi ▸ number_any d hd i ((i : Int) + 1) W hW))
  have HL := Lib.hid hL
  have HRO := Lib.hid hRO
  have HIO := Lib.hid hIO
  obtain ⟨m, hm⟩ : ∃ m, m = O.length := ⟨_, rfl⟩
  rw [← hm] at HRO hO ⊢
  have HM := Lib.hid hm
  clear hL hRO hIO hm
  go_enter Tryd.func23, Tryd.ntmps23
  go_wp2_with fail
  have hD0 : Blk (w.alloc (.cells (dig d) 23)) w.heap.size 23 (dig d) := Blk.new _ _ _
  have hB0 : Below w.heap.size w (w.alloc (.cells (dig d) 23)) := (Below.refl _ w).alloc (Nat.le_refl _) _
  generalize w.alloc (.cells (dig d) 23) = w0 at hD0 hB0 ⊢
  refine (HS.out _ (HL.out.below hB0)).mono ?_
  rintro e w1 ⟨rfl, hb1⟩
  have hD1 := hD0.below hb1 hD0.lt
  have hB1 := hB0.trans (hb1.mono hB0.size)
  clear hD0 hB0 hb1
  go_wp2_with (refine load_dig rfl _ rfl d hd hD1 rfl ?_)
  refine (HA.out _ (HL.out.below hB1)).mono ?_
  rintro e w2 ⟨X, rfl, hx2, hb2⟩
  have hD2 := hD1.below hb2 hD1.lt
  have hB2 := hB1.trans (hb2.mono hB1.size)
  clear hD1 hB1 hb2
  go_wp2_with (refine make_int rfl _ rfl w2.heap.size n rfl (by omega) (Nat.le_refl _) ?_; intro w3 hown3 hg3)
  have hB3 : Below w2.heap.size w2 w3 := ⟨hg3.os, hg3.tape, hg3.output, hg3.size, fun i hi => hg3.block i hi (by simp)⟩
  obtain ⟨g, hg⟩ : ∃ g, g = w2.heap.size := ⟨_, rfl⟩
  have hlt2 := hD2.lt
  rw [← hg] at hown3 hB3 hx2 hlt2 ⊢
  rw [← pickL_one d n] at hown3
  have HG := Lib.hid hg
  clear hg3 hg
  go_loopw [12] (fun x wr => ∃ j : Nat, 1 ≤ j ∧ (j ≤ n ∨ j = 1) ∧ x = .int .i64 j ∧ IOwn wr g (.slice (some ⟨g, 0, none⟩) n n) (pickL d n j) ∧ Below g w2 wr ∧ g ≤ wr.heap.size) (fun x _ => n - (intOf x).toNat)
  case atStart => exact ⟨1, by omega, by omega, rfl, hown3, hB3, by have := hB3.size; rw [HG.out] at *; exact this⟩
  case round =>
    clear hown3 hB3
    obtain ⟨j, h1, hj, rfl, hown, hB, hgr⟩ := hrel
    have hDr := hD2.below hB hlt2
    by_cases hlt : j < n
    · have hpl := pick_le d j
      have hNj := HN.out j (by omega) wr (HL.out.below (hB2.trans (hB.mono (by omega))))
      have HSET := Lib.hid (pickL_set d n j hlt h1)
      obtain ⟨v, hv⟩ : ∃ v, v = pick d j := ⟨_, rfl⟩
      rw [← hv] at hpl hNj HSET
      simp only [numV] at hNj
      have HNJ := Lib.hid hNj
      have HV := Lib.hid hv
      clear hNj hv
      go_wp2_with (refine load_dig rfl _ rfl d hd hDr rfl ?_)
      refine HNJ.out.mono ?_
      rintro e w4 ⟨rfl, hb4⟩
      have hown4 := hown.below hb4
      have hB4 := hB.trans (hb4.mono hgr)
      have hgr4 := Nat.le_trans hgr hb4.size
      have cj := hown4.cellAt (pickL_length d n j) hlt
      have fj := hown4.frozenAt (pickL_length d n j) j
      have hs4 := (hown4.set (pickL_length d n j) j (v : Int)).1
      rw [HSET.out] at hs4
      have hBs : Below g w2 (w4.setCell ⟨g, j, none⟩ (.int .i64 v)) := hB4.setCell (p := ⟨g, j, none⟩) (Nat.le_refl _) _
      have HOS := Lib.hid hs4
      generalize (pickL d n j).getD j 0 = z at cj
      clear hown hB hgr hDr hb4 hown4 hB4 hs4
      go_wp2_with fail
      go_roundw
      case rel => exact ⟨j + 1, by omega, by omega, by go_num, HOS.out, hBs, Nat.le_trans hgr4 (by simp [World.setCell])⟩
      case measure => simp [intOf]; omega
    · have hown' : IOwn wr g (.slice (some ⟨g, 0, none⟩) n n) (pickL d n n) := by
        rcases hj with h | h
        · obtain rfl : j = n := by omega
          exact hown
        · subst h
          have e : pickL d n 1 = pickL d n n := by
            rcases n with _ | _ | n
            · rfl
            · rfl
            · omega
          rw [← e]; exact hown
      have hval : ∀ i, i < n → chOf (pickL d n n) i ≤ i := fun i hi => by
        rw [chOf, pickL_get d n n i hi]
        have := pick_le d i
        split <;> simp <;> omega
      have hX := exchanged_any n k hk hn (some ⟨g, 0, none⟩) n (chOf (pickL d n n)) hval wr ((hown'.rd (pickL_length d n n)).congr fun i hi => by
        rw [chOf, pickL_get d n n i hi]
        split <;> simp)
      rw [shuf_pickL] at hX
      have HX := Lib.hid hX
      have hBw : Below w.heap.size w wr := hB2.trans (hB.mono (by omega))
      have hxr := hx2.below hB
      clear hown hown' hval hX hj hDr
      go_wp2_with fail
      refine HX.out.mono ?_
      rintro e w4 ⟨Y, cY, rfl, hy4, hb4⟩
      have hx4 := hxr.below (hb4.mono hgr)
      have hB4 := hBw.trans (hb4.mono hBw.size)
      have hgr4 := Nat.le_trans hgr hb4.size
      clear hb4 hxr hBw hgr hB
      go_wp2_with fail
      refine (sameInts_yes X Y k k cY _ _ (fun i _ => rfl) (by omega) w4 (hx4.more hgr4) hy4).mono ?_
      rintro e w5 ⟨rfl, q, hq⟩
      have hx5 : Rd w5 g X k (fun i => .int .i64 ((orderOf d n).getD i 0)) := by rw [hq]; exact hx4.drewN q
      have hB5 : Below w.heap.size w w5 := by rw [hq]; exact below_drewN hB4 q
      have hgr5 : g ≤ w5.heap.size := by rw [hq]; exact hgr4
      clear hq hy4 hx4 hB4 hgr4
      by_cases h6 : 6 < n
      · go_wp2_with fail
        go_ret
        exact ⟨rfl, hB5⟩
      go_wp2_with fail
      go_loopw [15, 16] (fun p x wr => ∃ i : Nat, 2 ≤ i ∧ (i ≤ n - k + 1 ∨ i = 2) ∧ x = .int .i64 i ∧ p = .int .i64 ((fct (i - 1) : Nat) : Int) ∧ w5 = wr) (fun _ x _ => 8 - (intOf x).toNat)
      case atStart => exact ⟨2, by omega, by omega, rfl, rfl, rfl⟩
      case round =>
        obtain ⟨i, hi2, hin, rfl, rfl, rfl⟩ := hrel
        by_cases hle : i ≤ n - k
        · have hle' : (i : Int) ≤ (n : Int) - (k : Int) := by omega
          have hfb := fct_bound (i - 1) (by omega)
          have HF := Lib.hid (show fct (i + 1 - 1) = i * fct (i - 1) by
            obtain ⟨p, rfl⟩ : ∃ p, i = p + 1 := ⟨i - 1, by omega⟩
            rfl)
          obtain ⟨p, hp⟩ : ∃ p, p = fct (i - 1) := ⟨_, rfl⟩
          rw [← hp] at hfb HF ⊢
          have hmul : (p : Int) * (i : Int) ≤ 720 * 6 := by
            have h1 : p * i ≤ 720 * 6 := Nat.mul_le_mul hfb (by omega)
            have h2 : ((p * i : Nat) : Int) ≤ ((720 * 6 : Nat) : Int) := Int.ofNat_le.2 h1
            rw [Int.natCast_mul] at h2
            exact h2
          have hmul0 : 0 ≤ (p : Int) * (i : Int) := Int.mul_nonneg (by omega) (by omega)
          clear hp hle
          go_wp2_with fail
          go_roundw
          case rel => exact ⟨i + 1, by omega, by omega, by go_num, by rw [HF.out, Int.natCast_mul, Int.mul_comm], trivial⟩
          case measure => simp [intOf]; omega
        · have hle' : ¬ (i : Int) ≤ (n : Int) - (k : Int) := by omega
          have hfc : fct (i - 1) = fct (n - k) := by
            rcases hin with h | h
            · rw [show i - 1 = n - k by omega]
            · subst h
              rcases hnk : n - k with _ | _ | p
              · rfl
              · rfl
              · omega
          rw [hfc]
          have hfb := fct_bound (n - k) (by omega)
          obtain ⟨F, hF⟩ : ∃ F, F = fct (n - k) := ⟨_, rfl⟩
          rw [← hF] at hfb ⊢
          have HF := Lib.hid hF
          clear hfc hF hle hin
          -- the count of the sample itself
          have hcnt : ∀ (B : Option Addr) (cB : Nat) (want : List Int) (W : World) (gw : Nat), want.length = k → Dis want → (∀ p, p < k → 0 ≤ want.getD p 0 ∧ want.getD p 0 < n) → IOwn W gw (.slice (some ⟨gw, 0, none⟩) n n) (List.replicate n 0) → gw ≤ W.heap.size →
              Rd W gw B k (fun i => .int .i64 (want.getD i 0)) → Calls Tryd.prog 68 #[.int .i64 n, .slice (some ⟨gw, 0, none⟩) n n, .int .i64 0, .slice B k cB] W (fun e W' => e = .returned (.int .i64 F) ∧ Below gw W W') := fun B cB want W gw hwl hwd hwr hO hgW hR => by
            have h := count_any n (by omega) B cB want (by omega) gw n (Nat.le_refl _) (List.replicate n 0) W (valid_zeros n) hO hgW (by rw [hwl]; exact hR)
            rw [Nat.sub_self, hwl] at h
            refine h.mono fun e W' ⟨he, _, hb⟩ => ⟨?_, hb⟩
            have hf := cntF_fct n want hwd (by omega) (fun p hp => hwr p (by omega)) (chOf (List.replicate n 0))
            rw [hwl] at hf
            rw [he]
            show Ending.returned (.int .i64 ((cntF n (okOf n want) n (chOf (List.replicate n 0)) : Nat) : Int)) = _
            rw [HF.out, ← hf]
            rfl
          have HC := Lib.hid hcnt
          obtain ⟨fl, fd, -, fr⟩ := full_order d n
          have hwl : ((orderOf d n).take k).length = k := by rw [List.length_take, orderOf_length]; omega
          have hwd : Dis ((orderOf d n).take k) := fun a b ha hb e => by
            rw [hwl] at ha hb
            rw [take_get _ _ _ ha, take_get _ _ _ hb] at e
            exact fd a b (by omega) (by omega) e
          have hwr : ∀ p, p < k → 0 ≤ ((orderOf d n).take k).getD p 0 ∧ ((orderOf d n).take k).getD p 0 < n := fun p hp => by
            rw [take_get _ _ _ hp]
            obtain ⟨a, ha, e⟩ := fr p (by omega)
            rw [e]
            omega
          have HW := Lib.hid (And.intro hwl (And.intro hwd hwr))
          clear hcnt fl fd fr hwl hwd hwr
          go_wp2_with (refine make_int rfl _ rfl w5.heap.size n rfl (by omega) (Nat.le_refl _) ?_; intro w6 hown6 hg6)
          have hB6 : Below w5.heap.size w5 w6 := ⟨hg6.os, hg6.tape, hg6.output, hg6.size, fun i hi => hg6.block i hi (by simp)⟩
          have hx6 := (hx5.below (hB6.mono hgr5)).more (B' := w5.heap.size) hgr5
          refine (HC.out X k ((orderOf d n).take k) w6 w5.heap.size HW.out.1 HW.out.2.1 HW.out.2.2 hown6 hB6.size (hx6.congr fun i hi => by rw [take_get _ _ _ hi])).mono ?_
          rintro e w7 ⟨rfl, hb7⟩
          have hB7 : Below w.heap.size w w7 := hB5.trans ((hB6.trans hb7).mono hB5.size)
          clear hown6 hg6 hB6 hx6 hb7 hB5 hgr5 hx5
          by_cases hmk : m = k
          rotate_left
          · have hmk' : ¬ (m : Int) = (k : Int) := by omega
            go_wp2_with fail
            go_ret
            exact ⟨rfl, hB7⟩
          subst hmk
          go_wp2_with fail
          go_loopw [17] (fun x wr => ∃ i : Nat, i ≤ m ∧ x = .int .i64 i ∧ (∀ p, p < i → (0 ≤ O.getD p 0 ∧ O.getD p 0 < n) ∧ ∀ r, r < p → O.getD r 0 ≠ O.getD p 0) ∧ w7 = wr) (fun x _ => m - (intOf x).toNat)
          case atStart => exact ⟨0, by omega, rfl, fun p hp => by omega, rfl⟩
          case round =>
            obtain ⟨y, hy, rfl, hprev, rfl⟩ := hrel
            have HP := Lib.hid hprev
            clear hprev
            have hRr := (HRO.out.below hB7).more hB7.size
            by_cases hlt : y < m
            · obtain ⟨j, hji, hje, hjm, hI⟩ := index_first A O m c y hlt (by omega) w7 hRr
              obtain ⟨b, off, rfl, _, hc⟩ := hRr.at_ (k := y) hlt
              have hio := HIO.out y
              obtain ⟨x, hx⟩ : ∃ x, x = O.getD y 0 := ⟨_, rfl⟩
              rw [← hx] at hc hio hI
              have HI := Lib.hid hI
              have HXE := Lib.hid hx
              have HJM := Lib.hid hjm
              clear hI hx hje hRr hjm
              by_cases x0 : x < 0
              · go_wp2_with fail
                go_ret
                exact ⟨rfl, hB7⟩
              by_cases x1 : (n : Int) ≤ x
              · go_wp2_with fail
                go_ret
                exact ⟨rfl, hB7⟩
              by_cases hjy : j = y
              · subst hjy
                go_wp2_with fail
                refine HI.out.mono ?_
                rintro e w8 ⟨rfl, rfl⟩
                go_wp2_with fail
                go_roundw
                case rel =>
                  refine ⟨j + 1, by omega, by go_num, fun p hp => ?_, trivial⟩
                  rcases Nat.lt_or_ge p j with h | h
                  · exact HP.out p h
                  · obtain rfl : p = j := by omega
                    rw [← HXE.out]
                    exact ⟨by omega, fun r hr => by rw [HXE.out]; exact HJM.out r hr⟩
                case measure => simp [intOf]; omega
              · have hjy' : ¬ (j : Int) = (y : Int) := by omega
                go_wp2_with fail
                refine HI.out.mono ?_
                rintro e w8 ⟨rfl, rfl⟩
                go_wp2_with fail
                go_ret
                exact ⟨rfl, hB7⟩
            · obtain rfl : y = m := by omega
              have hod : Dis O := fun a b ha hb e => by
                rw [← HM.out] at ha hb
                rcases Nat.lt_trichotomy a b with h | h | h
                · exact absurd e ((HP.out b hb).2 a h)
                · exact h
                · exact absurd e.symm ((HP.out a ha).2 b h)
              have HOD := Lib.hid (And.intro hod (fun p hp => (HP.out p hp).1))
              clear hod hRr
              go_wp2_with (refine make_int rfl _ rfl w7.heap.size n rfl (by omega) (Nat.le_refl _) ?_; intro w8 hown8 hg8)
              have hB8 : Below w7.heap.size w7 w8 := ⟨hg8.os, hg8.tape, hg8.output, hg8.size, fun i hi => hg8.block i hi (by simp)⟩
              have hr8 := ((HRO.out.below hB7).more hB7.size).below hB8
              refine (HC.out A c O w8 w7.heap.size HM.out.symm HOD.out.1 HOD.out.2 hown8 hB8.size hr8).mono ?_
              rintro e w9 ⟨rfl, hb9⟩
              have hB9 : Below w.heap.size w w9 := hB7.trans ((hB8.trans hb9).mono hB7.size)
              clear hown8 hg8 hB8 hr8 hb9
              go_wp2_with fail
              go_ret
              exact ⟨rfl, hB9⟩
theorem sampleEven_any (d : List UInt8) (hd : d.length = 32) (n k : Int) (A : Option Addr) (O : List Int) (c : Nat) (hO : O.length ≤ c) (hc : c ≤ 9223372036854775807) (hIO : IntL O) (w : World) (hL : Laid w) (hRO : Rd w w.heap.size A O.length (fun i => .int .i64 (O.getD i 0))) :
    Calls Tryd.prog 23 #[.agg (dig d), .int .i64 n, .int .i64 k, .slice A O.length c] w (Ret (.bool true) w) := by
  by_cases h : n < 0 ∨ 40 < n ∨ k < 0 ∨ n < k
  · exact sampleEven_out d hd n k h A O.length c w hL
  · obtain ⟨a, rfl⟩ : ∃ a : Nat, n = a := ⟨n.toNat, by omega⟩
    obtain ⟨b, rfl⟩ : ∃ b : Nat, k = b := ⟨k.toNat, by omega⟩
    exact sampleEven_in d hd a b (by omega) (by omega) A O c (by omega) hIO w hL hRO
end Go.Proofs.YtibnikokgbfcdaaDoor

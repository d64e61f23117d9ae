/- Walk: nat.mul. -/
import Derived.Test.YtkkcbkfpaoldmaaGreatDoorM07
import Derived.WalkMore
namespace Go.Proofs.YtkkcbkfpaoldmaaGreatDoor
open Go Go.RowKit

/-- Digits without zeros at the end that make v. -/
def DigPost (v : Int) (cb : Nat) (w : World) (e : Ending) (w' : World) : Prop :=
  ∃ (l : List Int) (A : Option Addr) (c : Nat), e = .returned (.slice A l.length c) ∧ l.length ≤ c ∧ c ≤ cb ∧ (A = none → c = 0) ∧ DigL l ∧ TrimL l ∧ valL l = v ∧ IOwn w' w.heap.size (.slice A l.length c) l ∧ Below w.heap.size w w'
/-- A row of the call's own, cut short. -/
theorem IOwn.cut {w : World} {base n c : Nat} {A : Option Addr} {l : List Int} (h : IOwn w base (.slice A n c) l) (hn : l.length = n) {m : Nat} (hm : m ≤ n) : IOwn w base (.slice A m c) (l.take m) := by
  subst hn
  have hl : (l.take m).length = m := by rw [List.length_take]; omega
  refine ⟨by rw [icells_len, hl]; omega, ?_⟩
  rcases h.2 with ⟨e, h0⟩ | ⟨g, cap, cur, e, hb, hg, hnc, hcm, hcs, ht⟩
  · simp only [Value.slice.injEq] at e
    obtain ⟨rfl, h1, rfl⟩ := e
    refine .inl ⟨?_, by rw [hl]; omega⟩
    rw [show m = 0 by omega]
  · simp only [Value.slice.injEq] at e
    obtain ⟨rfl, -, rfl⟩ := e
    refine .inr ⟨g, c, cur, by rw [hl], hb, hg, by rw [hl]; omega, hcm, hcs, ?_⟩
    rw [Nat.mul_one] at ht
    rw [hl, Nat.mul_one]
    have e2 : icells (l.take m) = (icells l).take m := by simp [icells, List.map_take]
    rw [e2, ← ht, List.take_take, Nat.min_eq_left hm]
theorem IOwn.mrd {w : World} {base n c : Nat} {A : Option Addr} {l : List Int} (h : IOwn w base (.slice A n c) l) (hn : l.length = n) : MRd w w.heap.size A l := by
  have := h.rd hn
  rw [← hn] at this
  exact this
theorem digL_zeros (n : Nat) : DigL (List.replicate n 0) := fun x hx => by
  rw [(List.mem_replicate.1 hx).2]; decide
theorem dg_zeros (n i : Nat) : dg (List.replicate n 0) i = 0 := by
  simp only [dg, List.getD_eq_getElem?_getD, List.getElem?_replicate]
  split <;> rfl
theorem dsum_zeros' (n m : Nat) : dsum (dg (List.replicate n 0)) m = 0 := (dsum_congr (fun i _ => dg_zeros n i)).trans (dsum_zero m)
theorem mrd_own {w : World} {base g c n : Nat} {l : List Int} (h : IOwn w base (.slice (some ⟨g, 0, none⟩) n c) l) (hn : l.length = n) : MRd w w.heap.size (some ⟨g, 0, none⟩) l := by
  have := h.rd hn
  rw [← hn] at this
  exact this
theorem mul_bounds {x y : Int} (hx : 0 ≤ x ∧ x < 1073741824) (hy : 0 ≤ y ∧ y < 1073741824) : 0 ≤ x * y ∧ x * y ≤ 1152921502459363329 := by
  refine ⟨Int.mul_nonneg hx.1 hy.1, ?_⟩
  have h1 : x * y ≤ 1073741823 * y := Int.mul_le_mul_of_nonneg_right (by omega) hy.1
  omega
theorem wrap_in (x : Int) (h : -9223372036854775808 ≤ x ∧ x < 9223372036854775808) : wrap64 x = x := by unfold wrap64; omega
/-- One digit more in a row of the product. -/
theorem mul_row {D D' S X x y m ov s : Int} {i k : Nat} (hs : s = m + x * y + ov) (hD : D' = D + (s % 1073741824 - m) * bp (i + k)) (h : D + ov * bp (i + k) = S + x * X * bp i) : D' + (s / 1073741824) * bp (i + (k + 1)) = S + x * (X + y * bp k) * bp i := by
  have h1 := carry_set D m s (i + k)
  rw [hD, ← Nat.add_assoc, h1, hs]
  have h2 := bp_add i k
  grind
set_option maxRecDepth 100000 in
set_option linter.unusedSimpArgs false in
set_option linter.unusedVariables false in
set_option maxHeartbeats 8000000 in
theorem mul_any (A B : Option Addr) (a b : List Int) (la lb ca cb : Nat) (hla : la = a.length) (hlb : lb = b.length) (ha : DigL a) (hb : DigL b) (h1 : la ≤ 5000) (h2 : lb ≤ 5000) (w : World) (hA : MRd w w.heap.size A a) (hB : MRd w w.heap.size B b) :
    Calls Tryz.prog 99 #[.slice A la ca, .slice B lb cb] w (DigPost (valL a * valL b) 10000 w) := by
  obtain ⟨N, hN⟩ : ∃ N, N = la + lb := ⟨_, rfl⟩
  have hNN : (la : Int) + (lb : Int) = (N : Int) := by omega
  have HA := Lib.hid hA
  have HB := Lib.hid hB
  have HLA := Lib.hid hla
  have HLB := Lib.hid hlb
  have HDA := Lib.hid ha
  have HDB := Lib.hid hb
  have HN := Lib.hid hN
  have hN1 : N ≤ 10000 := by omega
  clear hA hB hla hlb ha hb hN
  go_enter Tryz.func99, Tryz.ntmps99
  go_wp2_with fail
  go_step3
  go_wp2_with (refine make_dig rfl _ rfl w.heap.size N rfl (by omega) (Nat.le_refl _) ?_; intro w1 hown1 hg1)
  obtain ⟨g, hg⟩ : ∃ g, g = w.heap.size := ⟨_, rfl⟩
  have hB1 : Below w.heap.size w w1 := ⟨hg1.os, hg1.tape, hg1.output, hg1.size, fun i hi => hg1.block i hi (by simp)⟩
  rw [← hg] at hown1 ⊢
  have HG := Lib.hid hg
  clear hg1 hg
  go_step3
  go_wp2_with fail
  go_loopw [20] (fun jj wr => ∃ (i : Nat) (L : List Int), i ≤ la ∧ jj = .int .i64 i ∧ IOwn wr g (.slice (some ⟨g, 0, none⟩) N N) L ∧ L.length = N ∧ DigL L ∧ (∀ j, i + lb ≤ j → dg L j = 0) ∧ dsum (dg L) N = dsum (dg a) i * valL b ∧ Below g w wr) (fun jj _ => la - (intOf jj).toNat)
  case atStart => exact ⟨0, List.replicate N 0, by omega, rfl, hown1, by simp, digL_zeros N, fun j _ => dg_zeros N j, by rw [dsum_zeros']; show (0 : Int) = 0 * _; omega, by rw [HG.out]; exact hB1⟩
  case round =>
    obtain ⟨i, L, hi, rfl, hO, hL, hD, hz, hs, hBr⟩ := hrel
    have HO := Lib.hid hO
    have HD := Lib.hid hD
    have HZ := Lib.hid hz
    have HS := Lib.hid hs
    have HBR := Lib.hid hBr
    clear hO hD hz hs hBr hown1 hB1
    by_cases hlt : i < la
    · obtain ⟨ba, oa, rfl, hba, hca⟩ := (HA.out.below (by rw [← HG.out]; exact HBR.out)).at_ (k := i) (by rw [← HLA.out]; exact hlt)
      obtain ⟨x, hx⟩ : ∃ x, x = dg a i := ⟨_, rfl⟩
      have hxr := HDA.out.digs (i + 1) i (by omega)
      rw [← hx] at hca hxr
      have HSX := Lib.hid (show dsum (dg a) (i + 1) * valL b = dsum (dg L) N + x * valL b * bp i by rw [dsum_succ, HS.out, ← hx]; grind)
      clear hx
      by_cases hx0 : x = 0
      · have g1 : (x == 0) = true := beq_iff_eq.2 hx0
        have HE := Lib.hid (show dsum (dg L) N = dsum (dg a) (i + 1) * valL b by rw [HSX.out, hx0]; grind)
        clear hx0
        go_wp2_with fail
        go_roundw
        case rel => exact ⟨i + 1, L, by omega, by go_num, HO.out, hL, HD.out, fun j hj => HZ.out j (by omega), HE.out, HBR.out⟩
        case measure => simp [intOf]; omega
      · have g1 : (x == 0) = false := beq_eq_false_iff_ne.2 hx0
        obtain ⟨S, hS⟩ : ∃ S, S = dsum (dg L) N := ⟨_, rfl⟩
        rw [← hS] at HSX
        have HSE := Lib.hid hS
        clear hx0 hS
        go_wp2_with fail
        go_loopw [29, 8] (fun kk ov wr => ∃ (k : Nat) (o : Int) (L2 : List Int), k ≤ lb ∧ kk = .int .i64 k ∧ ov = .int .i64 o ∧ (0 ≤ o ∧ o < 1073741824) ∧ IOwn wr g (.slice (some ⟨g, 0, none⟩) N N) L2 ∧ L2.length = N ∧ DigL L2 ∧ (∀ j, i + lb ≤ j → dg L2 j = 0) ∧ dsum (dg L2) N + o * bp (i + k) = S + x * dsum (dg b) k * bp i ∧ Below g w wr) (fun kk _ _ => lb - (intOf kk).toNat)
        case atStart => exact ⟨0, 0, L, by omega, rfl, rfl, by decide, HO.out, hL, HD.out, HZ.out, by rw [← HSE.out]; simp [dsum], HBR.out⟩
        case round =>
          clear HO HD HZ HS HBR hL HSE
          obtain ⟨k, o, L2, hk, rfl, rfl, hor, hO, hL, hD, hz, hs, hBr⟩ := hrel
          have HO := Lib.hid hO
          have HD := Lib.hid hD
          have HZ := Lib.hid hz
          have HS := Lib.hid hs
          have HBR := Lib.hid hBr
          clear hO hD hz hs hBr
          have hiN : i + lb < N := by have := HN.out; omega
          by_cases hlk : k < lb
          · obtain ⟨bb, ob, rfl, hbb, hcb⟩ := (HB.out.below (by rw [← HG.out]; exact HBR.out)).at_ (k := k) (by rw [← HLB.out]; exact hlk)
            obtain ⟨y, hy⟩ : ∃ y, y = dg b k := ⟨_, rfl⟩
            have hyr := HDB.out.digs (k + 1) k (by omega)
            rw [← hy] at hcb hyr
            have HY := Lib.hid hy
            obtain ⟨p, hp⟩ : ∃ p, p = i + k := ⟨_, rfl⟩
            have hpN : p < N := by omega
            have hip : (i : Int) + (k : Int) = (p : Int) := by omega
            obtain ⟨m, hm⟩ : ∃ m, m = dg L2 p := ⟨_, rfl⟩
            have hmr := HD.out.digs (p + 1) p (by omega)
            have cm := HO.out.cellAt hL hpN
            have fm := HO.out.frozenAt hL p
            rw [show L2.getD p 0 = m from hm.symm] at cm
            rw [← hm] at hmr
            have hb9 := mul_bounds hxr hyr
            obtain ⟨P, hP⟩ : ∃ P, P = x * y := ⟨_, rfl⟩
            obtain ⟨Q, hQ⟩ : ∃ Q, Q = m + P := ⟨_, rfl⟩
            obtain ⟨s, hsd⟩ : ∃ s, s = Q + o := ⟨_, rfl⟩
            rw [← hP] at hb9
            have f1 : wrap64 (x * y) = P := by rw [← hP]; exact wrap_in _ (by omega)
            have f2 : wrap64 (m + P) = Q := by rw [← hQ]; exact wrap_in _ (by omega)
            have f3 : wrap64 (Q + o) = s := by rw [← hsd]; exact wrap_in _ (by omega)
            have f4 := and_mask s
            have hdr := emod_digit s
            have hor2 : 0 ≤ s / 1073741824 ∧ s / 1073741824 < 1073741824 := by omega
            have HROW := Lib.hid (show dsum (dg (L2.set p (s % 1073741824))) N + (s / 1073741824) * bp (i + (k + 1)) = S + x * dsum (dg b) (k + 1) * bp i by
              rw [dsum_succ, ← HY.out]
              refine mul_row (m := m) (ov := o) (D := dsum (dg L2) N) (by rw [hsd, hQ, hP]) ?_ HS.out
              rw [dsum_setL (by omega) hpN, ← hm, hp])
            obtain ⟨d, hd⟩ : ∃ d, d = s % 1073741824 := ⟨_, rfl⟩
            obtain ⟨o2, ho2⟩ : ∃ o2, o2 = s / 1073741824 := ⟨_, rfl⟩
            rw [← hd] at HROW f4 hdr
            rw [← ho2] at HROW hor2
            have f5 : s / 1073741824 = o2 := ho2.symm
            have HP9 := Lib.hid hp
            clear hy hp hm hP hQ hsd hd ho2 hb9
            go_wp2_with fail
            go_roundw
            case rel =>
              have hs2 := HO.out.set hL p d
              refine ⟨k + 1, o2, L2.set p d, by omega, by go_num, rfl, hor2, hs2.1, by rw [List.length_set]; exact hL, HD.out.set p hdr, fun j hj => ?_, HROW.out, HO.out.belowSet HBR.out (Nat.le_refl _)⟩
              rw [dg_set (by omega), if_neg (by have := HP9.out; omega)]
              exact HZ.out j hj
            case measure => simp [intOf]; omega
          · obtain rfl : k = lb := by omega
            obtain ⟨p, hp⟩ : ∃ p, p = i + k := ⟨_, rfl⟩
            have hpN : p < N := by omega
            have hip : (i : Int) + (k : Int) = (p : Int) := by omega
            have cm := HO.out.cellAt hL hpN
            have fm := HO.out.frozenAt hL p
            have HE := Lib.hid (show dsum (dg (L2.set p o)) N = dsum (dg a) (i + 1) * valL b by
              rw [dsum_setL (by omega) hpN, HZ.out p (by omega), HSX.out, hp, Int.sub_zero]
              have h := HS.out
              rw [HLB.out] at h
              have e : dsum (dg b) b.length = valL b := rfl
              rw [e, ← HLB.out] at h
              omega)
            have HP9 := Lib.hid hp
            clear hp
            go_wp2_with fail
            go_roundw
            case rel =>
              have hs2 := HO.out.set hL p o
              refine ⟨i + 1, L2.set p o, by omega, by go_num, hs2.1, by rw [List.length_set]; exact hL, HD.out.set p hor, fun j hj => ?_, HE.out, HO.out.belowSet HBR.out (Nat.le_refl _)⟩
              rw [dg_set (by omega), if_neg (by have := HP9.out; omega)]
              exact HZ.out j (by omega)
            case measure => simp [intOf]; omega
    · obtain rfl : i = la := by omega
      have hT := trim_any (some ⟨g, 0, none⟩) L N N hL.symm (Nat.le_refl _) (by omega) (by omega) wr (mrd_own HO.out hL)
      have HT := Lib.hid hT
      clear hT
      go_wp2_with fail
      refine HT.out.mono ?_
      rintro e w2 ⟨rfl, hb2⟩
      go_wp2_with fail
      go_ret
      have hlen := trimmed_len L
      rw [hL] at hlen
      refine ⟨trimmed L, some ⟨g, 0, none⟩, N, by rw [hlen]; rfl, by rw [hlen]; exact tlen_le _ _, hN1, fun h => (by cases h), trimmed_dig HD.out, trimmed_trim L, ?_, ?_, by rw [← HG.out]; exact HBR.out.trans (hb2.mono (by have := HO.out.lt g rfl; omega))⟩
      · rw [trimmed_val, valL, hL, HS.out, HLA.out]
        rfl
      · have h := (IOwn.below HO.out (hb2.mono (Nat.le_refl _))).cut hL (tlen_le L N)
        rw [← HG.out, hlen]
        rw [trimmed, hL]
        exact h
end Go.Proofs.YtkkcbkfpaoldmaaGreatDoor

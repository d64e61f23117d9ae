/- Walk: podiumref08.Part. -/
import Derived.Test.YtibnikokgbfcdaaDoorC7
import Derived.Test.YtibnikokgbfcdaaDoorC12
namespace Go.Proofs.YtibnikokgbfcdaaDoor
open Go Go.RowKit

set_option maxRecDepth 100000 in
set_option linter.unusedSimpArgs false in
set_option linter.unusedVariables false in
set_option maxHeartbeats 4000000 in
theorem r8Part_any (A B : Option Addr) (l m : List Lk) (n n2 c c2 : Nat) (hn : n = l.length) (hm : n2 = m.length) (hnc : n ≤ c) (hnc2 : n2 ≤ c2) (hcc : c ≤ 9223372036854775807) (hcc2 : c2 ≤ 9223372036854775807) (w : World) (hA : LRd w w.heap.size A l) (hB : LRd w w.heap.size B m)
    (hd : ∀ y, y < l.length → (l.getD y lk0).data.length ≤ 4611686018427387903) (hd2 : ∀ y, y < m.length → (m.getD y lk0).data.length ≤ 4611686018427387903) :
    Calls Tryd.prog 42 #[.slice A n c, .slice B n2 c2] w (Ret (partVal (partOf l m)) w) := by
  have HC1 := Lib.hid (r8Check_any A l n c hn (by omega) hnc w hA hd)
  have HC2 := Lib.hid (fun w1 (hb : Below w.heap.size w w1) => r8Check_any B m n2 c2 hm (by omega) hnc2 w1 (hB.later hb) hd2)
  have HA := Lib.hid hA
  have HB := Lib.hid hB
  have HN := Lib.hid hn
  have HM := Lib.hid hm
  obtain ⟨R, hR⟩ : ∃ R, R = partVal (partOf l m) := ⟨_, rfl⟩
  rw [← hR]
  have HR := Lib.hid hR
  clear hA hB hd hd2 hn hm hR
  go_enter Tryd.func42, Tryd.ntmps42
  go_wp2_with fail
  refine HC1.out.mono ?_
  rintro e w1 ⟨rfl, hb1⟩
  obtain ⟨e1, he1⟩ : ∃ e1, e1 = chkOf l := ⟨_, rfl⟩
  rw [← he1]
  have HE1 := Lib.hid he1
  clear he1
  by_cases t1 : e1 = 0
  rotate_left
  · go_wp2
    go_ret3
    exact ⟨by rw [HR.out, partOf, ← HE1.out, if_pos t1]; rfl, hb1⟩
  · subst t1
    go_wp2_with fail
    refine (HC2.out w1 hb1).mono ?_
    rintro e w2 ⟨rfl, hb2⟩
    have hb := hb1.trans (hb2.mono hb1.size)
    obtain ⟨e2, he2⟩ : ∃ e2, e2 = chkOf m := ⟨_, rfl⟩
    rw [← he2]
    have HE2 := Lib.hid he2
    clear he2
    by_cases t2 : e2 = 0
    rotate_left
    · go_wp2
      go_ret3
      exact ⟨by rw [HR.out, partOf, ← HE1.out, if_neg (by decide), ← HE2.out, if_pos t2]; rfl, hb⟩
    · subst t2
      have HP : Hid (partOf l m = if 0 < l.length ∧ 0 < m.length ∧ (l.getD 0 lk0).node ≠ (m.getD 0 lk0).node then ((0 : Int), false, (80 : Int)) else match diffAt l m with
          | none => ((0 : Int), false, (0 : Int))
          | some k => ((k : Int), true, (0 : Int))) := Lib.hid (by rw [partOf, ← HE1.out, if_neg (by decide), ← HE2.out, if_neg (by decide)]; rfl)
      clear HE1 HE2 hb2
      by_cases h0 : 0 < n
      rotate_left
      · obtain rfl : n = 0 := by omega
        have hne : ¬ (0 < l.length ∧ 0 < m.length ∧ (l.getD 0 lk0).node ≠ (m.getD 0 lk0).node) := fun h => by have := h.1; have := HN.out; omega
        have HNE := Lib.hid hne
        clear hne
        go_wp2_with fail
        go_quiet (fail)
        have hbq := below_drewN hb nq
        generalize w2.drewN nq = wq at hbq ⊢
        have HPV := Lib.hid (show partOf l m = _ from HP.out.trans (if_neg HNE.out))
        clear hb
        try clear k1 k2
        go_wp2_with fail
        go_loopw [9] (fun i wr => ∃ k : Nat, k ≤ min l.length m.length ∧ i = .int .i64 k ∧ (∀ j, j < k → l.getD j lk0 = m.getD j lk0) ∧ Below w.heap.size w wr) (fun i _ => 0 - (intOf i).toNat)
        case atStart => exact ⟨0, Nat.zero_le _, rfl, fun j hj => by omega, hbq⟩
        case round =>
          clear hbq
          obtain ⟨k, hk, rfl, hall, hB⟩ := hrel
          have hk0 : k ≤ 0 := by have := HN.out; have := HM.out; omega
          obtain rfl : k = 0 := by omega
          have hf : diffAt l m = none := diffAt_none (fun j hj => by have := HN.out; have := HM.out; omega)
          have HF := Lib.hid hf
          clear hf hall
          go_wp2_with (refine wpList_skip (by rfl) ?_)
          go_ret3
          exact ⟨by rw [HR.out, HPV.out, HF.out]; rfl, hB⟩
      by_cases h1 : 0 < n2
      rotate_left
      · obtain rfl : n2 = 0 := by omega
        have hne : ¬ (0 < l.length ∧ 0 < m.length ∧ (l.getD 0 lk0).node ≠ (m.getD 0 lk0).node) := fun h => by have := h.2.1; have := HM.out; omega
        have HNE := Lib.hid hne
        clear hne
        have g0 : decide ((0 : Int) < (n : Int)) = true := decide_eq_true (by omega)
        go_wp2_with fail
        go_quiet (fail)
        have hbq := below_drewN hb nq
        generalize w2.drewN nq = wq at hbq ⊢
        have HPV := Lib.hid (show partOf l m = _ from HP.out.trans (if_neg HNE.out))
        clear hb
        try clear k1 k2
        go_wp2_with fail
        go_loopw [9] (fun i wr => ∃ k : Nat, k ≤ min l.length m.length ∧ i = .int .i64 k ∧ (∀ j, j < k → l.getD j lk0 = m.getD j lk0) ∧ Below w.heap.size w wr) (fun i _ => n - (intOf i).toNat)
        case atStart => exact ⟨0, Nat.zero_le _, rfl, fun j hj => by omega, hbq⟩
        case round =>
          clear hbq
          obtain ⟨k, hk, rfl, hall, hB⟩ := hrel
          have hk0 : k ≤ 0 := by have := HN.out; have := HM.out; omega
          obtain rfl : k = 0 := by omega
          have hf : diffAt l m = none := diffAt_none (fun j hj => by have := HN.out; have := HM.out; omega)
          have HF := Lib.hid hf
          clear hf hall
          go_wp2_with (refine wpList_skip (by rfl) ?_)
          go_ret3
          exact ⟨by rw [HR.out, HPV.out, HF.out]; rfl, hB⟩
      have g0 : decide ((0 : Int) < (n : Int)) = true := decide_eq_true (by omega)
      have g1 : decide ((0 : Int) < (n2 : Int)) = true := decide_eq_true (by omega)
      obtain ⟨x, hx⟩ : ∃ x, l[0]? = some x := ⟨_, List.getElem?_eq_getElem (by rw [← HN.out]; exact h0)⟩
      obtain ⟨y, hy⟩ : ∃ y, m[0]? = some y := ⟨_, List.getElem?_eq_getElem (by rw [← HM.out]; exact h1)⟩
      obtain ⟨b, off, rfl, -, -, D, dc, hrg, -, -, -⟩ := (HA.out.below hb).at_ hx
      obtain ⟨b2, off2, rfl, -, -, E, ec, hrg2, -, -, -⟩ := (HB.out.below hb).at_ hy
      have k1 : w2.cell? ⟨b, off, none⟩ = some (.int .i64 x.node) := by have h := hrg 0 _ rfl; rw [Nat.zero_mul] at h; exact h
      have k2 : w2.cell? ⟨b2, off2, none⟩ = some (.int .i64 y.node) := by have h := hrg2 0 _ rfl; rw [Nat.zero_mul] at h; exact h
      have HX := Lib.hid (show (l.getD 0 lk0).node = x.node by rw [List.getD_eq_getElem?_getD, hx]; rfl)
      have HY := Lib.hid (show (m.getD 0 lk0).node = y.node by rw [List.getD_eq_getElem?_getD, hy]; rfl)
      obtain ⟨xn, hxn⟩ : ∃ z, z = x.node := ⟨_, rfl⟩
      obtain ⟨yn, hyn⟩ : ∃ z, z = y.node := ⟨_, rfl⟩
      rw [← hxn] at k1 HX
      rw [← hyn] at k2 HY
      clear hrg hrg2 hx hy hxn hyn
      by_cases hq : xn = yn
      · have hne : ¬ (0 < l.length ∧ 0 < m.length ∧ (l.getD 0 lk0).node ≠ (m.getD 0 lk0).node) := fun h => h.2.2 (by rw [HX.out, HY.out, hq])
        have b1 : (xn != yn) = false := by rw [hq]; simp
        have HNE := Lib.hid hne
        clear hne
        subst hq
        go_wp2_with fail
        go_quiet (fail)
        have hbq := below_drewN hb nq
        generalize w2.drewN nq = wq at hbq ⊢
        have HPV := Lib.hid (show partOf l m = _ from HP.out.trans (if_neg HNE.out))
        clear hb
        try clear k1 k2
        go_wp2_with fail
        go_loopw [9] (fun i wr => ∃ k : Nat, k ≤ min l.length m.length ∧ i = .int .i64 k ∧ (∀ j, j < k → l.getD j lk0 = m.getD j lk0) ∧ Below w.heap.size w wr) (fun i _ => n - (intOf i).toNat)
        case atStart => exact ⟨0, Nat.zero_le _, rfl, fun j hj => by omega, hbq⟩
        case round =>
          clear hbq
          obtain ⟨k, hk, rfl, hall, hB⟩ := hrel
          have HALL := Lib.hid hall
          clear hall
          have hkn : k ≤ n := by rw [HN.out]; omega
          have hkm : k ≤ n2 := by rw [HM.out]; omega
          by_cases hlt : k < n
          · have d1 : decide ((k : Int) < (n : Int)) = true := decide_eq_true (by omega)
            by_cases hlt2 : k < n2
            · have d2 : decide ((k : Int) < (n2 : Int)) = true := decide_eq_true (by omega)
              obtain ⟨x, hx⟩ : ∃ x, l[k]? = some x := ⟨_, List.getElem?_eq_getElem (by rw [← HN.out]; exact hlt)⟩
              obtain ⟨y, hy⟩ : ∃ y, m[k]? = some y := ⟨_, List.getElem?_eq_getElem (by rw [← HM.out]; exact hlt2)⟩
              obtain ⟨b5, off5, hAe, hbw, hp, D, dc, hrg, hdc, hdc2, hrd⟩ := ((HA.out.below hB).more hB.size).at_ hx
              obtain ⟨b6, off6, hBe, hbw2, hp2, E, ec, hrg2, hec, hec2, hre⟩ := ((HB.out.below hB).more hB.size).at_ hy
              obtain ⟨rfl, rfl⟩ : b = b5 ∧ off = off5 := by simpa using hAe
              obtain ⟨rfl, rfl⟩ : b2 = b6 ∧ off2 = off6 := by simpa using hBe
              have HGX := Lib.hid (show l.getD k lk0 = x by rw [List.getD_eq_getElem?_getD, hx]; rfl)
              have HGY := Lib.hid (show m.getD k lk0 = y by rw [List.getD_eq_getElem?_getD, hy]; rfl)
              have hcall : ∀ i : Ext wr, Calls Tryd.prog 47 #[.agg (x.cells (.slice D x.data.length dc)).toArray, .agg (y.cells (.slice E y.data.length ec)).toArray] i.W (Ret (.bool (eqLk x y)) i.W) := fun i =>
                r8SameLink_any x y D E x.data.length y.data.length dc ec rfl rfl hp hp2 i.W ((Rd.below hrd i.below).more i.below.size) ((Rd.below hre i.below).more i.below.size)
              have HCALL := Lib.hid hcall
              have HXY := Lib.hid (eqLk_iff x y)
              have HRG := Lib.hid hrg
              have HRG2 := Lib.hid hrg2
              clear hcall hrg hrg2 hrd hre hx hy hdc hec
              go_wp2_with (refine wpList_skip (by rfl) ?_)
              refine wp_region_quiet_ext (by kernel_rfl) (by kernel_rfl) ?_
              obtain ⟨eq, heq⟩ : ∃ eq, eq = eqLk x y := ⟨_, rfl⟩
              rw [← heq] at HCALL
              have HEQ := Lib.hid heq
              clear heq
              repeat (first | go_big_quiet_step ((go_at_call 47; exact Ext.call (HCALL.out _))) | (go_big_quiet_want; refine quiet_load_mid 52 _ rfl b (off + k * 35) rfl _ _ (Ext.range HRG.out) Tryd.underlying52 rfl (by rw [x.cells_len _ hp]; exact linkInfo) ?_; simp only [Act.put, List.setIfInBounds_toArray, List.set_cons_zero, List.set_cons_succ]; go_big_quiet_on) | (go_big_quiet_want; refine quiet_load_mid 52 _ rfl b2 (off2 + k * 35) rfl _ _ (Ext.range HRG2.out) Tryd.underlying52 rfl (by rw [y.cells_len _ hp2]; exact linkInfo) ?_; simp only [Act.put, List.setIfInBounds_toArray, List.set_cons_zero, List.set_cons_succ]; go_big_quiet_on))
              refine wpQuiet_nil ?_
              rintro Wd ⟨⟨_, hWd⟩, rfl⟩
              have hBd := hB.trans (hWd.mono hB.size)
              clear hB hWd
              cases eq with
              | false =>
                have hne : l.getD k lk0 ≠ m.getD k lk0 := by
                  rw [HGX.out, HGY.out]
                  intro e
                  have h2 := HEQ.out.symm
                  rw [HXY.out.2 e] at h2
                  cases h2
                have hf : diffAt l m = some k := diffAt_some (by have := HN.out; have := HM.out; omega) HALL.out hne
                have HF := Lib.hid hf
                clear hne hf
                go_wp2
                go_ret3
                exact ⟨by rw [HR.out, HPV.out, HF.out]; rfl, hBd⟩
              | true =>
                have exy : x = y := HXY.out.1 HEQ.out.symm
                have hT : ∀ j, j < k + 1 → l.getD j lk0 = m.getD j lk0 := fun j hj => by
                  rcases Nat.lt_or_ge j k with h | h
                  · exact HALL.out j h
                  · obtain rfl : j = k := by omega
                    rw [HGX.out, HGY.out, exy]
                have HT := Lib.hid hT
                clear exy hT
                go_wp2
                go_roundw
                case rel => exact ⟨k + 1, by have := HN.out; have := HM.out; omega, by go_num, HT.out, hBd⟩
                case measure => simp [intOf]; omega
            · have d2 : decide ((k : Int) < (n2 : Int)) = false := decide_eq_false (by omega)
              have hf : diffAt l m = none := diffAt_none (fun j hj => HALL.out j (by have := HN.out; have := HM.out; omega))
              have HF := Lib.hid hf
              clear hf
              go_wp2_with (refine wpList_skip (by rfl) ?_)
              go_ret3
              exact ⟨by rw [HR.out, HPV.out, HF.out]; rfl, hB⟩
          · have d1 : decide ((k : Int) < (n : Int)) = false := decide_eq_false (by omega)
            have hf : diffAt l m = none := diffAt_none (fun j hj => HALL.out j (by have := HN.out; have := HM.out; omega))
            have HF := Lib.hid hf
            clear hf
            go_wp2_with (refine wpList_skip (by rfl) ?_)
            go_ret3
            exact ⟨by rw [HR.out, HPV.out, HF.out]; rfl, hB⟩
      · have hne : 0 < l.length ∧ 0 < m.length ∧ (l.getD 0 lk0).node ≠ (m.getD 0 lk0).node := ⟨by rw [← HN.out]; exact h0, by rw [← HM.out]; exact h1, by rw [HX.out, HY.out]; exact hq⟩
        have b1 : (xn != yn) = true := by simpa using hq
        have HNE := Lib.hid hne
        clear hne
        go_wp2_with fail
        go_quiet (fail)
        go_wp2
        go_ret3
        exact ⟨by rw [HR.out, HP.out, if_pos HNE.out]; rfl, below_drewN hb nq⟩
end Go.Proofs.YtibnikokgbfcdaaDoor

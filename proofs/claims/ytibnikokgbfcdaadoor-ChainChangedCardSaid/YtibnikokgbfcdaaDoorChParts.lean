/- The law podiumlaw08.ChainParts: for all chains she returns true. -/
import Derived.Test.YtibnikokgbfcdaaDoorC14
namespace Go.Proofs.YtibnikokgbfcdaaDoor
open Go Go.RowKit

theorem few_len {l : List Lk} (h : fewLk l = true) : l.length ≤ 16 ∧ ∀ y, y < l.length → (l.getD y lk0).data.length ≤ 4611686018427387903 := by
  obtain ⟨h1, h2⟩ := (fewLk_iff l).1 h
  refine ⟨h1, fun y hy => ?_⟩
  have := h2 y (l.getD y lk0) (by rw [List.getD_eq_getElem?_getD, List.getElem?_eq_getElem hy]; rfl)
  omega
theorem slice_upto_links (W : World) (A : Option Addr) (m c k : Nat) (h : k ≤ m) (hc : m ≤ c) : (Instr.slice 43 (.slice A m c) none (some (.int .i64 (k : Int))) none).run Tryd.prog W = .ok (.slice A k c) W := by
  have h1 : k ≤ c := by omega
  have e : ∀ a : Addr, a.add 0 = a := fun a => rfl
  cases A <;> simp [Instr.slice, run_underlying Tryd.underlying43, Instr.sliceBounds, Instr.sliceBound, asIntOf, h1, e]
set_option maxRecDepth 100000 in
set_option linter.unusedSimpArgs false in
set_option linter.unusedVariables false in
set_option maxHeartbeats 16000000 in
theorem chainParts_any (A : Option Addr) (l : List Lk) (c : Nat) (hc : l.length ≤ c) (hcc : c ≤ 9223372036854775807) (hd : ∀ x ∈ l, x.data.length ≤ 9223372036854775807) (B : Option Addr) (m : List Lk) (c2 : Nat) (hc2 : m.length ≤ c2) (hcc2 : c2 ≤ 9223372036854775807) (hd2 : ∀ x ∈ m, x.data.length ≤ 9223372036854775807) (w : World) (hL : Laid w)
    (hA : LRd w w.heap.size A l) (hB : LRd w w.heap.size B m) : Calls Tryd.prog 13 #[.slice A l.length c, .slice B m.length c2] w (Ret (.bool true) w) := by
  have HS := Lib.hid (fun W h => sane08_ok W h)
  have HL := Lib.hid hL
  have HA := Lib.hid hA
  have HB := Lib.hid hB
  have HFA := Lib.hid (fun W (hb : Below w.heap.size w W) => r8Few_any A l l.length c rfl (by omega) W (hA.later hb) hd)
  have HFB := Lib.hid (fun W (hb : Below w.heap.size w W) => r8Few_any B m m.length c2 rfl (by omega) W (hB.later hb) hd2)
  cases fa : fewLk l with
  | false =>
    rw [fa] at HFA
    obtain ⟨n, hn⟩ : ∃ n, n = l.length := ⟨_, rfl⟩
    obtain ⟨n2, hn2⟩ : ∃ n2, n2 = m.length := ⟨_, rfl⟩
    rw [← hn] at HFA ⊢
    rw [← hn2] at ⊢
    clear hL hA hB hd hd2 hn hn2 fa hc hc2
    go_enter Tryd.func13, Tryd.ntmps13
    go_wp2_with fail
    refine (HS.out w HL.out).mono ?_
    rintro e w1 ⟨rfl, hb1⟩
    go_wp2_with fail
    refine (HFA.out w1 hb1).mono ?_
    rintro e w1' ⟨rfl, rfl⟩
    go_wp2_with (refine wpList_skip (by rfl) ?_)
    go_ret
    exact ⟨rfl, hb1⟩
  | true =>
    rw [fa] at HFA
    cases fb : fewLk m with
    | false =>
      rw [fb] at HFB
      obtain ⟨n, hn⟩ : ∃ n, n = l.length := ⟨_, rfl⟩
      obtain ⟨n2, hn2⟩ : ∃ n2, n2 = m.length := ⟨_, rfl⟩
      rw [← hn] at HFA ⊢
      rw [← hn2] at HFB ⊢
      clear hL hA hB hd hd2 hn hn2 fa fb hc hc2
      go_enter Tryd.func13, Tryd.ntmps13
      go_wp2_with fail
      refine (HS.out w HL.out).mono ?_
      rintro e w1 ⟨rfl, hb1⟩
      go_wp2_with fail
      refine (HFA.out w1 hb1).mono ?_
      rintro e w1' ⟨rfl, rfl⟩
      go_wp2_with fail
      refine (HFB.out w1 hb1).mono ?_
      rintro e w1' ⟨rfl, rfl⟩
      go_wp2_with (refine wpList_skip (by rfl) ?_)
      go_ret
      exact ⟨rfl, hb1⟩
    | true =>
      rw [fb] at HFB
      obtain ⟨l1, l2⟩ := few_len fa
      obtain ⟨m1, m2⟩ := few_len fb
      have HP1 := Lib.hid (fun W (hb : Below w.heap.size w W) => part_any A B l m l.length m.length c c2 rfl rfl hc hc2 hcc hcc2 W (hL.below hb) (hA.later hb) (hB.later hb) l2 m2)
      have HP2 := Lib.hid (fun W (hb : Below w.heap.size w W) => part_any B A m l m.length l.length c2 c rfl rfl hc2 hc hcc2 hcc W (hL.below hb) (hB.later hb) (hA.later hb) m2 l2)
      obtain ⟨n, hn⟩ : ∃ n, n = l.length := ⟨_, rfl⟩
      obtain ⟨n2, hn2⟩ : ∃ n2, n2 = m.length := ⟨_, rfl⟩
      have HN := Lib.hid hn
      have HN2 := Lib.hid hn2
      rw [← hn] at HFA HP1 HP2 l1 hc ⊢
      rw [← hn2] at HFB HP1 HP2 m1 hc2 ⊢
      clear hL hA hB hd hd2 fa fb l2 m2
      rcases part_shape l m with ⟨e, f, he, hf, p1, p2⟩ | ⟨p1, p2, p3⟩ | ⟨k, hk, p1, p2, p3, p4⟩
      · rw [p1] at HP1
        rw [p2] at HP2
        have he1 : (e != 0) = true := bne_iff_ne.2 he
        have hf1 : (f != 0) = true := bne_iff_ne.2 hf
        have he2 : ¬ e = 0 := he
        clear p1 p2 hn hn2 he hf
        go_enter Tryd.func13, Tryd.ntmps13
        go_wp2_with fail
        refine (HS.out w HL.out).mono ?_
        rintro e w1 ⟨rfl, hb1⟩
        go_wp2_with fail
        refine (HFA.out w1 hb1).mono ?_
        rintro e w1' ⟨rfl, rfl⟩
        go_wp2_with fail
        refine (HFB.out w1 hb1).mono ?_
        rintro e w1' ⟨rfl, rfl⟩
        go_wp2_with (refine wpList_skip (by rfl) ?_)
        refine (HP1.out w1 hb1).mono ?_
        rintro e w2 ⟨rfl, hb2⟩
        have hB2 := hb1.trans (hb2.mono hb1.size)
        clear hb1 hb2
        simp only [partVal]
        go_wp2_with fail
        refine (HP2.out w2 hB2).mono ?_
        rintro e w3 ⟨rfl, hb3⟩
        have hB3 := hB2.trans (hb3.mono hB2.size)
        clear hB2 hb3
        simp only [partVal]
        go_wp2_with (refine wpList_skip (by rfl) ?_)
        go_ret
        exact ⟨rfl, hB3⟩
      · rw [p1] at HP1
        rw [p2] at HP2
        rw [← hn, ← hn2] at p3
        have HP3 := Lib.hid p3
        clear p1 p2 p3 hn hn2
        by_cases hlt : n2 < n
        · have hq : n2 = min l.length m.length := by rw [← HN.out, ← HN2.out]; omega
          have hsm : ∀ W, LRd W W.heap.size A l → LRd W W.heap.size B m → Calls Tryd.prog 43 #[.slice A n2 c, .slice B n2 c2] W (Ret (.bool true) W) := fun W hW hW2 => by
            have h := r8Same_any A B (l.take n2) (m.take n2) n2 n2 c c2 (by rw [List.length_take, ← HN.out]; omega) (by rw [List.length_take, ← HN2.out]; omega) (by omega) (by omega) hcc hcc2 W (hW.take _) (hW2.take _)
            rw [decide_eq_true (show l.take n2 = m.take n2 by have := HP3.out; rw [show min n n2 = n2 by omega] at this; exact this)] at h
            exact h
          have HSM := Lib.hid hsm
          have hs1 := fun W => slice_upto_links W A n c n2 (by omega) hc
          have hs2 := fun W => slice_upto_links W B n2 c2 n2 (by omega) hc2
          clear hq hsm
          go_enter Tryd.func13, Tryd.ntmps13
          go_wp2_with fail
          refine (HS.out w HL.out).mono ?_
          rintro e w1 ⟨rfl, hb1⟩
          go_wp2_with fail
          refine (HFA.out w1 hb1).mono ?_
          rintro e w1' ⟨rfl, rfl⟩
          go_wp2_with fail
          refine (HFB.out w1 hb1).mono ?_
          rintro e w1' ⟨rfl, rfl⟩
          go_wp2_with (refine wpList_skip (by rfl) ?_)
          refine (HP1.out w1 hb1).mono ?_
          rintro e w2 ⟨rfl, hb2⟩
          have hB2 := hb1.trans (hb2.mono hb1.size)
          clear hb1 hb2
          simp only [partVal]
          go_wp2_with fail
          refine (HP2.out w2 hB2).mono ?_
          rintro e w3 ⟨rfl, hb3⟩
          have hB3 := hB2.trans (hb3.mono hB2.size)
          clear hB2 hb3
          simp only [partVal]
          go_wp2_with (refine wpList_skip (by rfl) ?_)
          have HC := Lib.hid (fun (i : Ext w3) => HSM.out i.W (HA.out.later (hB3.trans (i.below.mono hB3.size))) (HB.out.later (hB3.trans (i.below.mono hB3.size))))
          refine wp_region_quiet_ext (by kernel_rfl) (by kernel_rfl) ?_
          repeat (go_big_quiet_step ((go_at_call 43; exact Ext.call (HC.out _))))
          refine wpQuiet_nil ?_
          rintro Wd ⟨⟨_, hWd⟩, rfl⟩
          have hBd := hB3.trans (hWd.mono hB3.size)
          clear hWd
          go_wp2
          go_ret
          exact ⟨rfl, hBd⟩
        · have hq : n = min l.length m.length := by rw [← HN.out, ← HN2.out]; omega
          have hsm : ∀ W, LRd W W.heap.size A l → LRd W W.heap.size B m → Calls Tryd.prog 43 #[.slice A n c, .slice B n c2] W (Ret (.bool true) W) := fun W hW hW2 => by
            have h := r8Same_any A B (l.take n) (m.take n) n n c c2 (by rw [List.length_take, ← HN.out]; omega) (by rw [List.length_take, ← HN2.out]; omega) (by omega) (by omega) hcc hcc2 W (hW.take _) (hW2.take _)
            rw [decide_eq_true (show l.take n = m.take n by have := HP3.out; rw [show min n n2 = n by omega] at this; exact this)] at h
            exact h
          have HSM := Lib.hid hsm
          have hs1 := fun W => slice_upto_links W A n c n (by omega) hc
          have hs2 := fun W => slice_upto_links W B n2 c2 n (by omega) hc2
          clear hq hsm
          go_enter Tryd.func13, Tryd.ntmps13
          go_wp2_with fail
          refine (HS.out w HL.out).mono ?_
          rintro e w1 ⟨rfl, hb1⟩
          go_wp2_with fail
          refine (HFA.out w1 hb1).mono ?_
          rintro e w1' ⟨rfl, rfl⟩
          go_wp2_with fail
          refine (HFB.out w1 hb1).mono ?_
          rintro e w1' ⟨rfl, rfl⟩
          go_wp2_with (refine wpList_skip (by rfl) ?_)
          refine (HP1.out w1 hb1).mono ?_
          rintro e w2 ⟨rfl, hb2⟩
          have hB2 := hb1.trans (hb2.mono hb1.size)
          clear hb1 hb2
          simp only [partVal]
          go_wp2_with fail
          refine (HP2.out w2 hB2).mono ?_
          rintro e w3 ⟨rfl, hb3⟩
          have hB3 := hB2.trans (hb3.mono hB2.size)
          clear hB2 hb3
          simp only [partVal]
          go_wp2_with (refine wpList_skip (by rfl) ?_)
          have HC := Lib.hid (fun (i : Ext w3) => HSM.out i.W (HA.out.later (hB3.trans (i.below.mono hB3.size))) (HB.out.later (hB3.trans (i.below.mono hB3.size))))
          refine wp_region_quiet_ext (by kernel_rfl) (by kernel_rfl) ?_
          repeat (go_big_quiet_step ((go_at_call 43; exact Ext.call (HC.out _))))
          refine wpQuiet_nil ?_
          rintro Wd ⟨⟨_, hWd⟩, rfl⟩
          have hBd := hB3.trans (hWd.mono hB3.size)
          clear hWd
          go_wp2
          go_ret
          exact ⟨rfl, hBd⟩
      · rw [p1] at HP1
        rw [p2] at HP2
        have HP3 := Lib.hid p3
        have HP4 := Lib.hid p4
        rw [← hn, ← hn2] at hk
        obtain ⟨x, hx⟩ : ∃ x, l[k]? = some x := ⟨_, List.getElem?_eq_getElem (by omega)⟩
        obtain ⟨y, hy⟩ : ∃ y, m[k]? = some y := ⟨_, List.getElem?_eq_getElem (by omega)⟩
        have HX := Lib.hid hx
        have HY := Lib.hid hy
        have hne : eqLk x y = false := by
          rw [eqLk_dec]
          refine decide_eq_false fun e => p4 ?_
          rw [List.getD_eq_getElem?_getD, List.getD_eq_getElem?_getD, hx, hy, e]
        have HNE := Lib.hid hne
        clear p1 p2 p3 p4 hn hn2 hx hy hne
        have g0 : decide ((0 : Int) ≤ (k : Int)) = true := decide_eq_true (by omega)
        by_cases hlt : n2 < n
        · have hkq : k < n2 := by omega
          have g1 : decide ((k : Int) < (n2 : Int)) = true := decide_eq_true (by omega)
          have hsm : ∀ W, LRd W W.heap.size A l → LRd W W.heap.size B m → Calls Tryd.prog 43 #[.slice A k c, .slice B k c2] W (Ret (.bool true) W) := fun W hW hW2 => by
            have h := r8Same_any A B (l.take k) (m.take k) k k c c2 (by rw [List.length_take, ← HN.out]; omega) (by rw [List.length_take, ← HN2.out]; omega) (by omega) (by omega) hcc hcc2 W (hW.take _) (hW2.take _)
            rw [decide_eq_true HP3.out] at h
            exact h
          have HSM := Lib.hid hsm
          have hs1 := fun W => slice_upto_links W A n c k (by omega) hc
          have hs2 := fun W => slice_upto_links W B n2 c2 k (by omega) hc2
          clear hsm
          go_enter Tryd.func13, Tryd.ntmps13
          go_wp2_with fail
          refine (HS.out w HL.out).mono ?_
          rintro e w1 ⟨rfl, hb1⟩
          go_wp2_with fail
          refine (HFA.out w1 hb1).mono ?_
          rintro e w1' ⟨rfl, rfl⟩
          go_wp2_with fail
          refine (HFB.out w1 hb1).mono ?_
          rintro e w1' ⟨rfl, rfl⟩
          go_wp2_with (refine wpList_skip (by rfl) ?_)
          refine (HP1.out w1 hb1).mono ?_
          rintro e w2 ⟨rfl, hb2⟩
          have hB2 := hb1.trans (hb2.mono hb1.size)
          clear hb1 hb2
          simp only [partVal]
          go_wp2_with fail
          refine (HP2.out w2 hB2).mono ?_
          rintro e w3 ⟨rfl, hb3⟩
          have hB3 := hB2.trans (hb3.mono hB2.size)
          clear hB2 hb3
          simp only [partVal]
          obtain ⟨b, off, hAe, hbw, hp, D, dc, hrg, hdc, hdc2, hrd⟩ := (HA.out.later hB3).at_ HX.out
          obtain ⟨b2, off2, hBe, hbw2, hp2, E, ec, hrg2, hec, hec2, hre⟩ := (HB.out.later hB3).at_ HY.out
          subst hAe hBe
          have HC := Lib.hid (fun (i : Ext w3) => HSM.out i.W (HA.out.later (hB3.trans (i.below.mono hB3.size))) (HB.out.later (hB3.trans (i.below.mono hB3.size))))
          have hcall : ∀ i : Ext w3, Calls Tryd.prog 47 #[.agg (x.cells (.slice D x.data.length dc)).toArray, .agg (y.cells (.slice E y.data.length ec)).toArray] i.W (Ret (.bool false) i.W) := fun i => by
            have h := r8SameLink_any x y D E x.data.length y.data.length dc ec rfl rfl hp hp2 i.W ((Rd.below hrd i.below).more i.below.size) ((Rd.below hre i.below).more i.below.size)
            rw [HNE.out] at h
            exact h
          have HCALL := Lib.hid hcall
          have HRG := Lib.hid hrg
          have HRG2 := Lib.hid hrg2
          clear hcall hrg hrg2 hrd hre hdc hec
          go_wp2_with (refine wpList_skip (by rfl) ?_)
          refine wp_region_quiet_ext (by kernel_rfl) (by kernel_rfl) ?_
          repeat (first
            | (go_big_quiet_want; refine quiet_load_mid 52 _ rfl b (off + k * 35) rfl _ _ (Ext.range HRG.out) Tryd.underlying52 rfl (by rw [x.cells_len _ hp]; exact linkInfo) ?_; simp only [Act.put, List.setIfInBounds_toArray, List.set_cons_zero, List.set_cons_succ]; go_big_quiet_on)
            | (go_big_quiet_want; refine quiet_load_mid 52 _ rfl b2 (off2 + k * 35) rfl _ _ (Ext.range HRG2.out) Tryd.underlying52 rfl (by rw [y.cells_len _ hp2]; exact linkInfo) ?_; simp only [Act.put, List.setIfInBounds_toArray, List.set_cons_zero, List.set_cons_succ]; go_big_quiet_on)
            | go_big_quiet_step (first | (go_at_call 43; with_reducible exact Ext.call (HC.out _)) | (go_at_call 47; with_reducible exact Ext.call (HCALL.out _))))
          refine wpQuiet_nil ?_
          rintro Wd ⟨⟨_, hWd⟩, rfl⟩
          have hBd := hB3.trans (hWd.mono hB3.size)
          clear hWd
          go_wp2
          go_ret
          exact ⟨rfl, hBd⟩
        · have hkq : k < n := by omega
          have g1 : decide ((k : Int) < (n : Int)) = true := decide_eq_true (by omega)
          have hsm : ∀ W, LRd W W.heap.size A l → LRd W W.heap.size B m → Calls Tryd.prog 43 #[.slice A k c, .slice B k c2] W (Ret (.bool true) W) := fun W hW hW2 => by
            have h := r8Same_any A B (l.take k) (m.take k) k k c c2 (by rw [List.length_take, ← HN.out]; omega) (by rw [List.length_take, ← HN2.out]; omega) (by omega) (by omega) hcc hcc2 W (hW.take _) (hW2.take _)
            rw [decide_eq_true HP3.out] at h
            exact h
          have HSM := Lib.hid hsm
          have hs1 := fun W => slice_upto_links W A n c k (by omega) hc
          have hs2 := fun W => slice_upto_links W B n2 c2 k (by omega) hc2
          clear hsm
          go_enter Tryd.func13, Tryd.ntmps13
          go_wp2_with fail
          refine (HS.out w HL.out).mono ?_
          rintro e w1 ⟨rfl, hb1⟩
          go_wp2_with fail
          refine (HFA.out w1 hb1).mono ?_
          rintro e w1' ⟨rfl, rfl⟩
          go_wp2_with fail
          refine (HFB.out w1 hb1).mono ?_
          rintro e w1' ⟨rfl, rfl⟩
          go_wp2_with (refine wpList_skip (by rfl) ?_)
          refine (HP1.out w1 hb1).mono ?_
          rintro e w2 ⟨rfl, hb2⟩
          have hB2 := hb1.trans (hb2.mono hb1.size)
          clear hb1 hb2
          simp only [partVal]
          go_wp2_with fail
          refine (HP2.out w2 hB2).mono ?_
          rintro e w3 ⟨rfl, hb3⟩
          have hB3 := hB2.trans (hb3.mono hB2.size)
          clear hB2 hb3
          simp only [partVal]
          obtain ⟨b, off, hAe, hbw, hp, D, dc, hrg, hdc, hdc2, hrd⟩ := (HA.out.later hB3).at_ HX.out
          obtain ⟨b2, off2, hBe, hbw2, hp2, E, ec, hrg2, hec, hec2, hre⟩ := (HB.out.later hB3).at_ HY.out
          subst hAe hBe
          have HC := Lib.hid (fun (i : Ext w3) => HSM.out i.W (HA.out.later (hB3.trans (i.below.mono hB3.size))) (HB.out.later (hB3.trans (i.below.mono hB3.size))))
          have hcall : ∀ i : Ext w3, Calls Tryd.prog 47 #[.agg (x.cells (.slice D x.data.length dc)).toArray, .agg (y.cells (.slice E y.data.length ec)).toArray] i.W (Ret (.bool false) i.W) := fun i => by
            have h := r8SameLink_any x y D E x.data.length y.data.length dc ec rfl rfl hp hp2 i.W ((Rd.below hrd i.below).more i.below.size) ((Rd.below hre i.below).more i.below.size)
            rw [HNE.out] at h
            exact h
          have HCALL := Lib.hid hcall
          have HRG := Lib.hid hrg
          have HRG2 := Lib.hid hrg2
          clear hcall hrg hrg2 hrd hre hdc hec
          go_wp2_with (refine wpList_skip (by rfl) ?_)
          refine wp_region_quiet_ext (by kernel_rfl) (by kernel_rfl) ?_
          repeat (first
            | (go_big_quiet_want; refine quiet_load_mid 52 _ rfl b (off + k * 35) rfl _ _ (Ext.range HRG.out) Tryd.underlying52 rfl (by rw [x.cells_len _ hp]; exact linkInfo) ?_; simp only [Act.put, List.setIfInBounds_toArray, List.set_cons_zero, List.set_cons_succ]; go_big_quiet_on)
            | (go_big_quiet_want; refine quiet_load_mid 52 _ rfl b2 (off2 + k * 35) rfl _ _ (Ext.range HRG2.out) Tryd.underlying52 rfl (by rw [y.cells_len _ hp2]; exact linkInfo) ?_; simp only [Act.put, List.setIfInBounds_toArray, List.set_cons_zero, List.set_cons_succ]; go_big_quiet_on)
            | go_big_quiet_step (first | (go_at_call 43; with_reducible exact Ext.call (HC.out _)) | (go_at_call 47; with_reducible exact Ext.call (HCALL.out _))))
          refine wpQuiet_nil ?_
          rintro Wd ⟨⟨_, hWd⟩, rfl⟩
          have hBd := hB3.trans (hWd.mono hB3.size)
          clear hWd
          go_wp2
          go_ret
          exact ⟨rfl, hBd⟩
end Go.Proofs.YtibnikokgbfcdaaDoor

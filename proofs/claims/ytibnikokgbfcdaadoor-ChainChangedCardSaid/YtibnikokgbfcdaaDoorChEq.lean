/- The law podiumlaw08.ChainEqual: for all chains she returns true. -/
import Derived.Test.YtibnikokgbfcdaaDoorClash
namespace Go.Proofs.YtibnikokgbfcdaaDoor
open Go Go.RowKit

theorem neq_dig_b {ops : Array Oper} {rest : List Oper} {o : Oper} {a : Act} {Q : Exit → Act → World → Prop} (hw : Region.wanted o (yielded ops a.tmps) = true) (x y : Operand) (t : TypeId) (ho : o.op = .binOp .neq 23 x y t) {w : World} (d e : List UInt8) (hd : d.length = 32) (he : e.length = 32)
    (hx : a.eval x = .agg (dig d)) (hy : a.eval y = .agg (dig e)) (b : Bool) (hb : (!decide (d = e)) = b) (h : wpList Tryd.prog ops Q rest (a.put o.dst (.bool b)) w) : wpList Tryd.prog ops Q (o :: rest) a w :=
  neq_dig_g hw x y t ho d e hd he hx hy (by rw [hb]; exact h)
set_option maxRecDepth 100000 in
set_option linter.unusedSimpArgs false in
set_option linter.unusedVariables false in
set_option maxHeartbeats 16000000 in
theorem chainEqual_any (A : Option Addr) (l : List Lk) (c : Nat) (hc : l.length ≤ c) (hcc : c ≤ 9223372036854775807) (hd : ∀ x ∈ l, x.data.length ≤ 9223372036854775807) (B : Option Addr) (m : List Lk) (c2 : Nat) (hc2 : m.length ≤ c2) (hcc2 : c2 ≤ 9223372036854775807) (hd2 : ∀ x ∈ m, x.data.length ≤ 9223372036854775807) (w : World) (hL : Laid w)
    (hA : LRd w w.heap.size A l) (hB : LRd w w.heap.size B m) : Calls Tryd.prog 11 #[.slice A l.length c, .slice B m.length c2] w (Ret (.bool true) w) := by
  have HS := Lib.hid (fun W h => sane08_ok W h)
  have HL := Lib.hid hL
  have HFA := Lib.hid (fun W (hb : Below w.heap.size w W) => r8Few_any A l l.length c rfl (by omega) W (hA.later hb) hd)
  have HFB := Lib.hid (fun W (hb : Below w.heap.size w W) => r8Few_any B m m.length c2 rfl (by omega) W (hB.later hb) hd2)
  cases fa : fewLk l with
  | false =>
    rw [fa] at HFA
    obtain ⟨n, hn⟩ : ∃ n, n = l.length := ⟨_, rfl⟩
    obtain ⟨n2, hn2⟩ : ∃ n2, n2 = m.length := ⟨_, rfl⟩
    rw [← hn] at HFA ⊢
    rw [← hn2] at HFB ⊢
    clear hL hA hB hd hd2 hn hn2 fa hc hc2
    go_enter Tryd.func11, Tryd.ntmps11
    go_wp2_with fail
    refine (HS.out w HL.out).mono ?_
    rintro e w1 ⟨rfl, hb1⟩
    go_wp2_with fail
    refine (HFA.out w1 hb1).mono ?_
    rintro e w1' ⟨rfl, rfl⟩
    go_wp2_with (refine wpList_skip (by rfl) ?_)
    go_ret
    exact ⟨rfl, hb1⟩
  | true =>
    rw [fa] at HFA
    cases fb : fewLk m with
    | false =>
      rw [fb] at HFB
      obtain ⟨n, hn⟩ : ∃ n, n = l.length := ⟨_, rfl⟩
      obtain ⟨n2, hn2⟩ : ∃ n2, n2 = m.length := ⟨_, rfl⟩
      rw [← hn] at HFA ⊢
      rw [← hn2] at HFB ⊢
      clear hL hA hB hd hd2 hn hn2 fa fb hc hc2
      go_enter Tryd.func11, Tryd.ntmps11
      go_wp2_with fail
      refine (HS.out w HL.out).mono ?_
      rintro e w1 ⟨rfl, hb1⟩
      go_wp2_with fail
      refine (HFA.out w1 hb1).mono ?_
      rintro e w1' ⟨rfl, rfl⟩
      go_wp2_with (refine wpList_skip (by rfl) ?_)
      refine (HFB.out w1 hb1).mono ?_
      rintro e w1' ⟨rfl, rfl⟩
      go_wp2_with (refine wpList_skip (by rfl) ?_)
      go_ret
      exact ⟨rfl, hb1⟩
    | true =>
      rw [fb] at HFB
      obtain ⟨l1, l2⟩ := few_len fa
      obtain ⟨m1, m2⟩ := few_len fb
      have HCA := Lib.hid (fun W (hb : Below w.heap.size w W) => check_any A l l.length c rfl (by omega) hc W (hL.below hb) (hA.later hb) l2)
      have HCB := Lib.hid (fun W (hb : Below w.heap.size w W) => check_any B m m.length c2 rfl (by omega) hc2 W (hL.below hb) (hB.later hb) m2)
      obtain ⟨n, hn⟩ : ∃ n, n = l.length := ⟨_, rfl⟩
      obtain ⟨n2, hn2⟩ : ∃ n2, n2 = m.length := ⟨_, rfl⟩
      have HN := Lib.hid hn
      have HN2 := Lib.hid hn2
      have HA := Lib.hid hA
      have HB := Lib.hid hB
      rw [← hn] at HFA HCA l1 hc ⊢
      rw [← hn2] at HFB HCB m1 hc2 ⊢
      clear hL hA hB hd hd2 fa fb l2 m2
      by_cases t1 : chkOf l = 0
      rotate_left
      · obtain ⟨e1, he1⟩ : ∃ e1, e1 = chkOf l := ⟨_, rfl⟩
        rw [← he1] at HCA t1
        have b1 : (e1 != 0) = true := bne_iff_ne.2 t1
        clear he1 hn hn2
        go_enter Tryd.func11, Tryd.ntmps11
        go_wp2_with fail
        refine (HS.out w HL.out).mono ?_
        rintro e w1 ⟨rfl, hb1⟩
        go_wp2_with fail
        refine (HFA.out w1 hb1).mono ?_
        rintro e w1' ⟨rfl, rfl⟩
        go_wp2_with (refine wpList_skip (by rfl) ?_)
        refine (HFB.out w1 hb1).mono ?_
        rintro e w1' ⟨rfl, rfl⟩
        go_wp2_with (refine wpList_skip (by rfl) ?_)
        refine (HCA.out w1 hb1).mono ?_
        rintro e w2 ⟨rfl, hb2⟩
        have hB2 := hb1.trans (hb2.mono hb1.size)
        clear hb1 hb2
        go_wp2_with (refine wpList_skip (by rfl) ?_)
        go_ret
        exact ⟨rfl, hB2⟩
      rw [t1] at HCA
      by_cases t2 : chkOf m = 0
      rotate_left
      · obtain ⟨e1, he1⟩ : ∃ e1, e1 = chkOf m := ⟨_, rfl⟩
        rw [← he1] at HCB t2
        have b1 : (e1 != 0) = true := bne_iff_ne.2 t2
        clear he1 hn hn2 t1
        go_enter Tryd.func11, Tryd.ntmps11
        go_wp2_with fail
        refine (HS.out w HL.out).mono ?_
        rintro e w1 ⟨rfl, hb1⟩
        go_wp2_with fail
        refine (HFA.out w1 hb1).mono ?_
        rintro e w1' ⟨rfl, rfl⟩
        go_wp2_with (refine wpList_skip (by rfl) ?_)
        refine (HFB.out w1 hb1).mono ?_
        rintro e w1' ⟨rfl, rfl⟩
        go_wp2_with (refine wpList_skip (by rfl) ?_)
        refine (HCA.out w1 hb1).mono ?_
        rintro e w2 ⟨rfl, hb2⟩
        have hB2 := hb1.trans (hb2.mono hb1.size)
        clear hb1 hb2
        go_wp2_with (refine wpList_skip (by rfl) ?_)
        refine (HCB.out w2 hB2).mono ?_
        rintro e w3 ⟨rfl, hb3⟩
        have hB3 := hB2.trans (hb3.mono hB2.size)
        clear hB2 hb3
        go_wp2_with (refine wpList_skip (by rfl) ?_)
        go_ret
        exact ⟨rfl, hB3⟩
      rw [t2] at HCB
      by_cases t3 : n = n2
      rotate_left
      · have b1 : ((n : Int) != (n2 : Int)) = true := bne_iff_ne.2 (by omega)
        clear hn hn2 t1 t2
        go_enter Tryd.func11, Tryd.ntmps11
        go_wp2_with fail
        refine (HS.out w HL.out).mono ?_
        rintro e w1 ⟨rfl, hb1⟩
        go_wp2_with fail
        refine (HFA.out w1 hb1).mono ?_
        rintro e w1' ⟨rfl, rfl⟩
        go_wp2_with (refine wpList_skip (by rfl) ?_)
        refine (HFB.out w1 hb1).mono ?_
        rintro e w1' ⟨rfl, rfl⟩
        go_wp2_with (refine wpList_skip (by rfl) ?_)
        refine (HCA.out w1 hb1).mono ?_
        rintro e w2 ⟨rfl, hb2⟩
        have hB2 := hb1.trans (hb2.mono hb1.size)
        clear hb1 hb2
        go_wp2_with (refine wpList_skip (by rfl) ?_)
        refine (HCB.out w2 hB2).mono ?_
        rintro e w3 ⟨rfl, hb3⟩
        have hB3 := hB2.trans (hb3.mono hB2.size)
        clear hB2 hb3
        go_wp2_with (refine wpList_skip (by rfl) ?_)
        go_ret
        exact ⟨rfl, hB3⟩
      subst t3
      have c1 := chkOf_zero t1
      have c3 := chkOf_zero t2
      have C1 := Lib.hid c1.2
      have C2 := Lib.hid c3.2
      have HHA := Lib.hid (fun W (hb : Below w.heap.size w W) => head_any A l n c HN.out (by omega) (chk_fine c1.2 c1.1) W (HL.out.below hb) (HA.out.later hb))
      have HHB := Lib.hid (fun W (hb : Below w.heap.size w W) => head_any B m n c2 HN2.out (by omega) (chk_fine c3.2 c3.1) W (HL.out.below hb) (HB.out.later hb))
      have d1 := headOf_length l
      have d2 := headOf_length m
      obtain ⟨HX, hHX⟩ : ∃ T, T = headOf l := ⟨_, rfl⟩
      obtain ⟨HY, hHY⟩ : ∃ T, T = headOf m := ⟨_, rfl⟩
      rw [← hHX] at HHA d1
      rw [← hHY] at HHB d2
      have HHX := Lib.hid hHX
      have HHY := Lib.hid hHY
      clear hHX hHY t1 t2 c1 c3 hn hn2
      have HSM := Lib.hid (fun W (hb : Below w.heap.size w W) => r8Same_any A B l m n n c c2 HN.out HN2.out hc hc2 hcc hcc2 W (HA.out.later hb) (HB.out.later hb))
      have b0 : ((n : Int) != (n : Int)) = false := by simp
      by_cases t4 : HX = HY
      rotate_left
      · have NB := Lib.hid (show (!decide (HX = HY)) = true by rw [decide_eq_false t4]; rfl)
        clear t4
        go_enter Tryd.func11, Tryd.ntmps11
        go_wp2_with fail
        refine (HS.out w HL.out).mono ?_
        rintro e w1 ⟨rfl, hb1⟩
        go_wp2_with fail
        refine (HFA.out w1 hb1).mono ?_
        rintro e w1' ⟨rfl, rfl⟩
        go_wp2_with (refine wpList_skip (by rfl) ?_)
        refine (HFB.out w1 hb1).mono ?_
        rintro e w1' ⟨rfl, rfl⟩
        go_wp2_with (refine wpList_skip (by rfl) ?_)
        refine (HCA.out w1 hb1).mono ?_
        rintro e w2 ⟨rfl, hb2⟩
        have hB2 := hb1.trans (hb2.mono hb1.size)
        clear hb1 hb2
        go_wp2_with (refine wpList_skip (by rfl) ?_)
        refine (HCB.out w2 hB2).mono ?_
        rintro e w3 ⟨rfl, hb3⟩
        have hB3 := hB2.trans (hb3.mono hB2.size)
        clear hB2 hb3
        go_wp2_with (refine wpList_skip (by rfl) ?_)
        refine (HHA.out w3 hB3).mono ?_
        rintro e w4 ⟨rfl, hb4⟩
        have hB4 := hB3.trans (hb4.mono hB3.size)
        clear hB3 hb4
        go_wp2_with fail
        refine (HHB.out w4 hB4).mono ?_
        rintro e w5 ⟨rfl, hb5⟩
        have hB5 := hB4.trans (hb5.mono hB4.size)
        clear hB4 hb5
        go_wp2_with (refine neq_dig_b (by rfl) _ _ _ rfl HX HY d1 d2 rfl rfl _ NB.out ?_)
        go_ret
        exact ⟨rfl, hB5⟩
      have NB := Lib.hid (show (!decide (HX = HY)) = false by rw [decide_eq_true t4]; rfl)
      have T4 := Lib.hid t4
      clear t4
      by_cases t5 : l = m
      · rw [decide_eq_true t5] at HSM
        clear t5
        go_enter Tryd.func11, Tryd.ntmps11
        go_wp2_with fail
        refine (HS.out w HL.out).mono ?_
        rintro e w1 ⟨rfl, hb1⟩
        go_wp2_with fail
        refine (HFA.out w1 hb1).mono ?_
        rintro e w1' ⟨rfl, rfl⟩
        go_wp2_with (refine wpList_skip (by rfl) ?_)
        refine (HFB.out w1 hb1).mono ?_
        rintro e w1' ⟨rfl, rfl⟩
        go_wp2_with (refine wpList_skip (by rfl) ?_)
        refine (HCA.out w1 hb1).mono ?_
        rintro e w2 ⟨rfl, hb2⟩
        have hB2 := hb1.trans (hb2.mono hb1.size)
        clear hb1 hb2
        go_wp2_with (refine wpList_skip (by rfl) ?_)
        refine (HCB.out w2 hB2).mono ?_
        rintro e w3 ⟨rfl, hb3⟩
        have hB3 := hB2.trans (hb3.mono hB2.size)
        clear hB2 hb3
        go_wp2_with (refine wpList_skip (by rfl) ?_)
        refine (HHA.out w3 hB3).mono ?_
        rintro e w4 ⟨rfl, hb4⟩
        have hB4 := hB3.trans (hb4.mono hB3.size)
        clear hB3 hb4
        go_wp2_with fail
        refine (HHB.out w4 hB4).mono ?_
        rintro e w5 ⟨rfl, hb5⟩
        have hB5 := hB4.trans (hb5.mono hB4.size)
        clear hB4 hb5
        go_wp2_with (refine neq_dig_b (by rfl) _ _ _ rfl HX HY d1 d2 rfl rfl _ NB.out ?_)
        refine (HSM.out w5 hB5).mono ?_
        rintro e w6 ⟨rfl, hb6⟩
        have hB6 := hB5.trans (hb6.mono hB5.size)
        clear hB5 hb6
        go_wp2_with (refine wpList_skip (by rfl) ?_)
        go_ret
        exact ⟨rfl, hB6⟩
      · rw [decide_eq_false t5] at HSM
        have hno : ¬ ∀ i, 1 ≤ i → i ≤ n → clashOf (l.take i) (m.take i) = false := fun h => t5 (chain_equal C1.out C2.out (by rw [← HN.out, ← HN2.out]) (by rw [← HHX.out, ← HHY.out]; exact T4.out) (by rw [← HN.out]; exact h))
        have HNO := Lib.hid hno
        have HCL := Lib.hid (fun (k : Nat) (h1 : 1 ≤ k) (h2 : k ≤ n) W (hb : Below w.heap.size w W) => clash_any A B (l.take k) (m.take k) k k c c2 (by rw [List.length_take, ← HN.out]; omega) (by rw [List.length_take, ← HN2.out]; omega) (by omega) (by omega) (by omega) (by omega)
          (chk_fine (chkOk_take C1.out k) (by rw [List.length_take]; omega)) (chk_fine (chkOk_take C2.out k) (by rw [List.length_take]; omega)) W (HL.out.below hb) ((HA.out.later hb).take k) ((HB.out.later hb).take k))
        clear t5 hno
        go_enter Tryd.func11, Tryd.ntmps11
        go_wp2_with fail
        refine (HS.out w HL.out).mono ?_
        rintro e w1 ⟨rfl, hb1⟩
        go_wp2_with fail
        refine (HFA.out w1 hb1).mono ?_
        rintro e w1' ⟨rfl, rfl⟩
        go_wp2_with (refine wpList_skip (by rfl) ?_)
        refine (HFB.out w1 hb1).mono ?_
        rintro e w1' ⟨rfl, rfl⟩
        go_wp2_with (refine wpList_skip (by rfl) ?_)
        refine (HCA.out w1 hb1).mono ?_
        rintro e w2 ⟨rfl, hb2⟩
        have hB2 := hb1.trans (hb2.mono hb1.size)
        clear hb1 hb2
        go_wp2_with (refine wpList_skip (by rfl) ?_)
        refine (HCB.out w2 hB2).mono ?_
        rintro e w3 ⟨rfl, hb3⟩
        have hB3 := hB2.trans (hb3.mono hB2.size)
        clear hB2 hb3
        go_wp2_with (refine wpList_skip (by rfl) ?_)
        refine (HHA.out w3 hB3).mono ?_
        rintro e w4 ⟨rfl, hb4⟩
        have hB4 := hB3.trans (hb4.mono hB3.size)
        clear hB3 hb4
        go_wp2_with fail
        refine (HHB.out w4 hB4).mono ?_
        rintro e w5 ⟨rfl, hb5⟩
        have hB5 := hB4.trans (hb5.mono hB4.size)
        clear hB4 hb5
        go_wp2_with (refine neq_dig_b (by rfl) _ _ _ rfl HX HY d1 d2 rfl rfl _ NB.out ?_)
        refine (HSM.out w5 hB5).mono ?_
        rintro e w6 ⟨rfl, hb6⟩
        have hB6 := hB5.trans (hb6.mono hB5.size)
        clear hB5 hb6
        go_wp2_with fail
        go_loopw [5] (fun i wr => ∃ k : Nat, 1 ≤ k ∧ k ≤ n + 1 ∧ i = .int .i64 k ∧ (∀ j, 1 ≤ j → j < k → clashOf (l.take j) (m.take j) = false) ∧ Below w.heap.size w wr) (fun i _ => n + 1 - (intOf i).toNat)
        case atStart => exact ⟨1, by omega, by omega, rfl, fun j h1 h2 => by omega, hB6⟩
        case round =>
          clear hB6
          obtain ⟨k, hk1, hk2, rfl, hall, hB⟩ := hrel
          have HALL := Lib.hid hall
          clear hall
          by_cases hlt : k ≤ n
          · have hs1 := fun W => slice_upto_links W A n c k hlt hc
            have hs2 := fun W => slice_upto_links W B n c2 k hlt hc2
            obtain ⟨cl, hcl⟩ : ∃ cl, cl = clashOf (l.take k) (m.take k) := ⟨_, rfl⟩
            have HC := Lib.hid (fun (i : Ext wr) => HCL.out k hk1 hlt i.W (hB.trans (i.below.mono hB.size)))
            rw [← hcl] at HC
            have HCLE := Lib.hid hcl
            clear hcl
            go_wp2_with fail
            refine wp_region_quiet_ext (by kernel_rfl) (by kernel_rfl) ?_
            repeat (go_big_quiet_step ((go_at_call 46; exact Ext.call (HC.out _))))
            refine wpQuiet_nil ?_
            rintro Wd ⟨⟨_, hWd⟩, rfl⟩
            have hBd := hB.trans (hWd.mono hB.size)
            clear hWd hB
            cases cl with
            | true =>
              go_wp2
              go_ret
              exact ⟨rfl, hBd⟩
            | false =>
              have hT : ∀ j, 1 ≤ j → j < k + 1 → clashOf (l.take j) (m.take j) = false := fun j h1 h2 => by
                rcases Nat.lt_or_ge j k with h | h
                · exact HALL.out j h1 h
                · obtain rfl : j = k := by omega
                  exact HCLE.out.symm
              have HT := Lib.hid hT
              clear hT
              go_wp2
              go_roundw
              case rel => exact ⟨k + 1, by omega, by omega, by go_num, HT.out, hBd⟩
              case measure => simp [intOf]; omega
          · exact absurd (fun i h1 h2 => HALL.out i h1 (by omega)) HNO.out
end Go.Proofs.YtibnikokgbfcdaaDoor

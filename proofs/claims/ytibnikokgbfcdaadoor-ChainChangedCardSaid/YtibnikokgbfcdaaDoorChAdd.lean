/- The law podiumlaw08.ChainAddSpec: for all links, nodes and data she returns true. -/
import Derived.Test.YtibnikokgbfcdaaDoorChParts
namespace Go.Proofs.YtibnikokgbfcdaaDoor
open Go Go.RowKit

set_option maxRecDepth 100000 in
set_option linter.unusedSimpArgs false in
set_option linter.unusedVariables false in
set_option maxHeartbeats 16000000 in
theorem chainAdd_any (A : Option Addr) (l : List Lk) (c : Nat) (hc : l.length ≤ c) (hcc : c ≤ 9223372036854775807) (hd : ∀ x ∈ l, x.data.length ≤ 9223372036854775807) (B : Option Addr) (m : List Lk) (c2 : Nat) (hc2 : m.length ≤ c2) (hcc2 : c2 ≤ 9223372036854775807) (hd2 : ∀ x ∈ m, x.data.length ≤ 9223372036854775807)
    (node : Int) (D : Option Addr) (d : List UInt8) (dc : Nat) (hdc : d.length ≤ dc) (hdc2 : dc ≤ 9223372036854775807) (hDn : D = none → d.length = 0 ∧ dc = 0) (w : World) (hL : Laid w)
    (hA : LRd w w.heap.size A l) (hB : LRd w w.heap.size B m) (hD : RdB w w.heap.size D d) : Calls Tryd.prog 9 #[.slice A l.length c, .slice B m.length c2, .int .i64 node, .slice D d.length dc] w (Ret (.bool true) w) := by
  have HS := Lib.hid (fun W h => sane08_ok W h)
  have HL := Lib.hid hL
  have HFA := Lib.hid (fun W (hb : Below w.heap.size w W) => r8Few_any A l l.length c rfl (by omega) W (hA.later hb) hd)
  have HFB := Lib.hid (fun W (hb : Below w.heap.size w W) => r8Few_any B m m.length c2 rfl (by omega) W (hB.later hb) hd2)
  have hd9 : d.length ≤ 9223372036854775807 := by omega
  cases fa : fewLk l with
  | false =>
    rw [fa] at HFA
    obtain ⟨n, hn⟩ : ∃ n, n = l.length := ⟨_, rfl⟩
    obtain ⟨n2, hn2⟩ : ∃ n2, n2 = m.length := ⟨_, rfl⟩
    obtain ⟨dn, hdn⟩ : ∃ dn, dn = d.length := ⟨_, rfl⟩
    rw [← hn] at HFA ⊢
    rw [← hn2] at HFB ⊢
    rw [← hdn] at hd9 ⊢
    clear hL hA hB hD hd hd2 hn hn2 hdn fa hc hc2 hdc hDn
    go_enter Tryd.func9, Tryd.ntmps9
    go_wp2_with fail
    refine (HS.out w HL.out).mono ?_
    rintro e w1 ⟨rfl, hb1⟩
    go_wp2_with fail
    refine (HFA.out w1 hb1).mono ?_
    rintro e w1' ⟨rfl, rfl⟩
    go_wp2_with (refine wpList_skip (by rfl) ?_)
    go_ret
    exact ⟨rfl, hb1⟩
  | true =>
    rw [fa] at HFA
    cases fb : fewLk m with
    | false =>
      rw [fb] at HFB
      obtain ⟨n, hn⟩ : ∃ n, n = l.length := ⟨_, rfl⟩
      obtain ⟨n2, hn2⟩ : ∃ n2, n2 = m.length := ⟨_, rfl⟩
      obtain ⟨dn, hdn⟩ : ∃ dn, dn = d.length := ⟨_, rfl⟩
      rw [← hn] at HFA ⊢
      rw [← hn2] at HFB ⊢
      rw [← hdn] at hd9 ⊢
      clear hL hA hB hD hd hd2 hn hn2 hdn fa fb hc hc2 hdc hDn
      go_enter Tryd.func9, Tryd.ntmps9
      go_wp2_with fail
      refine (HS.out w HL.out).mono ?_
      rintro e w1 ⟨rfl, hb1⟩
      go_wp2_with fail
      refine (HFA.out w1 hb1).mono ?_
      rintro e w1' ⟨rfl, rfl⟩
      go_wp2_with (refine wpList_skip (by rfl) ?_)
      refine (HFB.out w1 hb1).mono ?_
      rintro e w1' ⟨rfl, rfl⟩
      go_wp2_with (refine wpList_skip (by rfl) ?_)
      go_ret
      exact ⟨rfl, hb1⟩
    | true =>
      rw [fb] at HFB
      by_cases d3 : 300 < d.length ∧ d.length ≤ 65536
      · obtain ⟨n, hn⟩ : ∃ n, n = l.length := ⟨_, rfl⟩
        obtain ⟨n2, hn2⟩ : ∃ n2, n2 = m.length := ⟨_, rfl⟩
        obtain ⟨dn, hdn⟩ : ∃ dn, dn = d.length := ⟨_, rfl⟩
        rw [← hdn] at d3
        obtain ⟨d4, d5⟩ := d3
        have g1 : decide ((300 : Int) < (dn : Int)) = true := decide_eq_true (by omega)
        have g2 : decide ((dn : Int) ≤ (65536 : Int)) = true := decide_eq_true (by omega)
        rw [← hn] at HFA ⊢
        rw [← hn2] at HFB ⊢
        rw [← hdn] at hd9 ⊢
        clear hL hA hB hD hd hd2 hn hn2 hdn fa fb hc hc2 hdc hDn
        go_enter Tryd.func9, Tryd.ntmps9
        go_wp2_with fail
        refine (HS.out w HL.out).mono ?_
        rintro e w1 ⟨rfl, hb1⟩
        go_wp2_with fail
        refine (HFA.out w1 hb1).mono ?_
        rintro e w1' ⟨rfl, rfl⟩
        go_wp2_with (refine wpList_skip (by rfl) ?_)
        refine (HFB.out w1 hb1).mono ?_
        rintro e w1' ⟨rfl, rfl⟩
        go_wp2_with (refine wpList_skip (by rfl) ?_)
        go_ret
        exact ⟨rfl, hb1⟩
      · obtain ⟨l1, l2⟩ := few_len fa
        obtain ⟨m1, m2⟩ := few_len fb
        have HPA := Lib.hid (fun W (hb : Below w.heap.size w W) => part_any A B l m l.length m.length c c2 rfl rfl hc hc2 hcc hcc2 W (hL.below hb) (hA.later hb) (hB.later hb) l2 m2)
        have HPB := Lib.hid (fun W (hb : Below w.heap.size w W) => r8Part_any A B l m l.length m.length c c2 rfl rfl hc hc2 hcc hcc2 W (hA.later hb) (hB.later hb) l2 m2)
        have HAD := Lib.hid (fun W (hb : Below w.heap.size w W) => add_any A D l node d l.length c d.length dc rfl hc hcc rfl (by omega) hDn W (hL.below hb) (hA.later hb) ((Rd.below hD hb).more hb.size) l2)
        have HRA := Lib.hid (fun W (hb : Below w.heap.size w W) => r8Add_any A D l node d l.length c d.length dc rfl hc hcc rfl (by omega) hdc hdc2 W (hA.later hb) ((Rd.below hD hb).more hb.size) l2)
        obtain ⟨⟨pi, pb, pe⟩, hpp⟩ : ∃ P, P = partOf l m := ⟨_, rfl⟩
        rw [← hpp] at HPA HPB
        obtain ⟨n, hn⟩ : ∃ n, n = l.length := ⟨_, rfl⟩
        obtain ⟨n2, hn2⟩ : ∃ n2, n2 = m.length := ⟨_, rfl⟩
        obtain ⟨dn, hdn⟩ : ∃ dn, dn = d.length := ⟨_, rfl⟩
        have HN := Lib.hid hn
        obtain ⟨E, hE⟩ : ∃ E, E = addErr l node d.length := ⟨_, rfl⟩
        unfold AddPost at HAD HRA
        rw [← hE] at HAD HRA
        rw [← hn] at HFA HPA HPB HAD HRA l1 ⊢
        rw [← hn2] at HFB HPA HPB m1 ⊢
        rw [← hdn] at HAD HRA d3 ⊢
        clear hL hA hB hD hd hd2 fa fb l2 m2 hpp hn hn2 hdn hE hc hc2 hdc
        by_cases d4 : 300 < dn
        · have d5 : ¬ dn ≤ 65536 := fun h => d3 ⟨d4, h⟩
          have g1 : decide ((300 : Int) < (dn : Int)) = true := decide_eq_true (by omega)
          have g2 : decide ((dn : Int) ≤ (65536 : Int)) = false := decide_eq_false (by omega)
          clear d3
          go_enter Tryd.func9, Tryd.ntmps9
          go_wp2_with fail
          refine (HS.out w HL.out).mono ?_
          rintro e w1 ⟨rfl, hb1⟩
          go_wp2_with fail
          refine (HFA.out w1 hb1).mono ?_
          rintro e w1' ⟨rfl, rfl⟩
          go_wp2_with (refine wpList_skip (by rfl) ?_)
          refine (HFB.out w1 hb1).mono ?_
          rintro e w1' ⟨rfl, rfl⟩
          go_wp2_with (refine wpList_skip (by rfl) ?_)
          refine (HAD.out w1 hb1).mono ?_
          rintro e w2 (⟨hE0, X, cx, rfl, hcx, hcx2, hx2, hb2⟩ | ⟨hE0, rfl, hb2⟩)
          · subst hE0
            have hB2 := hb1.trans (hb2.mono hb1.size)
            clear hb1 hb2
            go_wp2_with fail
            refine (HRA.out w2 hB2).mono ?_
            rintro e w3 (⟨-, Y, cy, rfl, hcy, hcy2, hy3, hb3⟩ | ⟨hE1, -⟩)
            · have hB3 := hB2.trans (hb3.mono hB2.size)
              have hx3 := hx2.later hb3
              clear hB2 hb3 hx2
              go_wp2_with fail
              refine (HPA.out w3 hB3).mono ?_
              rintro e w4 ⟨rfl, hb4⟩
              have hB4 := hB3.trans (hb4.mono hB3.size)
              have hx4 := hx3.later hb4
              have hy4 := hy3.later hb4
              clear hb4 hB3
              simp only [partVal]
              go_wp2_with fail
              refine (HPB.out w4 hB4).mono ?_
              rintro e w5 ⟨rfl, hb5⟩
              have hB5 := hB4.trans (hb5.mono hB4.size)
              have hx5 := hx4.later hb5
              have hy5 := hy4.later hb5
              clear hb5 hB4
              simp only [partVal]
              have hsm := r8Same_any X Y (addL l node d) (addL l node d) (n + 1) (n + 1) cx cy (by rw [addL_length, HN.out]) (by rw [addL_length, HN.out]) hcx hcy hcx2 hcy2 w5 hx5 hy5
              rw [decide_eq_true rfl] at hsm
              have HSM := Lib.hid hsm
              clear hsm
              go_wp2_with fail
              refine HSM.out.mono ?_
              rintro e w6 ⟨rfl, hb6⟩
              have hB6 := hB5.trans (hb6.mono hB5.size)
              clear hb6 hB5
              have q1 : (pi == pi) = true := by simp
              have q2 : (pe == pe) = true := by simp
              cases pb
              all_goals
                go_wp2_with (refine wpList_skip (by rfl) ?_)
                go_ret
                exact ⟨rfl, hB6⟩
            · exact absurd rfl hE1
          · have hB2 := hb1.trans (hb2.mono hb1.size)
            clear hb1 hb2
            go_wp2_with fail
            refine (HRA.out w2 hB2).mono ?_
            rintro e w3 (⟨hE1, -⟩ | ⟨-, rfl, hb3⟩)
            · exact absurd hE1 hE0
            · have hB3 := hB2.trans (hb3.mono hB2.size)
              clear hB2 hb3 hE0
              go_wp2_with fail
              refine (HPA.out w3 hB3).mono ?_
              rintro e w4 ⟨rfl, hb4⟩
              have hB4 := hB3.trans (hb4.mono hB3.size)
              clear hb4 hB3
              simp only [partVal]
              go_wp2_with fail
              refine (HPB.out w4 hB4).mono ?_
              rintro e w5 ⟨rfl, hb5⟩
              have hB5 := hB4.trans (hb5.mono hB4.size)
              clear hb5 hB4
              simp only [partVal]
              have hsm := r8Same_any none none [] [] 0 0 0 0 rfl rfl (Nat.le_refl _) (Nat.le_refl _) (by decide) (by decide) w5 LRd.nil LRd.nil
              rw [decide_eq_true rfl] at hsm
              have q0 : (E == E) = true := by simp
              have HSM := Lib.hid hsm
              clear hsm
              go_wp2_with fail
              refine HSM.out.mono ?_
              rintro e w6 ⟨rfl, hb6⟩
              have hB6 := hB5.trans (hb6.mono hB5.size)
              clear hb6 hB5
              have q1 : (pi == pi) = true := by simp
              have q2 : (pe == pe) = true := by simp
              cases pb
              all_goals
                go_wp2_with (refine wpList_skip (by rfl) ?_)
                go_ret
                exact ⟨rfl, hB6⟩
        · have g1 : decide ((300 : Int) < (dn : Int)) = false := decide_eq_false (by omega)
          clear d3
          go_enter Tryd.func9, Tryd.ntmps9
          go_wp2_with fail
          refine (HS.out w HL.out).mono ?_
          rintro e w1 ⟨rfl, hb1⟩
          go_wp2_with fail
          refine (HFA.out w1 hb1).mono ?_
          rintro e w1' ⟨rfl, rfl⟩
          go_wp2_with (refine wpList_skip (by rfl) ?_)
          refine (HFB.out w1 hb1).mono ?_
          rintro e w1' ⟨rfl, rfl⟩
          go_wp2_with (refine wpList_skip (by rfl) ?_)
          refine (HAD.out w1 hb1).mono ?_
          rintro e w2 (⟨hE0, X, cx, rfl, hcx, hcx2, hx2, hb2⟩ | ⟨hE0, rfl, hb2⟩)
          · subst hE0
            have hB2 := hb1.trans (hb2.mono hb1.size)
            clear hb1 hb2
            go_wp2_with fail
            refine (HRA.out w2 hB2).mono ?_
            rintro e w3 (⟨-, Y, cy, rfl, hcy, hcy2, hy3, hb3⟩ | ⟨hE1, -⟩)
            · have hB3 := hB2.trans (hb3.mono hB2.size)
              have hx3 := hx2.later hb3
              clear hB2 hb3 hx2
              go_wp2_with fail
              refine (HPA.out w3 hB3).mono ?_
              rintro e w4 ⟨rfl, hb4⟩
              have hB4 := hB3.trans (hb4.mono hB3.size)
              have hx4 := hx3.later hb4
              have hy4 := hy3.later hb4
              clear hb4 hB3
              simp only [partVal]
              go_wp2_with fail
              refine (HPB.out w4 hB4).mono ?_
              rintro e w5 ⟨rfl, hb5⟩
              have hB5 := hB4.trans (hb5.mono hB4.size)
              have hx5 := hx4.later hb5
              have hy5 := hy4.later hb5
              clear hb5 hB4
              simp only [partVal]
              have hsm := r8Same_any X Y (addL l node d) (addL l node d) (n + 1) (n + 1) cx cy (by rw [addL_length, HN.out]) (by rw [addL_length, HN.out]) hcx hcy hcx2 hcy2 w5 hx5 hy5
              rw [decide_eq_true rfl] at hsm
              have HSM := Lib.hid hsm
              clear hsm
              go_wp2_with fail
              refine HSM.out.mono ?_
              rintro e w6 ⟨rfl, hb6⟩
              have hB6 := hB5.trans (hb6.mono hB5.size)
              clear hb6 hB5
              have q1 : (pi == pi) = true := by simp
              have q2 : (pe == pe) = true := by simp
              cases pb
              all_goals
                go_wp2_with (refine wpList_skip (by rfl) ?_)
                go_ret
                exact ⟨rfl, hB6⟩
            · exact absurd rfl hE1
          · have hB2 := hb1.trans (hb2.mono hb1.size)
            clear hb1 hb2
            go_wp2_with fail
            refine (HRA.out w2 hB2).mono ?_
            rintro e w3 (⟨hE1, -⟩ | ⟨-, rfl, hb3⟩)
            · exact absurd hE1 hE0
            · have hB3 := hB2.trans (hb3.mono hB2.size)
              clear hB2 hb3 hE0
              go_wp2_with fail
              refine (HPA.out w3 hB3).mono ?_
              rintro e w4 ⟨rfl, hb4⟩
              have hB4 := hB3.trans (hb4.mono hB3.size)
              clear hb4 hB3
              simp only [partVal]
              go_wp2_with fail
              refine (HPB.out w4 hB4).mono ?_
              rintro e w5 ⟨rfl, hb5⟩
              have hB5 := hB4.trans (hb5.mono hB4.size)
              clear hb5 hB4
              simp only [partVal]
              have hsm := r8Same_any none none [] [] 0 0 0 0 rfl rfl (Nat.le_refl _) (Nat.le_refl _) (by decide) (by decide) w5 LRd.nil LRd.nil
              rw [decide_eq_true rfl] at hsm
              have q0 : (E == E) = true := by simp
              have HSM := Lib.hid hsm
              clear hsm
              go_wp2_with fail
              refine HSM.out.mono ?_
              rintro e w6 ⟨rfl, hb6⟩
              have hB6 := hB5.trans (hb6.mono hB5.size)
              clear hb6 hB5
              have q1 : (pi == pi) = true := by simp
              have q2 : (pe == pe) = true := by simp
              cases pb
              all_goals
                go_wp2_with (refine wpList_skip (by rfl) ?_)
                go_ret
                exact ⟨rfl, hB6⟩
end Go.Proofs.YtibnikokgbfcdaaDoor

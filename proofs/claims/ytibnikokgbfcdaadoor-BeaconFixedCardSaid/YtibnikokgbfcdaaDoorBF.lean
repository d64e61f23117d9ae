/- Walks: podiumref31.party, Formed; podiumlaw31.formed. -/
import Derived.Test.YtibnikokgbfcdaaDoorB9
import Derived.IntWalk
namespace Go.Proofs.YtibnikokgbfcdaaDoor
open Go Go.RowKit

def partyB (k : Int) : Bool := decide (0 ≤ k) && decide (k < 24)
set_option maxRecDepth 100000 in
set_option linter.unusedSimpArgs false in
theorem r31party_any (k : Int) (w : World) : Calls Tryd.prog 89 #[.int .i64 k] w (fun e w' => e = .returned (.bool (partyB k)) ∧ w = w') := by
  unfold partyB
  by_cases h0 : 0 ≤ k
  · have g0 : decide (0 ≤ k) = true := decide_eq_true h0
    rw [g0, Bool.true_and]
    go_enter Tryd.func89, Tryd.ntmps89
    go_wp2_with fail
    go_ret
    exact ⟨rfl, rfl⟩
  · have g0 : decide (0 ≤ k) = false := decide_eq_false h0
    rw [g0, Bool.false_and]
    go_enter Tryd.func89, Tryd.ntmps89
    go_wp2_with (refine wpList_skip (by rfl) ?_)
    go_ret
    exact ⟨rfl, rfl⟩
/-- In form so far. -/
def formTo (l : List Pd) (t : Nat) : Prop := ∀ k, k < t → 0 ≤ (l.getD k pd0).party ∧ (l.getD k pd0).party < 24 ∧ (0 < k → (l.getD (k - 1) pd0).party < (l.getD k pd0).party)
theorem formTo_all {l : List Pd} : formTo l l.length ↔ inForm l := Iff.rfl
theorem formTo_step {l : List Pd} {t : Nat} (h : formTo l t) (h0 : 0 ≤ (l.getD t pd0).party ∧ (l.getD t pd0).party < 24) (h1 : 0 < t → (l.getD (t - 1) pd0).party < (l.getD t pd0).party) : formTo l (t + 1) := fun k hk => by
  rcases Nat.lt_or_ge k t with h2 | h2
  · exact h k h2
  · obtain rfl : k = t := by omega
    exact ⟨h0.1, h0.2, h1⟩
theorem PRd.party {w : World} {B : Nat} {A : Option Addr} {l : List Pd} (h : PRd w B A l) {b off : Nat} (hA : A = some ⟨b, off, none⟩) {k : Nat} (hk : k < l.length) : w.cell? ⟨b, off + k * 33, none⟩ = some (.int .i64 (l.getD k pd0).party) := by
  obtain ⟨b', off', e, -, hp⟩ := h.at_ hk
  rw [hA] at e
  cases e
  exact hp.2 0 _ rfl
set_option maxRecDepth 100000 in
set_option linter.unusedSimpArgs false in
set_option linter.unusedVariables false in
set_option maxHeartbeats 8000000 in
theorem r31Formed_any (A B : Option Addr) (l r : List Pd) (n c k c2 : Nat) (hn : n = l.length) (hk : k = r.length) (hn2 : n ≤ 1000000) (hk2 : k ≤ 1000000) (hil : PdInts l) (hir : PdInts r) (w : World) (hA : PRd w w.heap.size A l) (hB : PRd w w.heap.size B r) :
    Calls Tryd.prog 95 #[.slice A n c, .slice B k c2] w (Ret (.bool (formB l && formB r)) w) := by
  have HA := Lib.hid hA
  have HB := Lib.hid hB
  have HN := Lib.hid hn
  have HK := Lib.hid hk
  have HP := Lib.hid (fun (p : Int) (W : World) => r31party_any p W)
  clear hA hB hn hk
  go_enter Tryd.func95, Tryd.ntmps95
  go_wp2_with fail
  go_loopw [5] (fun ii wr => ∃ t : Nat, t ≤ n ∧ ii = .int .i64 t ∧ formTo l t ∧ Below w.heap.size w wr) (fun ii _ => n - (intOf ii).toNat)
  case atStart => exact ⟨0, by omega, rfl, fun k hk => by omega, Below.refl _ _⟩
  case round =>
    obtain ⟨t, ht, rfl, hF, hBr⟩ := hrel
    by_cases hlt : t < n
    · obtain ⟨b, off, rfl, hbl, -⟩ := HA.out.at_ (k := t) (by rw [← HN.out]; exact hlt)
      have hpr := HA.out.below hBr
      obtain ⟨p, hp⟩ : ∃ p, p = (l.getD t pd0).party := ⟨_, rfl⟩
      have hc := hpr.party rfl (k := t) (by rw [← HN.out]; exact hlt)
      rw [← hp] at hc
      have ck : ∀ i : Ext wr, i.W.cell? ⟨b, off + t * 33, none⟩ = some (.int .i64 p) := Ext.cell hc
      have HPP := Lib.hid (fun (i : Ext wr) => HP.out p i.W)
      have HPV := Lib.hid hp
      have HFO := Lib.hid hF
      clear hp hF
      by_cases hpb : 0 ≤ p ∧ p < 24
      · have hpB : partyB p = true := by simp [partyB, hpb]
        rw [hpB] at HPP
        rcases Nat.eq_zero_or_pos t with rfl | h0
        · have ck0 : ∀ i : Ext wr, i.W.cell? ⟨b, off, none⟩ = some (.int .i64 p) := fun i => by
            have h := ck i
            rw [Nat.zero_mul, Nat.add_zero] at h
            exact h
          clear ck
          have HST := Lib.hid (formTo_step HFO.out (by rw [← HPV.out]; exact hpb) (fun h => by omega))
          clear hpr hc
          go_wp2_with fail
          refine wp_region_quiet_ext (by kernel_rfl) (by kernel_rfl) ?_
          repeat (go_big_quiet_step ((go_at_call 89; exact Ext.same (HPP.out _))))
          refine wpQuiet_nil ?_
          rintro Wd ⟨⟨_, hWd⟩, rfl⟩
          have hBd := hBr.trans (hWd.mono hBr.size)
          go_wp2_with fail
          go_roundw
          case rel => exact ⟨0 + 1, by omega, by go_num, HST.out, hBd⟩
          case measure => simp [intOf]; omega
        · have g0 : decide ((0 : Int) < (t : Int)) = true := decide_eq_true (by omega)
          obtain ⟨s, rfl⟩ : ∃ s, t = s + 1 := ⟨t - 1, by omega⟩
          obtain ⟨q, hq⟩ : ∃ q, q = (l.getD s pd0).party := ⟨_, rfl⟩
          have hc2 := hpr.party rfl (k := s) (by rw [← HN.out]; omega)
          rw [← hq] at hc2
          have cq : ∀ i : Ext wr, i.W.cell? ⟨b, off + s * 33, none⟩ = some (.int .i64 q) := Ext.cell hc2
          have hs1 : ((s + 1 : Nat) : Int) - 1 = (s : Int) := by omega
          have hs2 : IntKind.i64.wrap (s : Int) = (s : Int) := Go.IntWalk.i64_in _ (by omega)
          have HQV := Lib.hid hq
          clear hpr hc hc2 hq
          by_cases hqp : q < p
          · have g1 : decide (p ≤ q) = false := decide_eq_false (by omega)
            have HST := Lib.hid (formTo_step HFO.out (by rw [← HPV.out]; exact hpb) (fun _ => by rw [Nat.add_sub_cancel, ← HPV.out, ← HQV.out]; exact hqp))
            clear hqp
            go_wp2_with fail
            refine wp_region_quiet_ext (by kernel_rfl) (by kernel_rfl) ?_
            repeat (go_big_quiet_step ((go_at_call 89; exact Ext.same (HPP.out _))))
            refine wpQuiet_nil ?_
            rintro Wd ⟨⟨_, hWd⟩, rfl⟩
            have hBd := hBr.trans (hWd.mono hBr.size)
            go_wp2_with fail
            go_roundw
            case rel => exact ⟨s + 1 + 1, by omega, by go_num, HST.out, hBd⟩
            case measure => simp [intOf]; omega
          · have g1 : decide (p ≤ q) = true := decide_eq_true (by omega)
            have HNO := Lib.hid (show formB l = false from formB_false.2 fun h => hqp (by rw [HPV.out, HQV.out]; exact h.lt s (s + 1) (by omega) (by rw [← HN.out]; exact hlt)))
            clear hqp
            go_wp2_with fail
            refine wp_region_quiet_ext (by kernel_rfl) (by kernel_rfl) ?_
            repeat (go_big_quiet_step ((go_at_call 89; exact Ext.same (HPP.out _))))
            refine wpQuiet_nil ?_
            rintro Wd ⟨⟨_, hWd⟩, rfl⟩
            have hBd := hBr.trans (hWd.mono hBr.size)
            go_wp2_with fail
            go_ret
            exact ⟨(by rw [HNO.out, Bool.false_and]; first | done | rfl), hBd⟩
      · have hpB : partyB p = false := by
          rw [partyB, Bool.and_eq_false_iff, decide_eq_false_iff_not, decide_eq_false_iff_not]
          omega
        rw [hpB] at HPP
        have HNO := Lib.hid (show formB l = false from formB_false.2 fun h => hpb (by rw [HPV.out]; exact ⟨(h t (by rw [← HN.out]; exact hlt)).1, (h t (by rw [← HN.out]; exact hlt)).2.1⟩))
        clear hpr hc hpb hpB
        go_wp2_with fail
        refine wp_region_quiet_ext (by kernel_rfl) (by kernel_rfl) ?_
        repeat (go_big_quiet_step ((go_at_call 89; exact Ext.same (HPP.out _))))
        refine wpQuiet_nil ?_
        rintro Wd ⟨⟨_, hWd⟩, rfl⟩
        have hBd := hBr.trans (hWd.mono hBr.size)
        go_wp2_with fail
        go_ret
        exact ⟨(by rw [HNO.out, Bool.false_and]; first | done | rfl), hBd⟩
    · obtain rfl : t = n := by omega
      have HFL := Lib.hid (show formB l = true from formB_true.2 (formTo_all.1 (by rw [← HN.out]; exact hF)))
      clear hF
      go_wp2_with fail
      go_loopw [6] (fun ii wr => ∃ u : Nat, u ≤ k ∧ ii = .int .i64 u ∧ formTo r u ∧ Below w.heap.size w wr) (fun ii _ => k - (intOf ii).toNat)
      case atStart => exact ⟨0, by omega, rfl, fun k hk => by omega, hBr⟩
      case round =>
        obtain ⟨u, ht, rfl, hF, hBr⟩ := hrel
        by_cases hlt : u < k
        · obtain ⟨b, off, rfl, hbl, -⟩ := HB.out.at_ (k := u) (by rw [← HK.out]; exact hlt)
          have hpr := HB.out.below hBr
          obtain ⟨p2, hp⟩ : ∃ p2, p2 = (r.getD u pd0).party := ⟨_, rfl⟩
          have hc := hpr.party rfl (k := u) (by rw [← HK.out]; exact hlt)
          rw [← hp] at hc
          have ck : ∀ i : Ext wr, i.W.cell? ⟨b, off + u * 33, none⟩ = some (.int .i64 p2) := Ext.cell hc
          have HPP := Lib.hid (fun (i : Ext wr) => HP.out p2 i.W)
          have HPV := Lib.hid hp
          have HFO := Lib.hid hF
          clear hp hF
          by_cases hpb : 0 ≤ p2 ∧ p2 < 24
          · have hpB : partyB p2 = true := by simp [partyB, hpb]
            rw [hpB] at HPP
            rcases Nat.eq_zero_or_pos u with rfl | h0
            · have ck0 : ∀ i : Ext wr, i.W.cell? ⟨b, off, none⟩ = some (.int .i64 p2) := fun i => by
                have h := ck i
                rw [Nat.zero_mul, Nat.add_zero] at h
                exact h
              clear ck
              have HST := Lib.hid (formTo_step HFO.out (by rw [← HPV.out]; exact hpb) (fun h => by omega))
              clear hpr hc
              go_wp2_with fail
              refine wp_region_quiet_ext (by kernel_rfl) (by kernel_rfl) ?_
              repeat (go_big_quiet_step ((go_at_call 89; exact Ext.same (HPP.out _))))
              refine wpQuiet_nil ?_
              rintro Wd ⟨⟨_, hWd⟩, rfl⟩
              have hBd := hBr.trans (hWd.mono hBr.size)
              go_wp2_with fail
              go_roundw
              case rel => exact ⟨0 + 1, by omega, by go_num, HST.out, hBd⟩
              case measure => simp [intOf]; omega
            · have g0 : decide ((0 : Int) < (u : Int)) = true := decide_eq_true (by omega)
              obtain ⟨s2, rfl⟩ : ∃ s2, u = s2 + 1 := ⟨u - 1, by omega⟩
              obtain ⟨q2, hq⟩ : ∃ q2, q2 = (r.getD s2 pd0).party := ⟨_, rfl⟩
              have hc2 := hpr.party rfl (k := s2) (by rw [← HK.out]; omega)
              rw [← hq] at hc2
              have cq : ∀ i : Ext wr, i.W.cell? ⟨b, off + s2 * 33, none⟩ = some (.int .i64 q2) := Ext.cell hc2
              have hs1 : ((s2 + 1 : Nat) : Int) - 1 = (s2 : Int) := by omega
              have hs2 : IntKind.i64.wrap (s2 : Int) = (s2 : Int) := Go.IntWalk.i64_in _ (by omega)
              have HQV := Lib.hid hq
              clear hpr hc hc2 hq
              by_cases hqp : q2 < p2
              · have g1 : decide (p2 ≤ q2) = false := decide_eq_false (by omega)
                have HST := Lib.hid (formTo_step HFO.out (by rw [← HPV.out]; exact hpb) (fun _ => by rw [Nat.add_sub_cancel, ← HPV.out, ← HQV.out]; exact hqp))
                clear hqp
                go_wp2_with fail
                refine wp_region_quiet_ext (by kernel_rfl) (by kernel_rfl) ?_
                repeat (go_big_quiet_step ((go_at_call 89; exact Ext.same (HPP.out _))))
                refine wpQuiet_nil ?_
                rintro Wd ⟨⟨_, hWd⟩, rfl⟩
                have hBd := hBr.trans (hWd.mono hBr.size)
                go_wp2_with fail
                go_roundw
                case rel => exact ⟨s2 + 1 + 1, by omega, by go_num, HST.out, hBd⟩
                case measure => simp [intOf]; omega
              · have g1 : decide (p2 ≤ q2) = true := decide_eq_true (by omega)
                have HNO := Lib.hid (show formB r = false from formB_false.2 fun h => hqp (by rw [HPV.out, HQV.out]; exact h.lt s2 (s2 + 1) (by omega) (by rw [← HK.out]; exact hlt)))
                clear hqp
                go_wp2_with fail
                refine wp_region_quiet_ext (by kernel_rfl) (by kernel_rfl) ?_
                repeat (go_big_quiet_step ((go_at_call 89; exact Ext.same (HPP.out _))))
                refine wpQuiet_nil ?_
                rintro Wd ⟨⟨_, hWd⟩, rfl⟩
                have hBd := hBr.trans (hWd.mono hBr.size)
                go_wp2_with fail
                go_ret
                exact ⟨(by rw [HFL.out, HNO.out]; first | done | rfl), hBd⟩
          · have hpB : partyB p2 = false := by
              rw [partyB, Bool.and_eq_false_iff, decide_eq_false_iff_not, decide_eq_false_iff_not]
              omega
            rw [hpB] at HPP
            have HNO := Lib.hid (show formB r = false from formB_false.2 fun h => hpb (by rw [HPV.out]; exact ⟨(h u (by rw [← HK.out]; exact hlt)).1, (h u (by rw [← HK.out]; exact hlt)).2.1⟩))
            clear hpr hc hpb hpB
            go_wp2_with fail
            refine wp_region_quiet_ext (by kernel_rfl) (by kernel_rfl) ?_
            repeat (go_big_quiet_step ((go_at_call 89; exact Ext.same (HPP.out _))))
            refine wpQuiet_nil ?_
            rintro Wd ⟨⟨_, hWd⟩, rfl⟩
            have hBd := hBr.trans (hWd.mono hBr.size)
            go_wp2_with fail
            go_ret
            exact ⟨(by rw [HFL.out, HNO.out]; first | done | rfl), hBd⟩
        · obtain rfl : u = k := by omega
          have HFR := Lib.hid (show formB r = true from formB_true.2 (formTo_all.1 (by rw [← HK.out]; exact hF)))
          clear hF
          go_wp2_with fail
          go_ret
          exact ⟨(by rw [HFL.out, HFR.out]; first | done | rfl), hBr⟩
set_option maxRecDepth 100000 in
set_option linter.unusedSimpArgs false in
set_option linter.unusedVariables false in
set_option maxHeartbeats 4000000 in
theorem formed31_any (A B : Option Addr) (l r : List Pd) (n c k c2 : Nat) (hn : n = l.length) (hk : k = r.length) (hil : PdInts l) (hir : PdInts r) (w : World) (hA : PRd w w.heap.size A l) (hB : PRd w w.heap.size B r) :
    Calls Tryd.prog 56 #[.slice A n c, .slice B k c2] w (Ret (.bool (formB l && formB r)) w) := by
  by_cases h1 : n ≤ 24
  · by_cases h2 : k ≤ 24
    · have g1 : decide ((n : Int) ≤ (24 : Int)) = true := decide_eq_true (by omega)
      have g2 : decide ((k : Int) ≤ (24 : Int)) = true := decide_eq_true (by omega)
      have HF := Lib.hid (r31Formed_any A B l r n c k c2 hn hk (by omega) (by omega) hil hir w hA hB)
      obtain ⟨b, hb⟩ : ∃ b, b = (formB l && formB r) := ⟨_, rfl⟩
      rw [← hb] at HF ⊢
      clear hA hB hn hk hb
      go_enter Tryd.func56, Tryd.ntmps56
      go_wp2_with fail
      refine HF.out.mono ?_
      rintro e w1 ⟨rfl, hb1⟩
      go_wp2_with fail
      go_ret
      exact ⟨rfl, hb1⟩
    · have g1 : decide ((n : Int) ≤ (24 : Int)) = true := decide_eq_true (by omega)
      have g2 : decide ((k : Int) ≤ (24 : Int)) = false := decide_eq_false (by omega)
      have hr : formB r = false := formB_false.2 fun h => by have := h.length; omega
      rw [hr, Bool.and_false]
      clear hA hB hn hk
      go_enter Tryd.func56, Tryd.ntmps56
      go_wp2_with (refine wpList_skip (by rfl) ?_)
      go_ret
      exact ⟨rfl, Below.refl _ _⟩
  · have g1 : decide ((n : Int) ≤ (24 : Int)) = false := decide_eq_false (by omega)
    have hl : formB l = false := formB_false.2 fun h => by have := h.length; omega
    rw [hl, Bool.false_and]
    clear hA hB hn hk
    go_enter Tryd.func56, Tryd.ntmps56
    go_wp2_with (refine wpList_skip (by rfl) ?_)
    go_ret
    exact ⟨rfl, Below.refl _ _⟩
end Go.Proofs.YtibnikokgbfcdaaDoor

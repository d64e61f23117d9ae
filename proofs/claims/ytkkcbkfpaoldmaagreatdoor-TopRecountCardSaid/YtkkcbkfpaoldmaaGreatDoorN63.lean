/- Walk: margin57. -/
import Derived.Test.YtkkcbkfpaoldmaaGreatDoorM19
import Derived.Test.YtkkcbkfpaoldmaaGreatDoorM15
import Derived.Test.YtkkcbkfpaoldmaaGreatDoorDr
namespace Go.Proofs.YtkkcbkfpaoldmaaGreatDoor
open Go Go.RowKit Go.Shelf
attribute [local go_sem] Oper.semAt_some

/-- The least of what risk.Margin says of the first k entries but one. -/
structure MarOk (sf : Nat → Int) (first : Nat) (S : Int) (m k v : Nat) : Prop where
  few : v ≤ m + 1
  all : ∀ q, q < k → q ≠ first → ∃ u, MgOk (sf first - sf q + 1) S m u ∧ v ≤ u
  one : v = m + 1 ∨ ∃ q, q < k ∧ q ≠ first ∧ MgOk (sf first - sf q + 1) S m v
theorem MarOk.zero (sf : Nat → Int) (first : Nat) (S : Int) (m : Nat) : MarOk sf first S m 0 (m + 1) := ⟨Nat.le_refl _, fun q h => by omega, .inl rfl⟩
theorem MarOk.skip {sf : Nat → Int} {first : Nat} {S : Int} {m k v : Nat} (h : MarOk sf first S m k v) (hk : k = first) : MarOk sf first S m (k + 1) v :=
  ⟨h.few, fun q hq hne => h.all q (by omega) hne, h.one.imp id fun ⟨q, h1, h2, h3⟩ => ⟨q, by omega, h2, h3⟩⟩
theorem MarOk.step {sf : Nat → Int} {first : Nat} {S : Int} {m k v u : Nat} (h : MarOk sf first S m k v) (hk : k ≠ first) (hu : MgOk (sf first - sf k + 1) S m u) : MarOk sf first S m (k + 1) (min v u) := by
  refine ⟨by have := h.few; omega, fun q hq hne => ?_, ?_⟩
  · rcases Nat.lt_or_ge q k with h1 | h1
    · obtain ⟨u2, h2, h3⟩ := h.all q h1 hne
      exact ⟨u2, h2, by omega⟩
    · obtain rfl : q = k := by omega
      exact ⟨u, hu, by omega⟩
  · rcases Nat.lt_or_ge v u with h1 | h1
    · rw [Nat.min_eq_left (by omega)]
      exact h.one.imp id fun ⟨q, h1, h2, h3⟩ => ⟨q, by omega, h2, h3⟩
    · rw [Nat.min_eq_right h1]
      exact .inr ⟨k, by omega, hk, hu⟩
def MarPost (sf : Nat → Int) (first : Nat) (S : Int) (m n : Nat) (w : World) (e : Ending) (w' : World) : Prop :=
  ∃ v : Nat, e = .returned (.tuple #[.int .i64 v, .bool (decide (v ≤ m)), .bool true]) ∧ MarOk sf first S m n v ∧ Below w.heap.size w w'
theorem srd_of_own {w : World} {base g c m : Nat} {S : Int} (h : IOwn w base (.slice (some ⟨g, 0, none⟩) m c) (List.replicate m S)) : SRd w w.heap.size (some ⟨g, 0, none⟩) m S :=
  (h.rd (by simp)).congr fun k hk => by simp [List.getD_eq_getElem?_getD, hk]
set_option maxRecDepth 100000 in
set_option linter.unusedSimpArgs false in
set_option linter.unusedVariables false in
set_option maxHeartbeats 4000000 in
theorem margin57_ok (x : Crit) (hx : CrOk x.lo x.hi x.st x.ho x.tr) (A : Option Addr) (n c : Nat) (sf : Nat → Int) (first ju : Nat) (hn : n ≤ 5) (hf : first < n) (hj1 : 1 ≤ ju) (hj : ju ≤ 5) (hsr : ∀ k, k < n → 0 ≤ sf k ∧ sf k ≤ 5000) (hmx : ∀ k, k < n → sf k ≤ sf first)
    (w : World) (hR : Rd w w.heap.size A n (fun k => .int .i64 (sf k))) :
    Calls Tryz.prog 13 #[.agg x.c, .slice A n c, .int .i64 first, .int .i64 ju] w (MarPost sf first (x.hi - x.lo) (2 * ju) n w) := by
  obtain ⟨xs, lo, hi, st, ho, tr, rv⟩ := x
  simp only [Crit.c] at hx ⊢
  have k1 := hx.l0
  have k2 := hx.lh
  have k3 := hx.h1
  obtain ⟨S, hS⟩ : ∃ S, S = hi - lo := ⟨_, rfl⟩
  have hS1 : 1 ≤ S ∧ S ≤ 1048576 := by omega
  have hsub : hi - lo = S := hS.symm
  rw [hsub]
  obtain ⟨m, hm⟩ : ∃ m, m = 2 * ju := ⟨_, rfl⟩
  have hm2 : 2 * (ju : Int) = (m : Int) := by omega
  have hm3 : 2 * ju = m := hm.symm
  have hm1 : 1 ≤ m ∧ m ≤ 12 := by omega
  rw [← hm]
  have hws : wrap64 (hi - lo) = S := by rw [hsub]; exact wrap_in _ (by omega)
  have HR := Lib.hid hR
  have HSR := Lib.hid hsr
  have HMX := Lib.hid hmx
  clear hR hsr hmx hx hS hm hj1
  go_enter Tryz.func13, Tryz.ntmps13
  go_wp2_with fail
  go_loopw [11, 18] (fun v i wr => ∃ k : Nat, k ≤ m ∧ i = .int .i64 k ∧ IOwn wr (w.heap.size + 1) v (List.replicate k S) ∧ Blk wr w.heap.size 23 (critC xs lo hi st ho tr rv) ∧ Below w.heap.size w wr) (fun _ i _ => m - (intOf i).toNat)
  case atStart => exact ⟨0, Nat.zero_le _, rfl, IOwn.nil _ _, Blk.new _ _ _, (Below.refl _ w).alloc (Nat.le_refl _) _⟩
  case round =>
    obtain ⟨k, hk, rfl, hO, hC, hB⟩ := hrel
    have HO := Lib.hid hO
    have HC := Lib.hid hC
    have HB := Lib.hid hB
    have hsz := hB.size
    have hlt := hC.lt
    clear hO hC hB
    rcases Nat.lt_or_ge k m with h5 | h5
    · have g5 : decide ((k : Int) < (m : Int)) = true := decide_eq_true (by omega)
      have g5n : decide (k < m) = true := decide_eq_true h5
      have x1 : wr.cell? ⟨w.heap.size, 1, none⟩ = some (.int .i64 lo) := HC.out.cell 1
      have x2 : wr.cell? ⟨w.heap.size, 2, none⟩ = some (.int .i64 hi) := HC.out.cell 2
      have hO1 := HO.out.alloc (.cells #[.int .i64 S] 3)
      go_wp2_with (at_builtin; refine app_int rfl _ _ rfl (w.heap.size + 1) u11 _ rfl hO1 S (Blk.new _ _ _) rfl (by simp; omega) (by simp; omega) ?_; intro v2 w2 hown2 hg2)
      go_roundw
      case rel =>
        have hg := hg2.alloc_first
        refine ⟨k + 1, by omega, by go_num, by rw [List.replicate_succ']; exact hown2, HC.out.grown hg.1 (fun e => by have := (World.ownsRow.lt HO.out _ e.symm).1; omega), HB.out.trans (hg.below HB.out.size fun k hk => by have := (World.ownsRow.lt HO.out _ hk).1; omega)⟩
      case measure => simp [intOf]; omega
    · obtain rfl : k = m := by omega
      have g5 : decide ((k : Int) < (k : Int)) = false := decide_eq_false (by omega)
      obtain ⟨g, c2, rfl, hc2, hrow⟩ := HO.out.row (n := k) (by simp) (by omega)
      have HS := Lib.hid (show SRd wr wr.heap.size (some ⟨g, 0, none⟩) k S from srd_of_own (show IOwn wr (w.heap.size + 1) (.slice (some ⟨g, 0, none⟩) k c2) (List.replicate k S) from HO.out))
      clear hrow HO
      go_wp2_with fail
      obtain ⟨wo, hwo⟩ : ∃ x, x = wr := ⟨wr, rfl⟩
      subst hwo
      go_loopw [8, 34] (fun v i wr => ∃ q z : Nat, q ≤ n ∧ i = .int .i64 q ∧ v = .int .i64 z ∧ MarOk sf first S k q z ∧ Below wo.heap.size wo wr) (fun _ i _ => n - (intOf i).toNat)
      case atStart => exact ⟨0, k + 1, Nat.zero_le _, rfl, by first | rfl | go_num, MarOk.zero _ _ _ _, Below.refl _ _⟩
      case round =>
        obtain ⟨q, z, hq, rfl, rfl, hM, hB2⟩ := hrel
        have HM := Lib.hid hM
        have HB2 := Lib.hid hB2
        have hzf := hM.few
        clear hM hB2
        rcases Nat.lt_or_ge q n with h6 | h6
        · have g6 : decide ((q : Int) < (n : Int)) = true := decide_eq_true (by omega)
          have g6n : decide (q < n) = true := decide_eq_true h6
          have hBw : Below w.heap.size w wr := HB.out.trans (HB2.out.mono HB.out.size)
          obtain ⟨b, off, rfl, hbl, hcq⟩ := (HR.out.below hBw).at_ (k := q) h6
          obtain ⟨b', off', e', -, hcf⟩ := (HR.out.below hBw).at_ (k := first) hf
          simp only [Option.some.injEq, Addr.mk.injEq, and_true] at e'
          obtain ⟨rfl, rfl⟩ := e'
          have hq1 := HSR.out q h6
          have hq2 := HSR.out first hf
          have hq3 := HMX.out q h6
          obtain ⟨y, hy⟩ : ∃ y, y = sf q := ⟨_, rfl⟩
          obtain ⟨y0, hy0⟩ : ∃ y, y = sf first := ⟨_, rfl⟩
          rw [← hy] at hcq hq1 hq3
          rw [← hy0] at hcf hq2 hq3
          have HY := Lib.hid hy
          have HY0 := Lib.hid hy0
          clear hy hy0
          by_cases hqf : q = first
          · have g7 : ((q : Int) == (first : Int)) = true := beq_iff_eq.2 (by omega)
            have g7n : (q == first) = true := beq_iff_eq.2 hqf
            have HM2 := Lib.hid (HM.out.skip hqf)
            clear hqf
            go_wp2_with fail
            go_roundw
            case rel => exact ⟨q + 1, z, by omega, by go_num, rfl, HM2.out, HB2.out⟩
            case measure => simp [intOf]; omega
          · have g7 : ((q : Int) == (first : Int)) = false := beq_eq_false_iff_ne.2 (by omega)
            have g7n : (q == first) = false := beq_eq_false_iff_ne.2 hqf
            have g7p : ¬ q = first := hqf
            obtain ⟨gap, hgap⟩ : ∃ z9, z9 = y0 - y + 1 := ⟨_, rfl⟩
            have hg1 : wrap64 (y0 - y) = y0 - y := wrap_in _ (by omega)
            have hg2 : wrap64 (y0 - y + 1) = gap := by rw [hgap]; exact wrap_in _ (by omega)
            have hg3 : y0 - y + 1 = gap := hgap.symm
            have HMG := Lib.hid (margin_ok gap S ⟨by omega, by omega⟩ hS1 (some ⟨g, 0, none⟩) k c2 (by omega) (by omega) wr (Rd.more (Rd.below HS.out HB2.out) HB2.out.size))
            have HGAP := Lib.hid hgap
            have HQF := Lib.hid hqf
            clear hgap hqf
            go_wp2_with fail
            refine HMG.out.mono ?_
            rintro e w3 ⟨u, rfl, hu, hb3⟩
            obtain ⟨mn, hmn⟩ : ∃ mn, mn = min z u := ⟨_, rfl⟩
            have hmin : min (z : Int) (u : Int) = (mn : Int) := by omega
            have HM2 := Lib.hid (show MarOk sf first S k (q + 1) mn by
              rw [hmn]
              exact HM.out.step HQF.out (by rw [← HY.out, ← HY0.out, ← HGAP.out]; exact hu))
            have HB3 := Lib.hid (HB2.out.trans (hb3.mono HB2.out.size))
            clear hu hb3 hmn
            go_wp2_with fail
            go_roundw
            case rel => exact ⟨q + 1, mn, by omega, by go_num, by first | rfl | go_num, HM2.out, HB3.out⟩
            case measure => simp [intOf]; omega
        · have g6 : decide ((q : Int) < (n : Int)) = false := decide_eq_false (by omega)
          have g6n : decide (q < n) = false := decide_eq_false (by omega)
          have HM2 := Lib.hid (show MarOk sf first S k n z by have := HM.out; rw [show q = n by omega] at this; exact this)
          obtain ⟨ok, hok⟩ : ∃ ok, ok = decide (z ≤ k) := ⟨_, rfl⟩
          have g8 : decide ((z : Int) ≤ (k : Int)) = ok := by rw [hok]; exact decide_eq_decide.2 (by omega)
          have g8n : decide (z ≤ k) = ok := hok.symm
          have HOK := Lib.hid hok
          clear hok
          go_wp2_with fail
          go_ret3
          exact ⟨z, by rw [HOK.out]; try rfl, HM2.out, HB.out.trans (HB2.out.mono HB.out.size)⟩
end Go.Proofs.YtkkcbkfpaoldmaaGreatDoor
